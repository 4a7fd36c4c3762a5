/- fleuronlaw27.MetricFiles returns true for every metric, and the metric reads behind the call as it read before; conditions: none beside the given row's own. Part 7 of 9 of the proof. -/
import Derived.Test.YthfnijlgmjkedaaGreatJCFiles6
import Derived.Test.YthfnijlgmjkedaaGreatJCFiles2
import Derived.Test.YthfnijlgmjkedaaGreatJCFiles5
namespace Go.Proofs.YthfnijlgmjkedaaGreat
set_option maxRecDepth 100000
set_option maxHeartbeats 2000000
set_option linter.unusedVariables false
set_option linter.unusedSimpArgs false
open Go Go.Fx Go.Proofs.YthfnijlgmjkedaaGreat.Tab Go.RowKit
noncomputable def openRest2 : Code := match Go.Proofs.Tryz.f15.body with
  | some (.seq _ (.seq _ (.seq _ (.seq _ (.seq _ (.seq _ (.seq _ (.seq _ y)))))))) => y
  | _ => .skip
noncomputable def openErr : Code := match openRest2 with
  | .seq _ (.seq (.seq _ (.cond _ y _)) _) => y
  | _ => .skip
section
variable {w : World}
theorem packM_len {m : Me} (h : validM m = true) : (packM m).length ≤ 1000100 := by
  have hv := valid_parts h
  have h1 := tabsB_len m 3 (by omega)
  have h2 := flat_len_le (chBytes m) 7 (chBytes_len m) m.chars
  have h3 := flat_len_le ruBytes 7 (fun r => ruBytes_len r) m.rules
  simp only [packM, bodyM, headB, List.length_append]
  have e1 : magicB.length = 4 := rfl
  have e2 : ∀ x, (bytes4 x).length = 4 := fun _ => rfl
  have e3 : ∀ x, (bytes2 x).length = 2 := fun _ => rfl
  rw [e1, e2, e2, e3, e3]
  omega
theorem open_rest2 {p : Option Addr} {n c : Nat} {b : List Int} {g0 r rp gm gt : Nat} {size : Int} {vc : Value} {cs : List Ch} {v : Nat → Value} {T : Nat → List Int} {bs0 : List Int} {s0 : Bool} {ρ : Fr} {w1 : World} (hn : n = b.length) (hl : n ≤ 1000000) (hp : SlR w p (b.map bV))
    (hread : readM b = (⟨size, cs, (ruGo (nB (tkB 2 bs0)).toNat (rsB 2 bs0) (shB 2 bs0 s0) []).2.2⟩, (ruGo (nB (tkB 2 bs0)).toNat (rsB 2 bs0) (shB 2 bs0 s0) []).2.1)) (htb : byt bs0) (htl : bs0.length ≤ 1000000) (hcs : cs.length ≤ 65536)
    (hS : Sep w w1 (opL g0 r rp gm gt w.heap.size size bs0 s0 vc (.slice none 0 0) cs [] v v T))
    (q0 : ρ 0 = .slice p n c) (q2 : ρ 2 = .pointer (some ⟨g0, 0, none⟩)) (q4 : ρ 4 = .pointer (some ⟨rp, 0, none⟩)) (q5 : ρ 5 = .pointer (some ⟨gm, 0, none⟩)) (q6 : ρ 6 = .pointer (some ⟨gt, 0, none⟩)) :
    W Go.Proofs.Tryz.prog Go.Proofs.Tryz.f15.ntmps openRest2 (FinC Go.Proofs.Tryz.prog Go.Proofs.Tryz.f15 fun v w' => Ans w' v (readM b).1 (openE b) ∧ Ext w w') ρ w1 := by
  rw [u5 q0 q2 q4 q5 q6]
  unfold openRest2
  refine W_sk fun K hK => ?_
  have hbd := nB2_bd htb
  obtain ⟨cnt, hcnt⟩ := Int.eq_ofNat_of_zero_le hbd.1
  have hl2 := rsB_len 2 bs0
  have H : ∀ (ρ : Fr) w' bs s vr rs, ruGo cnt (rsB 2 bs0) (shB 2 bs0 s0) [] = (bs, s, rs) → rs.length ≤ 65536 → Sep w w' (opL g0 r rp gm gt w.heap.size size bs s vc vr cs rs v v T) → ρ 0 = .slice p n c → ρ 2 = .pointer (some ⟨g0, 0, none⟩) → ρ 4 = .pointer (some ⟨rp, 0, none⟩) → ρ 5 = .pointer (some ⟨gm, 0, none⟩) → K ρ w' := by
    intro ρ w2 bs s vr rs hru hrl hS q0 q2 q4 q5
    rw [u4 q0 q2 q4 q5]
    refine hK _ _ ?_
    have hrd : readM b = (⟨size, cs, rs⟩, s) := by rw [hread, hcnt, Int.toNat_natCast, hru]
    obtain ⟨m, hm⟩ : ∃ m : Me, m = ⟨size, cs, rs⟩ := ⟨_, rfl⟩
    obtain ⟨pc, pr, cc, cr, rfl, rfl, hsc, hsr⟩ := opL_me hS
    have hmr : ∀ w', Ext w2 w' → MeR w' m pc pr := fun w' h => by subst hm; exact ⟨Ext.sl h hsc, Ext.sl h hsr, by show cs.length ≤ _; omega, by show rs.length ≤ _; omega⟩
    have hrow : ∀ w', Ext w2 w' → Row w' ⟨gm, 0, none⟩ (meC m pc pr cc cr) := fun w' h => by subst hm; exact Ext.row h (hS.row 3 rfl)
    have err : ∀ w3 (Q : Post), (∀ ρ w3, FinC Go.Proofs.Tryz.prog Go.Proofs.Tryz.f15 (fun v w' => Ans w' v (readM b).1 (openE b) ∧ Ext w w') .ret ρ w3 → Q .ret ρ w3) → openE b = 30 → Ext w2 w3 → ∀ ρ : Fr, ρ 2 = .pointer (some ⟨g0, 0, none⟩) → W Go.Proofs.Tryz.prog Go.Proofs.Tryz.f15.ntmps openErr Q ρ w3 := by
      intro w3 Q hQ he hE ρ q2
      rw [u1 q2]
      unfold openErr
      have hS := hS.ext_ hE
      refine W_sr rfl (s_bld rfl (cells := (meC me0 none none 0 0).toArray) (by kernel_rfl) (s_stS hS 0 E (us := meC me0 none none 0 0) rfl rfl rfl rfl rfl rfl rfl rfl rfl rfl fun w4 hS => (s_as rfl (s_nil ?_))))
      exact W_ret (hQ _ _ ⟨_, resC2 E rfl rfl rfl (hS.row 0 rfl) rfl rfl, by rw [he]; exact ans_err (e := 30) (by decide), hS.ext⟩)
    have eE : openE b = if !s && (validM m && decide (packM m = b)) then 0 else 30 := by unfold openE; rw [hrd, ← hm]
    refine W_seq ?_
    cases hs : s
    case true =>
      subst hs
      refine W_sr rfl (s_ld E rfl rfl (hS.cell0 2 rfl rfl) (s_nc rfl (s_fa E rfl rfl (s_ld E rfl rfl (hS.rd 1 rfl).flag (s_mv rfl (s_g0 rfl (s_g0 rfl (s_g0 rfl (s_pk rfl (s_mv rfl (s_g0 rfl (s_g0 rfl (s_g0 rfl (s_g0 rfl (s_g0 rfl (s_pk rfl (s_nil ?_)))))))))))))))))
      refine W_if rfl (fun _ => ?_) (fun h => by cases h)
      refine err _ ?_ ?_ eE Mod.refl ?_ ?_
      · exact fun _ _ h => h
      · rfl
    subst hs
    cases hv : validM m
    · refine W_sr rfl (s_ld E rfl rfl (hS.cell0 2 rfl rfl) (s_nc rfl (s_fa E rfl rfl (s_ld E rfl rfl (hS.rd 1 rfl).flag (s_mv rfl (s_g1 rfl (s_lda (xs := meC m pc pr cc cr) E rfl rfl (hrow _ Mod.refl) rfl (s_g1 rfl (s_callx rfl rfl (Ret.eqv (metric_Valid_c (hmr _ Mod.refl)) (congrArg Value.bool hv)) fun w3 hE3 => (s_g1 rfl (s_not rfl (s_pk rfl (s_mv rfl (s_g0 rfl (s_g0 rfl (s_g0 rfl (s_g0 rfl (s_g0 rfl (s_pk rfl (s_nil ?_))))))))))))))))))))
      refine W_if rfl (fun _ => ?_) (fun h => by cases h)
      have e15 : openE b = 30 := by rw [eE, hv]; rfl
      refine err _ ?_ ?_ e15 hE3 ?_ ?_
      · exact fun _ _ h => h
      · rfl
    have hvp := valid_parts hv
    refine W_sr rfl (s_ld E rfl rfl (hS.cell0 2 rfl rfl) (s_nc rfl (s_fa E rfl rfl (s_ld E rfl rfl (hS.rd 1 rfl).flag (s_mv rfl (s_g1 rfl (s_lda (xs := meC m pc pr cc cr) E rfl rfl (hrow _ Mod.refl) rfl (s_g1 rfl (s_callx rfl rfl (Ret.eqv (metric_Valid_c (hmr _ Mod.refl)) (congrArg Value.bool hv)) fun w3 hE3 => (s_g1 rfl (s_not rfl (s_pk rfl (s_mv rfl (s_g1 rfl (s_lda (xs := meC m pc pr cc cr) E rfl rfl (hrow _ hE3) rfl (s_g1 rfl (s_call rfl rfl (metric_pack_c (hmr _ hE3) (by omega) (by omega)) ?_)))))))))))))))))
    rintro _ w4 ⟨⟨pp, pcc, rfl, hpl, hpp, _, _⟩, hE4⟩
    have hE24 := hE3.trans hE4
    have hpk : (packM m).length ≤ 1000100 := packM_len hv
    have hdec : decide (packM m = b) = decide (packM m = b) := rfl
    cases hq : decide (packM m = b)
    · refine (s_g1 rfl (s_mv rfl (s_g1 rfl (s_callx rfl rfl (Ret.eqv (slices_Equal_byte_c rfl hn (by omega) (by omega) hpp (Ext.sl (hS.ext.trans hE24) hp)) (congrArg Value.bool hq)) fun w5 hE5 => (s_g1 rfl (s_not rfl (s_pk rfl (s_nil ?_))))))))
      refine W_if rfl (fun _ => ?_) (fun h => by cases h)
      have e15 : openE b = 30 := by rw [eE, hv, hq]; rfl
      refine err _ ?_ ?_ e15 (hE24.trans hE5) ?_ ?_
      · exact fun _ _ h => h
      · rfl
    · refine (s_g1 rfl (s_mv rfl (s_g1 rfl (s_callx rfl rfl (Ret.eqv (slices_Equal_byte_c rfl hn (by omega) (by omega) hpp (Ext.sl (hS.ext.trans hE24) hp)) (congrArg Value.bool hq)) fun w5 hE5 => (s_g1 rfl (s_not rfl (s_pk rfl (s_nil ?_))))))))
      refine W_if rfl (fun h => by cases h) (fun _ => W_skip ?_)
      have e0 : openE b = 0 := by rw [eE, hv, hq]; rfl
      have hE25 := hE24.trans hE5
      have hS := hS.ext_ hE25
      refine W_sr rfl (s_lda (xs := meC m pc pr cc cr) E rfl rfl (hrow _ hE25) rfl (s_stS hS 0 E (us := meC m pc pr cc cr) rfl rfl rfl rfl rfl rfl rfl rfl rfl rfl fun w6 hS => (s_as rfl (s_nil ?_))))
      have hfin : MeR w6 m pc pr := by
        subst hm
        exact ⟨Own.slr (hS.own 8 rfl), Own.slr (hS.own 9 rfl), by show cs.length ≤ _; omega, by show rs.length ≤ _; omega⟩
      exact W_ret ⟨_, resC2 E rfl rfl rfl (hS.row 0 rfl) rfl rfl, by rw [e0, hrd]; exact ⟨pc, pr, cc, cr, by subst hm; rfl, by subst hm; exact hfin⟩, hS.ext⟩
  refine W_sr rfl (s_ld E rfl rfl (hS.cell0 2 rfl rfl) (s_rd hS 1 rfl rfl rfl (metric_Two_c (hS.rd 1 rfl) (by omega) htb) fun w2 hS => (s_mv rfl (s_nil ?_))))
  refine W_block ?_
  refine W_loop (fun m ρ w' => ∃ ρ' j bs s acc vr, ρ = upd (upd (upd (upd (upd (upd (upd ρ' 0 (.slice p n c)) 2 (.pointer (some ⟨g0, 0, none⟩))) 4 (.pointer (some ⟨rp, 0, none⟩))) 5 (.pointer (some ⟨gm, 0, none⟩))) 6 (.pointer (some ⟨gt, 0, none⟩))) 70 (iV (cnt : Nat))) 71 (iV (j : Nat)) ∧ j ≤ cnt ∧ m = cnt - j ∧
      byt bs ∧ bs.length ≤ 1000000 ∧ acc.length ≤ j ∧ ruGo (cnt - j) bs s acc = ruGo cnt (rsB 2 bs0) (shB 2 bs0 s0) [] ∧ Sep w w' (opL g0 r rp gm gt w.heap.size size bs s vc vr cs acc v v T)) cnt
    ⟨_, 0, rsB 2 bs0, shB 2 bs0 s0, [], .slice none 0 0, u7 rfl rfl rfl rfl rfl (congrArg iV hcnt) rfl, by omega, rfl, rsB_byt htb, by omega, by simp, rfl, hS⟩ ?_
  clear hS
  rintro m _ w3 ⟨ρ, j, bs, s, acc, vr, rfl, hj, rfl, hbs, hbl, hacc, hgo, hS⟩
  refine W_sr rfl (s_lss rfl rfl (s_nil ?_))
  refine W_seq ?_
  refine W_if rfl (fun hd => W_skip ?_) (fun hd => W_exit ?_)
  · have hd := of_decide_eq_true hd
    refine W_seq ?_
    refine W_block ?_
    refine W_seq ?_
    refine W_sr rfl (s_ld E rfl rfl (hS.cell0 2 rfl rfl) (s_nc rfl (s_fa E rfl rfl (s_ld E rfl rfl (hS.rd 1 rfl).flag (s_nil ?_)))))
    refine W_if rfl (fun he => W_exit ?_) (fun he => W_skip ?_)
    · subst he
      refine H _ _ bs true vr acc ?_ (by omega) hS rfl rfl rfl rfl
      obtain ⟨k, hk⟩ : ∃ k, cnt - j = k + 1 := ⟨cnt - j - 1, by omega⟩
      rw [← hgo, hk]; rfl
    · subst he
      obtain ⟨b1, hb1e⟩ : ∃ x, x = rsB 1 bs := ⟨_, rfl⟩
      obtain ⟨b2, hb2e⟩ : ∃ x, x = rsB 1 b1 := ⟨_, rfl⟩
      obtain ⟨b3, hb3e⟩ : ∃ x, x = rsB 1 b2 := ⟨_, rfl⟩
      obtain ⟨b4, hb4e⟩ : ∃ x, x = rsB 4 b3 := ⟨_, rfl⟩
      have hb1 : byt b1 := by rw [hb1e]; exact rsB_byt hbs
      have hb2 : byt b2 := by rw [hb2e]; exact rsB_byt hb1
      have hb3 : byt b3 := by rw [hb3e]; exact rsB_byt hb2
      have hb4 : byt b4 := by rw [hb4e]; exact rsB_byt hb3
      have l1 := rsB_len 1 bs
      have l2 := rsB_len 1 b1
      have hl1 : (rsB 1 bs).length ≤ 1000000 := by omega
      have l3 := rsB_len 1 b2
      have l4 := rsB_len 4 b3
      rw [← hb1e] at l1; rw [← hb2e] at l2; rw [← hb3e] at l3; rw [← hb4e] at l4
      refine W_sk fun K2 hK2 => ?_
      have H2 : ∀ (ρ : Fr) w' gx, Sep w w' (opL g0 r rp gm gt w.heap.size size b2 (shB 1 b1 (shB 1 bs false)) vc vr cs acc v v T ++ [cl gx [iV (nB (tkB 1 bs)), iV (nB (tkB 1 b1)), iV 0, iV 0] 45]) → ρ 0 = .slice p n c → ρ 2 = .pointer (some ⟨g0, 0, none⟩) → ρ 4 = .pointer (some ⟨rp, 0, none⟩) → ρ 5 = .pointer (some ⟨gm, 0, none⟩) → ρ 6 = .pointer (some ⟨gt, 0, none⟩) → ρ 10 = .pointer (some ⟨gx, 0, none⟩) → ρ 70 = iV cnt → ρ 71 = iV j → K2 ρ w' := by
        intro ρ w4 gx hS q0 q2 q4 q5 q6 q10 q70 q71
        rw [u8 q0 q2 q4 q5 q6 q10 q70 q71]
        refine hK2 _ _ ?_
        refine W_sr rfl (s_ld E rfl rfl (hS.cell0 2 rfl rfl) (s_rd hS 1 rfl rfl rfl (metric_One_c (hS.rd 1 rfl) (by omega) hb2) fun w5 hS => (s_fa E rfl rfl (s_st1S hS 10 E rfl rfl rfl (ad0 gx 2) rfl rfl (show 2 < 4 by decide) rfl fun w6 hS => (s_nil ?_)))))
        rw [← hb3e] at hS
        refine W_sr rfl (s_ld E rfl rfl (hS.cell0 2 rfl rfl) (s_rd hS 1 rfl rfl rfl (metric_Four_c (hS.rd 1 rfl) (by omega) hb3) fun w7 hS => (s_fa E rfl rfl (s_st1S hS 10 E rfl rfl rfl (ad0 gx 3) rfl rfl (show 3 < 4 by decide) rfl fun w8 hS => (s_nil ?_)))))
        rw [← hb4e] at hS
        obtain ⟨x, hx⟩ : ∃ x : Ru, x = ⟨nB (tkB 1 bs), nB (tkB 1 b1), nB (tkB 1 b2), rd4 b3⟩ := ⟨_, rfl⟩
        have hS : Sep w w8 (opL g0 r rp gm gt w.heap.size size b4 (shB 4 b3 (shB 1 b2 (shB 1 b1 (shB 1 bs false)))) vc vr cs acc v v T ++ [cl gx (ruC x) 45]) := by subst hx; exact hS
        refine W_n8 0 2 4 5 6 10 70 71 (.slice p n c) (.pointer (some ⟨g0, 0, none⟩)) (.pointer (some ⟨rp, 0, none⟩)) (.pointer (some ⟨gm, 0, none⟩)) (.pointer (some ⟨gt, 0, none⟩)) (.pointer (some ⟨gx, 0, none⟩)) (iV cnt) (iV j) rfl rfl rfl rfl rfl rfl rfl rfl fun ρ => ?_
        refine W_reg rfl (s_fa E rfl rfl (s_ld E rfl rfl (hS.cell 3 rfl rfl) (s_lda (xs := ruC x) E rfl rfl (hS.row 10 rfl) rfl (s_bsA E rfl rfl rfl rfl rfl (cells := (ruC x).toArray) (by kernel_rfl) fun w13 hE13 hh13 hs13 => have hS := hS.ext_ hE13; (s_apS hS 9 E rfl rfl rfl rfl rfl rfl rfl (row_heap hh13) rfl rfl (by omega) fun v14 w14 hS => have ho := (hS.own 9 rfl).one; (s_fa E rfl rfl (s_st1S hS 3 E rfl rfl rfl (ad0 gm 2) rfl ho (show 2 < 3 by decide) rfl fun w15 hS => (s_nil ?_))))))))
        have hS : Sep w w15 (opL g0 r rp gm gt w.heap.size size b4 (shB 4 b3 (shB 1 b2 (shB 1 b1 (shB 1 bs false)))) vc v14 cs (acc ++ [x]) v v T) := by
          have := hS.take 10
          unfold opL
          rw [List.length_append, List.flatMap_append]
          exact this
        refine W_reg rfl (s_add rfl rfl (by omega) (s_mv rfl (s_nil ?_)))
        refine ⟨cnt - (j + 1), by omega, _, j + 1, b4, _, acc ++ [x], v14, u7 rfl rfl rfl rfl rfl rfl rfl, by omega, rfl, hb4, by omega, by rw [List.length_append]; simp; omega, ?_, hS⟩
        rw [← hgo, show cnt - j = cnt - (j + 1) + 1 by omega]
        subst hx
        simp only [ruGo, ruP, ← hb1e, ← hb2e, ← hb3e, ← hb4e, Bool.false_eq_true, if_false]
      have hS := hS.drew
      refine W_d (fun w' => w'.cell? ⟨rp, 0, none⟩ = some (.pointer (some ⟨r, 0, none⟩))) [] orders (D_take 0 rfl rfl (by kernel_rfl) rfl (fun _ hs => r_ld E rfl rfl hs) (hS.cell0 2 rfl rfl) (D_take 2 rfl rfl (by kernel_rfl) rfl (fun _ hs => r_ld E rfl rfl hs) (hS.cell0 2 rfl rfl) (D_two 1 5 rfl (by kernel_rfl) rfl rfl (s_rd hS 1 rfl rfl rfl (metric_One_c (hS.rd 1 rfl) hbl hbs) fun w4 hS => have hS : Sep _ _ _ := hS; (s_nil ⟨(hS.cell0 2 rfl rfl), (D_two 3 5 rfl (by kernel_rfl) rfl rfl (s_rd hS 1 rfl rfl rfl (metric_One_c (hS.rd 1 rfl) hl1 (hb1e ▸ hb1)) fun w5 hS => (s_nil ⟨(hS.cell0 2 rfl rfl), (D_pure 4 rfl rfl (by kernel_rfl) rfl (fun _ => r_bld rfl (cells := #[iV (nB (tkB 1 bs)), iV (nB (tkB 1 (rsB 1 bs))), iV 0, iV 0]) (by kernel_rfl)) (fun _ => (hS.cell0 2 rfl rfl)) (D_one 5 rfl (by kernel_rfl) rfl (s_alS hS E rfl rfl fun w6 gx hS => (s_nil ⟨(hS.cell0 2 rfl rfl), (D_one 6 rfl (by kernel_rfl) rfl (s_stS hS 10 E (us := [iV (nB (tkB 1 bs)), iV (nB (tkB 1 (rsB 1 bs))), iV 0, iV 0]) rfl rfl rfl rfl rfl rfl rfl rfl rfl rfl fun w7 hS => (s_nil ⟨(hS.cell0 2 rfl rfl), (D_done (by kernel_rfl) ?_)⟩)))⟩))))⟩)) (s_alS hS E rfl rfl fun w6 gx hS => (s_nil ⟨(hS.cell0 2 rfl rfl), (D_one 3 rfl (by kernel_rfl) rfl (s_rd hS 1 rfl rfl rfl (metric_One_c (hS.rd 1 rfl) hl1 (hb1e ▸ hb1)) fun w5 hS => (s_nil ⟨(hS.cell0 2 rfl rfl), (D_pure 4 rfl rfl (by kernel_rfl) rfl (fun _ => r_bld rfl (cells := #[iV (nB (tkB 1 bs)), iV (nB (tkB 1 (rsB 1 bs))), iV 0, iV 0]) (by kernel_rfl)) (fun _ => (hS.cell0 2 rfl rfl)) (D_one 6 rfl (by kernel_rfl) rfl (s_stS hS 10 E (us := [iV (nB (tkB 1 bs)), iV (nB (tkB 1 (rsB 1 bs))), iV 0, iV 0]) rfl rfl rfl rfl rfl rfl rfl rfl rfl rfl fun w7 hS => (s_nil ⟨(hS.cell0 2 rfl rfl), (D_done (by kernel_rfl) ?_)⟩))))⟩)))⟩)))⟩)) (s_alS hS E rfl rfl fun w6 gx hS => (s_nil ⟨(hS.cell0 2 rfl rfl), (D_one 1 rfl (by kernel_rfl) rfl (s_rd hS 1 rfl rfl rfl (metric_One_c (hS.rd 1 rfl) hbl hbs) fun w4 hS => have hS : Sep _ _ _ := hS; (s_nil ⟨(hS.cell0 2 rfl rfl), (D_one 3 rfl (by kernel_rfl) rfl (s_rd hS 1 rfl rfl rfl (metric_One_c (hS.rd 1 rfl) hl1 (hb1e ▸ hb1)) fun w5 hS => (s_nil ⟨(hS.cell0 2 rfl rfl), (D_pure 4 rfl rfl (by kernel_rfl) rfl (fun _ => r_bld rfl (cells := #[iV (nB (tkB 1 bs)), iV (nB (tkB 1 (rsB 1 bs))), iV 0, iV 0]) (by kernel_rfl)) (fun _ => (hS.cell0 2 rfl rfl)) (D_one 6 rfl (by kernel_rfl) rfl (s_stS hS 10 E (us := [iV (nB (tkB 1 bs)), iV (nB (tkB 1 (rsB 1 bs))), iV 0, iV 0]) rfl rfl rfl rfl rfl rfl rfl rfl rfl rfl fun w7 hS => (s_nil ⟨(hS.cell0 2 rfl rfl), (D_done (by kernel_rfl) ?_)⟩))))⟩)))⟩)))⟩)))))
      all_goals
        rw [← hb1e, ← hb2e] at hS
        exact H2 _ _ _ hS rfl rfl rfl rfl rfl rfl rfl rfl
  · have hd := of_decide_eq_false hd
    refine H _ _ bs s vr acc ?_ (by omega) hS rfl rfl rfl rfl
    rw [← hgo, show cnt - j = 0 by omega]; rfl
end
end Go.Proofs.YthfnijlgmjkedaaGreat
namespace Go.Proofs.YthfnijlgmjkedaaGreat
set_option maxRecDepth 100000
set_option maxHeartbeats 2000000
set_option linter.unusedVariables false
set_option linter.unusedSimpArgs false
open Go Go.Fx Go.Proofs.YthfnijlgmjkedaaGreat.Tab Go.RowKit
noncomputable def openRest : Code := match Go.Proofs.Tryz.f15.body with
  | some (.seq _ (.seq _ (.seq _ (.seq _ (.seq _ (.seq _ y)))))) => y
  | _ => .skip
section
variable {w : World}
theorem open_rest {p : Option Addr} {n c : Nat} {b : List Int} {g0 r rp gm gt : Nat} {v : Nat → Value} {h t : Int × List Int × Bool} {T : Nat → List Int} {ρ : Fr} {w1 : World} (hn : n = b.length) (hl : n ≤ 1000000) (hp : SlR w p (b.map bV))
    (ht : tabsP 3 h.2.1 h.2.2 = (t.2.1, t.2.2, T)) (hh : h = headP b) (htb : byt t.2.1) (htl : t.2.1.length ≤ 1000000) (hS : Sep w w1 (opL g0 r rp gm gt w.heap.size h.1 t.2.1 t.2.2 (.slice none 0 0) (.slice none 0 0) [] [] v v T))
    (q0 : ρ 0 = .slice p n c) (q2 : ρ 2 = .pointer (some ⟨g0, 0, none⟩)) (q4 : ρ 4 = .pointer (some ⟨rp, 0, none⟩)) (q5 : ρ 5 = .pointer (some ⟨gm, 0, none⟩)) (q6 : ρ 6 = .pointer (some ⟨gt, 0, none⟩)) :
    W Go.Proofs.Tryz.prog Go.Proofs.Tryz.f15.ntmps openRest (FinC Go.Proofs.Tryz.prog Go.Proofs.Tryz.f15 fun v w' => Ans w' v (readM b).1 (openE b) ∧ Ext w w') ρ w1 := by
  obtain ⟨bs0, hbs0⟩ : ∃ x, x = t.2.1 := ⟨_, rfl⟩
  obtain ⟨s0, hs0⟩ : ∃ x, x = t.2.2 := ⟨_, rfl⟩
  rw [← hbs0] at htb htl
  rw [← hbs0, ← hs0] at ht hS
  have hread : readM b = (let c := chGo T (nB (tkB 2 bs0)).toNat (rsB 2 bs0) (shB 2 bs0 s0) []
      let r := ruGo (nB (tkB 2 c.1)).toNat (rsB 2 c.1) (shB 2 c.1 c.2.1) []
      (⟨h.1, c.2.2, r.2.2⟩, r.2.1)) := by
    unfold readM
    rw [← hh]
    simp only [ht]
  rw [u5 q0 q2 q4 q5 q6]
  unfold openRest
  refine W_sr rfl (s_mf (vs := []) (us := [.pointer (some ⟨rp, 0, none⟩), .pointer (some ⟨gt, 0, none⟩)]) rfl rfl (s_as rfl (s_nil ?_)))
  refine W_n6 0 2 4 5 6 8 (.slice p n c) (.pointer (some ⟨g0, 0, none⟩)) (.pointer (some ⟨rp, 0, none⟩)) (.pointer (some ⟨gm, 0, none⟩)) (.pointer (some ⟨gt, 0, none⟩)) (.func (.func 44) #[] #[.pointer (some ⟨rp, 0, none⟩), .pointer (some ⟨gt, 0, none⟩)]) rfl rfl rfl rfl rfl rfl fun ρ => ?_
  refine W_sk fun K hK => ?_
  have hbd := nB2_bd htb
  obtain ⟨cnt, hcnt⟩ := Int.eq_ofNat_of_zero_le hbd.1
  have hl2 := rsB_len 2 bs0
  have H : ∀ (ρ : Fr) w' bs s vc cs, chGo T cnt (rsB 2 bs0) (shB 2 bs0 s0) [] = (bs, s, cs) → byt bs → bs.length ≤ 1000000 → cs.length ≤ 65536 → Sep w w' (opL g0 r rp gm gt w.heap.size h.1 bs s vc (.slice none 0 0) cs [] v v T) → ρ 0 = .slice p n c → ρ 2 = .pointer (some ⟨g0, 0, none⟩) → ρ 4 = .pointer (some ⟨rp, 0, none⟩) → ρ 5 = .pointer (some ⟨gm, 0, none⟩) → ρ 6 = .pointer (some ⟨gt, 0, none⟩) → K ρ w' := by
    intro ρ w' bs s vc cs hch hbs hbl hcl hS q0 q2 q4 q5 q6
    refine hK _ _ (open_rest2 hn hl hp ?_ hbs hbl hcl hS q0 q2 q4 q5 q6)
    rw [hread, hcnt, Int.toNat_natCast]
    simp only [hch]
  refine W_sr rfl (s_ld E rfl rfl (hS.cell0 2 rfl rfl) (s_rd hS 1 rfl rfl rfl (metric_Two_c (hS.rd 1 rfl) (by omega) htb) fun w2 hS => (s_mv rfl (s_nil ?_))))
  refine W_block ?_
  refine W_loop (fun m ρ w' => ∃ ρ' j bs s acc vc, ρ = upd (upd (upd (upd (upd (upd (upd (upd ρ' 0 (.slice p n c)) 2 (.pointer (some ⟨g0, 0, none⟩))) 4 (.pointer (some ⟨rp, 0, none⟩))) 5 (.pointer (some ⟨gm, 0, none⟩))) 6 (.pointer (some ⟨gt, 0, none⟩))) 8 (.func (.func 44) #[] #[.pointer (some ⟨rp, 0, none⟩), .pointer (some ⟨gt, 0, none⟩)])) 43 (iV (cnt : Nat))) 44 (iV (j : Nat)) ∧ j ≤ cnt ∧ m = cnt - j ∧
      byt bs ∧ bs.length ≤ 1000000 ∧ acc.length ≤ j ∧ chGo T (cnt - j) bs s acc = chGo T cnt (rsB 2 bs0) (shB 2 bs0 s0) [] ∧ Sep w w' (opL g0 r rp gm gt w.heap.size h.1 bs s vc (.slice none 0 0) acc [] v v T)) cnt
    ⟨_, 0, rsB 2 bs0, shB 2 bs0 s0, [], .slice none 0 0, u8 rfl rfl rfl rfl rfl rfl (congrArg iV hcnt) rfl, by omega, rfl, rsB_byt htb, by omega, by simp, rfl, hS⟩ ?_
  clear hS
  rintro m _ w3 ⟨ρ, j, bs, s, acc, vc, rfl, hj, rfl, hbs, hbl, hacc, hgo, hS⟩
  refine W_sr rfl (s_lss rfl rfl (s_nil ?_))
  refine W_seq ?_
  refine W_if rfl (fun hd => W_skip ?_) (fun hd => W_exit ?_)
  · have hd := of_decide_eq_true hd
    refine W_seq ?_
    refine W_block ?_
    refine W_seq ?_
    refine W_sr rfl (s_ld E rfl rfl (hS.cell0 2 rfl rfl) (s_nc rfl (s_fa E rfl rfl (s_ld E rfl rfl (hS.rd 1 rfl).flag (s_nil ?_)))))
    refine W_if rfl (fun he => W_exit ?_) (fun he => W_skip ?_)
    · subst he
      refine H _ _ bs true vc acc ?_ hbs hbl (by omega) hS rfl rfl rfl rfl rfl
      obtain ⟨k, hk⟩ : ∃ k, cnt - j = k + 1 := ⟨cnt - j - 1, by omega⟩
      rw [← hgo, hk]; rfl
    · subst he
      obtain ⟨x, hx⟩ : ∃ x, chP T bs false = x := ⟨_, rfl⟩
      have hxok := chP_ok (T := T) (s := false) hbs
      have hl1 := rsB_len 1 bs
      have hb1 : byt (rsB 1 bs) := rsB_byt hbs
      obtain ⟨A, hA⟩ : ∃ A, A = atP (T 0) (rsB 1 bs) (shB 1 bs false) := ⟨_, rfl⟩
      obtain ⟨B, hB⟩ : ∃ B, B = atP (T 1) A.2.1 A.2.2 := ⟨_, rfl⟩
      obtain ⟨D, hD⟩ : ∃ D, D = atP (T 2) B.2.1 B.2.2 := ⟨_, rfl⟩
      have okA := atP_ok (t := T 0) (s := shB 1 bs false) hb1
      rw [← hA] at okA
      have okB := atP_ok (t := T 1) (s := A.2.2) okA.1
      rw [← hB] at okB
      have okD := atP_ok (t := T 2) (s := B.2.2) okB.1
      rw [← hD] at okD
      have hxe : chP T bs false = (⟨nB (tkB 1 bs), A.1, B.1, D.1⟩, D.2.1, D.2.2) := by unfold chP; rw [hD, hB, hA]
      refine W_sr rfl (s_ld E rfl rfl (hS.cell0 2 rfl rfl) (s_rd hS 1 rfl rfl rfl (metric_One_c (hS.rd 1 rfl) hbl hbs) fun w4 hS => (s_bld rfl (cells := #[iV (nB (tkB 1 bs)), iV 0, iV 0, iV 0]) (by kernel_rfl) (s_alS hS E rfl rfl fun w5 gc hS => (s_stS hS 10 E (us := [iV (nB (tkB 1 bs)), iV 0, iV 0, iV 0]) rfl rfl rfl rfl rfl rfl rfl rfl rfl rfl fun w6 hS => (s_nil ?_))))))
      have e0 := metric_Open_1_c (j := 0) (hS.cell0 2 rfl rfl) (hS.rd 1 rfl) (by omega) hb1 (by decide) (hS.cell 4 rfl rfl) (hS.own 5 rfl) (hS.ne 4 1 rfl rfl (by decide) (k := gt) rfl) (fun h => hS.ne 5 1 rfl rfl (by decide) (k := r) h rfl)
      rw [← hA] at e0
      refine W_sr rfl (s_mv rfl (s_rd hS 1 rfl rfl rfl e0 fun w7 hS => ?_))
      have e1 := metric_Open_1_c (j := 1) (hS.cell0 2 rfl rfl) (hS.rd 1 rfl) (by omega) okA.1 (by decide) (hS.cell 4 rfl rfl) (hS.own 6 rfl) (hS.ne 4 1 rfl rfl (by decide) (k := gt) rfl) (fun h => hS.ne 6 1 rfl rfl (by decide) (k := r) h rfl)
      rw [← hB] at e1
      refine (s_mv rfl (s_rd hS 1 rfl rfl rfl e1 fun w8 hS => ?_))
      have e2 := metric_Open_1_c (j := 2) (hS.cell0 2 rfl rfl) (hS.rd 1 rfl) (by omega) okB.1 (by decide) (hS.cell 4 rfl rfl) (hS.own 7 rfl) (hS.ne 4 1 rfl rfl (by decide) (k := gt) rfl) (fun h => hS.ne 7 1 rfl rfl (by decide) (k := r) h rfl)
      rw [← hD] at e2
      refine (s_mv rfl (s_rd hS 1 rfl rfl rfl e2 fun w9 hS => (s_fa E rfl rfl (s_st1S hS 10 E rfl rfl rfl (ad0 gc 1) rfl rfl (show 1 < 4 by decide) rfl fun w10 hS => (s_fa E rfl rfl (s_st1S hS 10 E rfl rfl rfl (ad0 gc 2) rfl rfl (show 2 < 4 by decide) rfl fun w11 hS => (s_fa E rfl rfl (s_st1S hS 10 E rfl rfl rfl (ad0 gc 3) rfl rfl (show 3 < 4 by decide) rfl fun w12 hS => (s_nil ?_)))))))))
      have hS : Sep w w12 (opL g0 r rp gm gt w.heap.size h.1 D.2.1 D.2.2 vc (.slice none 0 0) acc [] v v T ++ [cl gc (chC ⟨nB (tkB 1 bs), A.1, B.1, D.1⟩) 50]) := hS
      obtain ⟨ch, hch⟩ : ∃ x : Ch, x = ⟨nB (tkB 1 bs), A.1, B.1, D.1⟩ := ⟨_, rfl⟩
      rw [← hch] at hS
      refine W_n9 0 2 4 5 6 8 9 43 44 (.slice p n c) (.pointer (some ⟨g0, 0, none⟩)) (.pointer (some ⟨rp, 0, none⟩)) (.pointer (some ⟨gm, 0, none⟩)) (.pointer (some ⟨gt, 0, none⟩)) (.func (.func 44) #[] #[.pointer (some ⟨rp, 0, none⟩), .pointer (some ⟨gt, 0, none⟩)]) (.pointer (some ⟨gc, 0, none⟩)) (iV cnt) (iV j) rfl rfl rfl rfl rfl rfl rfl rfl rfl fun ρ => ?_
      refine W_reg rfl (s_fa E rfl rfl (s_ld E rfl rfl (hS.cell 3 rfl rfl) (s_lda (xs := chC ch) E rfl rfl (hS.row 10 rfl) rfl (s_bsA E rfl rfl rfl rfl rfl (cells := (chC ch).toArray) (by kernel_rfl) fun w13 hE13 hh13 hs13 => have hS := hS.ext_ hE13; (s_apS hS 8 E rfl rfl rfl rfl rfl rfl rfl (row_heap hh13) rfl rfl (by omega) fun v14 w14 hS => have ho := (hS.own 8 rfl).one; (s_fa E rfl rfl (s_st1S hS 3 E rfl rfl rfl (ad0 gm 1) rfl ho (show 1 < 3 by decide) rfl fun w15 hS => (s_nil ?_))))))))
      have hS : Sep w w15 (opL g0 r rp gm gt w.heap.size h.1 D.2.1 D.2.2 v14 (.slice none 0 0) (acc ++ [ch]) [] v v T) := by
        have := hS.take 10
        unfold opL
        rw [List.length_append, List.flatMap_append]
        exact this
      refine W_reg rfl (s_add rfl rfl (by omega) (s_mv rfl (s_nil ?_)))
      refine ⟨cnt - (j + 1), by omega, _, j + 1, D.2.1, D.2.2, acc ++ [ch], v14, u8 rfl rfl rfl rfl rfl rfl rfl rfl, by omega, rfl, okD.1, by have := okD.2; have := okB.2; have := okA.2; omega, by rw [List.length_append]; simp; omega, ?_, hS⟩
      rw [← hgo, show cnt - j = cnt - (j + 1) + 1 by omega]
      simp only [chGo, hxe, ← hch, Bool.false_eq_true, if_false]
  · have hd := of_decide_eq_false hd
    refine H _ _ bs s vc acc ?_ hbs hbl (by omega) hS rfl rfl rfl rfl rfl
    rw [← hgo, show cnt - j = 0 by omega]; rfl
end
end Go.Proofs.YthfnijlgmjkedaaGreat
namespace Go.Proofs.YthfnijlgmjkedaaGreat
set_option maxRecDepth 100000
set_option maxHeartbeats 2000000
set_option linter.unusedVariables false
set_option linter.unusedSimpArgs false
open Go Go.Fx Go.Proofs.YthfnijlgmjkedaaGreat.Tab Go.RowKit
section
variable {w : World}
theorem metric_Open_c {p : Option Addr} {n c : Nat} {b : List Int} (hn : n = b.length) (hl : n ≤ 1000000) (hb : byt b) (hc : n ≤ c) (hp : SlR w p (b.map bV)) :
    Ret Go.Proofs.Tryz.prog 15 #[.slice p n c] w fun v w' => Ans w' v (readM b).1 (openE b) ∧ Ext w w' := by
  refine enterC Go.Proofs.Tryz.func15 rfl rfl rfl ?_
  have hS := Sep.start (w := w)
  refine W_sr rfl (s_alS hS E rfl rfl fun w1 g0 hS => (s_as rfl (s_nil ?_)))
  refine W_sr rfl (s_mv rfl (s_bld rfl (cells := #[.slice p n c, .bool false]) (by kernel_rfl) (s_bxS hS rfl rfl fun w2 r hS => (s_alS hS E rfl rfl fun w3 rp hS => (s_stS hS 2 E rfl rfl rfl rfl rfl rfl rfl rfl rfl rfl fun w4 hS => (s_nil ?_))))))
  have hR : RdR w4 w.heap.size r b false := ⟨⟨p, c, _, by subst hn; exact hS.heap 1 rfl, Ext.sl hS.ext hp, by omega, sl_below hp⟩, (hS.getL 1 rfl (k := r) rfl).1⟩
  have hS := hS.upd 1 rfl Mod.refl (rdk w.heap.size r b false) hR (fun k hk => .inl hk) (Nat.le_refl _)
  clear hR
  have hl4 := rsB_len 4 b
  have hl44 := rsB_len 4 (rsB 4 b)
  have hb4 : byt (rsB 4 b) := rsB_byt hb
  refine W_sr rfl (s_ld E rfl rfl (hS.cell0 2 rfl rfl) (s_rdv hS 1 rfl rfl rfl (metric_take_c (k := 4) (by decide) (hS.rd 1 rfl) (by omega)) fun v5 w5 hX hS => (s_nil ?_)))
  clear hX
  refine W_sr rfl (s_ld E rfl rfl (hS.cell0 2 rfl rfl) (s_rd hS 1 rfl rfl rfl (metric_Four_c (hS.rd 1 rfl) (by omega) hb4) fun w6 hS => (s_bld rfl (cells := #[iV (headP b).1, .slice none 0 0, .slice none 0 0]) (by kernel_rfl) (s_alS hS E rfl rfl fun w7 gm hS => (s_stS hS 3 E rfl rfl rfl rfl rfl rfl rfl rfl rfl rfl fun w8 hS => (s_nil ?_))))))
  refine W_sr rfl (s_alS hS E rfl rfl fun w9 gt hS => (s_nil ?_))
  have hS := ((((hS.nil 3 1).nil 3 1).nil 3 1).nil 50 4).nil 45 4
  obtain ⟨h, hh⟩ : ∃ h, h = headP b := ⟨_, rfl⟩
  have hhb : byt h.2.1 := by rw [hh]; exact rsB_byt hb4
  have hhl : h.2.1.length ≤ 1000000 := by rw [hh]; show (rsB 4 (rsB 4 b)).length ≤ _; omega
  have hS : Sep w w9 (opL g0 r rp gm gt w.heap.size h.1 h.2.1 h.2.2 (.slice none 0 0) (.slice none 0 0) [] [] (fun _ => .slice none 0 0) (fun _ => .slice none 0 0) (tabsP 0 h.2.1 h.2.2).2.2) := by subst hh; exact hS
  have hX := fun i => tabsP_ok (s := h.2.2) hhb i
  refine W_n5 0 2 4 5 6 (.slice p n c) (.pointer (some ⟨g0, 0, none⟩)) (.pointer (some ⟨rp, 0, none⟩)) (.pointer (some ⟨gm, 0, none⟩)) (.pointer (some ⟨gt, 0, none⟩)) rfl rfl rfl rfl rfl fun ρ => ?_
  refine W_sk fun K hK => ?_
  have H : ∀ (ρ : Fr) w' v, Sep w w' (opL g0 r rp gm gt w.heap.size h.1 (tabsP 3 h.2.1 h.2.2).1 (tabsP 3 h.2.1 h.2.2).2.1 (.slice none 0 0) (.slice none 0 0) [] [] v v (tabsP 3 h.2.1 h.2.2).2.2) → ρ 0 = .slice p n c → ρ 2 = .pointer (some ⟨g0, 0, none⟩) → ρ 4 = .pointer (some ⟨rp, 0, none⟩) → ρ 5 = .pointer (some ⟨gm, 0, none⟩) → ρ 6 = .pointer (some ⟨gt, 0, none⟩) → K ρ w' := by
    intro ρ w' v hS q0 q2 q4 q5 q6
    obtain ⟨x, hx⟩ : ∃ x, tabsP 3 h.2.1 h.2.2 = x := ⟨_, rfl⟩
    have h3 := hX 3
    rw [hx] at hS h3
    exact hK _ _ (open_rest (t := (0, x.1, x.2.1)) (T := x.2.2) hn hl hp hx hh h3.1 (Nat.le_trans h3.2 hhl) hS q0 q2 q4 q5 q6)
  refine W_sr rfl (s_mv rfl (s_nil ?_))
  refine W_block ?_
  refine W_loop (fun m ρ w' => ∃ ρ' i v, ρ = upd (upd (upd (upd (upd (upd ρ' 0 (.slice p n c)) 2 (.pointer (some ⟨g0, 0, none⟩))) 4 (.pointer (some ⟨rp, 0, none⟩))) 5 (.pointer (some ⟨gm, 0, none⟩))) 6 (.pointer (some ⟨gt, 0, none⟩))) 19 (iV (i : Nat)) ∧ i ≤ 3 ∧ m = 3 - i ∧
      Sep w w' (opL g0 r rp gm gt w.heap.size h.1 (tabsP i h.2.1 h.2.2).1 (tabsP i h.2.1 h.2.2).2.1 (.slice none 0 0) (.slice none 0 0) [] [] v v (tabsP i h.2.1 h.2.2).2.2)) 3 ⟨_, 0, _, u6 rfl rfl rfl rfl rfl rfl, by omega, rfl, hS⟩ ?_
  rintro m _ w10 ⟨ρ, i, v, rfl, hi, rfl, hS⟩
  refine W_sr rfl (s_lss rfl rfl (s_nil ?_))
  refine W_seq ?_
  refine W_if rfl (fun hc => W_skip ?_) (fun hc => W_exit ?_)
  · have hc := of_decide_eq_true hc
    have hi3 : i < 3 := by omega
    refine W_sk fun K2 hK2 => ?_
    have H2 : ∀ (ρ : Fr) w' v, Sep w w' (opL g0 r rp gm gt w.heap.size h.1 (tabsP (i + 1) h.2.1 h.2.2).1 (tabsP (i + 1) h.2.1 h.2.2).2.1 (.slice none 0 0) (.slice none 0 0) [] [] v v (tabsP (i + 1) h.2.1 h.2.2).2.2) → ρ 0 = .slice p n c → ρ 2 = .pointer (some ⟨g0, 0, none⟩) → ρ 4 = .pointer (some ⟨rp, 0, none⟩) → ρ 5 = .pointer (some ⟨gm, 0, none⟩) → ρ 6 = .pointer (some ⟨gt, 0, none⟩) → ρ 19 = iV i → K2 ρ w' := by
      intro ρ w' v hS q0 q2 q4 q5 q6 q19
      rw [u6 q0 q2 q4 q5 q6 q19]
      refine hK2 _ _ ?_
      refine W_reg rfl (s_add rfl rfl (by omega) (s_mv rfl (s_nil ?_)))
      exact ⟨3 - (i + 1), by omega, _, i + 1, v, u6 rfl rfl rfl rfl rfl rfl, by omega, rfl, hS⟩
    refine W_block ?_
    refine W_sr rfl (s_mv rfl (s_as rfl (s_nil ?_)))
    have hbi := (hX i).1
    have hli := (hX i).2
    have hbd := nB2_bd hbi
    obtain ⟨cnt, hcnt⟩ := Int.eq_ofNat_of_zero_le hbd.1
    have hl2 := rsB_len 2 (tabsP i h.2.1 h.2.2).1
    refine W_sr rfl (s_ld E rfl rfl (hS.cell0 2 rfl rfl) (s_rd hS 1 rfl rfl rfl (metric_Two_c (hS.rd 1 rfl) (by omega) hbi) fun w11 hS => (s_mv rfl (s_nil ?_))))
    refine W_block ?_
    refine W_loop (fun m ρ w' => ∃ ρ' j bs s acc v, ρ = upd (upd (upd (upd (upd (upd (upd (upd (upd ρ' 0 (.slice p n c)) 2 (.pointer (some ⟨g0, 0, none⟩))) 4 (.pointer (some ⟨rp, 0, none⟩))) 5 (.pointer (some ⟨gm, 0, none⟩))) 6 (.pointer (some ⟨gt, 0, none⟩))) 7 (iV i)) 19 (iV i)) 23 (iV (cnt : Nat))) 24 (iV (j : Nat)) ∧ j ≤ cnt ∧ m = cnt - j ∧
        byt bs ∧ bs.length ≤ 1000000 ∧ acc.length ≤ j ∧ tabGo (cnt - j) bs s acc = tabP (tabsP i h.2.1 h.2.2).1 (tabsP i h.2.1 h.2.2).2.1 ∧
        Sep w w' (opL g0 r rp gm gt w.heap.size h.1 bs s (.slice none 0 0) (.slice none 0 0) [] [] v v (updT (tabsP i h.2.1 h.2.2).2.2 i acc))) cnt ?_ ?_
    · refine ⟨_, 0, rsB 2 (tabsP i h.2.1 h.2.2).1, shB 2 (tabsP i h.2.1 h.2.2).1 (tabsP i h.2.1 h.2.2).2.1, [], v, u9 rfl rfl rfl rfl rfl rfl rfl (congrArg iV hcnt) rfl, by omega, rfl, rsB_byt hbi, by omega, by simp, ?_, ?_⟩
      · unfold tabP; rw [hcnt]; rfl
      · rw [updT_same _ _ _ (tabsP_hi _ _ i i (Nat.le_refl _))]; exact hS
    clear hS
    rintro m _ w12 ⟨ρ, j, bs, s, acc, v, rfl, hj, rfl, hbs, hbl, hacc, hgo, hS⟩
    have fin : ∀ (x : List Int × Bool × List Int), x = (bs, s, acc) → x = tabP (tabsP i h.2.1 h.2.2).1 (tabsP i h.2.1 h.2.2).2.1 → Sep w w12 (opL g0 r rp gm gt w.heap.size h.1 (tabsP (i + 1) h.2.1 h.2.2).1 (tabsP (i + 1) h.2.1 h.2.2).2.1 (.slice none 0 0) (.slice none 0 0) [] [] v v (tabsP (i + 1) h.2.1 h.2.2).2.2) := by
      intro x e1 e2
      simp only [tabsP]
      rw [← e2, e1]
      exact hS
    refine W_sr rfl (s_lss rfl rfl (s_nil ?_))
    refine W_seq ?_
    refine W_if rfl (fun hd => W_skip ?_) (fun hd => W_exit ?_)
    · have hd := of_decide_eq_true hd
      refine W_seq ?_
      refine W_block ?_
      refine W_seq ?_
      refine W_sr rfl (s_ld E rfl rfl (hS.cell0 2 rfl rfl) (s_nc rfl (s_fa E rfl rfl (s_ld E rfl rfl (hS.rd 1 rfl).flag (s_nil ?_)))))
      refine W_if rfl (fun he => W_exit ?_) (fun he => W_skip ?_)
      · subst he
        refine H2 _ _ v (fin _ ?_ hgo) rfl rfl rfl rfl rfl rfl
        obtain ⟨k, hk⟩ : ∃ k, cnt - j = k + 1 := ⟨cnt - j - 1, by omega⟩
        rw [hk]; rfl
      · subst he
        have hl4 := rsB_len 4 bs
        have hS := hS.drew
        refine W_d (fun w' => w'.cell? (Addr.add ⟨gt, 0, none⟩ (i * 1)) = some (v i) ∧ w'.cell? ⟨rp, 0, none⟩ = some (.pointer (some ⟨r, 0, none⟩))) [9] orders (D_pure 0 rfl rfl (by kernel_rfl) rfl (fun _ => r_mv rfl) (fun _ => ⟨hS.cell 4 rfl (opL_cell hi3), hS.cell0 2 rfl rfl⟩) (D_pure 1 rfl rfl (by kernel_rfl) rfl (fun _ => r_mv rfl) (fun _ => ⟨hS.cell 4 rfl (opL_cell hi3), hS.cell0 2 rfl rfl⟩) (D_pure 2 rfl rfl (by kernel_rfl) rfl (fun _ => r_iaA (i := i) E rfl rfl rfl rfl hi3) (fun _ => ⟨hS.cell 4 rfl (opL_cell hi3), hS.cell0 2 rfl rfl⟩) (D_take 3 rfl rfl (by kernel_rfl) rfl (fun _ hs => r_ld E rfl rfl hs.1) ⟨hS.cell 4 rfl (opL_cell hi3), hS.cell0 2 rfl rfl⟩ (D_take 4 rfl rfl (by kernel_rfl) rfl (fun _ hs => r_ld E rfl rfl hs.2) ⟨hS.cell 4 rfl (opL_cell hi3), hS.cell0 2 rfl rfl⟩ (D_one 5 rfl (by kernel_rfl) rfl (s_rd hS 1 rfl rfl rfl (metric_Four_c (hS.rd 1 rfl) (by omega) hbs) fun w13 hS => (s_nil ⟨⟨hS.cell 4 rfl (opL_cell hi3), hS.cell0 2 rfl rfl⟩, (D_one 6 rfl (by kernel_rfl) rfl (s_bsA E rfl rfl rfl rfl rfl (cells := #[iV (rd4 bs)]) (by kernel_rfl) fun w14 hE14 hh14 hs14 => have hS := hS.ext_ hE14; (s_nil ⟨⟨hS.cell 4 rfl (opL_cell hi3), hS.cell0 2 rfl rfl⟩, (D_one 7 rfl (by kernel_rfl) rfl (s_apS hS (5 + i) E (opL_own hi3) rfl rfl rfl rfl rfl rfl (row_heap hh14) rfl rfl (by simp only [updT, if_pos]; omega) fun v15 w15 hS => have hx := opL_app2 hi3 hS; have hS := hx.1; (s_nil ⟨⟨hS.cell 4 rfl (opL_cell hi3), hS.cell0 2 rfl rfl⟩, (D_pure 8 rfl rfl (by kernel_rfl) rfl (fun _ => r_iaA (i := i) E rfl rfl rfl rfl hi3) (fun _ => ⟨hS.cell 4 rfl (opL_cell hi3), hS.cell0 2 rfl rfl⟩) (D_oneM 9 rfl (by kernel_rfl) rfl (by kernel_rfl) (s_st1S hS 4 E rfl rfl rfl (ad0 gt (i * 1)) rfl hx.2 (by simp; omega) (opL_st hi3 v15) fun w16 hS => (s_nil (D_done (by kernel_rfl) ?_)))))⟩)))⟩)))⟩))))))))
        have hS : Sep w w16 (opL g0 r rp gm gt w.heap.size h.1 (rsB 4 bs) (shB 4 bs false) (.slice none 0 0) (.slice none 0 0) [] [] (updV v i v15) (updV v i v15) (updT (tabsP i h.2.1 h.2.2).2.2 i (acc ++ [rd4 bs]))) := hS
        refine W_reg rfl (s_add rfl rfl (by omega) (s_mv rfl (s_nil ?_)))
        refine ⟨cnt - (j + 1), by omega, _, j + 1, rsB 4 bs, shB 4 bs false, acc ++ [rd4 bs], updV v i v15, u9 rfl rfl rfl rfl rfl rfl rfl rfl rfl, by omega, rfl, rsB_byt hbs, by omega, by rw [List.length_append]; simp; omega, ?_, hS⟩
        rw [← hgo, show cnt - j = cnt - (j + 1) + 1 by omega]; rfl
    · have hd := of_decide_eq_false hd
      refine H2 _ _ v (fin _ ?_ hgo) rfl rfl rfl rfl rfl rfl
      rw [show cnt - j = 0 by omega]; rfl
  · have hc := of_decide_eq_false hc
    have h3 : i = 3 := by omega
    subst h3
    exact H _ _ v hS rfl rfl rfl rfl rfl
end
end Go.Proofs.YthfnijlgmjkedaaGreat
namespace Go.Proofs.YthfnijlgmjkedaaGreat
set_option maxRecDepth 100000
set_option maxHeartbeats 1000000
set_option linter.unusedVariables false
set_option linter.unusedSimpArgs false
open Go Go.Fx Go.Proofs.YthfnijlgmjkedaaGreat.Tab
section
variable {n a b : Int} {w : World}
theorem fleuronref27_coord_c : Ret Go.Proofs.Tryz.prog 66 #[iV n] w fun v w' => v = .bool (coordB n) ∧ w' = w := by
  refine enter Go.Proofs.Tryz.func66 rfl rfl rfl ?_
  refine W_sr rfl (s_as rfl (s_nil ?_))
  by_cases h0 : -268435455 ≤ n
  · refine W_sr rfl (s_mv rfl (s_cmp (c := true) rfl rfl (decide_eq_true h0) (s_mv rfl (s_g1 rfl (s_mv rfl (s_g1 rfl (s_leq rfl rfl (s_pk rfl (s_as rfl (s_nil ?_))))))))))
    exact W_ret ⟨_, rfl, by simp only [coordB, h0, decide_true, Bool.true_and]; rfl, rfl⟩
  · refine W_sr rfl (s_mv rfl (s_cmp (c := false) rfl rfl (decide_eq_false h0) (s_mv rfl (s_g0 rfl (s_g0 rfl (s_pk rfl (s_as rfl (s_nil ?_))))))))
    exact W_ret ⟨_, rfl, by simp only [coordB, h0, decide_false, Bool.false_and]; rfl, rfl⟩
theorem fleuronref27_code_c : Ret Go.Proofs.Tryz.prog 88 #[iV n] w fun v w' => v = .bool (codeB n) ∧ w' = w := by
  refine enter Go.Proofs.Tryz.func88 rfl rfl rfl ?_
  refine W_sr rfl (s_as rfl (s_nil ?_))
  by_cases h0 : 0 ≤ n
  · refine W_sr rfl (s_mv rfl (s_cmp (c := true) rfl rfl (decide_eq_true h0) (s_mv rfl (s_g1 rfl (s_mv rfl (s_g1 rfl (s_leq rfl rfl (s_pk rfl (s_as rfl (s_nil ?_))))))))))
    exact W_ret ⟨_, rfl, by simp only [codeB, h0, decide_true, Bool.true_and]; rfl, rfl⟩
  · refine W_sr rfl (s_mv rfl (s_cmp (c := false) rfl rfl (decide_eq_false h0) (s_mv rfl (s_g0 rfl (s_g0 rfl (s_pk rfl (s_as rfl (s_nil ?_))))))))
    exact W_ret ⟨_, rfl, by simp only [codeB, h0, decide_false, Bool.false_and]; rfl, rfl⟩
theorem fleuronref27_Size_c : Ret Go.Proofs.Tryz.prog 39 #[iV n] w fun v w' => v = .bool (sizeB n) ∧ w' = w := by
  refine enter Go.Proofs.Tryz.func39 rfl rfl rfl ?_
  refine W_sr rfl (s_as rfl (s_nil ?_))
  by_cases h0 : 1 ≤ n
  · refine W_sr rfl (s_mv rfl (s_cmp (c := true) rfl rfl (decide_eq_true h0) (s_mv rfl (s_g1 rfl (s_mv rfl (s_g1 rfl (s_leq rfl rfl (s_pk rfl (s_as rfl (s_nil ?_))))))))))
    exact W_ret ⟨_, rfl, by simp only [sizeB, h0, decide_true, Bool.true_and]; rfl, rfl⟩
  · refine W_sr rfl (s_mv rfl (s_cmp (c := false) rfl rfl (decide_eq_false h0) (s_mv rfl (s_g0 rfl (s_g0 rfl (s_pk rfl (s_as rfl (s_nil ?_))))))))
    exact W_ret ⟨_, rfl, by simp only [sizeB, h0, decide_false, Bool.false_and]; rfl, rfl⟩
theorem fleuronref27_char_c {x : Ch} : Ret Go.Proofs.Tryz.prog 38 #[chV x] w fun v w' => v = .bool (charB x) ∧ Ext w w' := by
  refine enter Go.Proofs.Tryz.func38 rfl rfl rfl ?_
  refine W_sr rfl (s_bx rfl (s_as rfl (s_nil ?_)))
  cases h0 : codeB x.code
  · refine W_sr rfl (s_fa E rfl rfl (s_ld E rfl rfl (bc0 rfl) (s_callp rfl rfl (Ret.eqv (fleuronref27_code_c) (congrArg Value.bool h0)) (s_mv rfl (s_g0 rfl (s_g0 rfl (s_g0 rfl (s_pk rfl (s_mv rfl (s_g0 rfl (s_g0 rfl (s_g0 rfl (s_pk rfl (s_mv rfl (s_g0 rfl (s_g0 rfl (s_g0 rfl (s_pk rfl (s_as rfl (s_nil ?_))))))))))))))))))))
    exact W_ret ⟨_, rfl, by simp only [charB, h0, Bool.false_and]; rfl, e1⟩
  cases h1 : coordB x.width
  · refine W_sr rfl (s_fa E rfl rfl (s_ld E rfl rfl (bc0 rfl) (s_callp rfl rfl (Ret.eqv (fleuronref27_code_c) (congrArg Value.bool h0)) (s_mv rfl (s_g1 rfl (s_fa E rfl rfl (s_g1 rfl (s_ld E rfl rfl (bc0 rfl) (s_g1 rfl (s_callp rfl rfl (Ret.eqv (fleuronref27_coord_c) (congrArg Value.bool h1)) (s_pk rfl (s_mv rfl (s_g0 rfl (s_g0 rfl (s_g0 rfl (s_pk rfl (s_mv rfl (s_g0 rfl (s_g0 rfl (s_g0 rfl (s_pk rfl (s_as rfl (s_nil ?_)))))))))))))))))))))))
    exact W_ret ⟨_, rfl, by simp only [charB, h0, h1, Bool.false_and, Bool.true_and]; rfl, e1⟩
  cases h2 : coordB x.height
  · refine W_sr rfl (s_fa E rfl rfl (s_ld E rfl rfl (bc0 rfl) (s_callp rfl rfl (Ret.eqv (fleuronref27_code_c) (congrArg Value.bool h0)) (s_mv rfl (s_g1 rfl (s_fa E rfl rfl (s_g1 rfl (s_ld E rfl rfl (bc0 rfl) (s_g1 rfl (s_callp rfl rfl (Ret.eqv (fleuronref27_coord_c) (congrArg Value.bool h1)) (s_pk rfl (s_mv rfl (s_g1 rfl (s_fa E rfl rfl (s_g1 rfl (s_ld E rfl rfl (bc0 rfl) (s_g1 rfl (s_callp rfl rfl (Ret.eqv (fleuronref27_coord_c) (congrArg Value.bool h2)) (s_pk rfl (s_mv rfl (s_g0 rfl (s_g0 rfl (s_g0 rfl (s_pk rfl (s_as rfl (s_nil ?_))))))))))))))))))))))))))
    exact W_ret ⟨_, rfl, by simp only [charB, h0, h1, h2, Bool.false_and, Bool.true_and]; rfl, e1⟩
  refine W_sr rfl (s_fa E rfl rfl (s_ld E rfl rfl (bc0 rfl) (s_callp rfl rfl (Ret.eqv (fleuronref27_code_c) (congrArg Value.bool h0)) (s_mv rfl (s_g1 rfl (s_fa E rfl rfl (s_g1 rfl (s_ld E rfl rfl (bc0 rfl) (s_g1 rfl (s_callp rfl rfl (Ret.eqv (fleuronref27_coord_c) (congrArg Value.bool h1)) (s_pk rfl (s_mv rfl (s_g1 rfl (s_fa E rfl rfl (s_g1 rfl (s_ld E rfl rfl (bc0 rfl) (s_g1 rfl (s_callp rfl rfl (Ret.eqv (fleuronref27_coord_c) (congrArg Value.bool h2)) (s_pk rfl (s_mv rfl (s_g1 rfl (s_fa E rfl rfl (s_g1 rfl (s_ld E rfl rfl (bc0 rfl) (s_g1 rfl (s_callp rfl rfl (fleuronref27_coord_c) (s_pk rfl (s_as rfl (s_nil ?_)))))))))))))))))))))))))))))
  exact W_ret ⟨_, rfl, by simp only [charB, h0, h1, h2, Bool.true_and]; rfl, e1⟩
theorem ruleB_no {x : Ru} (h : ¬ (codeB x.first = true ∧ codeB x.next = true ∧ 0 ≤ x.op ∧ x.op ≤ 4)) : ruleB x = false := by
  rw [Bool.eq_false_iff]; intro h2; apply h
  simp only [ruleB, Bool.and_eq_true, decide_eq_true_eq] at h2
  exact ⟨h2.1, h2.2.1, h2.2.2.1, h2.2.2.2.1⟩
theorem fleuronref27_rule_c {x : Ru} : Ret Go.Proofs.Tryz.prog 56 #[ruV x] w fun v w' => v = .bool (ruleB x) ∧ Ext w w' := by
  refine enter Go.Proofs.Tryz.func56 rfl rfl rfl ?_
  refine W_sr rfl (s_bx rfl (s_as rfl (s_nil ?_)))
  refine W_seq ?_
  by_cases h0 : x.op < 0
  · refine W_sr rfl (s_fa E rfl rfl (s_ld E rfl rfl (bc0 rfl) (s_cmp (c := true) rfl rfl (decide_eq_true h0) (s_mv rfl (s_g0 rfl (s_g0 rfl (s_g0 rfl (s_pk rfl (s_mv rfl (s_g0 rfl (s_g0 rfl (s_g0 rfl (s_g0 rfl (s_pk rfl (s_mv rfl (s_g0 rfl (s_g0 rfl (s_g0 rfl (s_g0 rfl (s_pk rfl (s_nil ?_)))))))))))))))))))))
    refine W_if rfl (fun _ => ?_) (fun h => by cases h)
    refine W_sr rfl (s_as rfl (s_nil ?_))
    exact W_ret ⟨_, rfl, by rw [ruleB_no (by omega)]; rfl, e1⟩
  by_cases h1 : 4 < x.op
  · refine W_sr rfl (s_fa E rfl rfl (s_ld E rfl rfl (bc0 rfl) (s_cmp (c := false) rfl rfl (decide_eq_false h0) (s_mv rfl (s_g1 rfl (s_fa E rfl rfl (s_g1 rfl (s_ld E rfl rfl (bc0 rfl) (s_g1 rfl (s_cmp (c := true) rfl rfl (decide_eq_true h1) (s_pk rfl (s_mv rfl (s_g0 rfl (s_g0 rfl (s_g0 rfl (s_g0 rfl (s_pk rfl (s_mv rfl (s_g0 rfl (s_g0 rfl (s_g0 rfl (s_g0 rfl (s_pk rfl (s_nil ?_))))))))))))))))))))))))
    refine W_if rfl (fun _ => ?_) (fun h => by cases h)
    refine W_sr rfl (s_as rfl (s_nil ?_))
    exact W_ret ⟨_, rfl, by rw [ruleB_no (by omega)]; rfl, e1⟩
  cases h2 : codeB x.first
  · refine W_sr rfl (s_fa E rfl rfl (s_ld E rfl rfl (bc0 rfl) (s_cmp (c := false) rfl rfl (decide_eq_false h0) (s_mv rfl (s_g1 rfl (s_fa E rfl rfl (s_g1 rfl (s_ld E rfl rfl (bc0 rfl) (s_g1 rfl (s_cmp (c := false) rfl rfl (decide_eq_false h1) (s_pk rfl (s_mv rfl (s_g1 rfl (s_fa E rfl rfl (s_g1 rfl (s_ld E rfl rfl (bc0 rfl) (s_g1 rfl (s_callp rfl rfl (Ret.eqv (fleuronref27_code_c) (congrArg Value.bool h2)) (s_g1 rfl (s_not rfl (s_pk rfl (s_mv rfl (s_g0 rfl (s_g0 rfl (s_g0 rfl (s_g0 rfl (s_pk rfl (s_nil ?_))))))))))))))))))))))))))))
    refine W_if rfl (fun _ => ?_) (fun h => by cases h)
    refine W_sr rfl (s_as rfl (s_nil ?_))
    exact W_ret ⟨_, rfl, by rw [ruleB_no (by simp [h2])]; rfl, e1⟩
  cases h3 : codeB x.next
  · refine W_sr rfl (s_fa E rfl rfl (s_ld E rfl rfl (bc0 rfl) (s_cmp (c := false) rfl rfl (decide_eq_false h0) (s_mv rfl (s_g1 rfl (s_fa E rfl rfl (s_g1 rfl (s_ld E rfl rfl (bc0 rfl) (s_g1 rfl (s_cmp (c := false) rfl rfl (decide_eq_false h1) (s_pk rfl (s_mv rfl (s_g1 rfl (s_fa E rfl rfl (s_g1 rfl (s_ld E rfl rfl (bc0 rfl) (s_g1 rfl (s_callp rfl rfl (Ret.eqv (fleuronref27_code_c) (congrArg Value.bool h2)) (s_g1 rfl (s_not rfl (s_pk rfl (s_mv rfl (s_g1 rfl (s_fa E rfl rfl (s_g1 rfl (s_ld E rfl rfl (bc0 rfl) (s_g1 rfl (s_callp rfl rfl (Ret.eqv fleuronref27_code_c (congrArg Value.bool h3)) (s_g1 rfl (s_not rfl (s_pk rfl (s_nil ?_))))))))))))))))))))))))))))))))
    refine W_if rfl (fun _ => ?_) (fun h => by cases h)
    refine W_sr rfl (s_as rfl (s_nil ?_))
    exact W_ret ⟨_, rfl, by rw [ruleB_no (by simp [h3])]; rfl, e1⟩
  refine W_sr rfl (s_fa E rfl rfl (s_ld E rfl rfl (bc0 rfl) (s_cmp (c := false) rfl rfl (decide_eq_false h0) (s_mv rfl (s_g1 rfl (s_fa E rfl rfl (s_g1 rfl (s_ld E rfl rfl (bc0 rfl) (s_g1 rfl (s_cmp (c := false) rfl rfl (decide_eq_false h1) (s_pk rfl (s_mv rfl (s_g1 rfl (s_fa E rfl rfl (s_g1 rfl (s_ld E rfl rfl (bc0 rfl) (s_g1 rfl (s_callp rfl rfl (Ret.eqv (fleuronref27_code_c) (congrArg Value.bool h2)) (s_g1 rfl (s_not rfl (s_pk rfl (s_mv rfl (s_g1 rfl (s_fa E rfl rfl (s_g1 rfl (s_ld E rfl rfl (bc0 rfl) (s_g1 rfl (s_callp rfl rfl (Ret.eqv fleuronref27_code_c (congrArg Value.bool h3)) (s_g1 rfl (s_not rfl (s_pk rfl (s_nil ?_))))))))))))))))))))))))))))))))
  refine W_if rfl (fun h => by cases h) (fun _ => W_skip ?_)
  have e : ruleB x = (if x.op = 0 then coordB x.value else codeB x.value) := by
    simp only [ruleB, h2, h3, show 0 ≤ x.op by omega, show x.op ≤ 4 by omega, decide_true, Bool.true_and]
  rw [e]
  by_cases h0 : x.op = 0
  · rw [if_pos h0]
    cases h1 : coordB x.value
    · refine W_sr rfl (s_fa E rfl rfl (s_ld E rfl rfl (bc0 rfl) (s_cmp (c := true) rfl rfl (decide_eq_true h0) (s_mv rfl (s_g1 rfl (s_fa E rfl rfl (s_g1 rfl (s_ld E rfl rfl (bc0 rfl) (s_g1 rfl (s_callp rfl rfl (Ret.eqv fleuronref27_coord_c (congrArg Value.bool h1)) (s_pk rfl (s_mv rfl (s_g1 rfl (s_fa E rfl rfl (s_g1 rfl (s_ld E rfl rfl (bc0 rfl) (s_g1 rfl (s_cmp (c := false) rfl rfl (by simp [h0]) (s_g1 rfl (s_mv rfl (s_g0 rfl (s_g0 rfl (s_g0 rfl (s_g1 rfl (s_pk rfl (s_pk rfl (s_as rfl (s_nil ?_))))))))))))))))))))))))))))
      exact W_ret ⟨_, rfl, rfl, e1⟩
    · refine W_sr rfl (s_fa E rfl rfl (s_ld E rfl rfl (bc0 rfl) (s_cmp (c := true) rfl rfl (decide_eq_true h0) (s_mv rfl (s_g1 rfl (s_fa E rfl rfl (s_g1 rfl (s_ld E rfl rfl (bc0 rfl) (s_g1 rfl (s_callp rfl rfl (Ret.eqv fleuronref27_coord_c (congrArg Value.bool h1)) (s_pk rfl (s_mv rfl (s_g0 rfl (s_g0 rfl (s_g0 rfl (s_g0 rfl (s_g0 rfl (s_g0 rfl (s_g0 rfl (s_g0 rfl (s_pk rfl (s_as rfl (s_nil ?_)))))))))))))))))))))))
      exact W_ret ⟨_, rfl, rfl, e1⟩
  · rw [if_neg h0]
    refine W_sr rfl (s_fa E rfl rfl (s_ld E rfl rfl (bc0 rfl) (s_cmp (c := false) rfl rfl (decide_eq_false h0) (s_mv rfl (s_g0 rfl (s_g0 rfl (s_g0 rfl (s_pk rfl (s_mv rfl (s_g1 rfl (s_fa E rfl rfl (s_g1 rfl (s_ld E rfl rfl (bc0 rfl) (s_g1 rfl (s_cmp (c := true) rfl rfl (decide_eq_true h0) (s_g1 rfl (s_mv rfl (s_g1 rfl (s_fa E rfl rfl (s_g1 rfl (s_ld E rfl rfl (bc0 rfl) (s_g1 rfl (s_callp rfl rfl (fleuronref27_code_c) (s_g1 rfl (s_pk rfl (s_pk rfl (s_as rfl (s_nil ?_))))))))))))))))))))))))))))
    exact W_ret ⟨_, rfl, rfl, e1⟩
theorem pair_in {x : Ru} (h : ruleB x = true) : 0 ≤ x.first ∧ x.first ≤ 255 ∧ 0 ≤ x.next ∧ x.next ≤ 255 := by
  simp only [ruleB, codeB, Bool.and_eq_true, decide_eq_true_eq] at h; omega
def pairI (r : Ru) : Int := IntKind.i64.wrap (IntKind.i64.wrap (256 * r.first) + r.next)
theorem pairI_in {x : Ru} (h : ruleB x = true) : pairI x = 256 * x.first + x.next := by
  have := pair_in h
  unfold pairI
  rw [wrap64_in (n := 256 * x.first) (by omega) (by omega)]
  exact wrap64_in (by omega) (by omega)
theorem fleuronref27_pair_c {x : Ru} : Ret Go.Proofs.Tryz.prog 57 #[ruV x] w fun v w' => v = iV (pairI x) ∧ Ext w w' := by
  refine enter Go.Proofs.Tryz.func57 rfl rfl rfl ?_
  refine W_sr rfl (s_bx rfl (s_as rfl (s_nil ?_)))
  refine W_sr rfl (s_fa E rfl rfl (s_ld E rfl rfl (bc0 rfl) (s_mulw rfl rfl (s_fa E rfl rfl (s_ld E rfl rfl (bc0 rfl) (s_addw rfl rfl (s_as rfl (s_nil ?_))))))))
  exact W_ret ⟨_, rfl, rfl, e1⟩
end
/-! ### Rules, Valid -/
def okG {α : Type} (ok : α → Bool) (lt : α → α → Bool) (l : List α) (i : Nat) : Bool := match l[i]? with
  | some r => ok r && (decide (i = 0) || match l[i - 1]? with | some q => lt q r | none => false)
  | none => true
theorem pairI_lt {q r : Ru} (hq : ruleB q = true) (hr : ruleB r = true) : pairI q < pairI r ↔ pairCmp q r < 0 := by
  rw [pairI_in hq, pairI_in hr]
  have h1 := pair_in hq
  have h2 := pair_in hr
  unfold pairCmp cmpI
  split <;> (try split) <;> (try split) <;> omega
theorem okG_all {α : Type} {ok : α → Bool} {lt : α → α → Bool} {cmp : α → α → Int} (hc : ∀ q r, ok q = true → ok r = true → (lt q r = true ↔ cmp q r < 0)) (l : List α) :
    (∀ i, i < l.length → okG ok lt l i = true) ↔ (l.all ok && risingB cmp l) = true := by
  rw [Bool.and_eq_true, List.all_eq_true, risingB_iff]
  constructor
  · intro h
    have hr : ∀ i (hi : i < l.length), ok l[i] = true := fun i hi => by
      have := h i hi
      unfold okG at this
      rw [List.getElem?_eq_getElem hi] at this
      simp only [Bool.and_eq_true] at this
      exact this.1
    refine ⟨fun x hx => ?_, fun i hi => ?_⟩
    · obtain ⟨i, hi, rfl⟩ := List.getElem_of_mem hx
      exact hr i hi
    · have := h (i + 1) hi
      unfold okG at this
      rw [List.getElem?_eq_getElem hi, Nat.add_sub_cancel, List.getElem?_eq_getElem (show i < l.length by omega)] at this
      simp only [Bool.and_eq_true, Bool.or_eq_true, decide_eq_true_eq] at this
      rcases this.2 with h2 | h2
      · omega
      · exact (hc _ _ (hr i (by omega)) (hr (i + 1) hi)).1 h2
  · rintro ⟨h1, h2⟩ i hi
    unfold okG
    rw [List.getElem?_eq_getElem hi]
    simp only [Bool.and_eq_true, Bool.or_eq_true, decide_eq_true_eq]
    refine ⟨h1 _ (List.getElem_mem hi), ?_⟩
    by_cases h0 : i = 0
    · exact .inl h0
    · right
      rw [List.getElem?_eq_getElem (show i - 1 < l.length by omega)]
      have := h2 (i - 1) (by omega)
      simp only [show i - 1 + 1 = i by omega] at this
      exact (hc _ _ (h1 _ (List.getElem_mem _)) (h1 _ (List.getElem_mem _))).2 this
theorem okG_false {α : Type} {ok : α → Bool} {lt : α → α → Bool} {cmp : α → α → Int} (hc : ∀ q r, ok q = true → ok r = true → (lt q r = true ↔ cmp q r < 0)) {l : List α} {i : Nat} (hi : i < l.length) (h : okG ok lt l i = false) : (l.all ok && risingB cmp l) = false := by
  rw [Bool.eq_false_iff]; intro h2
  have := (okG_all hc l).2 h2 i hi
  rw [h] at this; cases this
def pairLt (q r : Ru) : Bool := decide (pairI q < pairI r)
def codeLt (q r : Ch) : Bool := decide (q.code < r.code)
theorem pairLt_c (q r : Ru) (hq : ruleB q = true) (hr : ruleB r = true) : pairLt q r = true ↔ pairCmp q r < 0 := by unfold pairLt; rw [decide_eq_true_eq]; exact pairI_lt hq hr
theorem codeLt_c (q r : Ch) (_ : charB q = true) (_ : charB r = true) : codeLt q r = true ↔ codeCmp q r < 0 := by
  unfold codeLt codeCmp cmpI; rw [decide_eq_true_eq]; split <;> (try split) <;> omega
theorem okG_1 {α : Type} {ok : α → Bool} {lt : α → α → Bool} {l : List α} {i : Nat} (hi : i < l.length) (h : ok l[i] = false) : okG ok lt l i = false := by
  unfold okG; rw [List.getElem?_eq_getElem hi]; simp [h]
theorem okG_0 {α : Type} {ok : α → Bool} {lt : α → α → Bool} {l : List α} (hi : 0 < l.length) (h : ok l[0] = true) : okG ok lt l 0 = true := by
  unfold okG; rw [List.getElem?_eq_getElem hi]; simp [h]
theorem okG_2 {α : Type} {ok : α → Bool} {lt : α → α → Bool} {l : List α} {i : Nat} (hi : i < l.length) (h : ok l[i] = true) (h0 : i ≠ 0) : okG ok lt l i = lt (l[i - 1]'(by omega)) l[i] := by
  unfold okG; rw [List.getElem?_eq_getElem hi, List.getElem?_eq_getElem (show i - 1 < l.length by omega)]; simp [h, h0]
end Go.Proofs.YthfnijlgmjkedaaGreat
namespace Go.Proofs.YthfnijlgmjkedaaGreat
set_option maxRecDepth 100000
set_option maxHeartbeats 1000000
set_option linter.unusedVariables false
set_option linter.unusedSimpArgs false
open Go Go.Fx Go.Proofs.YthfnijlgmjkedaaGreat.Tab
section
variable {w : World}
theorem fleuronref27_Rules_c {p : Option Addr} {n c : Nat} {l : List Ru} (hn : n = l.length) (hm : n ≤ 1000000) (hp : SlR w p (l.flatMap ruC)) :
    Ret Go.Proofs.Tryz.prog 40 #[.slice p n c] w fun v w' => v = .bool (validRules l) ∧ Ext w w' := by
  refine enter Go.Proofs.Tryz.func40 rfl rfl rfl ?_
  refine W_sr rfl (s_as rfl (s_nil ?_))
  refine W_seq ?_
  refine W_sr rfl (s_mv rfl (s_len E rfl rfl (s_mv rfl (s_nil ?_))))
  refine W_block ?_
  refine W_loop (fun m ρ w' => ∃ ρ' i, ρ = upd (upd (upd (upd ρ' 0 (.slice p n c)) 5 (.slice p n c)) 6 (iV n)) 7 (iV (i : Nat)) ∧ Ext w w' ∧ i ≤ n ∧ m = n - i ∧ ∀ j, j < i → okG ruleB pairLt l j = true) n
    ⟨_, 0, u4 rfl rfl rfl rfl, Mod.refl, by omega, by omega, fun j h => by omega⟩ ?_
  rintro m _ w1 ⟨ρ, i, rfl, hE1, hi, rfl, ho⟩
  refine W_sr rfl (s_lss rfl rfl (s_nil ?_))
  refine W_seq ?_
  refine W_if rfl (fun hc => W_skip ?_) (fun hc => W_exit ?_)
  · have hc := of_decide_eq_true hc
    have hil : i < l.length := by omega
    obtain ⟨a, rfl, hrow⟩ := hp.some (by intro h0; have := flat_length ruC 4 ruC_len l; rw [h0] at this; simp at this; omega)
    have hS := Sep.start (w := w1)
    refine W_seq (W_block ?_)
    refine W_sr rfl (s_mv rfl (s_ia E rfl rfl rfl rfl (by omega) (s_lda E rfl rfl (Ext.row hE1 (hrow.at ruC_len hil)) rfl (s_alS hS E rfl rfl fun w2 g hS => (s_as rfl (s_stS hS 0 E (us := ruC l[i]) rfl rfl rfl rfl rfl rfl rfl rfl rfl rfl fun w3 hS => (s_nil ?_)))))))
    have hg : Row w3 ⟨g, 0, none⟩ (ruC l[i]) := hS.row 0 rfl
    have hE3 := hE1.trans hS.ext
    have okS : ∀ b : Bool, okG ruleB pairLt l i = b → (b = true → ∀ j, j < i + 1 → okG ruleB pairLt l j = true) ∧ (b = false → validRules l = false) := by
      intro b hb
      refine ⟨fun h j hj => ?_, fun h => ?_⟩
      · by_cases e : j = i
        · subst e; rw [hb, h]
        · exact ho j (by omega)
      · subst h
        unfold validRules
        rw [okG_false pairLt_c hil hb, Bool.and_false]
    cases h0 : ruleB l[i]
    · refine W_qr (Ext w3) orders rfl (by kernel_rfl) (Ext.drew0) (q_lda E rfl rfl (fun w' h => Ext.row h hg) rfl (q_callE rfl rfl (fun w' h => Ret.eqv (fleuronref27_rule_c (x := l[i])) (congrArg Value.bool h0)) (q_not rfl (q_mv rfl (q_g0 rfl (q_g0 rfl (q_g0 rfl (q_g0 rfl (q_g0 rfl (q_g0 rfl (q_g0 rfl (q_g0 rfl (q_g0 rfl (q_g0 rfl (q_g0 rfl (q_g0 rfl (q_g0 rfl (q_pk rfl (q_nil ?_)))))))))))))))))))
      intro w4 hE4
      refine W_if rfl (fun _ => ?_) (fun h => by cases h)
      refine W_sr rfl (s_as rfl (s_nil ?_))
      exact W_ret ⟨_, rfl, by rw [(okS false (okG_1 hil h0)).2 rfl]; rfl, hE3.trans hE4⟩
    by_cases h1 : i = 0
    · refine W_qr (Ext w3) orders rfl (by kernel_rfl) (Ext.drew0) (q_lda E rfl rfl (fun w' h => Ext.row h hg) rfl (q_callE rfl rfl (fun w' h => Ret.eqv (fleuronref27_rule_c (x := l[i])) (congrArg Value.bool h0)) (q_not rfl (q_mv rfl (q_g1 rfl (q_mv rfl (q_g1 rfl (q_cmp (c := false) rfl rfl (decide_eq_false (by omega)) (q_g1 rfl (q_mv rfl (q_g0 rfl (q_g0 rfl (q_g0 rfl (q_g0 rfl (q_g0 rfl (q_g0 rfl (q_g0 rfl (q_g0 rfl (q_g0 rfl (q_g1 rfl (q_pk rfl (q_pk rfl (q_nil ?_)))))))))))))))))))))))
      intro w4 hE4
      refine W_if rfl (fun h => by cases h) (fun _ => W_skip ?_)
      refine W_reg rfl (s_add rfl rfl (by omega) (s_mv rfl (s_nil ?_)))
      exact ⟨n - (i + 1), by omega, _, i + 1, u4 rfl rfl rfl rfl, hE3.trans hE4, by omega, rfl, (okS true (by subst h1; exact okG_0 hil h0)).1 rfl⟩
    · have hrq : Row w3 (a.add ((i - 1) * 4)) (ruC (l[i - 1]'(by omega))) := Ext.row hE3 (hrow.at ruC_len (by omega))
      have h2 := okG_2 (lt := pairLt) hil h0 h1
      obtain ⟨q, hq⟩ : ∃ q, q = l[i - 1]'(by omega) := ⟨_, rfl⟩
      rw [← hq] at hrq h2
      obtain ⟨r, hr⟩ : ∃ r, r = l[i] := ⟨_, rfl⟩
      rw [← hr] at h0 hg h2
      by_cases h3 : pairI r ≤ pairI q
      · refine W_qr (Ext w3) orders rfl (by kernel_rfl) (Ext.drew0) (q_lda E rfl rfl (fun w' h => Ext.row h hg) rfl (q_callE rfl rfl (fun w' h => Ret.eqv (fleuronref27_rule_c (x := r)) (congrArg Value.bool h0)) (q_not rfl (q_mv rfl (q_g1 rfl (q_mv rfl (q_g1 rfl (q_cmp (c := true) rfl rfl (decide_eq_true (by omega)) (q_g1 rfl (q_mv rfl (q_g1 rfl (q_mv rfl (q_g1 rfl (q_mv rfl (q_g1 rfl (q_sub rfl rfl (by omega) (q_g1 rfl (q_ia E rfl rfl rfl (show (i : Int) - 1 = ((i - 1 : Nat) : Int) by omega) (by omega) (q_g1 rfl (q_lda E rfl rfl (fun w' h => Ext.row h hrq) rfl (q_g1 rfl (q_callE rfl rfl (fun w' h => fleuronref27_pair_c (x := q)) (q_g1 rfl (q_lda E rfl rfl (fun w' h => Ext.row h hg) rfl (q_g1 rfl (q_callE rfl rfl (fun w' h => fleuronref27_pair_c (x := r)) (q_g1 rfl (q_cmp (c := true) rfl rfl (decide_eq_true h3) (q_g1 rfl (q_pk rfl (q_pk rfl (q_nil ?_))))))))))))))))))))))))))))))))
        intro w4 hE4
        refine W_if rfl (fun _ => ?_) (fun h => by cases h)
        refine W_sr rfl (s_as rfl (s_nil ?_))
        exact W_ret ⟨_, rfl, by rw [(okS false (by rw [h2]; exact decide_eq_false (by omega))).2 rfl]; rfl, hE3.trans hE4⟩
      · refine W_qr (Ext w3) orders rfl (by kernel_rfl) (Ext.drew0) (q_lda E rfl rfl (fun w' h => Ext.row h hg) rfl (q_callE rfl rfl (fun w' h => Ret.eqv (fleuronref27_rule_c (x := r)) (congrArg Value.bool h0)) (q_not rfl (q_mv rfl (q_g1 rfl (q_mv rfl (q_g1 rfl (q_cmp (c := true) rfl rfl (decide_eq_true (by omega)) (q_g1 rfl (q_mv rfl (q_g1 rfl (q_mv rfl (q_g1 rfl (q_mv rfl (q_g1 rfl (q_sub rfl rfl (by omega) (q_g1 rfl (q_ia E rfl rfl rfl (show (i : Int) - 1 = ((i - 1 : Nat) : Int) by omega) (by omega) (q_g1 rfl (q_lda E rfl rfl (fun w' h => Ext.row h hrq) rfl (q_g1 rfl (q_callE rfl rfl (fun w' h => fleuronref27_pair_c (x := q)) (q_g1 rfl (q_lda E rfl rfl (fun w' h => Ext.row h hg) rfl (q_g1 rfl (q_callE rfl rfl (fun w' h => fleuronref27_pair_c (x := r)) (q_g1 rfl (q_cmp (c := false) rfl rfl (decide_eq_false h3) (q_g1 rfl (q_pk rfl (q_pk rfl (q_nil ?_))))))))))))))))))))))))))))))))
        intro w4 hE4
        refine W_if rfl (fun h => by cases h) (fun _ => W_skip ?_)
        refine W_reg rfl (s_add rfl rfl (by omega) (s_mv rfl (s_nil ?_)))
        exact ⟨n - (i + 1), by omega, _, i + 1, u4 rfl rfl rfl rfl, hE3.trans hE4, by omega, rfl, (okS true (by rw [h2]; exact decide_eq_true (by omega))).1 rfl⟩
  · have hc := of_decide_eq_false hc
    refine W_sr rfl (s_mv rfl (s_len E rfl rfl (s_leq rfl rfl (s_as rfl (s_nil ?_)))))
    refine W_ret ⟨_, rfl, ?_, hE1⟩
    have : (l.all ruleB && risingB pairCmp l) = true := (okG_all pairLt_c l).1 fun i hi => ho i (by omega)
    unfold validRules
    rw [this, Bool.and_true]
    exact congrArg Value.bool (decide_eq_decide.2 (by omega))
theorem fleuronref27_Valid_c {m : Me} {p q : Option Addr} {c d : Nat} (hm : MeR w m p q) : Ret Go.Proofs.Tryz.prog 14 #[meV m p q c d] w fun v w' => v = .bool (validM m) ∧ Ext w w' := by
  refine enter Go.Proofs.Tryz.func14 rfl rfl rfl ?_
  have hS := Sep.start (w := w)
  refine W_sr rfl (s_bxS hS (vs := meC m p q c d) rfl rfl fun w1 gm hS => (s_as rfl (s_nil ?_)))
  have hE1 := hS.ext
  have hr1 : Row w1 ⟨gm, 0, none⟩ (meC m p q c d) := hS.row 0 rfl
  clear hS
  refine W_seq ?_
  obtain ⟨l, hl⟩ : ∃ l, l = m.chars := ⟨_, rfl⟩
  obtain ⟨n, hn⟩ : ∃ n, n = m.chars.length := ⟨_, rfl⟩
  have hp := hm.ch
  have hnl := hm.nch
  refine W_sr rfl (s_fa E rfl rfl (s_ld E rfl rfl (hr1 1 _ rfl) (s_len E rfl rfl (s_mv rfl (s_nil ?_)))))
  rw [← hl] at hp
  rw [← hn] at hnl
  refine W_block ?_
  refine W_loop (fun r ρ w' => ∃ ρ' i, ρ = upd (upd (upd (upd ρ' 1 (.pointer (some ⟨gm, 0, none⟩))) 6 (.slice p n c)) 7 (iV n)) 8 (iV (i : Nat)) ∧ Ext w1 w' ∧ i ≤ n ∧ r = n - i ∧ ∀ j, j < i → okG charB codeLt l j = true) n
    ⟨_, 0, u4 rfl (by rw [hn]; rfl) (by rw [hn]; rfl) rfl, Mod.refl, by omega, by omega, fun j h => by omega⟩ ?_
  rintro _ _ w2 ⟨ρ, i, rfl, hE2, hi, rfl, ho⟩
  have hnl' : n = l.length := by rw [hn, hl]
  refine W_sr rfl (s_lss rfl rfl (s_nil ?_))
  refine W_seq ?_
  refine W_if rfl (fun hc => W_skip ?_) (fun hc => W_exit ?_)
  · have hc := of_decide_eq_true hc
    have hil : i < l.length := by omega
    obtain ⟨a, rfl, hrow⟩ := hp.some (by intro h0; have := flat_length chC 4 chC_len l; rw [h0] at this; simp at this; omega)
    have hS := Sep.start (w := w2)
    refine W_seq (W_block ?_)
    obtain ⟨r, hr⟩ : ∃ r, r = l[i] := ⟨_, rfl⟩
    have hrr := Ext.row (hE1.trans hE2) (hrow.at chC_len hil)
    rw [← hr] at hrr
    refine W_sr rfl (s_mv rfl (s_ia E rfl rfl rfl rfl (by omega) (s_lda E rfl rfl hrr rfl (s_alS hS E rfl rfl fun w3 g hS => (s_as rfl (s_stS hS 0 E (us := chC r) rfl rfl rfl rfl rfl rfl rfl rfl rfl rfl fun w4 hS => (s_nil ?_)))))))
    have hg : Row w4 ⟨g, 0, none⟩ (chC r) := hS.row 0 rfl
    have hE4 := hE2.trans hS.ext
    have hr4 := Ext.row hE4 hr1
    have okS : ∀ b : Bool, okG charB codeLt l i = b → (b = true → ∀ j, j < i + 1 → okG charB codeLt l j = true) ∧ (b = false → validM m = false) := by
      intro b hb
      refine ⟨fun h j hj => ?_, fun h => ?_⟩
      · by_cases e : j = i
        · subst e; rw [hb, h]
        · exact ho j (by omega)
      · subst h
        unfold validM
        have := okG_false codeLt_c hil hb
        rw [hl] at this
        rw [← Bool.and_assoc (m.chars.all charB), this, Bool.false_and, Bool.and_false, Bool.and_false]
    have okf : charB r = false → okG charB codeLt l i = false := fun h => okG_1 hil (by rw [← hr]; exact h)
    have ok0 : charB r = true → i = 0 → okG charB codeLt l i = true := fun h h0 => by subst h0; exact okG_0 hil (by rw [← hr]; exact h)
    cases h0 : charB r
    · refine W_qr (Ext w4) orders rfl (by kernel_rfl) (Ext.drew0) (q_lda E rfl rfl (fun w' h => Ext.row h hg) rfl (q_callE rfl rfl (fun w' h => Ret.eqv (fleuronref27_char_c (x := r)) (congrArg Value.bool h0)) (q_not rfl (q_mv rfl (q_g0 rfl (q_g0 rfl (q_g0 rfl (q_g0 rfl (q_g0 rfl (q_g0 rfl (q_g0 rfl (q_g0 rfl (q_g0 rfl (q_g0 rfl (q_g0 rfl (q_g0 rfl (q_g0 rfl (q_g0 rfl (q_pk rfl (q_nil ?_))))))))))))))))))))
      intro w5 hE5
      refine W_if rfl (fun _ => ?_) (fun h => by cases h)
      refine W_sr rfl (s_as rfl (s_nil ?_))
      exact W_ret ⟨_, rfl, by rw [(okS false (okf h0)).2 rfl]; rfl, hE1.trans (hE4.trans hE5)⟩
    by_cases h1 : i = 0
    · refine W_qr (Ext w4) orders rfl (by kernel_rfl) (Ext.drew0) (q_lda E rfl rfl (fun w' h => Ext.row h hg) rfl (q_callE rfl rfl (fun w' h => Ret.eqv (fleuronref27_char_c (x := r)) (congrArg Value.bool h0)) (q_not rfl (q_mv rfl (q_g1 rfl (q_mv rfl (q_g1 rfl (q_cmp (c := false) rfl rfl (decide_eq_false (by omega)) (q_g1 rfl (q_mv rfl (q_g0 rfl (q_g0 rfl (q_g0 rfl (q_g0 rfl (q_g0 rfl (q_g0 rfl (q_g0 rfl (q_g0 rfl (q_g0 rfl (q_g0 rfl (q_g1 rfl (q_pk rfl (q_pk rfl (q_nil ?_))))))))))))))))))))))))
      intro w5 hE5
      refine W_if rfl (fun h => by cases h) (fun _ => W_skip ?_)
      refine W_reg rfl (s_add rfl rfl (by omega) (s_mv rfl (s_nil ?_)))
      exact ⟨n - (i + 1), by omega, _, i + 1, u4 rfl rfl rfl rfl, hE4.trans hE5, by omega, rfl, (okS true (ok0 h0 h1)).1 rfl⟩
    · have hrq : Row w4 (a.add ((i - 1) * 4)) (chC (l[i - 1]'(by omega))) := Ext.row (hE1.trans hE4) (hrow.at chC_len (by omega))
      have h2 := okG_2 (lt := codeLt) (ok := charB) hil (by rw [← hr]; exact h0) h1
      obtain ⟨q', hq⟩ : ∃ q, q = l[i - 1]'(by omega) := ⟨_, rfl⟩
      rw [← hq] at hrq h2
      rw [← hr] at h2
      by_cases h3 : r.code ≤ q'.code
      · refine W_qr (Ext w4) orders rfl (by kernel_rfl) (Ext.drew0) (q_lda E rfl rfl (fun w' h => Ext.row h hg) rfl (q_callE rfl rfl (fun w' h => Ret.eqv (fleuronref27_char_c (x := r)) (congrArg Value.bool h0)) (q_not rfl (q_mv rfl (q_g1 rfl (q_mv rfl (q_g1 rfl (q_cmp (c := true) rfl rfl (decide_eq_true (by omega)) (q_g1 rfl (q_mv rfl (q_g1 rfl (q_fa E rfl rfl (q_g1 rfl (q_ld E rfl rfl (fun w' h => Ext.row h hr4 1 _ rfl) (q_g1 rfl (q_mv rfl (q_g1 rfl (q_sub rfl rfl (by omega) (q_g1 rfl (q_ia E rfl rfl rfl (show (i : Int) - 1 = ((i - 1 : Nat) : Int) by omega) (by omega) (q_g1 rfl (q_fa E rfl rfl (q_g1 rfl (q_ld E rfl rfl (fun w' h => Ext.row h hrq 0 _ rfl) (q_g1 rfl (q_fa E rfl rfl (q_g1 rfl (q_ld E rfl rfl (fun w' h => Ext.row h hg 0 _ rfl) (q_g1 rfl (q_cmp (c := true) rfl rfl (decide_eq_true h3) (q_g1 rfl (q_pk rfl (q_pk rfl (q_nil ?_))))))))))))))))))))))))))))))))))
        intro w5 hE5
        refine W_if rfl (fun _ => ?_) (fun h => by cases h)
        refine W_sr rfl (s_as rfl (s_nil ?_))
        exact W_ret ⟨_, rfl, by rw [(okS false (by rw [h2]; exact decide_eq_false (by omega))).2 rfl]; rfl, hE1.trans (hE4.trans hE5)⟩
      · refine W_qr (Ext w4) orders rfl (by kernel_rfl) (Ext.drew0) (q_lda E rfl rfl (fun w' h => Ext.row h hg) rfl (q_callE rfl rfl (fun w' h => Ret.eqv (fleuronref27_char_c (x := r)) (congrArg Value.bool h0)) (q_not rfl (q_mv rfl (q_g1 rfl (q_mv rfl (q_g1 rfl (q_cmp (c := true) rfl rfl (decide_eq_true (by omega)) (q_g1 rfl (q_mv rfl (q_g1 rfl (q_fa E rfl rfl (q_g1 rfl (q_ld E rfl rfl (fun w' h => Ext.row h hr4 1 _ rfl) (q_g1 rfl (q_mv rfl (q_g1 rfl (q_sub rfl rfl (by omega) (q_g1 rfl (q_ia E rfl rfl rfl (show (i : Int) - 1 = ((i - 1 : Nat) : Int) by omega) (by omega) (q_g1 rfl (q_fa E rfl rfl (q_g1 rfl (q_ld E rfl rfl (fun w' h => Ext.row h hrq 0 _ rfl) (q_g1 rfl (q_fa E rfl rfl (q_g1 rfl (q_ld E rfl rfl (fun w' h => Ext.row h hg 0 _ rfl) (q_g1 rfl (q_cmp (c := false) rfl rfl (decide_eq_false h3) (q_g1 rfl (q_pk rfl (q_pk rfl (q_nil ?_))))))))))))))))))))))))))))))))))
        intro w5 hE5
        refine W_if rfl (fun h => by cases h) (fun _ => W_skip ?_)
        refine W_reg rfl (s_add rfl rfl (by omega) (s_mv rfl (s_nil ?_)))
        exact ⟨n - (i + 1), by omega, _, i + 1, u4 rfl rfl rfl rfl, hE4.trans hE5, by omega, rfl, (okS true (by rw [h2]; exact decide_eq_true (by omega))).1 rfl⟩
  · have hc := of_decide_eq_false hc
    have hr2 := Ext.row hE2 hr1
    have hall : (m.chars.all charB && risingB codeCmp m.chars) = true := by rw [← hl]; exact (okG_all codeLt_c l).1 fun i hi => ho i (by omega)
    have e : validM m = (sizeB m.size && (decide (m.chars.length ≤ 256) && validRules m.rules)) := by
      unfold validM
      rw [← Bool.and_assoc (m.chars.all charB), hall, Bool.true_and]
    rw [e]
    cases h0 : sizeB m.size
    · refine W_sr rfl (s_fa E rfl rfl (s_ld E rfl rfl (hr2 0 _ rfl) (s_callp rfl rfl (Ret.eqv (fleuronref27_Size_c) (congrArg Value.bool h0)) (s_mv rfl (s_g0 rfl (s_g0 rfl (s_g0 rfl (s_g0 rfl (s_pk rfl (s_mv rfl (s_g0 rfl (s_g0 rfl (s_g0 rfl (s_pk rfl (s_as rfl (s_nil ?_))))))))))))))))
      exact W_ret ⟨_, rfl, rfl, hE1.trans hE2⟩
    by_cases h1 : ((m.chars.length : Nat) : Int) ≤ 256
    case neg =>
      refine W_sr rfl (s_fa E rfl rfl (s_ld E rfl rfl (hr2 0 _ rfl) (s_callp rfl rfl (Ret.eqv (fleuronref27_Size_c) (congrArg Value.bool h0)) (s_mv rfl (s_g1 rfl (s_fa E rfl rfl (s_g1 rfl (s_ld E rfl rfl (hr2 1 _ rfl) (s_g1 rfl (s_len E rfl rfl (s_g1 rfl (s_cmp (c := false) rfl rfl (decide_eq_false h1) (s_pk rfl (s_mv rfl (s_g0 rfl (s_g0 rfl (s_g0 rfl (s_pk rfl (s_as rfl (s_nil ?_))))))))))))))))))))
      rw [decide_eq_false (show ¬ m.chars.length ≤ 256 by omega)]
      exact W_ret ⟨_, rfl, rfl, hE1.trans hE2⟩
    rw [decide_eq_true (show m.chars.length ≤ 256 by omega)]
    have hq := Ext.sl (hE1.trans hE2) hm.ru
    refine W_sr rfl (s_fa E rfl rfl (s_ld E rfl rfl (hr2 0 _ rfl) (s_callp rfl rfl (Ret.eqv (fleuronref27_Size_c) (congrArg Value.bool h0)) (s_mv rfl (s_g1 rfl (s_fa E rfl rfl (s_g1 rfl (s_ld E rfl rfl (hr2 1 _ rfl) (s_g1 rfl (s_len E rfl rfl (s_g1 rfl (s_cmp (c := true) rfl rfl (decide_eq_true h1) (s_pk rfl (s_mv rfl (s_g1 rfl (s_fa E rfl rfl (s_g1 rfl (s_ld E rfl rfl (hr2 2 _ rfl) (s_g1 rfl (s_callx rfl rfl (fleuronref27_Rules_c rfl hm.nru hq) fun w3 hE3 => (s_pk rfl (s_as rfl (s_nil ?_)))))))))))))))))))))))
    exact W_ret ⟨_, rfl, rfl, (hE1.trans hE2).trans hE3⟩
end
end Go.Proofs.YthfnijlgmjkedaaGreat
namespace Go.Proofs.YthfnijlgmjkedaaGreat
set_option maxRecDepth 100000
set_option maxHeartbeats 2000000
set_option linter.unusedVariables false
set_option linter.unusedSimpArgs false
open Go Go.Fx Go.Proofs.YthfnijlgmjkedaaGreat.Tab
def chP2 (x y : Ch) : List (IntKind × Int × Int) := [(.i64, x.code, y.code), (.i64, x.width, y.width), (.i64, x.height, y.height), (.i64, x.depth, y.depth)]
def ruP2 (x y : Ru) : List (IntKind × Int × Int) := [(.i64, x.first, y.first), (.i64, x.next, y.next), (.i64, x.op, y.op), (.i64, x.value, y.value)]
theorem chP2_eq (x y : Ch) : sameI (chP2 x y) = decide (x = y) := by
  cases x; cases y
  simp only [sameI, chP2, Bool.and_true]
  rw [Bool.eq_iff_iff]
  simp
theorem ruP2_eq (x y : Ru) : sameI (ruP2 x y) = decide (x = y) := by
  cases x; cases y
  simp only [sameI, ruP2, Bool.and_true]
  rw [Bool.eq_iff_iff]
  simp
theorem eqS_ch : eqS Go.Proofs.Tryz.prog 50 [.i64, .i64, .i64, .i64] = true := by kernel_rfl
theorem eqS_ru : eqS Go.Proofs.Tryz.prog 45 [.i64, .i64, .i64, .i64] = true := by kernel_rfl
section
variable {w : World}
theorem fleuronref27_Same_c {a b : Me} {p q p' q' : Option Addr} {c d c' d' : Nat} (ha : MeR w a p q) (hb : MeR w b p' q') :
    Ret Go.Proofs.Tryz.prog 17 #[meV a p q c d, meV b p' q' c' d'] w fun v w' => v = .bool (decide (a = b)) ∧ Ext w w' := by
  refine enter Go.Proofs.Tryz.func17 rfl rfl rfl ?_
  have hS := Sep.start (w := w)
  refine W_sr rfl (s_bxS hS (vs := meC a p q c d) rfl rfl fun w1 ga hS => (s_bxS hS (vs := meC b p' q' c' d') rfl rfl fun w2 gb hS => (s_as rfl (s_nil ?_))))
  have hE2 := hS.ext
  have hra : ∀ w', Ext w2 w' → Row w' ⟨ga, 0, none⟩ (meC a p q c d) := fun w' h => Ext.row h (hS.row 0 rfl)
  have hrb : ∀ w', Ext w2 w' → Row w' ⟨gb, 0, none⟩ (meC b p' q' c' d') := fun w' h => Ext.row h (hS.row 1 rfl)
  have l2 := Mod.refl (M := fun _ => False) (w := w2)
  have no : ∀ {ρ : Fr} {w'}, ¬ a = b → Ext w2 w' → ρ 4 = .bool false → ∃ v, resV Go.Proofs.Tryz.f17 ρ = some v ∧ v = .bool (decide (a = b)) ∧ Ext w w' := fun h hE h4 => ⟨_, rfl, by rw [decide_eq_false h]; exact h4, hE2.trans hE⟩
  refine W_seq ?_
  by_cases h0 : a.size = b.size
  case neg =>
    refine W_sr rfl (s_fa E rfl rfl (s_ld E rfl rfl (hra _ l2 0 _ rfl) (s_fa E rfl rfl (s_ld E rfl rfl (hrb _ l2 0 _ rfl) (s_cmp (c := true) rfl rfl (decide_eq_true h0) (s_mv rfl (s_g0 rfl (s_g0 rfl (s_g0 rfl (s_g0 rfl (s_g0 rfl (s_g0 rfl (s_g0 rfl (s_pk rfl (s_mv rfl (s_g0 rfl (s_g0 rfl (s_g0 rfl (s_g0 rfl (s_g0 rfl (s_g0 rfl (s_g0 rfl (s_pk rfl (s_nil ?_))))))))))))))))))))))))
    refine W_if rfl (fun _ => ?_) (fun h => by cases h)
    refine W_sr rfl (s_as rfl (s_nil ?_))
    exact W_ret (no (fun h => h0 (by rw [h])) l2 rfl)
  by_cases h1 : a.chars.length = b.chars.length
  case neg =>
    refine W_sr rfl (s_fa E rfl rfl (s_ld E rfl rfl (hra _ l2 0 _ rfl) (s_fa E rfl rfl (s_ld E rfl rfl (hrb _ l2 0 _ rfl) (s_cmp (c := false) rfl rfl (decide_eq_false (fun h => h h0)) (s_mv rfl (s_g1 rfl (s_fa E rfl rfl (s_g1 rfl (s_ld E rfl rfl (hra _ l2 1 _ rfl) (s_g1 rfl (s_len E rfl rfl (s_g1 rfl (s_fa E rfl rfl (s_g1 rfl (s_ld E rfl rfl (hrb _ l2 1 _ rfl) (s_g1 rfl (s_len E rfl rfl (s_g1 rfl (s_cmp (c := true) rfl rfl (decide_eq_true (by omega)) (s_pk rfl (s_mv rfl (s_g0 rfl (s_g0 rfl (s_g0 rfl (s_g0 rfl (s_g0 rfl (s_g0 rfl (s_g0 rfl (s_pk rfl (s_nil ?_)))))))))))))))))))))))))))))))
    refine W_if rfl (fun _ => ?_) (fun h => by cases h)
    refine W_sr rfl (s_as rfl (s_nil ?_))
    exact W_ret (no (fun h => h1 (by rw [h])) l2 rfl)
  by_cases h2 : a.rules.length = b.rules.length
  case neg =>
    refine W_sr rfl (s_fa E rfl rfl (s_ld E rfl rfl (hra _ l2 0 _ rfl) (s_fa E rfl rfl (s_ld E rfl rfl (hrb _ l2 0 _ rfl) (s_cmp (c := false) rfl rfl (decide_eq_false (fun h => h h0)) (s_mv rfl (s_g1 rfl (s_fa E rfl rfl (s_g1 rfl (s_ld E rfl rfl (hra _ l2 1 _ rfl) (s_g1 rfl (s_len E rfl rfl (s_g1 rfl (s_fa E rfl rfl (s_g1 rfl (s_ld E rfl rfl (hrb _ l2 1 _ rfl) (s_g1 rfl (s_len E rfl rfl (s_g1 rfl (s_cmp (c := false) rfl rfl (decide_eq_false (by omega)) (s_pk rfl (s_mv rfl (s_g1 rfl (s_fa E rfl rfl (s_g1 rfl (s_ld E rfl rfl (hra _ l2 2 _ rfl) (s_g1 rfl (s_len E rfl rfl (s_g1 rfl (s_fa E rfl rfl (s_g1 rfl (s_ld E rfl rfl (hrb _ l2 2 _ rfl) (s_g1 rfl (s_len E rfl rfl (s_g1 rfl (s_cmp (c := true) rfl rfl (decide_eq_true (by omega)) (s_pk rfl (s_nil ?_))))))))))))))))))))))))))))))))))))))
    refine W_if rfl (fun _ => ?_) (fun h => by cases h)
    refine W_sr rfl (s_as rfl (s_nil ?_))
    exact W_ret (no (fun h => h2 (by rw [h])) l2 rfl)
  refine W_sr rfl (s_fa E rfl rfl (s_ld E rfl rfl (hra _ l2 0 _ rfl) (s_fa E rfl rfl (s_ld E rfl rfl (hrb _ l2 0 _ rfl) (s_cmp (c := false) rfl rfl (decide_eq_false (fun h => h h0)) (s_mv rfl (s_g1 rfl (s_fa E rfl rfl (s_g1 rfl (s_ld E rfl rfl (hra _ l2 1 _ rfl) (s_g1 rfl (s_len E rfl rfl (s_g1 rfl (s_fa E rfl rfl (s_g1 rfl (s_ld E rfl rfl (hrb _ l2 1 _ rfl) (s_g1 rfl (s_len E rfl rfl (s_g1 rfl (s_cmp (c := false) rfl rfl (decide_eq_false (by omega)) (s_pk rfl (s_mv rfl (s_g1 rfl (s_fa E rfl rfl (s_g1 rfl (s_ld E rfl rfl (hra _ l2 2 _ rfl) (s_g1 rfl (s_len E rfl rfl (s_g1 rfl (s_fa E rfl rfl (s_g1 rfl (s_ld E rfl rfl (hrb _ l2 2 _ rfl) (s_g1 rfl (s_len E rfl rfl (s_g1 rfl (s_cmp (c := false) rfl rfl (decide_eq_false (by omega)) (s_pk rfl (s_nil ?_))))))))))))))))))))))))))))))))))))))
  refine W_if rfl (fun h => by cases h) (fun _ => W_skip ?_)
  obtain ⟨l, hl⟩ : ∃ l, l = a.chars := ⟨_, rfl⟩
  obtain ⟨l', hl'⟩ : ∃ l, l = b.chars := ⟨_, rfl⟩
  obtain ⟨k, hk⟩ : ∃ l, l = a.rules := ⟨_, rfl⟩
  obtain ⟨k', hk'⟩ : ∃ l, l = b.rules := ⟨_, rfl⟩
  obtain ⟨n, hn⟩ : ∃ n, n = a.chars.length := ⟨_, rfl⟩
  obtain ⟨m, hm⟩ : ∃ n, n = a.rules.length := ⟨_, rfl⟩
  have hap := ha.ch; have haq := ha.ru; have hbp := hb.ch; have hbq := hb.ru
  have hnl := ha.nch; have hml := ha.nru
  rw [← hl] at hap; rw [← hl'] at hbp; rw [← hk] at haq; rw [← hk'] at hbq
  rw [← hn] at hnl; rw [← hm] at hml
  have en : n = l.length := by rw [hn, hl]
  have en' : n = l'.length := by rw [hn, hl', h1]
  have em : m = k.length := by rw [hm, hk]
  have em' : m = k'.length := by rw [hm, hk', h2]
  refine W_n2 2 3 (.pointer (some ⟨ga, 0, none⟩)) (.pointer (some ⟨gb, 0, none⟩)) rfl rfl fun ρ => ?_
  refine W_sk fun K hK => ?_
  have H : ∀ (ρ : Fr) w', l = l' → Ext w2 w' → ρ 2 = .pointer (some ⟨ga, 0, none⟩) → ρ 3 = .pointer (some ⟨gb, 0, none⟩) → K ρ w' := by
    intro ρ w3 hll hE3 q2 q3
    rw [u2 q2 q3]
    refine hK _ _ ?_
    refine W_seq ?_
    refine W_sr rfl (s_fa E rfl rfl (s_ld E rfl rfl (hra _ hE3 2 _ rfl) (s_len E rfl rfl (s_mv rfl (s_nil ?_)))))
    refine W_block ?_
    refine W_loop (fun r ρ w' => ∃ ρ' j, ρ = upd (upd (upd (upd ρ' 2 (.pointer (some ⟨ga, 0, none⟩))) 3 (.pointer (some ⟨gb, 0, none⟩))) 50 (iV m)) 51 (iV (j : Nat)) ∧ j ≤ m ∧ r = m - j ∧ Ext w2 w' ∧ ∀ t (h : t < k.length) (h' : t < k'.length), t < j → k[t] = k'[t]) m
      ⟨_, 0, u4 rfl rfl (by rw [hm]; rfl) rfl, by omega, rfl, hE3, fun _ _ _ h => by omega⟩ ?_
    rintro r _ w4 ⟨ρ, j, rfl, hj, rfl, hE4, hs⟩
    refine W_sr rfl (s_lss rfl rfl (s_nil ?_))
    refine W_seq ?_
    refine W_if rfl (fun hd => W_skip ?_) (fun hd => W_exit ?_)
    · have hd := of_decide_eq_true hd
      have h1 : j < k.length := by omega
      have h1' : j < k'.length := by omega
      obtain ⟨x, hx⟩ : ∃ x, x = k[j] := ⟨_, rfl⟩
      obtain ⟨y, hy⟩ : ∃ x, x = k'[j] := ⟨_, rfl⟩
      obtain ⟨aa, hqa, hra1⟩ := haq.some (by intro h0; have := flat_length ruC 4 ruC_len k; rw [h0] at this; simp at this; omega)
      obtain ⟨ab, hqb, hrb1⟩ := hbq.some (by intro h0; have := flat_length ruC 4 ruC_len k'; rw [h0] at this; simp at this; omega)
      have r1 := Ext.row (hE2.trans hE4) (hra1.at ruC_len h1)
      have r2 := Ext.row (hE2.trans hE4) (hrb1.at ruC_len h1')
      rw [← hx] at r1; rw [← hy] at r2
      refine W_seq (W_block ?_)
      refine W_sr rfl (s_mv rfl (s_as rfl (s_nil ?_)))
      refine W_qr (Ext w4) orders rfl (by kernel_rfl) (Ext.drew0) (q_fa E rfl rfl (q_ld E rfl rfl (fun w' h => hra w' (hE4.trans h) 2 _ rfl) (q_mv rfl (q_ia (i := j) E rfl (congrArg (fun z => Value.slice z a.rules.length d) hqa) rfl rfl (by omega) (q_lda (xs := ruC x) E rfl rfl (fun w' h => Ext.row h r1) rfl (q_fa E rfl rfl (q_ld E rfl rfl (fun w' h => hrb w' (hE4.trans h) 2 _ rfl) (q_mv rfl (q_ia (i := j) E rfl (congrArg (fun z => Value.slice z b.rules.length d') hqb) rfl rfl (by omega) (q_lda (xs := ruC y) E rfl rfl (fun w' h => Ext.row h r2) rfl (q_neS (l := ruP2 x y) eqS_ru rfl rfl (q_nil ?_))))))))))))
      intro w5 hE5
      rw [ruP2_eq]
      refine W_if rfl (fun he => ?_) (fun he => W_skip ?_)
      · have he : x ≠ y := by simpa using he
        refine W_sr rfl (s_as rfl (s_nil ?_))
        exact W_ret (no (fun h => he (by subst h; rw [hx, hy]; simp only [hk, hk'])) (hE4.trans hE5) rfl)
      · have he : x = y := by simpa using he
        refine W_reg rfl (s_add rfl rfl (by omega) (s_mv rfl (s_nil ?_)))
        refine ⟨m - (j + 1), by omega, _, j + 1, u4 rfl rfl rfl rfl, by omega, rfl, hE4.trans hE5, fun t ht ht' htj => ?_⟩
        by_cases e : t = j
        · subst e; rw [← hx, ← hy]; exact he
        · exact hs t ht ht' (by omega)
    · have hd := of_decide_eq_false hd
      refine W_sr rfl (s_as rfl (s_nil ?_))
      have hkk : k = k' := List.ext_getElem (by omega) fun t h1 h2 => hs t h1 h2 (by omega)
      have hab : a = b := by
        cases a; cases b
        simp only at h0 hl hl' hk hk'
        rw [h0, ← hl, ← hl', ← hk, ← hk', hll, hkk]
      exact W_ret ⟨_, rfl, by rw [decide_eq_true hab]; rfl, hE2.trans hE4⟩
  refine W_sr rfl (s_fa E rfl rfl (s_ld E rfl rfl (hra _ l2 1 _ rfl) (s_len E rfl rfl (s_mv rfl (s_nil ?_)))))
  refine W_block ?_
  refine W_loop (fun r ρ w' => ∃ ρ' j, ρ = upd (upd (upd (upd ρ' 2 (.pointer (some ⟨ga, 0, none⟩))) 3 (.pointer (some ⟨gb, 0, none⟩))) 32 (iV n)) 33 (iV (j : Nat)) ∧ j ≤ n ∧ r = n - j ∧ Ext w2 w' ∧ ∀ t (h : t < l.length) (h' : t < l'.length), t < j → l[t] = l'[t]) n
    ⟨_, 0, u4 rfl rfl (by rw [hn]; rfl) rfl, by omega, rfl, l2, fun _ _ _ h => by omega⟩ ?_
  rintro r _ w4 ⟨ρ, j, rfl, hj, rfl, hE4, hs⟩
  refine W_sr rfl (s_lss rfl rfl (s_nil ?_))
  refine W_seq ?_
  refine W_if rfl (fun hd => W_skip ?_) (fun hd => W_exit ?_)
  · have hd := of_decide_eq_true hd
    have h1 : j < l.length := by omega
    have h1' : j < l'.length := by omega
    obtain ⟨x, hx⟩ : ∃ x, x = l[j] := ⟨_, rfl⟩
    obtain ⟨y, hy⟩ : ∃ x, x = l'[j] := ⟨_, rfl⟩
    obtain ⟨aa, hqa, hra1⟩ := hap.some (by intro h0; have := flat_length chC 4 chC_len l; rw [h0] at this; simp at this; omega)
    obtain ⟨ab, hqb, hrb1⟩ := hbp.some (by intro h0; have := flat_length chC 4 chC_len l'; rw [h0] at this; simp at this; omega)
    have r1 := Ext.row (hE2.trans hE4) (hra1.at chC_len h1)
    have r2 := Ext.row (hE2.trans hE4) (hrb1.at chC_len h1')
    rw [← hx] at r1; rw [← hy] at r2
    refine W_seq (W_block ?_)
    refine W_sr rfl (s_mv rfl (s_as rfl (s_nil ?_)))
    refine W_qr (Ext w4) orders rfl (by kernel_rfl) (Ext.drew0) (q_fa E rfl rfl (q_ld E rfl rfl (fun w' h => hra w' (hE4.trans h) 1 _ rfl) (q_mv rfl (q_ia (i := j) E rfl (congrArg (fun z => Value.slice z a.chars.length c) hqa) rfl rfl (by omega) (q_lda (xs := chC x) E rfl rfl (fun w' h => Ext.row h r1) rfl (q_fa E rfl rfl (q_ld E rfl rfl (fun w' h => hrb w' (hE4.trans h) 1 _ rfl) (q_mv rfl (q_ia (i := j) E rfl (congrArg (fun z => Value.slice z b.chars.length c') hqb) rfl rfl (by omega) (q_lda (xs := chC y) E rfl rfl (fun w' h => Ext.row h r2) rfl (q_neS (l := chP2 x y) eqS_ch rfl rfl (q_nil ?_))))))))))))
    intro w5 hE5
    rw [chP2_eq]
    refine W_if rfl (fun he => ?_) (fun he => W_skip ?_)
    · have he : x ≠ y := by simpa using he
      refine W_sr rfl (s_as rfl (s_nil ?_))
      exact W_ret (no (fun h => he (by subst h; rw [hx, hy]; simp only [hl, hl'])) (hE4.trans hE5) rfl)
    · have he : x = y := by simpa using he
      refine W_reg rfl (s_add rfl rfl (by omega) (s_mv rfl (s_nil ?_)))
      refine ⟨n - (j + 1), by omega, _, j + 1, u4 rfl rfl rfl rfl, by omega, rfl, hE4.trans hE5, fun t ht ht' htj => ?_⟩
      by_cases e : t = j
      · subst e; rw [← hx, ← hy]; exact he
      · exact hs t ht ht' (by omega)
  · have hd := of_decide_eq_false hd
    exact H _ _ (List.ext_getElem (by omega) fun t h1 h2 => hs t h1 h2 (by omega)) hE4 rfl rfl
end
end Go.Proofs.YthfnijlgmjkedaaGreat
namespace Go.Proofs.YthfnijlgmjkedaaGreat
set_option maxRecDepth 100000
set_option maxHeartbeats 2000000
set_option linter.unusedVariables false
set_option linter.unusedSimpArgs false
open Go Go.Fx Go.Proofs.YthfnijlgmjkedaaGreat.Tab
/-! ## few -/
structure MeD where
  m : Me
  p : Option Addr
  q : Option Addr
  c : Nat
  d : Nat
def MeD.C (x : MeD) : List Value := meC x.m x.p x.q x.c x.d
def fewB (m : Me) : Bool := decide (m.chars.length ≤ 300) && decide (m.rules.length ≤ 600)
section
variable {w : World}
theorem fleuronlaw27_few_c {a : Addr} {n c : Nat} {ms : List MeD} (hn : n = ms.length) (hm : n ≤ 1000) (hp : Row w a (ms.flatMap MeD.C)) :
    Ret Go.Proofs.Tryz.prog 9 #[.slice (some a) n c] w fun v w' => v = .bool (ms.all fun x => fewB x.m) ∧ Ext w w' := by
  refine enter Go.Proofs.Tryz.func9 rfl rfl rfl ?_
  refine W_sr rfl (s_as rfl (s_nil ?_))
  refine W_seq ?_
  refine W_sr rfl (s_mv rfl (s_len E rfl rfl (s_mv rfl (s_nil ?_))))
  refine W_block ?_
  refine W_loop (fun m ρ w' => ∃ ρ' i, ρ = upd (upd (upd ρ' 5 (.slice (some a) n c)) 6 (iV n)) 7 (iV (i : Nat)) ∧ i ≤ n ∧ m = n - i ∧ Ext w w' ∧ ∀ j (h : j < ms.length), j < i → fewB ms[j].m = true) n ⟨_, 0, u3 rfl rfl rfl, by omega, by omega, Mod.refl, fun _ _ h => by omega⟩ ?_
  rintro m _ w1 ⟨ρ, i, rfl, hi, rfl, hE1, ho⟩
  refine W_sr rfl (s_lss rfl rfl (s_nil ?_))
  refine W_seq ?_
  refine W_if rfl (fun hc => W_skip ?_) (fun hc => W_exit ?_)
  · have hc := of_decide_eq_true hc
    have hil : i < ms.length := by omega
    obtain ⟨x, hx⟩ : ∃ x, x = ms[i] := ⟨_, rfl⟩
    have hrr := Ext.row hE1 (hp.at (f := MeD.C) (n := 3) (fun _ => rfl) hil)
    rw [← hx] at hrr
    have hS := Sep.start (w := w1)
    refine W_seq (W_block ?_)
    refine W_sr rfl (s_ia E rfl rfl rfl rfl (by omega) (s_lda (xs := MeD.C x) E rfl rfl hrr rfl (s_alS hS E rfl rfl fun w2 g hS => (s_stS hS 0 E (us := MeD.C x) rfl rfl rfl rfl rfl rfl rfl rfl rfl rfl fun w3 hS => (s_nil ?_)))))
    have hr3 : Row w3 ⟨g, 0, none⟩ (MeD.C x) := hS.row 0 rfl
    have hE3 := hE1.trans hS.ext
    have allF : fewB x.m = false → (ms.all fun x => fewB x.m) = false := fun h => by
      rw [Bool.eq_false_iff]; intro h2
      rw [List.all_eq_true] at h2
      have := h2 x (by rw [hx]; exact List.getElem_mem hil)
      rw [h] at this; cases this
    by_cases h0 : (300 : Int) < (x.m.chars.length : Nat)
    · refine W_sr rfl (s_fa E rfl rfl (s_ld E rfl rfl (hr3 1 _ rfl) (s_len E rfl rfl (s_cmp (c := true) rfl rfl (decide_eq_true h0) (s_mv rfl (s_g0 rfl (s_g0 rfl (s_g0 rfl (s_g0 rfl (s_pk rfl (s_nil ?_)))))))))))
      refine W_if rfl (fun _ => ?_) (fun h => by cases h)
      refine W_sr rfl (s_as rfl (s_nil ?_))
      exact W_ret ⟨_, rfl, by rw [allF (by unfold fewB; rw [decide_eq_false (by omega)]; rfl)]; rfl, hE3⟩
    by_cases h1 : (600 : Int) < (x.m.rules.length : Nat)
    · refine W_sr rfl (s_fa E rfl rfl (s_ld E rfl rfl (hr3 1 _ rfl) (s_len E rfl rfl (s_cmp (c := false) rfl rfl (decide_eq_false h0) (s_mv rfl (s_g1 rfl (s_fa E rfl rfl (s_g1 rfl (s_ld E rfl rfl (hr3 2 _ rfl) (s_g1 rfl (s_len E rfl rfl (s_g1 rfl (s_cmp (c := true) rfl rfl (decide_eq_true h1) (s_pk rfl (s_nil ?_)))))))))))))))
      refine W_if rfl (fun _ => ?_) (fun h => by cases h)
      refine W_sr rfl (s_as rfl (s_nil ?_))
      exact W_ret ⟨_, rfl, by rw [allF (by unfold fewB; rw [decide_eq_false (show ¬ x.m.rules.length ≤ 600 by omega), Bool.and_false])]; rfl, hE3⟩
    · refine W_sr rfl (s_fa E rfl rfl (s_ld E rfl rfl (hr3 1 _ rfl) (s_len E rfl rfl (s_cmp (c := false) rfl rfl (decide_eq_false h0) (s_mv rfl (s_g1 rfl (s_fa E rfl rfl (s_g1 rfl (s_ld E rfl rfl (hr3 2 _ rfl) (s_g1 rfl (s_len E rfl rfl (s_g1 rfl (s_cmp (c := false) rfl rfl (decide_eq_false h1) (s_pk rfl (s_nil ?_)))))))))))))))
      refine W_if rfl (fun h => by cases h) (fun _ => W_skip ?_)
      refine W_reg rfl (s_add rfl rfl (by omega) (s_mv rfl (s_nil ?_)))
      refine ⟨n - (i + 1), by omega, _, i + 1, u3 rfl rfl rfl, by omega, rfl, hE3, fun j h hj => ?_⟩
      by_cases e : j = i
      · subst e; rw [← hx]; unfold fewB; rw [decide_eq_true (by omega), decide_eq_true (by omega)]; rfl
      · exact ho j h (by omega)
  · have hc := of_decide_eq_false hc
    refine W_sr rfl (s_as rfl (s_nil ?_))
    refine W_ret ⟨_, rfl, ?_, hE1⟩
    have : (ms.all fun x => fewB x.m) = true := by
      rw [List.all_eq_true]
      intro x hx
      obtain ⟨i, hi, rfl⟩ := List.getElem_of_mem hx
      exact ho i hi (by omega)
    rw [this]; rfl
/-! ## what awake looks at -/
def wm : Me := ⟨65536, [], []⟩
def wx : Me := ⟨10, [⟨1, 5, -3, 1⟩], [⟨1, 1, 0, -4⟩]⟩
def wb : List Int := [70, 77, 69, 84, 0, 1, 0, 0, 0, 0, 0, 0, 0, 0, 0, 0, 0, 0, 0, 0, 3, 5]
theorem compact_nil : Lib.compact ([] : List Int) = [] := by
  have := (compact_sub []).length_le
  exact List.eq_nil_of_length_eq_zero (by simpa using this)
theorem tabs_wm (j : Nat) : tabs wm j = [] := by
  unfold tabs tabL wm
  simp only [List.map_nil, List.mergeSort_nil, compact_nil]
theorem pack_wm : packM wm = wb := by
  have h : bodyM wm = [70, 77, 69, 84, 0, 1, 0, 0, 0, 0, 0, 0, 0, 0, 0, 0, 0, 0] := by
    unfold bodyM tabsB
    simp only [tabs_wm]
    rfl
  unfold packM
  rw [h]; rfl
theorem valid_wm : validM wm = true := by decide
theorem valid_wx : validM wx = true := by decide
theorem read_wb : readM wb = (wm, false) := by decide +kernel
theorem read_wb0 : readM (wb ++ [0]) = (wm, false) := by decide +kernel
theorem open_wb : openE wb = 0 := by unfold openE; rw [read_wb, pack_wm]; rfl
theorem open_wb0 : openE (wb ++ [0]) = 30 := by unfold openE; rw [read_wb0, pack_wm]; rfl
theorem scale_wx : scaleE wx 5 = 0 ∧ scaleM wx 5 = ⟨5, [⟨1, 3, -1, 1⟩], [⟨1, 1, 0, -2⟩]⟩ := by decide
theorem find_wx : findM wx 1 = (⟨1, 5, -3, 1⟩, 0) ∧ findM wx 2 = (default, 4) ∧ ruleM wx 1 1 = (⟨1, 1, 0, -4⟩, 0) ∧ boxM wx [1, 1] = ((10, -3, 1), 0) := by decide
theorem merge_wx {me : Me} (h : Made wx.size (wx.chars ++ wx.chars) (wx.rules ++ wx.rules) me) : mergeE me = 14 := by
  have h1 := h.pc
  have h2 : me.chars = List.replicate 2 ⟨1, 5, -3, 1⟩ := by
    rw [List.eq_replicate_iff]
    exact ⟨by rw [h1.length_eq]; rfl, fun b hb => by have := h1.mem_iff.1 hb; simpa [wx] using this⟩
  unfold mergeE
  rw [h2]; rfl
theorem of_w {me : Me} (h : Made 10 (([⟨⟨2, 0, 0, 0⟩, none, 0, 0⟩, ⟨⟨1, 0, 0, 0⟩, none, 0, 0⟩] : List Gl).map Gl.ch) [] me) : me = ⟨10, [⟨1, 0, 0, 0⟩, ⟨2, 0, 0, 0⟩], []⟩ ∧ ofE 10 (([⟨⟨2, 0, 0, 0⟩, none, 0, 0⟩, ⟨⟨1, 0, 0, 0⟩, none, 0, 0⟩] : List Gl).map Gl.ch) [] me = 0 := by
  have hr : me.rules = [] := h.pr.eq_nil
  have hl : me.chars.length = 2 := by rw [h.pc.length_eq]; rfl
  have key : me.chars = [⟨1, 0, 0, 0⟩, ⟨2, 0, 0, 0⟩] := by
    have hs := h.sc
    have hp := h.pc
    match hc : me.chars, hl with
    | [a, b], _ =>
      rw [hc] at hs hp
      have ha := hp.mem_iff.1 (List.mem_cons_self (a := a))
      have hb := hp.mem_iff.1 (List.mem_cons_of_mem a (List.mem_cons_self (a := b)))
      have h1 := hp.symm.mem_iff.1 (show (⟨1, 0, 0, 0⟩ : Ch) ∈ _ by simp)
      have h2 := hp.symm.mem_iff.1 (show (⟨2, 0, 0, 0⟩ : Ch) ∈ _ by simp)
      simp only [List.map_cons, List.map_nil, List.mem_cons, List.not_mem_nil, or_false] at ha hb h1 h2
      rcases ha with rfl | rfl <;> rcases hb with rfl | rfl
      · simp at h1
      · exfalso
        have := List.rel_of_pairwise_cons hs (List.mem_cons_self)
        revert this; decide
      · rfl
      · simp at h2
  have e : me = ⟨10, [⟨1, 0, 0, 0⟩, ⟨2, 0, 0, 0⟩], []⟩ := by
    have h1 := h.size
    cases me
    simp only at h1 hr key
    rw [h1, hr, key]
  exact ⟨e, by rw [e]; decide⟩
end
end Go.Proofs.YthfnijlgmjkedaaGreat
namespace Go.Fx
section
variable {P : Program} {n : Nat} {c : Code} {Q : Post} {ρ : Fr} {w : World}
theorem W_n15 (a0 a1 a2 a3 a4 a5 a6 a7 a8 a9 a10 a11 a12 a13 a14 : Nat) (x0 x1 x2 x3 x4 x5 x6 x7 x8 x9 x10 x11 x12 x13 x14 : Value) (h0 : ρ a0 = x0) (h1 : ρ a1 = x1) (h2 : ρ a2 = x2) (h3 : ρ a3 = x3) (h4 : ρ a4 = x4) (h5 : ρ a5 = x5) (h6 : ρ a6 = x6) (h7 : ρ a7 = x7) (h8 : ρ a8 = x8) (h9 : ρ a9 = x9) (h10 : ρ a10 = x10) (h11 : ρ a11 = x11) (h12 : ρ a12 = x12) (h13 : ρ a13 = x13) (h14 : ρ a14 = x14) (h : ∀ ρ, W P n c Q (upd (upd (upd (upd (upd (upd (upd (upd (upd (upd (upd (upd (upd (upd (upd ρ a0 x0) a1 x1) a2 x2) a3 x3) a4 x4) a5 x5) a6 x6) a7 x7) a8 x8) a9 x9) a10 x10) a11 x11) a12 x12) a13 x13) a14 x14) w) : W P n c Q ρ w := by
  have e : ρ = (upd (upd (upd (upd (upd (upd (upd (upd (upd (upd (upd (upd (upd (upd (upd ρ a0 x0) a1 x1) a2 x2) a3 x3) a4 x4) a5 x5) a6 x6) a7 x7) a8 x8) a9 x9) a10 x10) a11 x11) a12 x12) a13 x13) a14 x14) := by
    have e14 := u14 (ρ := ρ) h0 h1 h2 h3 h4 h5 h6 h7 h8 h9 h10 h11 h12 h13
    have e15 : ρ = (upd (upd (upd (upd (upd (upd (upd (upd (upd (upd (upd (upd (upd (upd (upd ρ a0 x0) a1 x1) a2 x2) a3 x3) a4 x4) a5 x5) a6 x6) a7 x7) a8 x8) a9 x9) a10 x10) a11 x11) a12 x12) a13 x13) a14 x14) := by rw [← e14]; exact u1 h14
    exact e15
  rw [e]; exact h _
theorem W_n16 (a0 a1 a2 a3 a4 a5 a6 a7 a8 a9 a10 a11 a12 a13 a14 a15 : Nat) (x0 x1 x2 x3 x4 x5 x6 x7 x8 x9 x10 x11 x12 x13 x14 x15 : Value) (h0 : ρ a0 = x0) (h1 : ρ a1 = x1) (h2 : ρ a2 = x2) (h3 : ρ a3 = x3) (h4 : ρ a4 = x4) (h5 : ρ a5 = x5) (h6 : ρ a6 = x6) (h7 : ρ a7 = x7) (h8 : ρ a8 = x8) (h9 : ρ a9 = x9) (h10 : ρ a10 = x10) (h11 : ρ a11 = x11) (h12 : ρ a12 = x12) (h13 : ρ a13 = x13) (h14 : ρ a14 = x14) (h15 : ρ a15 = x15) (h : ∀ ρ, W P n c Q (upd (upd (upd (upd (upd (upd (upd (upd (upd (upd (upd (upd (upd (upd (upd (upd ρ a0 x0) a1 x1) a2 x2) a3 x3) a4 x4) a5 x5) a6 x6) a7 x7) a8 x8) a9 x9) a10 x10) a11 x11) a12 x12) a13 x13) a14 x14) a15 x15) w) : W P n c Q ρ w := by
  have e : ρ = (upd (upd (upd (upd (upd (upd (upd (upd (upd (upd (upd (upd (upd (upd (upd (upd ρ a0 x0) a1 x1) a2 x2) a3 x3) a4 x4) a5 x5) a6 x6) a7 x7) a8 x8) a9 x9) a10 x10) a11 x11) a12 x12) a13 x13) a14 x14) a15 x15) := by
    have e14 := u14 (ρ := ρ) h0 h1 h2 h3 h4 h5 h6 h7 h8 h9 h10 h11 h12 h13
    have e15 : ρ = (upd (upd (upd (upd (upd (upd (upd (upd (upd (upd (upd (upd (upd (upd (upd ρ a0 x0) a1 x1) a2 x2) a3 x3) a4 x4) a5 x5) a6 x6) a7 x7) a8 x8) a9 x9) a10 x10) a11 x11) a12 x12) a13 x13) a14 x14) := by rw [← e14]; exact u1 h14
    have e16 : ρ = (upd (upd (upd (upd (upd (upd (upd (upd (upd (upd (upd (upd (upd (upd (upd (upd ρ a0 x0) a1 x1) a2 x2) a3 x3) a4 x4) a5 x5) a6 x6) a7 x7) a8 x8) a9 x9) a10 x10) a11 x11) a12 x12) a13 x13) a14 x14) a15 x15) := by rw [← e15]; exact u1 h15
    exact e16
  rw [e]; exact h _
theorem W_n17 (a0 a1 a2 a3 a4 a5 a6 a7 a8 a9 a10 a11 a12 a13 a14 a15 a16 : Nat) (x0 x1 x2 x3 x4 x5 x6 x7 x8 x9 x10 x11 x12 x13 x14 x15 x16 : Value) (h0 : ρ a0 = x0) (h1 : ρ a1 = x1) (h2 : ρ a2 = x2) (h3 : ρ a3 = x3) (h4 : ρ a4 = x4) (h5 : ρ a5 = x5) (h6 : ρ a6 = x6) (h7 : ρ a7 = x7) (h8 : ρ a8 = x8) (h9 : ρ a9 = x9) (h10 : ρ a10 = x10) (h11 : ρ a11 = x11) (h12 : ρ a12 = x12) (h13 : ρ a13 = x13) (h14 : ρ a14 = x14) (h15 : ρ a15 = x15) (h16 : ρ a16 = x16) (h : ∀ ρ, W P n c Q (upd (upd (upd (upd (upd (upd (upd (upd (upd (upd (upd (upd (upd (upd (upd (upd (upd ρ a0 x0) a1 x1) a2 x2) a3 x3) a4 x4) a5 x5) a6 x6) a7 x7) a8 x8) a9 x9) a10 x10) a11 x11) a12 x12) a13 x13) a14 x14) a15 x15) a16 x16) w) : W P n c Q ρ w := by
  have e : ρ = (upd (upd (upd (upd (upd (upd (upd (upd (upd (upd (upd (upd (upd (upd (upd (upd (upd ρ a0 x0) a1 x1) a2 x2) a3 x3) a4 x4) a5 x5) a6 x6) a7 x7) a8 x8) a9 x9) a10 x10) a11 x11) a12 x12) a13 x13) a14 x14) a15 x15) a16 x16) := by
    have e14 := u14 (ρ := ρ) h0 h1 h2 h3 h4 h5 h6 h7 h8 h9 h10 h11 h12 h13
    have e15 : ρ = (upd (upd (upd (upd (upd (upd (upd (upd (upd (upd (upd (upd (upd (upd (upd ρ a0 x0) a1 x1) a2 x2) a3 x3) a4 x4) a5 x5) a6 x6) a7 x7) a8 x8) a9 x9) a10 x10) a11 x11) a12 x12) a13 x13) a14 x14) := by rw [← e14]; exact u1 h14
    have e16 : ρ = (upd (upd (upd (upd (upd (upd (upd (upd (upd (upd (upd (upd (upd (upd (upd (upd ρ a0 x0) a1 x1) a2 x2) a3 x3) a4 x4) a5 x5) a6 x6) a7 x7) a8 x8) a9 x9) a10 x10) a11 x11) a12 x12) a13 x13) a14 x14) a15 x15) := by rw [← e15]; exact u1 h15
    have e17 : ρ = (upd (upd (upd (upd (upd (upd (upd (upd (upd (upd (upd (upd (upd (upd (upd (upd (upd ρ a0 x0) a1 x1) a2 x2) a3 x3) a4 x4) a5 x5) a6 x6) a7 x7) a8 x8) a9 x9) a10 x10) a11 x11) a12 x12) a13 x13) a14 x14) a15 x15) a16 x16) := by rw [← e16]; exact u1 h16
    exact e17
  rw [e]; exact h _
theorem W_n18 (a0 a1 a2 a3 a4 a5 a6 a7 a8 a9 a10 a11 a12 a13 a14 a15 a16 a17 : Nat) (x0 x1 x2 x3 x4 x5 x6 x7 x8 x9 x10 x11 x12 x13 x14 x15 x16 x17 : Value) (h0 : ρ a0 = x0) (h1 : ρ a1 = x1) (h2 : ρ a2 = x2) (h3 : ρ a3 = x3) (h4 : ρ a4 = x4) (h5 : ρ a5 = x5) (h6 : ρ a6 = x6) (h7 : ρ a7 = x7) (h8 : ρ a8 = x8) (h9 : ρ a9 = x9) (h10 : ρ a10 = x10) (h11 : ρ a11 = x11) (h12 : ρ a12 = x12) (h13 : ρ a13 = x13) (h14 : ρ a14 = x14) (h15 : ρ a15 = x15) (h16 : ρ a16 = x16) (h17 : ρ a17 = x17) (h : ∀ ρ, W P n c Q (upd (upd (upd (upd (upd (upd (upd (upd (upd (upd (upd (upd (upd (upd (upd (upd (upd (upd ρ a0 x0) a1 x1) a2 x2) a3 x3) a4 x4) a5 x5) a6 x6) a7 x7) a8 x8) a9 x9) a10 x10) a11 x11) a12 x12) a13 x13) a14 x14) a15 x15) a16 x16) a17 x17) w) : W P n c Q ρ w := by
  have e : ρ = (upd (upd (upd (upd (upd (upd (upd (upd (upd (upd (upd (upd (upd (upd (upd (upd (upd (upd ρ a0 x0) a1 x1) a2 x2) a3 x3) a4 x4) a5 x5) a6 x6) a7 x7) a8 x8) a9 x9) a10 x10) a11 x11) a12 x12) a13 x13) a14 x14) a15 x15) a16 x16) a17 x17) := by
    have e14 := u14 (ρ := ρ) h0 h1 h2 h3 h4 h5 h6 h7 h8 h9 h10 h11 h12 h13
    have e15 : ρ = (upd (upd (upd (upd (upd (upd (upd (upd (upd (upd (upd (upd (upd (upd (upd ρ a0 x0) a1 x1) a2 x2) a3 x3) a4 x4) a5 x5) a6 x6) a7 x7) a8 x8) a9 x9) a10 x10) a11 x11) a12 x12) a13 x13) a14 x14) := by rw [← e14]; exact u1 h14
    have e16 : ρ = (upd (upd (upd (upd (upd (upd (upd (upd (upd (upd (upd (upd (upd (upd (upd (upd ρ a0 x0) a1 x1) a2 x2) a3 x3) a4 x4) a5 x5) a6 x6) a7 x7) a8 x8) a9 x9) a10 x10) a11 x11) a12 x12) a13 x13) a14 x14) a15 x15) := by rw [← e15]; exact u1 h15
    have e17 : ρ = (upd (upd (upd (upd (upd (upd (upd (upd (upd (upd (upd (upd (upd (upd (upd (upd (upd ρ a0 x0) a1 x1) a2 x2) a3 x3) a4 x4) a5 x5) a6 x6) a7 x7) a8 x8) a9 x9) a10 x10) a11 x11) a12 x12) a13 x13) a14 x14) a15 x15) a16 x16) := by rw [← e16]; exact u1 h16
    have e18 : ρ = (upd (upd (upd (upd (upd (upd (upd (upd (upd (upd (upd (upd (upd (upd (upd (upd (upd (upd ρ a0 x0) a1 x1) a2 x2) a3 x3) a4 x4) a5 x5) a6 x6) a7 x7) a8 x8) a9 x9) a10 x10) a11 x11) a12 x12) a13 x13) a14 x14) a15 x15) a16 x16) a17 x17) := by rw [← e17]; exact u1 h17
    exact e18
  rw [e]; exact h _
theorem W_n19 (a0 a1 a2 a3 a4 a5 a6 a7 a8 a9 a10 a11 a12 a13 a14 a15 a16 a17 a18 : Nat) (x0 x1 x2 x3 x4 x5 x6 x7 x8 x9 x10 x11 x12 x13 x14 x15 x16 x17 x18 : Value) (h0 : ρ a0 = x0) (h1 : ρ a1 = x1) (h2 : ρ a2 = x2) (h3 : ρ a3 = x3) (h4 : ρ a4 = x4) (h5 : ρ a5 = x5) (h6 : ρ a6 = x6) (h7 : ρ a7 = x7) (h8 : ρ a8 = x8) (h9 : ρ a9 = x9) (h10 : ρ a10 = x10) (h11 : ρ a11 = x11) (h12 : ρ a12 = x12) (h13 : ρ a13 = x13) (h14 : ρ a14 = x14) (h15 : ρ a15 = x15) (h16 : ρ a16 = x16) (h17 : ρ a17 = x17) (h18 : ρ a18 = x18) (h : ∀ ρ, W P n c Q (upd (upd (upd (upd (upd (upd (upd (upd (upd (upd (upd (upd (upd (upd (upd (upd (upd (upd (upd ρ a0 x0) a1 x1) a2 x2) a3 x3) a4 x4) a5 x5) a6 x6) a7 x7) a8 x8) a9 x9) a10 x10) a11 x11) a12 x12) a13 x13) a14 x14) a15 x15) a16 x16) a17 x17) a18 x18) w) : W P n c Q ρ w := by
  have e : ρ = (upd (upd (upd (upd (upd (upd (upd (upd (upd (upd (upd (upd (upd (upd (upd (upd (upd (upd (upd ρ a0 x0) a1 x1) a2 x2) a3 x3) a4 x4) a5 x5) a6 x6) a7 x7) a8 x8) a9 x9) a10 x10) a11 x11) a12 x12) a13 x13) a14 x14) a15 x15) a16 x16) a17 x17) a18 x18) := by
    have e14 := u14 (ρ := ρ) h0 h1 h2 h3 h4 h5 h6 h7 h8 h9 h10 h11 h12 h13
    have e15 : ρ = (upd (upd (upd (upd (upd (upd (upd (upd (upd (upd (upd (upd (upd (upd (upd ρ a0 x0) a1 x1) a2 x2) a3 x3) a4 x4) a5 x5) a6 x6) a7 x7) a8 x8) a9 x9) a10 x10) a11 x11) a12 x12) a13 x13) a14 x14) := by rw [← e14]; exact u1 h14
    have e16 : ρ = (upd (upd (upd (upd (upd (upd (upd (upd (upd (upd (upd (upd (upd (upd (upd (upd ρ a0 x0) a1 x1) a2 x2) a3 x3) a4 x4) a5 x5) a6 x6) a7 x7) a8 x8) a9 x9) a10 x10) a11 x11) a12 x12) a13 x13) a14 x14) a15 x15) := by rw [← e15]; exact u1 h15
    have e17 : ρ = (upd (upd (upd (upd (upd (upd (upd (upd (upd (upd (upd (upd (upd (upd (upd (upd (upd ρ a0 x0) a1 x1) a2 x2) a3 x3) a4 x4) a5 x5) a6 x6) a7 x7) a8 x8) a9 x9) a10 x10) a11 x11) a12 x12) a13 x13) a14 x14) a15 x15) a16 x16) := by rw [← e16]; exact u1 h16
    have e18 : ρ = (upd (upd (upd (upd (upd (upd (upd (upd (upd (upd (upd (upd (upd (upd (upd (upd (upd (upd ρ a0 x0) a1 x1) a2 x2) a3 x3) a4 x4) a5 x5) a6 x6) a7 x7) a8 x8) a9 x9) a10 x10) a11 x11) a12 x12) a13 x13) a14 x14) a15 x15) a16 x16) a17 x17) := by rw [← e17]; exact u1 h17
    have e19 : ρ = (upd (upd (upd (upd (upd (upd (upd (upd (upd (upd (upd (upd (upd (upd (upd (upd (upd (upd (upd ρ a0 x0) a1 x1) a2 x2) a3 x3) a4 x4) a5 x5) a6 x6) a7 x7) a8 x8) a9 x9) a10 x10) a11 x11) a12 x12) a13 x13) a14 x14) a15 x15) a16 x16) a17 x17) a18 x18) := by rw [← e18]; exact u1 h18
    exact e19
  rw [e]; exact h _
theorem W_n20 (a0 a1 a2 a3 a4 a5 a6 a7 a8 a9 a10 a11 a12 a13 a14 a15 a16 a17 a18 a19 : Nat) (x0 x1 x2 x3 x4 x5 x6 x7 x8 x9 x10 x11 x12 x13 x14 x15 x16 x17 x18 x19 : Value) (h0 : ρ a0 = x0) (h1 : ρ a1 = x1) (h2 : ρ a2 = x2) (h3 : ρ a3 = x3) (h4 : ρ a4 = x4) (h5 : ρ a5 = x5) (h6 : ρ a6 = x6) (h7 : ρ a7 = x7) (h8 : ρ a8 = x8) (h9 : ρ a9 = x9) (h10 : ρ a10 = x10) (h11 : ρ a11 = x11) (h12 : ρ a12 = x12) (h13 : ρ a13 = x13) (h14 : ρ a14 = x14) (h15 : ρ a15 = x15) (h16 : ρ a16 = x16) (h17 : ρ a17 = x17) (h18 : ρ a18 = x18) (h19 : ρ a19 = x19) (h : ∀ ρ, W P n c Q (upd (upd (upd (upd (upd (upd (upd (upd (upd (upd (upd (upd (upd (upd (upd (upd (upd (upd (upd (upd ρ a0 x0) a1 x1) a2 x2) a3 x3) a4 x4) a5 x5) a6 x6) a7 x7) a8 x8) a9 x9) a10 x10) a11 x11) a12 x12) a13 x13) a14 x14) a15 x15) a16 x16) a17 x17) a18 x18) a19 x19) w) : W P n c Q ρ w := by
  have e : ρ = (upd (upd (upd (upd (upd (upd (upd (upd (upd (upd (upd (upd (upd (upd (upd (upd (upd (upd (upd (upd ρ a0 x0) a1 x1) a2 x2) a3 x3) a4 x4) a5 x5) a6 x6) a7 x7) a8 x8) a9 x9) a10 x10) a11 x11) a12 x12) a13 x13) a14 x14) a15 x15) a16 x16) a17 x17) a18 x18) a19 x19) := by
    have e14 := u14 (ρ := ρ) h0 h1 h2 h3 h4 h5 h6 h7 h8 h9 h10 h11 h12 h13
    have e15 : ρ = (upd (upd (upd (upd (upd (upd (upd (upd (upd (upd (upd (upd (upd (upd (upd ρ a0 x0) a1 x1) a2 x2) a3 x3) a4 x4) a5 x5) a6 x6) a7 x7) a8 x8) a9 x9) a10 x10) a11 x11) a12 x12) a13 x13) a14 x14) := by rw [← e14]; exact u1 h14
    have e16 : ρ = (upd (upd (upd (upd (upd (upd (upd (upd (upd (upd (upd (upd (upd (upd (upd (upd ρ a0 x0) a1 x1) a2 x2) a3 x3) a4 x4) a5 x5) a6 x6) a7 x7) a8 x8) a9 x9) a10 x10) a11 x11) a12 x12) a13 x13) a14 x14) a15 x15) := by rw [← e15]; exact u1 h15
    have e17 : ρ = (upd (upd (upd (upd (upd (upd (upd (upd (upd (upd (upd (upd (upd (upd (upd (upd (upd ρ a0 x0) a1 x1) a2 x2) a3 x3) a4 x4) a5 x5) a6 x6) a7 x7) a8 x8) a9 x9) a10 x10) a11 x11) a12 x12) a13 x13) a14 x14) a15 x15) a16 x16) := by rw [← e16]; exact u1 h16
    have e18 : ρ = (upd (upd (upd (upd (upd (upd (upd (upd (upd (upd (upd (upd (upd (upd (upd (upd (upd (upd ρ a0 x0) a1 x1) a2 x2) a3 x3) a4 x4) a5 x5) a6 x6) a7 x7) a8 x8) a9 x9) a10 x10) a11 x11) a12 x12) a13 x13) a14 x14) a15 x15) a16 x16) a17 x17) := by rw [← e17]; exact u1 h17
    have e19 : ρ = (upd (upd (upd (upd (upd (upd (upd (upd (upd (upd (upd (upd (upd (upd (upd (upd (upd (upd (upd ρ a0 x0) a1 x1) a2 x2) a3 x3) a4 x4) a5 x5) a6 x6) a7 x7) a8 x8) a9 x9) a10 x10) a11 x11) a12 x12) a13 x13) a14 x14) a15 x15) a16 x16) a17 x17) a18 x18) := by rw [← e18]; exact u1 h18
    have e20 : ρ = (upd (upd (upd (upd (upd (upd (upd (upd (upd (upd (upd (upd (upd (upd (upd (upd (upd (upd (upd (upd ρ a0 x0) a1 x1) a2 x2) a3 x3) a4 x4) a5 x5) a6 x6) a7 x7) a8 x8) a9 x9) a10 x10) a11 x11) a12 x12) a13 x13) a14 x14) a15 x15) a16 x16) a17 x17) a18 x18) a19 x19) := by rw [← e19]; exact u1 h19
    exact e20
  rw [e]; exact h _
end
end Go.Fx
namespace Go.Fx
open Go.RowKit
set_option linter.unusedVariables false
set_option linter.unusedSimpArgs false
/-! ## arrays of numbers, compared -/
section
variable {P : Program} {L os : List Oper} {K : Fr → World → Prop} {ρ : Fr} {w : World} {d : Option Tmp} {T : TypeId} {pos : String} {af : Array Edge}
theorem run_eqA3 {dd : Nat} {t e : TypeId} {i : TypeInfo} (heq : ∀ a b : Int, (Op.equalIn dd e (.int .i64 a) (.int .i64 b)).run P w = .ok (a == b) w) (hu : P.underlying t = some (.array 3 e)) (he : P.underlying e = some (.int .i64)) (hi : P.info? e = some i) (hz : i.size = 1) (a0 a1 a2 b0 b1 b2 : Int) :
    (Op.equalIn (dd + 1) t (.agg #[.int .i64 a0, .int .i64 a1, .int .i64 a2]) (.agg #[.int .i64 b0, .int .i64 b1, .int .i64 b2])).run P w = .ok (decide (a0 = b0) && (decide (a1 = b1) && decide (a2 = b2))) w := by
  have hag : (isAgg e).run P w = .ok false w := by unfold isAgg; simp [run_under he]
  have hs : (sizeOf e).run P w = .ok 1 w := by simp [sizeOf, typeInfo, hi, hz]
  have hpart : ∀ (xs : Array Value) (k : Nat) (v : Value), xs[k]? = some v → (part e xs k).run P w = .ok v w := fun xs k v h => by simp [part, hag, h]
  simp only [Op.equalIn, Sem.run_bind, run_under hu, Result.andThen_ok, hs, Std.Legacy.Range.forIn_eq_forIn_range', Std.Legacy.Range.size]
  have p0 : (part e #[.int .i64 a0, .int .i64 a1, .int .i64 a2] 0).run P w = .ok (.int .i64 a0) w := hpart _ 0 _ rfl
  have p1 : (part e #[.int .i64 a0, .int .i64 a1, .int .i64 a2] 1).run P w = .ok (.int .i64 a1) w := hpart _ 1 _ rfl
  have p2 : (part e #[.int .i64 a0, .int .i64 a1, .int .i64 a2] 2).run P w = .ok (.int .i64 a2) w := hpart _ 2 _ rfl
  have q0 : (part e #[.int .i64 b0, .int .i64 b1, .int .i64 b2] 0).run P w = .ok (.int .i64 b0) w := hpart _ 0 _ rfl
  have q1 : (part e #[.int .i64 b0, .int .i64 b1, .int .i64 b2] 1).run P w = .ok (.int .i64 b1) w := hpart _ 1 _ rfl
  have q2 : (part e #[.int .i64 b0, .int .i64 b1, .int .i64 b2] 2).run P w = .ok (.int .i64 b2) w := hpart _ 2 _ rfl
  generalize (#[.int .i64 a0, .int .i64 a1, .int .i64 a2] : Array Value) = xs at *
  generalize (#[.int .i64 b0, .int .i64 b1, .int .i64 b2] : Array Value) = ys at *
  have e1 : ∀ a b : Int, (a == b) = decide (a = b) := fun a b => rfl
  by_cases h0 : a0 = b0 <;> by_cases h1 : a1 = b1 <;> by_cases h2 : a2 = b2 <;>
    simp [List.range', p0, p1, p2, q0, q1, q2, heq, h0, h1, h2]
theorem s_eqA3 (E : Env P) {t yt e : TypeId} {x y : Operand} {a0 a1 a2 b0 b1 b2 : Int} {c : Bool} (ht : E.ar t = some (3, e, 1)) (he : E.kd e = some .i64) (hg : P.eqGuardType P.depth t = false) (hx : ev ρ x = .agg #[.int .i64 a0, .int .i64 a1, .int .i64 a2]) (hy : ev ρ y = .agg #[.int .i64 b0, .int .i64 b1, .int .i64 b2])
    (hc : (decide (a0 = b0) && (decide (a1 = b1) && decide (a2 = b2))) = c) (hk : vcs P L K os (put ρ d (.bool c)) w) : vcs P L K (⟨d, .binOp .eql t x y yt, T, pos, af, none⟩ :: os) ρ w := by
  refine s_val ?_ hk
  obtain ⟨hu, i, hi, hz⟩ := E.h_ar _ _ _ _ ht
  have h2 := run_eqA3 (P := P) (w := w) (dd := 9999) (fun a b => run_equalIn_int (P := P) w 9998 e .i64 .i64 a b (E.h_kd _ _ he)) hu (E.h_kd _ _ he) hi hz a0 a1 a2 b0 b1 b2
  have h1 := run_eqGuard_agg (P := P) (w := w) .eql t x y #[.int .i64 a0, .int .i64 a1, .int .i64 a2] #[.int .i64 b0, .int .i64 b1, .int .i64 b2] hg
  rw [hc] at h2
  simp only [execOp, hx, hy, Sem.run_bind, h1, Result.andThen_ok, Sem.run_pure, run_eql_struct, h2]
theorem s_eqsc {t yt : TypeId} {x y : Operand} {a b : ByteArray} {c : Bool} (hx : ev ρ x = .string a) (hy : ev ρ y = .string b) (hc : (a.toList == b.toList) = c) (hk : vcs P L K os (put ρ d (.bool c)) w) : vcs P L K (⟨d, .binOp .eql t x y yt, T, pos, af, none⟩ :: os) ρ w :=
  s_eqs hx hy (by rw [hc]; exact hk)
end
end Go.Fx

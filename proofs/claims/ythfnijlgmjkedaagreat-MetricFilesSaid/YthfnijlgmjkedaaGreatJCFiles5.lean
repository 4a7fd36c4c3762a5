/- fleuronlaw27.MetricFiles returns true for every metric, and the metric reads behind the call as it read before; conditions: none beside the given row's own. Part 5 of 9 of the proof. -/
import Derived.Test.YthfnijlgmjkedaaGreatJCFiles3
import Derived.Test.YthfnijlgmjkedaaGreatJCFiles4
import Derived.Lib.AppendZeros
import Derived.Test.YthfnijlgmjkedaaGreatJCFiles2
namespace Go.Proofs.YthfnijlgmjkedaaGreat
set_option maxRecDepth 100000
set_option linter.unusedVariables false
set_option linter.unusedSimpArgs false
open Go Go.Fx Go.Proofs.YthfnijlgmjkedaaGreat.Tab Go.RowKit
def dimG : Nat → FuncId
  | 0 => 70
  | 1 => 71
  | _ => 72
theorem dim_c (j : Nat) (x : Ch) (w : World) : Ret Go.Proofs.Tryz.prog (dimG j) #[chV x] w fun v w' => v = iV (dimF j x) ∧ Ext w w' := by
  match j with
  | 0 => exact metric_width_c
  | 1 => exact metric_height_c
  | _ + 2 => exact metric_depth_c
def dimC : List Value := [.func (.func (dimG 0)) #[] #[], .func (.func (dimG 1)) #[] #[], .func (.func (dimG 2)) #[] #[]]
theorem dimC_get (j : Nat) (h : j < 3) : dimC[j]? = some (.func (.func (dimG j)) #[] #[]) := by
  match j, h with
  | 0, _ => rfl
  | 1, _ => rfl
  | 2, _ => rfl
def Tn (m : Me) (i : Nat) : Nat → List Int := fun j => if j < i then tabs m j else []
theorem Tn_succ (m : Me) (i : Nat) : Tn m (i + 1) = updF (Tn m i) i (tabs m i) := by
  funext j
  by_cases h : j = i
  · subst h; simp [Tn, updF]
  · by_cases h2 : j < i
    · simp [Tn, updF, h, h2, show j < i + 1 by omega]
    · simp [Tn, updF, h, h2, show ¬ j < i + 1 by omega]
def meC (m : Me) (p q : Option Addr) (c d : Nat) : List Value := [iV m.size, .slice p m.chars.length c, .slice q m.rules.length d]
theorem metric_pack_c {m : Me} {p q : Option Addr} {c d : Nat} {w : World} (hm : MeR w m p q) (hb1 : m.chars.length ≤ 1000) (hb2 : m.rules.length ≤ 1000) :
    Ret Go.Proofs.Tryz.prog 30 #[meV m p q c d] w fun v w' => (∃ pp cc, v = .slice pp (packM m).length cc ∧ (packM m).length ≤ cc ∧ SlR w' pp ((packM m).map bV) ∧ OwnF w' 5 1 v (packM m).length ((packM m).map bV) ∧ ∀ k, v.ownBlock = some k → w.heap.size ≤ k) ∧ Ext w w' := by
  refine enter Go.Proofs.Tryz.func30 rfl rfl rfl ?_
  refine W_sr rfl (s_bxA rfl fun w1 hE1 hh1 hs1 => (s_as rfl (s_nil ?_)))
  refine W_sr rfl (s_bsA E rfl rfl rfl rfl rfl (cells := #[bV 70, bV 77, bV 69, bV 84]) (by kernel_rfl) fun w2 hE2 hh2 hs2 => (s_cvs E rfl rfl rfl fun w3 hmod3 hc3 => (s_bld rfl (cells := #[.slice (some ⟨w1.heap.size, 0, none⟩) 4 4]) (by kernel_rfl) (s_bxA rfl fun w4 hE4 hh4 hs4 => (s_as rfl (s_nil ?_))))))
  have hrow4 : Row w4 ⟨w1.heap.size, 0, none⟩ (magicB.map bV) := Ext.row hE4 (fun i x hx => by rw [hc3]; exact row_heap hh2 i x hx)
  have hs3 := hmod3.size
  have hf4 : FileR w4 (fun k => k = w3.heap.size ∨ k = w1.heap.size) w3.heap.size magicB :=
    ⟨_, _, hh4, .inr ⟨rfl, _, rfl, hrow4⟩, .inl rfl, fun k hk => by cases hk; exact ⟨.inr rfl, by show w1.heap.size ≠ w3.heap.size; omega⟩⟩
  have hbox3 : w3.heap[w.heap.size]? = some (.cells (meC m p q c d).toArray 25 (0, 0)) := hmod3.heap (Ext.heap hE2 hh1) (by show ¬ _ = w1.heap.size; omega)
  refine W_sr rfl (s_mv rfl (s_fa E rfl rfl (s_ld E rfl rfl (Ext.row hE4 (row_heap hbox3) 0 _ rfl) (s_callx rfl rfl (metric_File_Four_c hf4 (by decide)) fun w5 h5 => (s_nil ?_)))))
  obtain ⟨hf5, hmod5⟩ := h5
  refine W_sr rfl (s_alA E rfl fun w6 hE6 hh6 hs6 => (s_nil ?_))
  refine W_sr rfl (s_bsA E rfl rfl rfl rfl rfl (cells := dimC.toArray) (by kernel_rfl) fun w7 hE7 hh7 hs7 => (s_as rfl (s_nil ?_)))
  have hs5 := hmod5.size
  have hs4' := hE4.size
  have hE05 : Ext w w5 := Ext.thenMod (Mod.trans (Ext.thenMod (hE1.trans hE2) hmod3 (fun k hk h => by have h : k = w1.heap.size := h; omega)) hE4) hmod5 (fun k hk h => by rcases h with h | h <;> omega)
  have hbox7 : w7.heap[w.heap.size]? = some (.cells (meC m p q c d).toArray 25 (0, 0)) := Ext.heap hE7 (Ext.heap hE6 (hmod5.heap (Ext.heap hE4 hbox3) (by rintro (h | h) <;> omega)))
  have pk : PK w w7 (fun k => (k = w3.heap.size ∨ k = w1.heap.size) ∨ w4.heap.size ≤ k ∧ k < w5.heap.size) w3.heap.size w5.heap.size [(⟨w.heap.size, 0, none⟩, meC m p q c d), (⟨w6.heap.size, 0, none⟩, dimC)] (headB m ++ tabsB m 0) (Tn m 0) (fun _ => .slice none 0 0) := by
    refine ⟨hE05.trans (hE6.trans hE7), ?_, ?_, ?_, ⟨_, Ext.heap hE7 hh6⟩, fun j hj => ⟨?_, by simp [Value.ownBlock]⟩, ⟨by rintro ((h | h) | h) <;> omega, by omega⟩, ?_⟩
    · rw [show tabsB m 0 = [] from rfl, List.append_nil]
      exact hf5.mod (hE6.trans hE7) (fun _ _ h => h)
    · rintro k ((h | h) | h) <;> omega
    · rintro k ((h | h) | h) <;> omega
    · simp only [Tn, Nat.not_lt_zero, if_false]; exact Own.nil _ _ _
    · intro x hx
      simp only [List.mem_cons, List.not_mem_nil, or_false] at hx
      rcases hx with rfl | rfl
      · exact ⟨row_heap hbox7, by rintro ((h | h) | h) <;> simp only at h <;> omega, by show _ ≠ _; simp only; omega, by simp only; omega⟩
      · exact ⟨row_heap hh7, by rintro ((h | h) | h) <;> simp only at h <;> omega, by show _ ≠ _; simp only; omega, by simp only; omega⟩
  generalize (fun k => (k = w3.heap.size ∨ k = w1.heap.size) ∨ w4.heap.size ≤ k ∧ k < w5.heap.size) = S at pk
  generalize hKR : [((⟨w.heap.size, 0, none⟩ : Addr), meC m p q c d), (⟨w6.heap.size, 0, none⟩, dimC)] = KR at pk
  generalize w3.heap.size = A at pk ⊢
  generalize w5.heap.size = B at pk ⊢
  generalize w6.heap.size = DB at hKR ⊢
  generalize hMB : w.heap.size = MB at hKR ⊢
  have kM : (⟨MB, 0, none⟩, meC m p q c d) ∈ KR := by rw [← hKR]; simp
  have kD : (⟨DB, 0, none⟩, dimC) ∈ KR := by rw [← hKR]; simp
  refine W_n4 1 3 4 5 (.pointer (some ⟨MB, 0, none⟩)) (.pointer (some ⟨A, 0, none⟩)) (.pointer (some ⟨B, 0, none⟩)) (.slice (some ⟨DB, 0, none⟩) 3 3) rfl rfl rfl rfl fun ρ => ?_
  clear hKR hh1 hh2 hh4 hrow4 hf4 hbox3 hf5 hmod5 hh6 hh7 hbox7 hmod3 hc3 hE1 hE2 hE4 hE6 hE7 hE05 hs1 hs2 hs3 hs4 hs4' hs5 hs6 hs7
  have hhd : (headB m).length = 8 := rfl
  refine W_seq ?_
  refine W_sr rfl (s_mv rfl (s_len E rfl rfl (s_mv rfl (s_nil ?_))))
  refine W_block ?_
  refine W_loop (fun n ρ w' => ∃ ρ' i S vs, ρ = upd (upd (upd (upd (upd (upd (upd ρ' 1 (.pointer (some ⟨MB, 0, none⟩))) 3 (.pointer (some ⟨A, 0, none⟩))) 4 (.pointer (some ⟨B, 0, none⟩))) 5 (.slice (some ⟨DB, 0, none⟩) 3 3)) 27 (.slice (some ⟨DB, 0, none⟩) 3 3)) 28 (iV 3)) 29 (iV (i : Nat)) ∧
      PK w w' S A B KR (headB m ++ tabsB m i) (Tn m i) vs ∧ i ≤ 3 ∧ n = 3 - i) 3 ⟨_, 0, S, _, u7 rfl rfl rfl rfl rfl rfl rfl, pk, by omega, rfl⟩ ?_
  clear pk
  rintro n _ wa ⟨ρ, i, S, vs, rfl, pk, hi, rfl⟩
  refine W_sr rfl (s_lss rfl rfl (s_nil ?_))
  refine W_seq ?_
  refine W_if rfl (fun hc => W_skip ?_) (fun hc => W_exit ?_)
  · have hc := of_decide_eq_true hc
    have hi3 : i < 3 := by omega
    have htl := tabsB_len m i hb1
    refine W_seq (W_block ?_)
    refine W_sr rfl (s_mv rfl (s_ia E rfl rfl rfl rfl (by omega) (s_ld E rfl rfl (by rw [Nat.mul_one]; exact (pk.kept _ kD).1 i _ (dimC_get i hi3)) (s_as rfl (s_as rfl (s_nil ?_))))))
    have hcall := metric_table_c (p := p) (q := q) (c := c) (d := d) (hm.ext pk.ext) hb1 (dim_c i)
    refine W_sr rfl (s_mv rfl (s_lda E rfl rfl (pk.kept _ kM).1 rfl (s_mv rfl (s_call rfl rfl hcall ?_))))
    rintro v wb ⟨ho, hfr, hEb⟩
    obtain ⟨pt, ct, rfl, _, _, _⟩ := ho.form
    have pkb := pk.step hEb
    obtain ⟨ty, htb⟩ := pkb.tab
    have htbs := pk.hS2
    have pkc := pkb.store hi3 ho (fun k hk => ⟨fun hs => by have := htbs k hs; have := hfr k hk; omega, fun he => by have := hfr k hk; have := (Array.getElem?_eq_some_iff.1 pk.tab.choose_spec).1; omega, Nat.le_trans pk.ext.size (hfr k hk)⟩)
    refine (s_iaA E rfl rfl rfl rfl hi3 (s_st1 (v := .slice pt (tabL (dimF i) m.chars).length ct) E rfl rfl (by rw [ad0, Nat.mul_one]) rfl rfl htb hi3 (s_nil ?_)))
    have hvi : updF vs i (Value.slice pt (tabL (dimF i) m.chars).length ct) i = .slice pt (tabs m i).length ct := if_pos rfl
    have hti : updF (Tn m i) i (tabL (dimF i) m.chars) i = tabs m i := if_pos rfl
    generalize hvs : updF vs i (Value.slice pt (tabL (dimF i) m.chars).length ct) = vs2 at pkc hvi
    generalize hts : updF (Tn m i) i (tabL (dimF i) m.chars) = T2 at pkc hti
    have hlen1 : (headB m ++ tabsB m i).length ≤ 1000000 := by rw [List.length_append]; omega
    have htl1 := tabs_len m i
    refine W_sr rfl (s_mv rfl (s_mv rfl (s_iaA E rfl rfl rfl rfl hi3 (s_ld E rfl rfl (by rw [pkc.tcell hi3, hvi]) (s_len E rfl rfl (s_callx rfl rfl (metric_File_Two_c pkc.file hlen1) fun wd hd => (s_nil ?_)))))))
    have pkd := pkc.write hd.1 hd.2
    clear hd pkc pkb hcall hEb ho hfr htb
    refine W_sr rfl (s_mv rfl (s_iaA E rfl rfl rfl rfl hi3 (s_ld E rfl rfl (by rw [pkd.tcell hi3, hvi]) (s_len E rfl rfl (s_mv rfl (s_nil ?_))))))
    refine W_block ?_
    refine W_loop (fun n ρ w' => ∃ ρ' k S, ρ = upd (upd (upd (upd (upd (upd (upd (upd (upd (upd ρ' 1 (.pointer (some ⟨MB, 0, none⟩))) 3 (.pointer (some ⟨A, 0, none⟩))) 4 (.pointer (some ⟨B, 0, none⟩))) 5 (.slice (some ⟨DB, 0, none⟩) 3 3)) 27 (.slice (some ⟨DB, 0, none⟩) 3 3)) 28 (iV 3)) 29 (iV (i : Nat))) 47 (.slice pt (tabs m i).length ct)) 48 (iV (tabs m i).length)) 49 (iV (k : Nat)) ∧
        PK w w' S A B KR (headB m ++ tabsB m i ++ bytes2 (tabs m i).length ++ ((tabs m i).take k).flatMap bytes4) T2 vs2 ∧ k ≤ (tabs m i).length ∧ n = (tabs m i).length - k) (tabs m i).length
      ⟨_, 0, _, u10 rfl rfl rfl rfl rfl rfl rfl rfl rfl rfl, by simpa using pkd, by omega, by omega⟩ ?_
    clear pkd
    rintro n _ we ⟨ρ, k, S, rfl, pk, hk, rfl⟩
    refine W_sr rfl (s_lss rfl rfl (s_nil ?_))
    refine W_seq ?_
    refine W_if rfl (fun hd => W_skip ?_) (fun hd => W_exit ?_)
    · have hd := of_decide_eq_true hd
      have hkl : k < (tabs m i).length := by omega
      have hot := (pk.own i hi3).1
      rw [hvi, hti] at hot
      obtain ⟨a, rfl, hcell⟩ := sl_map (Own.slr hot) hkl
      have hfl := flat_len_le bytes4 4 (fun _ => by simp [bytes4]) ((tabs m i).take k)
      rw [List.length_take] at hfl
      have hlen2 : (headB m ++ tabsB m i ++ bytes2 (tabs m i).length ++ ((tabs m i).take k).flatMap bytes4).length ≤ 1000000 := by
        rw [List.length_append, List.length_append]
        have : (bytes2 ((tabs m i).length : Int)).length = 2 := rfl
        rw [List.length_append] at hlen1 ⊢
        omega
      refine W_seq (W_block ?_)
      refine W_sr rfl (s_ia E rfl rfl rfl rfl hkl (s_ld E rfl rfl hcell (s_as rfl (s_nil ?_))))
      refine W_reg rfl (s_mv rfl (s_mv rfl (s_callx rfl rfl (metric_File_Four_c pk.file hlen2) fun wf hf => (s_nil ?_))))
      refine W_reg rfl (s_add rfl rfl (by omega) (s_mv rfl (s_nil ?_)))
      have pk' := pk.write hf.1 hf.2
      rw [List.append_assoc _ _ (bytes4 _), ← flat_take bytes4 _ _ hkl] at pk'
      exact ⟨(tabs m i).length - (k + 1), by omega, _, k + 1, _, u10 rfl rfl rfl rfl rfl rfl rfl rfl rfl rfl, pk', by omega, rfl⟩
    · have hd := of_decide_eq_false hd
      have hke : k = (tabs m i).length := by omega
      subst hke
      rw [List.take_length] at pk
      refine W_reg rfl (s_add rfl rfl (by omega) (s_mv rfl (s_nil ?_)))
      refine ⟨3 - (i + 1), by omega, _, i + 1, S, vs2, u7 rfl rfl rfl rfl rfl rfl rfl, ?_, by omega, rfl⟩
      rw [Tn_succ]
      have e : headB m ++ tabsB m (i + 1) = headB m ++ tabsB m i ++ bytes2 (tabs m i).length ++ (tabs m i).flatMap bytes4 := by
        unfold tabsB
        rw [range_flat]
        simp only [tabBytes, List.append_assoc]
      rw [e]
      rw [← hts] at pk
      exact pk
  · have hc := of_decide_eq_false hc
    have hi3 : i = 3 := by omega
    subst hi3
    have hl3 := tabsB_len m 3 hb1
    have hlen3 : (headB m ++ tabsB m 3).length ≤ 1000000 := by rw [List.length_append]; omega
    refine W_sr rfl (s_mv rfl (s_fa E rfl rfl (s_ld E rfl rfl ((pk.kept _ kM).1 1 _ rfl) (s_len E rfl rfl (s_callx rfl rfl (metric_File_Two_c pk.file hlen3) fun wb hb => (s_nil ?_))))))
    have pkb := pk.write hb.1 hb.2
    clear pk hb
    have hpre : (headB m ++ tabsB m 3 ++ bytes2 m.chars.length).length ≤ 13000 := by
      rw [List.length_append, List.length_append]
      have : (bytes2 (m.chars.length : Int)).length = 2 := rfl
      omega
    generalize hpr : headB m ++ tabsB m 3 ++ bytes2 m.chars.length = pre at pkb hpre
    refine W_seq ?_
    refine W_sr rfl (s_fa E rfl rfl (s_ld E rfl rfl ((pkb.kept _ kM).1 1 _ rfl) (s_len E rfl rfl (s_mv rfl (s_nil ?_)))))
    refine W_block ?_
    refine W_loop (fun n ρ w' => ∃ ρ' i S, ρ = upd (upd (upd (upd (upd (upd (upd ρ' 1 (.pointer (some ⟨MB, 0, none⟩))) 3 (.pointer (some ⟨A, 0, none⟩))) 4 (.pointer (some ⟨B, 0, none⟩))) 5 (.slice (some ⟨DB, 0, none⟩) 3 3)) 64 (.slice p m.chars.length c)) 65 (iV m.chars.length)) 66 (iV (i : Nat)) ∧
        PK w w' S A B KR (pre ++ (m.chars.take i).flatMap (chBytes m)) (Tn m 3) vs ∧ i ≤ m.chars.length ∧ n = m.chars.length - i) m.chars.length
      ⟨_, 0, _, u7 rfl rfl rfl rfl rfl rfl rfl, by simpa using pkb, by omega, by omega⟩ ?_
    clear pkb
    rintro n _ wc ⟨ρ, i, S, rfl, pk, hi, rfl⟩
    refine W_sr rfl (s_lss rfl rfl (s_nil ?_))
    refine W_seq ?_
    refine W_if rfl (fun hd => W_skip ?_) (fun hd => W_exit ?_)
    · have hd := of_decide_eq_true hd
      have hil : i < m.chars.length := by omega
      have hfl := flat_len_le (chBytes m) 7 (chBytes_len m) (m.chars.take i)
      rw [List.length_take] at hfl
      have hlen4 : (pre ++ (m.chars.take i).flatMap (chBytes m)).length ≤ 900000 := by rw [List.length_append]; omega
      obtain ⟨a, rfl, hrow⟩ := hm.ch.some (by intro h0; have := flat_length chC 4 chC_len m.chars; rw [h0] at this; simp at this; omega)
      refine W_seq (W_block ?_)
      refine W_sr rfl (s_ia E rfl rfl rfl rfl hil (s_lda E rfl rfl (Ext.row pk.ext (hrow.at chC_len hil)) rfl (s_alst E rfl rfl rfl rfl rfl fun wd hEd hsd hhd => (s_nil ?_))))
      have pkd := (pk.step hEd).add (p := ⟨wc.heap.size, 0, none⟩) (xs := chC m.chars[i]) (row_heap hhd) (fun h => by have := pk.hS2 _ h; simp only at this; omega) (by have := (Array.getElem?_eq_some_iff.1 pk.tab.choose_spec).1; show wc.heap.size ≠ B; omega) (by show wc.heap.size < _; omega)
      clear pk
      generalize wc.heap.size = CB at pkd ⊢
      have kC : ((⟨CB, 0, none⟩, chC m.chars[i]) : Addr × List Value) ∈ (⟨CB, 0, none⟩, chC m.chars[i]) :: KR := by simp
      refine W_sr rfl (s_mv rfl (s_fa E rfl rfl (s_ld E rfl rfl ((pkd.kept _ kC).1 0 _ rfl) (s_callx rfl rfl (metric_File_One_c pkd.file (by omega)) fun we he => (s_nil ?_)))))
      have pke := pkd.write he.1 he.2
      clear pkd he
      refine W_sr rfl (s_mv rfl (s_len E rfl rfl (s_mv rfl (s_nil ?_))))
      refine W_block ?_
      refine W_loop (fun n ρ w' => ∃ ρ' k S, ρ = upd (upd (upd (upd (upd (upd (upd (upd (upd (upd (upd ρ' 1 (.pointer (some ⟨MB, 0, none⟩))) 3 (.pointer (some ⟨A, 0, none⟩))) 4 (.pointer (some ⟨B, 0, none⟩))) 5 (.slice (some ⟨DB, 0, none⟩) 3 3)) 64 (.slice (some a) m.chars.length c)) 65 (iV m.chars.length)) 66 (iV (i : Nat))) 11 (.pointer (some ⟨CB, 0, none⟩))) 74 (.slice (some ⟨DB, 0, none⟩) 3 3)) 75 (iV 3)) 76 (iV (k : Nat)) ∧
          PK w w' S A B ((⟨CB, 0, none⟩, chC m.chars[i]) :: KR) (pre ++ (m.chars.take i).flatMap (chBytes m) ++ [m.chars[i].code % 256] ++ (List.range k).flatMap (dimB m m.chars[i])) (Tn m 3) vs ∧ k ≤ 3 ∧ n = 3 - k) 3
        ⟨_, 0, _, u11 rfl rfl rfl rfl rfl rfl rfl rfl rfl rfl rfl, by simpa using pke, by omega, by omega⟩ ?_
      clear pke
      rintro n _ wf ⟨ρ, k, S, rfl, pk, hk, rfl⟩
      refine W_sr rfl (s_lss rfl rfl (s_nil ?_))
      refine W_seq ?_
      refine W_if rfl (fun he => W_skip ?_) (fun he => W_exit ?_)
      · have he := of_decide_eq_true he
        have hk3 : k < 3 := by omega
        have hot := (pk.own k hk3).1
        have hTk : Tn m 3 k = tabs m k := if_pos hk3
        rw [hTk] at hot
        have htk := tabs_len m k
        have hfl2 := flat_len_le (dimB m m.chars[i]) 2 (fun j => by simp [dimB, bytes2]) (List.range k)
        rw [List.length_range] at hfl2
        have hlen5 : (pre ++ (m.chars.take i).flatMap (chBytes m) ++ [m.chars[i].code % 256] ++ (List.range k).flatMap (dimB m m.chars[i])).length ≤ 1000000 := by
          rw [List.length_append, List.length_append, List.length_singleton]; omega
        refine W_seq (W_block ?_)
        refine W_sr rfl (s_mv rfl (s_ia E rfl rfl rfl rfl hk3 (s_ld E rfl rfl (by rw [Nat.mul_one]; exact (pk.kept _ (List.mem_cons_of_mem _ kD)).1 k _ (dimC_get k hk3)) (s_as rfl (s_as rfl (s_nil ?_))))))
        refine W_dr (Ext wf) [] orders (D_pure 0 rfl rfl (by kernel_rfl) rfl (fun _ => r_mv rfl) (fun _ => Ext.drew0) (D_pure 1 rfl rfl (by kernel_rfl) rfl (fun _ => r_iaA E rfl rfl rfl rfl hk3) (fun _ => Ext.drew0) (D_take 2 rfl rfl (by kernel_rfl) rfl (fun _ hs => r_ld E rfl rfl (Ext.cell hs (pk.tcell hk3))) Ext.drew0 (D_pure 3 rfl rfl (by kernel_rfl) rfl (fun _ => r_mv rfl) (fun _ => Ext.drew0) (D_take 4 rfl rfl (by kernel_rfl) rfl (fun _ hs => r_lda E rfl rfl (Ext.row hs (pk.kept _ kC).1) rfl) Ext.drew0 (D_one 5 rfl (by kernel_rfl) rfl (s_callx rfl rfl (dim_c k m.chars[i] _) fun wg hg => (s_nil ⟨(Ext.drew0.trans hg), (D_one 6 rfl (by kernel_rfl) rfl (s_callx rfl rfl (slices_BinarySearch_int_c (Ext.owns (Ext.drew0.trans hg) hot) rfl (by omega) (tabs_sorted m k)) fun wh hh => (s_nil ⟨(Ext.drew0.trans (hg.trans hh)), (D_pure 7 rfl rfl (by kernel_rfl) rfl (fun _ => r_mv rfl) (fun _ => (Ext.drew0.trans (hg.trans hh))) (D_pure 8 rfl rfl (by kernel_rfl) rfl (fun _ => r_ex rfl rfl) (fun _ => (Ext.drew0.trans (hg.trans hh))) (D_pure 9 rfl rfl (by kernel_rfl) rfl (fun _ => r_ex rfl rfl) (fun _ => (Ext.drew0.trans (hg.trans hh))) (D_one 10 rfl (by kernel_rfl) rfl (s_as rfl (s_nil ⟨(Ext.drew0.trans (hg.trans hh)), (D_one 11 rfl (by kernel_rfl) rfl (s_as rfl (s_nil ⟨(Ext.drew0.trans (hg.trans hh)), (D_done (by kernel_rfl) ?_)⟩)))⟩))))))⟩)))⟩))))))))
        have pkh := pk.step (Ext.drew0.trans (hg.trans hh))
        refine W_reg rfl (s_mv rfl (s_mv rfl (s_callx rfl rfl (metric_File_Two_c pkh.file hlen5) fun wi hi' => (s_nil ?_))))
        have pki := pkh.write hi'.1 hi'.2
        refine W_reg rfl (s_add rfl rfl (by omega) (s_mv rfl (s_nil ?_)))
        rw [List.append_assoc _ _ (bytes2 _), show (List.range k).flatMap (dimB m m.chars[i]) ++ bytes2 (idxT (tabs m k) (dimF k m.chars[i])) = (List.range (k + 1)).flatMap (dimB m m.chars[i]) from (range_flat _ k).symm] at pki
        exact ⟨3 - (k + 1), by omega, _, k + 1, _, u11 rfl rfl rfl rfl rfl rfl rfl rfl rfl rfl rfl, pki, by omega, rfl⟩
      · have he := of_decide_eq_false he
        have hk3 : k = 3 := by omega
        subst hk3
        have pk' := pk.drop
        rw [List.append_assoc _ [_], List.append_assoc, show [m.chars[i].code % 256] ++ (List.range 3).flatMap (dimB m m.chars[i]) = chBytes m m.chars[i] from rfl, ← flat_take (chBytes m) _ _ hil] at pk'
        refine W_reg rfl (s_add rfl rfl (by omega) (s_mv rfl (s_nil ?_)))
        exact ⟨m.chars.length - (i + 1), by omega, _, i + 1, _, u7 rfl rfl rfl rfl rfl rfl rfl, pk', by omega, rfl⟩
    · have hd := of_decide_eq_false hd
      have hie : i = m.chars.length := by omega
      subst hie
      rw [List.take_length] at pk
      have hfl := flat_len_le (chBytes m) 7 (chBytes_len m) m.chars
      have hlen4 : (pre ++ m.chars.flatMap (chBytes m)).length ≤ 900000 := by rw [List.length_append]; omega
      refine W_sr rfl (s_mv rfl (s_fa E rfl rfl (s_ld E rfl rfl ((pk.kept _ kM).1 2 _ rfl) (s_len E rfl rfl (s_callx rfl rfl (metric_File_Two_c pk.file (by omega)) fun wd hd => (s_nil ?_))))))
      have pkd := pk.write hd.1 hd.2
      clear pk hd
      have hpre2 : (pre ++ m.chars.flatMap (chBytes m) ++ bytes2 m.rules.length).length ≤ 900010 := by
        rw [List.length_append]
        have : (bytes2 (m.rules.length : Int)).length = 2 := rfl
        omega
      generalize hpr2 : pre ++ m.chars.flatMap (chBytes m) ++ bytes2 m.rules.length = pre2 at pkd hpre2
      refine W_seq ?_
      refine W_sr rfl (s_fa E rfl rfl (s_ld E rfl rfl ((pkd.kept _ kM).1 2 _ rfl) (s_len E rfl rfl (s_mv rfl (s_nil ?_)))))
      refine W_block ?_
      refine W_loop (fun n ρ w' => ∃ ρ' i S, ρ = upd (upd (upd (upd ρ' 3 (.pointer (some ⟨A, 0, none⟩))) 102 (.slice q m.rules.length d)) 103 (iV m.rules.length)) 104 (iV (i : Nat)) ∧
          PK w w' S A B KR (pre2 ++ (m.rules.take i).flatMap ruBytes) (Tn m 3) vs ∧ i ≤ m.rules.length ∧ n = m.rules.length - i) m.rules.length
        ⟨_, 0, _, u4 rfl rfl rfl rfl, by simpa using pkd, by omega, by omega⟩ ?_
      clear pkd
      rintro n _ wc ⟨ρ, i, S, rfl, pk, hi, rfl⟩
      refine W_sr rfl (s_lss rfl rfl (s_nil ?_))
      refine W_seq ?_
      refine W_if rfl (fun hd => W_skip ?_) (fun hd => W_exit ?_)
      · have hd := of_decide_eq_true hd
        have hil : i < m.rules.length := by omega
        have hfl := flat_len_le ruBytes 7 ruBytes_len (m.rules.take i)
        rw [List.length_take] at hfl
        have hlen6 : (pre2 ++ (m.rules.take i).flatMap ruBytes).length ≤ 990000 := by rw [List.length_append]; omega
        obtain ⟨a, rfl, hrow⟩ := hm.ru.some (by intro h0; have := flat_length ruC 4 ruC_len m.rules; rw [h0] at this; simp at this; omega)
        refine W_seq (W_block ?_)
        refine W_sr rfl (s_ia E rfl rfl rfl rfl hil (s_lda E rfl rfl (Ext.row pk.ext (hrow.at ruC_len hil)) rfl (s_alst E rfl rfl rfl rfl rfl fun wd hEd hsd hhd => (s_nil ?_))))
        have pkd := (pk.step hEd).add (p := ⟨wc.heap.size, 0, none⟩) (xs := ruC m.rules[i]) (row_heap hhd) (fun h => by have := pk.hS2 _ h; simp only at this; omega) (by have := (Array.getElem?_eq_some_iff.1 pk.tab.choose_spec).1; show wc.heap.size ≠ B; omega) (by show wc.heap.size < _; omega)
        clear pk
        generalize wc.heap.size = CB at pkd ⊢
        have kC : ((⟨CB, 0, none⟩, ruC m.rules[i]) : Addr × List Value) ∈ (⟨CB, 0, none⟩, ruC m.rules[i]) :: KR := by simp
        refine W_sr rfl (s_mv rfl (s_fa E rfl rfl (s_ld E rfl rfl ((pkd.kept _ kC).1 0 _ rfl) (s_callx rfl rfl (metric_File_One_c pkd.file (by omega)) fun we he => (s_nil ?_)))))
        have pke := pkd.write he.1 he.2
        clear pkd he
        refine W_sr rfl (s_mv rfl (s_fa E rfl rfl (s_ld E rfl rfl ((pke.kept _ kC).1 1 _ rfl) (s_callx rfl rfl (metric_File_One_c pke.file (by rw [List.length_append, List.length_singleton]; omega)) fun wf hf => (s_nil ?_)))))
        have pkf := pke.write hf.1 hf.2
        clear pke hf
        refine W_sr rfl (s_mv rfl (s_fa E rfl rfl (s_ld E rfl rfl ((pkf.kept _ kC).1 2 _ rfl) (s_callx rfl rfl (metric_File_One_c pkf.file (by rw [List.length_append, List.length_append, List.length_singleton, List.length_singleton]; omega)) fun wg hg => (s_nil ?_)))))
        have pkg := pkf.write hg.1 hg.2
        clear pkf hg
        refine W_reg rfl (s_mv rfl (s_fa E rfl rfl (s_ld E rfl rfl ((pkg.kept _ kC).1 3 _ rfl) (s_callx rfl rfl (metric_File_Four_c pkg.file (by rw [List.length_append, List.length_append, List.length_append, List.length_singleton, List.length_singleton, List.length_singleton]; omega)) fun wh hh => (s_nil ?_)))))
        have pkh := (pkg.write hh.1 hh.2).drop
        clear pkg hh
        have e : pre2 ++ (m.rules.take i).flatMap ruBytes ++ [m.rules[i].first % 256] ++ [m.rules[i].next % 256] ++ [m.rules[i].op % 256] ++ bytes4 m.rules[i].value = pre2 ++ (m.rules.take (i + 1)).flatMap ruBytes := by
          rw [flat_take ruBytes _ _ hil]; simp only [ruBytes, List.append_assoc]
        rw [e] at pkh
        refine W_reg rfl (s_add rfl rfl (by omega) (s_mv rfl (s_nil ?_)))
        exact ⟨m.rules.length - (i + 1), by omega, _, i + 1, _, u4 rfl rfl rfl rfl, pkh, by omega, rfl⟩
      · have hd := of_decide_eq_false hd
        have hie : i = m.rules.length := by omega
        subst hie
        rw [List.take_length] at pk
        have hfl := flat_len_le ruBytes 7 ruBytes_len m.rules
        have hlen6 : (pre2 ++ m.rules.flatMap ruBytes).length ≤ 990000 := by rw [List.length_append]; omega
        have e : pre2 ++ m.rules.flatMap ruBytes = bodyM m := by rw [← hpr2, ← hpr]; rfl
        rw [e] at pk hlen6
        refine W_sr rfl (s_mv rfl (s_call rfl rfl (metric_File_Finish_c pk.file (by omega)) ?_))
        rintro v wz ⟨⟨pp, cc, rfl, hle, hsl, hof, hfr⟩, hmod⟩
        refine (s_as rfl (s_nil ?_))
        have hpl : (packM m).length = (bodyM m).length + 4 := by simp [packM, bytes4]
        rw [← hpl] at hle hof hfr ⊢
        exact W_ret ⟨_, rfl, ⟨pp, cc, rfl, hle, hsl, hof, fun k hk => by rw [← hMB]; rcases hfr k hk with h | h; exact pk.hS k h; have := pk.ext.size; omega⟩, Ext.thenMod pk.ext hmod (fun k hk h => by have := pk.hS k h; omega)⟩
end Go.Proofs.YthfnijlgmjkedaaGreat
namespace Go.Proofs.YthfnijlgmjkedaaGreat
set_option maxRecDepth 100000
set_option maxHeartbeats 1000000
set_option linter.unusedVariables false
set_option linter.unusedSimpArgs false
open Go Go.Fx Go.Proofs.YthfnijlgmjkedaaGreat.Tab
def twiceB {α : Type} (cmp : α → α → Int) : List α → Bool
  | [] => false
  | [_] => false
  | a :: b :: l => decide (cmp a b = 0) || twiceB cmp (b :: l)
theorem twiceB_iff {α : Type} (cmp : α → α → Int) (l : List α) : twiceB cmp l = true ↔ ∃ i, ∃ h : i + 1 < l.length, cmp l[i] l[i+1] = 0 := by
  induction l with
  | nil => simp [twiceB]
  | cons a l ih => cases l with
    | nil => simp [twiceB]
    | cons b l =>
      simp only [twiceB, Bool.or_eq_true, decide_eq_true_eq, ih]
      constructor
      · rintro (h | ⟨i, h, k⟩)
        · exact ⟨0, by simp, h⟩
        · exact ⟨i + 1, by simpa using h, k⟩
      · rintro ⟨i, h, k⟩
        cases i with
        | zero => exact .inl k
        | succ i => exact .inr ⟨i, by simpa using h, k⟩
/-- where x stands, or would stand, in a sorted list -/
def posL {α : Type} (cmp : α → α → Int) (l : List α) (x : α) : Nat := l.countP fun y => decide (cmp y x < 0)
theorem posL_eq {α : Type} {cmp : α → α → Int} {l : List α} {x : α} {i : Nat} (hi : i ≤ l.length) (h1 : ∀ p (h : p < l.length), p < i → cmp l[p] x < 0) (h2 : ∀ p (h : p < l.length), i ≤ p → 0 ≤ cmp l[p] x) : posL cmp l x = i := by
  unfold posL
  have e : l = l.take i ++ l.drop i := (List.take_append_drop i l).symm
  rw [e, List.countP_append]
  have a1 : (l.take i).countP (fun y => decide (cmp y x < 0)) = (l.take i).length := by
    rw [List.countP_eq_length]
    intro y hy
    obtain ⟨p, hp, rfl⟩ := List.getElem_of_mem hy
    have hp' : p < i := by rw [List.length_take] at hp; omega
    simpa using h1 p (by omega) hp'
  have a2 : (l.drop i).countP (fun y => decide (cmp y x < 0)) = 0 := by
    rw [List.countP_eq_zero]
    intro y hy
    obtain ⟨p, hp, rfl⟩ := List.getElem_of_mem hy
    rw [List.length_drop] at hp
    have := h2 (i + p) (by omega) (by omega)
    simp; exact this
  rw [a1, a2, List.length_take]
  omega
def hitL {α : Type} (cmp : α → α → Int) (l : List α) (x : α) : Bool := match l[posL cmp l x]? with
  | some y => decide (cmp y x = 0)
  | none => false
section
variable {w : World}
theorem metric_Pack_c {m : Me} {p q : Option Addr} {c d : Nat} (hm : MeR w m p q) (hb : m.chars.length ≤ 1000) (hr : m.rules.length ≤ 1000) :
    Ret Go.Proofs.Tryz.prog 11 #[meV m p q c d] w fun v w' => (if validM m then ∃ p c, v = .tuple #[.slice p (packM m).length c, iV 0] ∧ (packM m).length ≤ c ∧ SlR w' p ((packM m).map bV) ∧ OwnF w' 5 1 (.slice p (packM m).length c) (packM m).length ((packM m).map bV) ∧ ∀ k, (Value.slice p (packM m).length c).ownBlock = some k → w.heap.size ≤ k else v = .tuple #[.slice none 0 0, iV 2]) ∧ Ext w w' := by
  refine enter Go.Proofs.Tryz.func11 rfl rfl rfl ?_
  refine W_sr rfl (s_bx rfl (s_as rfl (s_as rfl (s_nil ?_))))
  refine W_seq ?_
  refine W_sr rfl (s_lda E rfl rfl bcr rfl (s_callx rfl rfl (metric_Valid_c (hm.ext e1)) fun w1 hE1 => (s_not rfl (s_nil ?_))))
  cases hv : validM m
  · refine W_if rfl (fun _ => ?_) (fun h => by cases h)
    refine W_sr rfl (s_as rfl (s_as rfl (s_nil ?_)))
    exact W_ret ⟨_, rfl, rfl, e1.trans hE1⟩
  · refine W_if rfl (fun h => by cases h) (fun _ => W_skip ?_)
    refine W_sr rfl (s_lda E rfl rfl (Ext.row hE1 bcr) rfl (s_call rfl rfl (metric_pack_c ((hm.ext e1).ext hE1) hb hr) ?_))
    rintro _ w2 ⟨⟨p', c', rfl, hle, hsl, hof, hfr⟩, hE2⟩
    refine (s_as rfl (s_as rfl (s_nil ?_)))
    exact W_ret ⟨_, rfl, ⟨p', c', rfl, hle, hsl, hof, fun k hk => by have := hfr k hk; have := (e1.trans hE1).size; omega⟩, (e1.trans hE1).trans hE2⟩
theorem slices_Equal_byte_c {p q : Option Addr} {n m c d : Nat} {l k : List Int} (hn : n = l.length) (hm : m = k.length) (hle : n ≤ 1000100) (hlk : m ≤ 1000100) (hp : SlR w p (l.map bV)) (hq : SlR w q (k.map bV)) :
    Ret Go.Proofs.Tryz.prog 46 #[.slice p n c, .slice q m d] w fun v w' => v = .bool (decide (l = k)) ∧ Ext w w' := by
  refine enter Go.Proofs.Tryz.func46 rfl rfl rfl ?_
  refine W_sr rfl (s_as rfl (s_nil ?_))
  refine W_seq ?_
  refine W_sr rfl (s_mv rfl (s_len E rfl rfl (s_mv rfl (s_len E rfl rfl (s_neq rfl rfl (s_nil ?_))))))
  refine W_if rfl (fun hc => ?_) (fun hc => W_skip ?_)
  · have hc := of_decide_eq_true hc
    refine W_sr rfl (s_as rfl (s_nil ?_))
    exact W_ret ⟨_, rfl, by rw [show decide (l = k) = false from decide_eq_false (fun h => by subst h; omega)]; rfl, Mod.refl⟩
  have hc : n = m := by have := of_decide_eq_false hc; omega
  refine W_seq ?_
  refine W_sr rfl (s_mv rfl (s_len E rfl rfl (s_mv rfl (s_nil ?_))))
  refine W_block ?_
  refine W_loop (fun q' ρ w' => ∃ ρ' i, ρ = upd (upd (upd (upd ρ' 0 (.slice p n c)) 1 (.slice q m d)) 12 (iV n)) 13 (iV (i : Nat)) ∧ i ≤ n ∧ q' = n - i ∧ Ext w w' ∧ ∀ j (h : j < l.length) (h' : j < k.length), j < i → l[j] = k[j]) n
    ⟨_, 0, u4 rfl rfl rfl rfl, by omega, by omega, Mod.refl, fun j _ _ h => by omega⟩ ?_
  rintro q' _ w1 ⟨ρ, i, rfl, hi, rfl, hE, heq⟩
  refine W_sr rfl (s_lss rfl rfl (s_nil ?_))
  refine W_seq ?_
  refine W_if rfl (fun hd => W_skip ?_) (fun hd => W_exit ?_)
  · have hd := of_decide_eq_true hd
    have hil : i < l.length := by omega
    have hik : i < k.length := by omega
    obtain ⟨a, rfl, hcell⟩ := sl_bytes hp hil
    obtain ⟨b, rfl, hcell2⟩ := sl_bytes hq hik
    refine W_seq (W_block ?_)
    refine W_sr rfl (s_mv rfl (s_as rfl (s_nil ?_)))
    refine W_qr (Ext w) orders rfl (by kernel_rfl) (Mod.drew hE) (q_mv rfl (q_mv rfl (q_ia E rfl rfl rfl rfl (by omega) (q_ld E rfl rfl (fun w' h => Ext.cell h hcell) (q_mv rfl (q_mv rfl (q_ia E rfl rfl rfl rfl (by omega) (q_ld E rfl rfl (fun w' h => Ext.cell h hcell2) (q_neq rfl rfl (q_nil ?_))))))))))
    intro w2 hE2
    refine W_if rfl (fun he => ?_) (fun he => W_skip ?_)
    · have he := of_decide_eq_true he
      refine W_sr rfl (s_as rfl (s_nil ?_))
      exact W_ret ⟨_, rfl, by rw [show decide (l = k) = false from decide_eq_false (fun h => by subst h; exact he rfl)]; rfl, hE2⟩
    · have he : l[i] = k[i] := by have := of_decide_eq_false he; omega
      refine W_reg rfl (s_add rfl rfl (by omega) (s_mv rfl (s_nil ?_)))
      refine ⟨n - (i + 1), by omega, _, i + 1, u4 rfl rfl rfl rfl, by omega, rfl, hE2, fun j h h' hj => ?_⟩
      by_cases e : j = i
      · subst e; exact he
      · exact heq j h h' (by omega)
  · have hd := of_decide_eq_false hd
    refine W_sr rfl (s_as rfl (s_nil ?_))
    exact W_ret ⟨_, rfl, by rw [show decide (l = k) = true from decide_eq_true (List.ext_getElem (by omega) fun j h h' => heq j h h' (by omega))]; rfl, hE⟩
theorem metric_twice_CharMetric_c {p : Option Addr} {n c : Nat} {l : List Ch} {g : FuncId} {cmp : Ch → Ch → Int} {w : World} (hn : n = l.length) (hm : n ≤ 1000000) (hp : SlR w p (l.flatMap chC))
    (hg : ∀ x y w, Ret Go.Proofs.Tryz.prog g #[chV x, chV y] w fun v w' => v = iV (cmp x y) ∧ Ext w w') :
    Ret Go.Proofs.Tryz.prog 53 #[.slice p n c, .func (.func g) #[] #[]] w fun v w' => v = .bool (twiceB cmp l) ∧ Ext w w' := by
  refine enter Go.Proofs.Tryz.func53 rfl rfl rfl ?_
  refine W_sr rfl (s_as rfl (s_nil ?_))
  refine W_seq ?_
  refine W_sr rfl (s_as rfl (s_nil ?_))
  refine W_block ?_
  refine W_loop (fun m ρ w' => ∃ ρ' i, ρ = upd (upd (upd ρ' 0 (.slice p n c)) 1 (.func (.func g) #[] #[])) 5 (iV (i : Nat)) ∧ 1 ≤ i ∧ (1 ≤ n → i ≤ n) ∧ m = n - i ∧ Ext w w' ∧ ∀ j (h : j + 1 < l.length), j + 1 < i → cmp l[j] l[j+1] ≠ 0) (n - 1)
    ⟨_, 1, u3 rfl rfl rfl, by omega, by omega, rfl, Mod.refl, fun j _ hj => by omega⟩ ?_
  rintro m _ w1 ⟨ρ, i, rfl, hi1, hin, rfl, hE1, hlt⟩
  refine W_seq ?_
  refine W_sr rfl (s_mv rfl (s_mv rfl (s_len E rfl rfl (s_lss rfl rfl (s_nil ?_)))))
  refine W_if rfl (fun hc => W_skip ?_) (fun hc => W_exit ?_)
  · have hc := of_decide_eq_true hc
    have hil : i < l.length := by omega
    obtain ⟨a, rfl, hrow⟩ := hp.some (by intro h0; have := flat_length chC 4 chC_len l; rw [h0] at this; simp at this; omega)
    refine W_seq (W_block ?_)
    have hr1 : ∀ w', Ext w w' → Row w' (a.add ((i - 1) * 4)) (chC l[i - 1]) := fun w' h => Ext.row h (hrow.at chC_len (by omega))
    have hr2 : ∀ w', Ext w w' → Row w' (a.add (i * 4)) (chC l[i]) := fun w' h => Ext.row h (hrow.at chC_len hil)
    refine W_qr (Ext w) orders rfl (by kernel_rfl) (Mod.drew hE1) (q_mv rfl (q_mv rfl (q_mv rfl (q_sub rfl rfl (by omega) (q_ia E rfl rfl rfl (show (i : Int) - 1 = ((i - 1 : Nat) : Int) by omega) (by omega) (q_lda E rfl rfl hr1 rfl (q_mv rfl (q_mv rfl (q_ia E rfl rfl rfl rfl (by omega) (q_lda E rfl rfl hr2 rfl (q_call rfl rfl (hg l[i] l[i] w).1 (fun w' hw' => (hg _ _ w').mono fun v w'' h => ⟨h.1, hw'.trans h.2⟩) (q_eql rfl rfl (q_nil ?_)))))))))))))
    intro w2 hE2
    refine W_if rfl (fun hd => ?_) (fun hd => W_skip ?_)
    · have hd := of_decide_eq_true hd
      refine W_sr rfl (s_as rfl (s_nil ?_))
      refine W_ret ⟨_, rfl, ?_, hE2⟩
      rw [(twiceB_iff cmp l).2 ⟨i - 1, by omega, by simp only [show i - 1 + 1 = i by omega]; exact hd⟩]; rfl
    · have hd := of_decide_eq_false hd
      refine W_reg rfl (s_mv rfl (s_add rfl rfl (by omega) (s_as rfl (s_nil ?_))))
      refine ⟨n - (i + 1), by omega, _, i + 1, u3 rfl rfl rfl, by omega, by omega, rfl, hE2, ?_⟩
      intro j h hj
      by_cases e : j + 1 = i
      · subst e; simp only [Nat.add_sub_cancel] at hd; exact hd
      · exact hlt j h (by omega)
  · have hc := of_decide_eq_false hc
    refine W_sr rfl (s_as rfl (s_nil ?_))
    refine W_ret ⟨_, rfl, ?_, hE1⟩
    have : twiceB cmp l = false := by
      rw [Bool.eq_false_iff]; intro h
      obtain ⟨i, h, k⟩ := (twiceB_iff cmp l).1 h
      exact hlt i h (by omega) k
    rw [this]; rfl
theorem slices_BinarySearchFunc_CharMetric_c {p : Option Addr} {n c : Nat} {l : List Ch} {x : Ch} {g : FuncId} {cmp : Ch → Ch → Int} {w : World} (ho : Ordr cmp) (hs : SrtL cmp l) (hn : n = l.length) (hm : n ≤ 1000000) (hp : SlR w p (l.flatMap chC))
    (hg : ∀ x y w, Ret Go.Proofs.Tryz.prog g #[chV x, chV y] w fun v w' => v = iV (cmp x y) ∧ Ext w w') :
    Ret Go.Proofs.Tryz.prog 58 #[.slice p n c, chV x, .func (.func g) #[] #[]] w fun v w' => v = .tuple #[iV (posL cmp l x : Nat), .bool (hitL cmp l x)] ∧ Ext w w' := by
  refine enter Go.Proofs.Tryz.func58 rfl rfl rfl ?_
  have mono : ∀ p q (h1 : p < l.length) (h2 : q < l.length), p ≤ q → p = q ∨ 0 ≤ cmp l[q] l[p] := fun p q h1 h2 h => by
    by_cases e : p = q
    · exact .inl e
    · exact .inr (List.pairwise_iff_getElem.1 hs p q h1 h2 (by omega))
  have tgt : ∀ w', Ext (w.alloc (.cells (chV x).cells 50)) w' → Row w' ⟨w.heap.size, 0, none⟩ (chC x) := fun w' h => Ext.row h bcr
  refine W_sr rfl (s_bx rfl (s_as rfl (s_as rfl (s_nil ?_))))
  refine W_sr rfl (s_mv rfl (s_len E rfl rfl (s_as rfl (s_nil ?_))))
  refine W_sr rfl (s_mv rfl (s_as rfl (s_as rfl (s_nil ?_))))
  refine W_seq ?_
  refine W_block ?_
  refine W_loop (fun q ρ w' => ∃ ρ' i j, ρ = upd (upd (upd (upd (upd (upd ρ' 0 (.slice p n c)) 2 (.func (.func g) #[] #[])) 4 (.pointer (some ⟨w.heap.size, 0, none⟩))) 8 (iV n)) 9 (iV (i : Nat))) 10 (iV (j : Nat)) ∧ i ≤ j ∧ j ≤ n ∧ q = j - i ∧ Ext (w.alloc (.cells (chV x).cells 50)) w' ∧
      (∀ p (h : p < l.length), p < i → cmp l[p] x < 0) ∧ ∀ p (h : p < l.length), j ≤ p → 0 ≤ cmp l[p] x) n
    ⟨_, 0, n, u6 rfl rfl rfl rfl rfl rfl, by omega, by omega, by omega, Mod.refl, fun p _ h => by omega, fun p _ h => by omega⟩ ?_
  rintro q _ w1 ⟨ρ, i, j, rfl, hij, hjn, rfl, hE, hlo, hhi⟩
  refine W_seq ?_
  refine W_sr rfl (s_mv rfl (s_mv rfl (s_lss rfl rfl (s_nil ?_))))
  refine W_if rfl (fun hd => W_skip ?_) (fun hd => W_exit ?_)
  · have hd := of_decide_eq_true hd
    refine W_block ?_
    obtain ⟨h, hh0⟩ : ∃ h, h = (i + j) / 2 := ⟨_, rfl⟩
    have hhl : h < l.length := by omega
    obtain ⟨a, rfl, hrow⟩ := hp.some (by intro h0; have := flat_length chC 4 chC_len l; rw [h0] at this; simp at this; omega)
    refine W_sr rfl (s_mv rfl (s_mv rfl (s_add rfl rfl (by omega) (s_cvx E rfl rfl rfl (wrapu_in (by omega) (by omega)) (s_half rfl rfl rfl (show ((i : Int) + j) / 2 = (h : Int) by omega) (s_cvx E rfl rfl rfl (wrap64_in (by omega) (by omega)) (s_as rfl (s_nil ?_))))))))
    refine W_qr (Ext (w.alloc (.cells (chV x).cells 50))) orders rfl (by kernel_rfl) (Mod.drew hE) (q_mv rfl (q_mv rfl (q_mv rfl (q_ia E rfl rfl rfl rfl (by omega) (q_lda E rfl rfl (fun w' hE => Ext.row (e1.trans hE) (hrow.at chC_len hhl)) rfl (q_lda E rfl rfl tgt rfl (q_call rfl rfl (hg l[h] x w).1 (fun w' hw' => (hg _ _ w').mono fun v w'' h => ⟨h.1, hw'.trans h.2⟩) (q_lss rfl rfl (q_nil ?_)))))))))
    intro w2 hE2
    refine W_if rfl (fun he => ?_) (fun he => ?_)
    · have he := of_decide_eq_true he
      refine W_reg rfl (s_mv rfl (s_add rfl rfl (by omega) (s_as rfl (s_nil ?_))))
      refine ⟨j - (h + 1), by omega, _, h + 1, j, u6 rfl rfl rfl rfl rfl rfl, by omega, hjn, rfl, hE2, fun p hp h2 => ?_, hhi⟩
      rcases mono p h hp hhl (by omega) with e | e
      · subst e; exact he
      · by_cases hx : cmp l[p] x < 0
        · exact hx
        · exact absurd (ho.tr x l[p] l[h] (by omega) e) (by omega)
    · have he := of_decide_eq_false he
      refine W_reg rfl (s_mv rfl (s_as rfl (s_nil ?_)))
      refine ⟨h - i, by omega, _, i, h, u6 rfl rfl rfl rfl rfl rfl, by omega, by omega, rfl, hE2, hlo, fun p hp h2 => ?_⟩
      rcases mono h p hhl hp (by omega) with e | e
      · subst e; omega
      · exact ho.tr _ _ _ (by omega) e
  · have hd := of_decide_eq_false hd
    have hij : j = i := by omega
    subst hij
    have hpos := posL_eq (cmp := cmp) (l := l) (x := x) (by omega) hlo hhi
    by_cases h0 : (j : Int) < n
    · have hjl : j < l.length := by omega
      obtain ⟨a, rfl, hrow⟩ := hp.some (by intro h0; have := flat_length chC 4 chC_len l; rw [h0] at this; simp at this; omega)
      refine W_qr (Ext (w.alloc (.cells (chV x).cells 50))) orders rfl (by kernel_rfl) (Mod.drew hE) (q_mv rfl (q_mv rfl (q_mv rfl (q_cmp (c := true) rfl rfl (decide_eq_true h0) (q_mv rfl (q_g1 rfl (q_mv rfl (q_g1 rfl (q_mv rfl (q_g1 rfl (q_mv rfl (q_g1 rfl (q_ia E rfl rfl rfl rfl (by omega) (q_g1 rfl (q_lda E rfl rfl (fun w' hE => Ext.row (e1.trans hE) (hrow.at chC_len hjl)) rfl (q_g1 rfl (q_lda E rfl rfl tgt rfl (q_g1 rfl (q_call rfl rfl (hg l[j] x w).1 (fun w' hw' => (hg _ _ w').mono fun v w'' h => ⟨h.1, hw'.trans h.2⟩) (q_g1 rfl (q_eql rfl rfl (q_pk rfl (q_as rfl (q_as rfl (q_nil ?_)))))))))))))))))))))))))
      intro w2 hE2
      refine W_ret ⟨_, rfl, ?_, e1.trans hE2⟩
      unfold hitL
      rw [hpos, List.getElem?_eq_getElem hjl]
      rfl
    · refine W_qr (Ext (w.alloc (.cells (chV x).cells 50))) orders rfl (by kernel_rfl) (Mod.drew hE) (q_mv rfl (q_mv rfl (q_mv rfl (q_cmp (c := false) rfl rfl (decide_eq_false h0) (q_mv rfl (q_g0 rfl (q_g0 rfl (q_g0 rfl (q_g0 rfl (q_g0 rfl (q_g0 rfl (q_g0 rfl (q_g0 rfl (q_pk rfl (q_as rfl (q_as rfl (q_nil ?_)))))))))))))))))
      intro w2 hE2
      refine W_ret ⟨_, rfl, ?_, e1.trans hE2⟩
      unfold hitL
      rw [hpos, List.getElem?_eq_none (by omega)]
      rfl
theorem metric_twice_LigRule_c {p : Option Addr} {n c : Nat} {l : List Ru} {g : FuncId} {cmp : Ru → Ru → Int} {w : World} (hn : n = l.length) (hm : n ≤ 1000000) (hp : SlR w p (l.flatMap ruC))
    (hg : ∀ x y w, Ret Go.Proofs.Tryz.prog g #[ruV x, ruV y] w fun v w' => v = iV (cmp x y) ∧ Ext w w') :
    Ret Go.Proofs.Tryz.prog 54 #[.slice p n c, .func (.func g) #[] #[]] w fun v w' => v = .bool (twiceB cmp l) ∧ Ext w w' := by
  refine enter Go.Proofs.Tryz.func54 rfl rfl rfl ?_
  refine W_sr rfl (s_as rfl (s_nil ?_))
  refine W_seq ?_
  refine W_sr rfl (s_as rfl (s_nil ?_))
  refine W_block ?_
  refine W_loop (fun m ρ w' => ∃ ρ' i, ρ = upd (upd (upd ρ' 0 (.slice p n c)) 1 (.func (.func g) #[] #[])) 5 (iV (i : Nat)) ∧ 1 ≤ i ∧ (1 ≤ n → i ≤ n) ∧ m = n - i ∧ Ext w w' ∧ ∀ j (h : j + 1 < l.length), j + 1 < i → cmp l[j] l[j+1] ≠ 0) (n - 1)
    ⟨_, 1, u3 rfl rfl rfl, by omega, by omega, rfl, Mod.refl, fun j _ hj => by omega⟩ ?_
  rintro m _ w1 ⟨ρ, i, rfl, hi1, hin, rfl, hE1, hlt⟩
  refine W_seq ?_
  refine W_sr rfl (s_mv rfl (s_mv rfl (s_len E rfl rfl (s_lss rfl rfl (s_nil ?_)))))
  refine W_if rfl (fun hc => W_skip ?_) (fun hc => W_exit ?_)
  · have hc := of_decide_eq_true hc
    have hil : i < l.length := by omega
    obtain ⟨a, rfl, hrow⟩ := hp.some (by intro h0; have := flat_length ruC 4 ruC_len l; rw [h0] at this; simp at this; omega)
    refine W_seq (W_block ?_)
    have hr1 : ∀ w', Ext w w' → Row w' (a.add ((i - 1) * 4)) (ruC l[i - 1]) := fun w' h => Ext.row h (hrow.at ruC_len (by omega))
    have hr2 : ∀ w', Ext w w' → Row w' (a.add (i * 4)) (ruC l[i]) := fun w' h => Ext.row h (hrow.at ruC_len hil)
    refine W_qr (Ext w) orders rfl (by kernel_rfl) (Mod.drew hE1) (q_mv rfl (q_mv rfl (q_mv rfl (q_sub rfl rfl (by omega) (q_ia E rfl rfl rfl (show (i : Int) - 1 = ((i - 1 : Nat) : Int) by omega) (by omega) (q_lda E rfl rfl hr1 rfl (q_mv rfl (q_mv rfl (q_ia E rfl rfl rfl rfl (by omega) (q_lda E rfl rfl hr2 rfl (q_call rfl rfl (hg l[i] l[i] w).1 (fun w' hw' => (hg _ _ w').mono fun v w'' h => ⟨h.1, hw'.trans h.2⟩) (q_eql rfl rfl (q_nil ?_)))))))))))))
    intro w2 hE2
    refine W_if rfl (fun hd => ?_) (fun hd => W_skip ?_)
    · have hd := of_decide_eq_true hd
      refine W_sr rfl (s_as rfl (s_nil ?_))
      refine W_ret ⟨_, rfl, ?_, hE2⟩
      rw [(twiceB_iff cmp l).2 ⟨i - 1, by omega, by simp only [show i - 1 + 1 = i by omega]; exact hd⟩]; rfl
    · have hd := of_decide_eq_false hd
      refine W_reg rfl (s_mv rfl (s_add rfl rfl (by omega) (s_as rfl (s_nil ?_))))
      refine ⟨n - (i + 1), by omega, _, i + 1, u3 rfl rfl rfl, by omega, by omega, rfl, hE2, ?_⟩
      intro j h hj
      by_cases e : j + 1 = i
      · subst e; simp only [Nat.add_sub_cancel] at hd; exact hd
      · exact hlt j h (by omega)
  · have hc := of_decide_eq_false hc
    refine W_sr rfl (s_as rfl (s_nil ?_))
    refine W_ret ⟨_, rfl, ?_, hE1⟩
    have : twiceB cmp l = false := by
      rw [Bool.eq_false_iff]; intro h
      obtain ⟨i, h, k⟩ := (twiceB_iff cmp l).1 h
      exact hlt i h (by omega) k
    rw [this]; rfl
theorem slices_BinarySearchFunc_LigRule_c {p : Option Addr} {n c : Nat} {l : List Ru} {x : Ru} {g : FuncId} {cmp : Ru → Ru → Int} {w : World} (ho : Ordr cmp) (hs : SrtL cmp l) (hn : n = l.length) (hm : n ≤ 1000000) (hp : SlR w p (l.flatMap ruC))
    (hg : ∀ x y w, Ret Go.Proofs.Tryz.prog g #[ruV x, ruV y] w fun v w' => v = iV (cmp x y) ∧ Ext w w') :
    Ret Go.Proofs.Tryz.prog 95 #[.slice p n c, ruV x, .func (.func g) #[] #[]] w fun v w' => v = .tuple #[iV (posL cmp l x : Nat), .bool (hitL cmp l x)] ∧ Ext w w' := by
  refine enter Go.Proofs.Tryz.func95 rfl rfl rfl ?_
  have mono : ∀ p q (h1 : p < l.length) (h2 : q < l.length), p ≤ q → p = q ∨ 0 ≤ cmp l[q] l[p] := fun p q h1 h2 h => by
    by_cases e : p = q
    · exact .inl e
    · exact .inr (List.pairwise_iff_getElem.1 hs p q h1 h2 (by omega))
  have tgt : ∀ w', Ext (w.alloc (.cells (ruV x).cells 45)) w' → Row w' ⟨w.heap.size, 0, none⟩ (ruC x) := fun w' h => Ext.row h bcr
  refine W_sr rfl (s_bx rfl (s_as rfl (s_as rfl (s_nil ?_))))
  refine W_sr rfl (s_mv rfl (s_len E rfl rfl (s_as rfl (s_nil ?_))))
  refine W_sr rfl (s_mv rfl (s_as rfl (s_as rfl (s_nil ?_))))
  refine W_seq ?_
  refine W_block ?_
  refine W_loop (fun q ρ w' => ∃ ρ' i j, ρ = upd (upd (upd (upd (upd (upd ρ' 0 (.slice p n c)) 2 (.func (.func g) #[] #[])) 4 (.pointer (some ⟨w.heap.size, 0, none⟩))) 8 (iV n)) 9 (iV (i : Nat))) 10 (iV (j : Nat)) ∧ i ≤ j ∧ j ≤ n ∧ q = j - i ∧ Ext (w.alloc (.cells (ruV x).cells 45)) w' ∧
      (∀ p (h : p < l.length), p < i → cmp l[p] x < 0) ∧ ∀ p (h : p < l.length), j ≤ p → 0 ≤ cmp l[p] x) n
    ⟨_, 0, n, u6 rfl rfl rfl rfl rfl rfl, by omega, by omega, by omega, Mod.refl, fun p _ h => by omega, fun p _ h => by omega⟩ ?_
  rintro q _ w1 ⟨ρ, i, j, rfl, hij, hjn, rfl, hE, hlo, hhi⟩
  refine W_seq ?_
  refine W_sr rfl (s_mv rfl (s_mv rfl (s_lss rfl rfl (s_nil ?_))))
  refine W_if rfl (fun hd => W_skip ?_) (fun hd => W_exit ?_)
  · have hd := of_decide_eq_true hd
    refine W_block ?_
    obtain ⟨h, hh0⟩ : ∃ h, h = (i + j) / 2 := ⟨_, rfl⟩
    have hhl : h < l.length := by omega
    obtain ⟨a, rfl, hrow⟩ := hp.some (by intro h0; have := flat_length ruC 4 ruC_len l; rw [h0] at this; simp at this; omega)
    refine W_sr rfl (s_mv rfl (s_mv rfl (s_add rfl rfl (by omega) (s_cvx E rfl rfl rfl (wrapu_in (by omega) (by omega)) (s_half rfl rfl rfl (show ((i : Int) + j) / 2 = (h : Int) by omega) (s_cvx E rfl rfl rfl (wrap64_in (by omega) (by omega)) (s_as rfl (s_nil ?_))))))))
    refine W_qr (Ext (w.alloc (.cells (ruV x).cells 45))) orders rfl (by kernel_rfl) (Mod.drew hE) (q_mv rfl (q_mv rfl (q_mv rfl (q_ia E rfl rfl rfl rfl (by omega) (q_lda E rfl rfl (fun w' hE => Ext.row (e1.trans hE) (hrow.at ruC_len hhl)) rfl (q_lda E rfl rfl tgt rfl (q_call rfl rfl (hg l[h] x w).1 (fun w' hw' => (hg _ _ w').mono fun v w'' h => ⟨h.1, hw'.trans h.2⟩) (q_lss rfl rfl (q_nil ?_)))))))))
    intro w2 hE2
    refine W_if rfl (fun he => ?_) (fun he => ?_)
    · have he := of_decide_eq_true he
      refine W_reg rfl (s_mv rfl (s_add rfl rfl (by omega) (s_as rfl (s_nil ?_))))
      refine ⟨j - (h + 1), by omega, _, h + 1, j, u6 rfl rfl rfl rfl rfl rfl, by omega, hjn, rfl, hE2, fun p hp h2 => ?_, hhi⟩
      rcases mono p h hp hhl (by omega) with e | e
      · subst e; exact he
      · by_cases hx : cmp l[p] x < 0
        · exact hx
        · exact absurd (ho.tr x l[p] l[h] (by omega) e) (by omega)
    · have he := of_decide_eq_false he
      refine W_reg rfl (s_mv rfl (s_as rfl (s_nil ?_)))
      refine ⟨h - i, by omega, _, i, h, u6 rfl rfl rfl rfl rfl rfl, by omega, by omega, rfl, hE2, hlo, fun p hp h2 => ?_⟩
      rcases mono h p hhl hp (by omega) with e | e
      · subst e; omega
      · exact ho.tr _ _ _ (by omega) e
  · have hd := of_decide_eq_false hd
    have hij : j = i := by omega
    subst hij
    have hpos := posL_eq (cmp := cmp) (l := l) (x := x) (by omega) hlo hhi
    by_cases h0 : (j : Int) < n
    · have hjl : j < l.length := by omega
      obtain ⟨a, rfl, hrow⟩ := hp.some (by intro h0; have := flat_length ruC 4 ruC_len l; rw [h0] at this; simp at this; omega)
      refine W_qr (Ext (w.alloc (.cells (ruV x).cells 45))) orders rfl (by kernel_rfl) (Mod.drew hE) (q_mv rfl (q_mv rfl (q_mv rfl (q_cmp (c := true) rfl rfl (decide_eq_true h0) (q_mv rfl (q_g1 rfl (q_mv rfl (q_g1 rfl (q_mv rfl (q_g1 rfl (q_mv rfl (q_g1 rfl (q_ia E rfl rfl rfl rfl (by omega) (q_g1 rfl (q_lda E rfl rfl (fun w' hE => Ext.row (e1.trans hE) (hrow.at ruC_len hjl)) rfl (q_g1 rfl (q_lda E rfl rfl tgt rfl (q_g1 rfl (q_call rfl rfl (hg l[j] x w).1 (fun w' hw' => (hg _ _ w').mono fun v w'' h => ⟨h.1, hw'.trans h.2⟩) (q_g1 rfl (q_eql rfl rfl (q_pk rfl (q_as rfl (q_as rfl (q_nil ?_)))))))))))))))))))))))))
      intro w2 hE2
      refine W_ret ⟨_, rfl, ?_, e1.trans hE2⟩
      unfold hitL
      rw [hpos, List.getElem?_eq_getElem hjl]
      rfl
    · refine W_qr (Ext (w.alloc (.cells (ruV x).cells 45))) orders rfl (by kernel_rfl) (Mod.drew hE) (q_mv rfl (q_mv rfl (q_mv rfl (q_cmp (c := false) rfl rfl (decide_eq_false h0) (q_mv rfl (q_g0 rfl (q_g0 rfl (q_g0 rfl (q_g0 rfl (q_g0 rfl (q_g0 rfl (q_g0 rfl (q_g0 rfl (q_pk rfl (q_as rfl (q_as rfl (q_nil ?_)))))))))))))))))
      intro w2 hE2
      refine W_ret ⟨_, rfl, ?_, e1.trans hE2⟩
      unfold hitL
      rw [hpos, List.getElem?_eq_none (by omega)]
      rfl
end
end Go.Proofs.YthfnijlgmjkedaaGreat
namespace Go.Proofs.YthfnijlgmjkedaaGreat
set_option maxRecDepth 100000
set_option maxHeartbeats 1000000
set_option linter.unusedVariables false
set_option linter.unusedSimpArgs false
open Go Go.Fx Go.Proofs.YthfnijlgmjkedaaGreat.Tab
theorem cmpI_lt {a b : Int} : cmpI a b < 0 ↔ a < b := by unfold cmpI; split <;> (try split) <;> omega
theorem cmpI_ge {a b : Int} : 0 ≤ cmpI a b ↔ b ≤ a := by unfold cmpI; split <;> (try split) <;> omega
theorem cmpI_eq {a b : Int} : cmpI a b = 0 ↔ a = b := by unfold cmpI; split <;> (try split) <;> omega
theorem pairCmp_lt {a b : Ru} : pairCmp a b < 0 ↔ a.first < b.first ∨ (a.first = b.first ∧ a.next < b.next) := by
  unfold pairCmp cmpI; split <;> (try split) <;> (try split) <;> omega
theorem pairCmp_ge {a b : Ru} : 0 ≤ pairCmp a b ↔ b.first < a.first ∨ (a.first = b.first ∧ b.next ≤ a.next) := by
  unfold pairCmp cmpI; split <;> (try split) <;> (try split) <;> omega
theorem pairCmp_eq {a b : Ru} : pairCmp a b = 0 ↔ a.first = b.first ∧ a.next = b.next := by
  unfold pairCmp cmpI; split <;> (try split) <;> (try split) <;> omega
theorem ord_code : Ordr codeCmp := ⟨fun x y h => by unfold codeCmp at *; rw [cmpI_lt] at h; rw [cmpI_ge]; omega, fun x y z h k => by unfold codeCmp at *; rw [cmpI_ge] at *; omega⟩
theorem ord_pair : Ordr pairCmp := ⟨fun x y h => by rw [pairCmp_lt] at h; rw [pairCmp_ge]; omega, fun x y z h k => by rw [pairCmp_ge] at *; omega⟩
theorem rising_srt {α : Type} {cmp : α → α → Int} (ho : Ordr cmp) (l : List α) (h : risingB cmp l = true) : SrtL cmp l := by
  have h1 := (risingB_iff cmp l).1 h
  unfold SrtL
  rw [List.pairwise_iff_getElem]
  intro i j hi hj hij
  obtain ⟨d, rfl⟩ := Nat.exists_eq_add_of_lt hij
  clear hij
  induction d with
  | zero => exact ho.asym _ _ (h1 i (by omega))
  | succ d ih => exact ho.tr _ _ _ (ih (by omega)) (ho.asym _ _ (h1 (i + d + 1) (by omega)))
theorem fin_cell {w w' : World} {g : Nat} {cs : Array Value} {ty : TypeId} {vs : List Value} (hE : Ext w w') (hg : w.heap.size ≤ g) (hh : w'.heap[g]? = some (.cells cs ty (0, 0))) (hs : cs.size = vs.length) :
    Row (w'.setRow g (splice cs 0 vs)) ⟨g, 0, none⟩ vs ∧ Ext w (w'.setRow g (splice cs 0 vs)) := by
  rw [splice_all _ _ hs]
  refine ⟨?_, Ext.thenMod hE (setRow_mod (M := fun k => k = g) rfl) (fun k hk he => by omega)⟩
  have := row_heap (setRow_heap w' g cs vs.toArray ty (0, 0) hh)
  simpa using this
def findM (m : Me) (code : Int) : Ch × Int := if validM m then (if hitL codeCmp m.chars ⟨code, 0, 0, 0⟩ then (m.chars.getD (posL codeCmp m.chars ⟨code, 0, 0, 0⟩) default, 0) else (default, 4)) else (default, 2)
def ruleOfM (l : List Ru) (first next : Int) : Ru × Bool := if hitL pairCmp l ⟨first, next, 0, 0⟩ then (l.getD (posL pairCmp l ⟨first, next, 0, 0⟩) default, true) else (default, false)
def ruleM (m : Me) (first next : Int) : Ru × Int := if validM m then (if (ruleOfM m.rules first next).2 then ((ruleOfM m.rules first next).1, 0) else (default, 4)) else (default, 2)
theorem hit_lt {α : Type} {cmp : α → α → Int} {l : List α} {x : α} (h : hitL cmp l x = true) : posL cmp l x < l.length := by
  unfold hitL at h
  cases hx : l[posL cmp l x]? with
  | none => rw [hx] at h; cases h
  | some y => exact (List.getElem?_eq_some_iff.1 hx).1
theorem valid_parts {m : Me} (h : validM m = true) : sizeB m.size = true ∧ m.chars.length ≤ 256 ∧ m.chars.all charB = true ∧ risingB codeCmp m.chars = true ∧ m.rules.length ≤ 500 ∧ m.rules.all ruleB = true ∧ risingB pairCmp m.rules = true := by
  simp only [validM, validRules, Bool.and_eq_true, decide_eq_true_eq] at h
  obtain ⟨h1, h2, h3, h4, h5, h6, h7⟩ := h
  exact ⟨h1, h2, h3, h4, h5, h6, h7⟩
section
variable {w : World}
theorem metric_made_c {size : Int} {p q : Option Addr} {n m c d : Nat} {l : List Ch} {k : List Ru} (hn : n = l.length) (hm : m = k.length) (hln : n ≤ 1000000) (hlm : m ≤ 1000000) (hp : SlR w p (l.flatMap chC)) (hq : SlR w q (k.flatMap ruC)) :
    Ret Go.Proofs.Tryz.prog 50 #[iV size, .slice p n c, .slice q m d] w fun v w' => (∃ me p q c d, v = meV me p q c d ∧ MeR w' me p q ∧ me.size = size ∧ me.chars.Perm l ∧ me.rules.Perm k ∧ SrtL codeCmp me.chars ∧ SrtL pairCmp me.rules ∧ (∀ a, p = some a → w.heap.size < a.block) ∧ ∀ a, q = some a → w.heap.size < a.block) ∧ Ext w w' := by
  refine enterC Go.Proofs.Tryz.func50 rfl rfl rfl ?_
  refine W_sr rfl (s_alA E rfl fun w1 hE1 hh1 hs1 => (s_nil ?_))
  refine W_sr rfl (s_mv rfl (s_mv rfl (s_call rfl rfl (slices_Clone_CharMetric_c hn hln (Ext.sl hE1 hp)) ?_)))
  rintro v2 w2 ⟨ho2, hf2, hE2⟩
  refine (s_mv rfl (s_call rfl rfl (slices_Clone_LigRule_c hm hlm (Ext.sl (hE1.trans hE2) hq)) ?_))
  rintro v3 w3 ⟨ho3, hf3, hE3⟩
  obtain ⟨p2, c2, rfl, hsl2, _, _⟩ := ho2.form
  obtain ⟨p3, c3, rfl, hsl3, _, _⟩ := ho3.form
  refine (s_bld rfl (cells := #[iV size, .slice p2 n c2, .slice p3 m c3]) (by kernel_rfl) (s_alst E rfl rfl rfl rfl rfl fun w4 hE4 hs4 hh4 => (s_nil ?_)))
  have ho2' := Ext.owns hE4 (Ext.owns hE3 ho2)
  have ho3' := Ext.owns hE4 ho3
  have hrow4 := row_heap hh4
  have b4 : ∀ k, (Value.slice p2 n c2).ownBlock = some k → k < w3.heap.size := fun k hk => Own.lt (Ext.owns hE3 ho2) hk
  have b4' : ∀ k, (Value.slice p3 m c3).ownBlock = some k → k < w3.heap.size := fun k hk => Own.lt ho3 hk
  refine W_sr rfl (s_fa E rfl rfl (s_ld E rfl rfl (hrow4 1 _ rfl) (s_callx rfl rfl (slices_SortL_CharMetric_c ord_code (fun _ _ _ => metric_compareCodes_c) hn hln ho2') fun w5 h5 => (s_nil ?_))))
  obtain ⟨⟨p5, c5, l5, he5, hsl5, hp5, hs5⟩, hM5⟩ := h5
  cases he5
  have hrow5 := hM5.row hrow4 (fun hk => by have := b4 _ hk; simp only at this; omega)
  have hdis : ∀ k, (Value.slice p3 m c3).ownBlock = some k → ¬ (Value.slice p2 n c2).ownBlock = some k := fun k hk hk2 => by
    have h1 := Own.lt ho2 hk2
    have h2 := hf3 k hk
    omega
  have ho3'' := hM5.owns ho3' hdis
  refine W_sr rfl (s_fa E rfl rfl (s_ld E rfl rfl (hrow5 2 _ rfl) (s_callx rfl rfl (slices_SortL_LigRule_c ord_pair (fun _ _ _ => metric_ComparePairs_c) hm hlm ho3'') fun w6 h6 => (s_nil ?_))))
  obtain ⟨⟨p6, c6, l6, he6, hsl6, hp6, hs6⟩, hM6⟩ := h6
  cases he6
  have hrow6 := hM6.row hrow5 (fun hk => by have := b4' _ hk; simp only at this; omega)
  have hE6 : Ext w w6 := by
    refine Ext.thenMod (Ext.thenMod (hE1.trans (hE2.trans (hE3.trans hE4))) hM5 ?_) hM6 ?_
    · intro k hk hk2; have := hf2 k hk2; have := hE1.size; omega
    · intro k hk hk2; have := hf3 k hk2; have := hE1.size; have := hE2.size; omega
  have hh6 : w6.heap[w.heap.size]? = some (.cells (Value.agg #[iV 0, .slice none 0 0, .slice none 0 0]).cells 25 (0, 0)) := by
    refine hM6.heap (hM5.heap (Ext.heap (hE2.trans (hE3.trans hE4)) hh1) ?_) ?_
    · intro hk; have := hf2 _ hk; omega
    · intro hk; have := hf3 _ hk; have := hE2.size; omega
  have fin := fin_cell (vs := [iV size, .slice p2 n c2, .slice p3 m c3]) hE6 (Nat.le_refl _) hh6 rfl
  refine W_sr rfl (s_lda E rfl rfl hrow6 rfl (s_st E (vs := [iV size, .slice p2 n c2, .slice p3 m c3]) rfl rfl rfl rfl hh6 rfl rfl rfl (Nat.le_refl _) (s_nil ?_)))
  refine W_ret ⟨_, resC1 E rfl rfl rfl fin.1 rfl, ?_⟩
  have hln5 : n = l5.length := by rw [hn]; exact hp5.length_eq.symm
  have hln6 : m = l6.length := by rw [hm]; exact hp6.length_eq.symm
  refine ⟨⟨⟨size, l5, l6⟩, p2, p3, c2, c3, by unfold meV; rw [hln5, hln6], ⟨?_, ?_, by show l5.length ≤ _; omega, by show l6.length ≤ _; omega⟩, rfl, hp5, hp6, hs5, hs6, fun a ha => by subst ha; have := hf2 a.block rfl; omega, fun a ha => by subst ha; have := hf3 a.block rfl; have := hE2.size; omega⟩, fin.2⟩
  · refine SlR.mod (setRow_mod (M := fun k => k = w.heap.size) rfl) (SlR.mod hM6 hsl5 ?_) ?_
    · intro a ha hk
      subst ha
      exact hdis _ hk rfl
    · intro a ha he
      subst ha
      have := hf2 a.block rfl
      omega
  · refine SlR.mod (setRow_mod (M := fun k => k = w.heap.size) rfl) hsl6 ?_
    intro a ha he
    subst ha
    have := hf3 a.block rfl
    have := hE2.size
    omega
theorem metric_Find_c {m : Me} {p q : Option Addr} {c d : Nat} {code : Int} (hm : MeR w m p q) :
    Ret Go.Proofs.Tryz.prog 20 #[meV m p q c d, iV code] w fun v w' => v = .tuple #[chV (findM m code).1, iV (findM m code).2] ∧ Ext w w' := by
  refine enterC Go.Proofs.Tryz.func20 rfl rfl rfl ?_
  refine W_sr rfl (s_bxA rfl fun w1 hE1 hh1 hs1 => (s_alA E rfl fun w2 hE2 hh2 hs2 => (s_as rfl (s_nil ?_))))
  have hE12 := hE1.trans hE2
  have hrow1 := row_heap hh1
  refine W_seq ?_
  refine W_sr rfl (s_lda E rfl rfl (Ext.row hE2 hrow1) rfl (s_callx rfl rfl (metric_Valid_c (hm.ext hE12)) fun w3 hE3 => (s_not rfl (s_nil ?_))))
  have hE13 := hE12.trans hE3
  have hh3 := Ext.heap hE3 hh2
  cases hv : validM m
  · refine W_if rfl (fun _ => ?_) (fun h => by cases h)
    refine W_sr rfl (s_bld rfl (cells := #[iV 0, iV 0, iV 0, iV 0]) (by kernel_rfl) (s_st E (vs := chC default) rfl rfl rfl rfl hh3 rfl rfl rfl (Nat.le_refl _) (s_as rfl (s_nil ?_))))
    have fin := fin_cell (vs := chC default) hE13 (by have := hE1.size; omega) hh3 rfl
    exact W_ret ⟨_, resC2 E rfl rfl rfl fin.1 rfl rfl, ⟨by unfold findM; rw [hv]; rfl, fin.2⟩⟩
  · refine W_if rfl (fun h => by cases h) (fun _ => W_skip ?_)
    have hvp := valid_parts hv
    have hsr := rising_srt ord_code _ hvp.2.2.2.1
    refine W_sr rfl (s_fa E rfl rfl (s_ld E rfl rfl (Ext.row (hE2.trans hE3) hrow1 1 _ rfl) (s_mv rfl (s_bld rfl (cells := #[iV code, iV 0, iV 0, iV 0]) (by kernel_rfl) (s_callx rfl rfl (slices_BinarySearchFunc_CharMetric_c (x := ⟨code, 0, 0, 0⟩) ord_code hsr rfl hm.nch (hm.ext hE13).ch (fun _ _ _ => metric_compareCodes_c)) fun w4 hE4 => (s_mv rfl (s_ex rfl rfl (s_ex rfl rfl (s_as rfl (s_as rfl (s_nil ?_)))))))))))
    have hE14 := hE13.trans hE4
    have hh4 := Ext.heap hE4 hh3
    refine W_seq ?_
    refine W_sr rfl (s_mv rfl (s_not rfl (s_nil ?_)))
    cases hb : hitL codeCmp m.chars ⟨code, 0, 0, 0⟩
    · refine W_if rfl (fun _ => ?_) (fun h => by cases h)
      refine W_sr rfl (s_bld rfl (cells := #[iV 0, iV 0, iV 0, iV 0]) (by kernel_rfl) (s_st E (vs := chC default) rfl rfl rfl rfl hh4 rfl rfl rfl (Nat.le_refl _) (s_as rfl (s_nil ?_))))
      have fin := fin_cell (vs := chC default) hE14 (by have := hE1.size; omega) hh4 rfl
      exact W_ret ⟨_, resC2 E rfl rfl rfl fin.1 rfl rfl, ⟨by unfold findM; rw [hv, hb]; rfl, fin.2⟩⟩
    · refine W_if rfl (fun h => by cases h) (fun _ => W_skip ?_)
      have hpl := hit_lt hb
      obtain ⟨a, rfl, hrow⟩ := hm.ch.some (by intro h0; have := flat_length chC 4 chC_len m.chars; rw [h0] at this; simp at this; omega)
      refine W_sr rfl (s_fa E rfl rfl (s_ld E rfl rfl (Ext.row (hE2.trans (hE3.trans hE4)) hrow1 1 _ rfl) (s_mv rfl (s_ia E rfl rfl rfl rfl hpl (s_lda E rfl rfl (Ext.row hE14 (hrow.at chC_len hpl)) rfl (s_st E (vs := chC m.chars[posL codeCmp m.chars ⟨code, 0, 0, 0⟩]) rfl rfl rfl rfl hh4 rfl rfl rfl (Nat.le_refl _) (s_as rfl (s_nil ?_))))))))
      have fin := fin_cell (vs := chC m.chars[posL codeCmp m.chars ⟨code, 0, 0, 0⟩]) hE14 (by have := hE1.size; omega) hh4 rfl
      exact W_ret ⟨_, resC2 E rfl rfl rfl fin.1 rfl rfl, ⟨by rw [show findM m code = (m.chars[posL codeCmp m.chars ⟨code, 0, 0, 0⟩], 0) by unfold findM; rw [hv, hb]; simp [hpl]]; rfl, fin.2⟩⟩
theorem metric_RuleOf_c {p : Option Addr} {n c : Nat} {l : List Ru} {first next : Int} (hs : SrtL pairCmp l) (hn : n = l.length) (hm : n ≤ 1000000) (hp : SlR w p (l.flatMap ruC)) :
    Ret Go.Proofs.Tryz.prog 59 #[.slice p n c, iV first, iV next] w fun v w' => v = .tuple #[ruV (ruleOfM l first next).1, .bool (ruleOfM l first next).2] ∧ Ext w w' := by
  refine enterC Go.Proofs.Tryz.func59 rfl rfl rfl ?_
  refine W_sr rfl (s_alA E rfl fun w1 hE1 hh1 hs1 => (s_as rfl (s_nil ?_)))
  refine W_sr rfl (s_mv rfl (s_mv rfl (s_mv rfl (s_bld rfl (cells := #[iV first, iV next, iV 0, iV 0]) (by kernel_rfl) (s_callx rfl rfl (slices_BinarySearchFunc_LigRule_c (x := ⟨first, next, 0, 0⟩) ord_pair hs hn hm (Ext.sl hE1 hp) (fun _ _ _ => metric_ComparePairs_c)) fun w2 hE2 => (s_mv rfl (s_ex rfl rfl (s_ex rfl rfl (s_as rfl (s_as rfl (s_nil ?_)))))))))))
  have hE12 := hE1.trans hE2
  have hh2 := Ext.heap hE2 hh1
  refine W_seq ?_
  refine W_sr rfl (s_mv rfl (s_not rfl (s_nil ?_)))
  cases hb : hitL pairCmp l ⟨first, next, 0, 0⟩
  · refine W_if rfl (fun _ => ?_) (fun h => by cases h)
    refine W_sr rfl (s_lda (xs := ruC default) E rfl rfl (row_heap hh2) rfl (s_st E (vs := ruC default) rfl rfl rfl rfl hh2 rfl rfl rfl (Nat.le_refl _) (s_as rfl (s_nil ?_))))
    have fin := fin_cell (vs := ruC default) hE12 (Nat.le_refl _) hh2 rfl
    exact W_ret ⟨_, resC2 E rfl rfl rfl fin.1 rfl rfl, ⟨by unfold ruleOfM; rw [hb]; rfl, fin.2⟩⟩
  · refine W_if rfl (fun h => by cases h) (fun _ => W_skip ?_)
    have hpl := hit_lt hb
    obtain ⟨a, rfl, hrow⟩ := hp.some (by intro h0; have := flat_length ruC 4 ruC_len l; rw [h0] at this; simp at this; omega)
    refine W_sr rfl (s_mv rfl (s_mv rfl (s_ia E rfl rfl rfl rfl (by omega) (s_lda E rfl rfl (Ext.row hE12 (hrow.at ruC_len hpl)) rfl (s_st E (vs := ruC l[posL pairCmp l ⟨first, next, 0, 0⟩]) rfl rfl rfl rfl hh2 rfl rfl rfl (Nat.le_refl _) (s_as rfl (s_nil ?_)))))))
    have fin := fin_cell (vs := ruC l[posL pairCmp l ⟨first, next, 0, 0⟩]) hE12 (Nat.le_refl _) hh2 rfl
    exact W_ret ⟨_, resC2 E rfl rfl rfl fin.1 rfl rfl, ⟨by rw [show ruleOfM l first next = (l[posL pairCmp l ⟨first, next, 0, 0⟩], true) by unfold ruleOfM; rw [hb]; simp [hpl]]; rfl, fin.2⟩⟩
theorem metric_Rule_c {m : Me} {p q : Option Addr} {c d : Nat} {first next : Int} (hm : MeR w m p q) :
    Ret Go.Proofs.Tryz.prog 22 #[meV m p q c d, iV first, iV next] w fun v w' => v = .tuple #[ruV (ruleM m first next).1, iV (ruleM m first next).2] ∧ Ext w w' := by
  refine enterC Go.Proofs.Tryz.func22 rfl rfl rfl ?_
  refine W_sr rfl (s_bxA rfl fun w1 hE1 hh1 hs1 => (s_alA E rfl fun w2 hE2 hh2 hs2 => (s_as rfl (s_nil ?_))))
  have hE12 := hE1.trans hE2
  have hrow1 := row_heap hh1
  refine W_seq ?_
  refine W_sr rfl (s_lda E rfl rfl (Ext.row hE2 hrow1) rfl (s_callx rfl rfl (metric_Valid_c (hm.ext hE12)) fun w3 hE3 => (s_not rfl (s_nil ?_))))
  have hE13 := hE12.trans hE3
  have hh3 := Ext.heap hE3 hh2
  cases hv : validM m
  · refine W_if rfl (fun _ => ?_) (fun h => by cases h)
    refine W_sr rfl (s_bld rfl (cells := #[iV 0, iV 0, iV 0, iV 0]) (by kernel_rfl) (s_st E (vs := ruC default) rfl rfl rfl rfl hh3 rfl rfl rfl (Nat.le_refl _) (s_as rfl (s_nil ?_))))
    have fin := fin_cell (vs := ruC default) hE13 (by have := hE1.size; omega) hh3 rfl
    exact W_ret ⟨_, resC2 E rfl rfl rfl fin.1 rfl rfl, ⟨by unfold ruleM; rw [hv]; rfl, fin.2⟩⟩
  · refine W_if rfl (fun h => by cases h) (fun _ => W_skip ?_)
    have hvp := valid_parts hv
    have hsr := rising_srt ord_pair _ hvp.2.2.2.2.2.2
    refine W_sr rfl (s_fa E rfl rfl (s_ld E rfl rfl (Ext.row (hE2.trans hE3) hrow1 2 _ rfl) (s_mv rfl (s_mv rfl (s_callx rfl rfl (metric_RuleOf_c (first := first) (next := next) hsr rfl hm.nru (hm.ext hE13).ru) fun w4 hE4 => (s_mv rfl (s_ex rfl rfl (s_ex rfl rfl (s_alst E rfl rfl rfl rfl rfl fun w5 hE5 hs5 hh5 => (s_as rfl (s_nil ?_)))))))))))
    have hE15 := hE13.trans (hE4.trans hE5)
    have hh4 := Ext.heap (hE4.trans hE5) hh3
    refine W_seq ?_
    refine W_sr rfl (s_mv rfl (s_not rfl (s_nil ?_)))
    cases hb : (ruleOfM m.rules first next).2
    · refine W_if rfl (fun _ => ?_) (fun h => by cases h)
      refine W_sr rfl (s_bld rfl (cells := #[iV 0, iV 0, iV 0, iV 0]) (by kernel_rfl) (s_st E (vs := ruC default) rfl rfl rfl rfl hh4 rfl rfl rfl (Nat.le_refl _) (s_as rfl (s_nil ?_))))
      have fin := fin_cell (vs := ruC default) hE15 (by have := hE1.size; omega) hh4 rfl
      exact W_ret ⟨_, resC2 E rfl rfl rfl fin.1 rfl rfl, ⟨by unfold ruleM; rw [hv, hb]; rfl, fin.2⟩⟩
    · refine W_if rfl (fun h => by cases h) (fun _ => W_skip ?_)
      refine W_sr rfl (s_lda E rfl rfl (row_heap hh5) rfl (s_st E (vs := ruC (ruleOfM m.rules first next).1) rfl rfl rfl rfl hh4 rfl rfl rfl (Nat.le_refl _) (s_as rfl (s_nil ?_))))
      have fin := fin_cell (vs := ruC (ruleOfM m.rules first next).1) hE15 (by have := hE1.size; omega) hh4 rfl
      exact W_ret ⟨_, resC2 E rfl rfl rfl fin.1 rfl rfl, ⟨by unfold ruleM; rw [hv, hb]; rfl, fin.2⟩⟩
end
end Go.Proofs.YthfnijlgmjkedaaGreat
namespace Go.Proofs.YthfnijlgmjkedaaGreat
set_option maxRecDepth 100000
set_option maxHeartbeats 1000000
set_option linter.unusedVariables false
set_option linter.unusedSimpArgs false
open Go Go.Fx Go.Proofs.YthfnijlgmjkedaaGreat.Tab
structure Gl where
  ch : Ch
  pp : Option Addr
  pn : Nat
  pc : Nat
def glC (g : Gl) : List Value := chC g.ch ++ [.slice g.pp g.pn g.pc]
theorem glC_len (g : Gl) : (glC g).length = 5 := rfl
def me0 : Me := ⟨0, [], []⟩
/-- what Of answers -/
def ofE (size : Int) (chars : List Ch) (rules : List Ru) (me : Me) : Int :=
  if sizeB size && (chars.all charB && rules.all ruleB) then (if decide (256 < chars.length) || decide (500 < rules.length) then 3 else if twiceB codeCmp me.chars || twiceB pairCmp me.rules then 14 else 0) else 2
/-- a metric of these, sorted -/
structure Made (size : Int) (chars : List Ch) (rules : List Ru) (me : Me) : Prop where
  size : me.size = size
  pc : me.chars.Perm chars
  pr : me.rules.Perm rules
  sc : SrtL codeCmp me.chars
  sr : SrtL pairCmp me.rules
def OkOr (m : Me) (e : Int) : Me := if e = 0 then m else me0
theorem meR_zero (w : World) : MeR w me0 none none := ⟨rfl, rfl, by decide, by decide⟩
/-- the answer lies in the result's variable -/
def Ans (w' : World) (v : Value) (m : Me) (e : Int) : Prop := ∃ p q c d, v = .tuple #[meV (OkOr m e) p q c d, iV e] ∧ MeR w' (OkOr m e) p q
/-- the answer's slices are new -/
def FrA (N : Nat) (v : Value) : Prop := ∃ m p q c d e, v = .tuple #[meV m p q c d, iV e] ∧ (∀ a, p = some a → N ≤ a.block) ∧ ∀ a, q = some a → N ≤ a.block
theorem fr_err {N : Nat} {e : Int} : FrA N (.tuple #[.agg #[iV 0, .slice none 0 0, .slice none 0 0], iV e]) := ⟨me0, none, none, 0, 0, e, rfl, (fun a h => by cases h), (fun a h => by cases h)⟩
theorem FrA.get {N : Nat} {m : Me} {p q : Option Addr} {c d : Nat} {e : Int} (h : FrA N (.tuple #[meV m p q c d, iV e])) : (∀ a, p = some a → N ≤ a.block) ∧ ∀ a, q = some a → N ≤ a.block := by
  obtain ⟨m', p', q', c', d', e', h1, h2, h3⟩ := h
  unfold meV at h1
  simp only [Value.tuple.injEq, Value.agg.injEq, Array.mk.injEq, List.cons.injEq, Value.slice.injEq] at h1
  obtain ⟨⟨_, ⟨rfl, _⟩, ⟨rfl, _⟩, _⟩, _⟩ := h1
  exact ⟨h2, h3⟩
theorem ans_err {w : World} {m : Me} {e : Int} (h : e ≠ 0) : Ans w (.tuple #[.agg #[iV 0, .slice none 0 0, .slice none 0 0], iV e]) m e :=
  ⟨none, none, 0, 0, by unfold OkOr; rw [if_neg h]; rfl, by unfold OkOr; rw [if_neg h]; exact meR_zero w⟩
section
variable {w : World}
theorem metric_Of_c {size : Int} {pg q : Option Addr} {ng cg m d : Nat} {gs : List Gl} {k : List Ru} (hn : ng = gs.length) (hm : m = k.length) (hln : ng ≤ 1000000) (hlm : m ≤ 1000000) (hp : SlR w pg (gs.flatMap glC)) (hq : SlR w q (k.flatMap ruC)) :
    Ret Go.Proofs.Tryz.prog 18 #[iV size, .slice pg ng cg, .slice q m d] w fun v w' => (∃ me, Made size (gs.map Gl.ch) k me ∧ Ans w' v me (ofE size (gs.map Gl.ch) k me) ∧ FrA w.heap.size v) ∧ Ext w w' := by
  refine enterC Go.Proofs.Tryz.func18 rfl rfl rfl ?_
  refine W_sr rfl (s_alA E rfl fun w1 hE1 hh1 hs1 => (s_as rfl (s_nil ?_)))
  refine W_sr rfl (s_as rfl (s_nil ?_))
  refine W_seq ?_
  refine W_sr rfl (s_mv rfl (s_len E rfl rfl (s_mv rfl (s_nil ?_))))
  refine W_block ?_
  refine W_loop (fun r ρ w' => ∃ ρ' i v, ρ = upd (upd (upd (upd (upd (upd (upd ρ' 0 (iV size)) 2 (.slice q m d)) 6 (.pointer (some ⟨w.heap.size, 0, none⟩))) 8 v) 12 (.slice pg ng cg)) 13 (iV ng)) 14 (iV (i : Nat)) ∧ Ext w1 w' ∧ i ≤ ng ∧ r = ng - i ∧
      Own w' 50 4 v i (((gs.take i).map Gl.ch).flatMap chC) ∧ ∀ k, v.ownBlock = some k → w1.heap.size ≤ k) ng
    ⟨_, 0, .slice none 0 0, u7 rfl rfl rfl rfl rfl rfl rfl, Mod.refl, by omega, by omega, Own.nil _ _ _, by simp [Value.ownBlock]⟩ ?_
  rintro r _ w2 ⟨ρ, i, v, rfl, hE2, hi, rfl, hown, hfr⟩
  refine W_sr rfl (s_lss rfl rfl (s_nil ?_))
  refine W_seq ?_
  refine W_if rfl (fun hc => W_skip ?_) (fun hc => W_exit ?_)
  · have hc := of_decide_eq_true hc
    have hil : i < gs.length := by omega
    obtain ⟨a, rfl, hrow⟩ := hp.some (by intro h0; have := flat_length glC 5 glC_len gs; rw [h0] at this; simp at this; omega)
    refine W_seq (W_block ?_)
    refine W_sr rfl (s_ia E rfl rfl rfl rfl (by omega) (s_lda E rfl rfl (Ext.row (hE1.trans hE2) (hrow.at glC_len hil)) rfl (s_alst E rfl rfl rfl rfl rfl fun w3 hE3 hs3 hh3 => (s_nil ?_))))
    have hr3 := row_heap hh3
    refine W_reg rfl (s_mv rfl (s_fa E rfl rfl (s_ld E rfl rfl (hr3 0 _ rfl) (s_fa E rfl rfl (s_ld E rfl rfl (hr3 1 _ rfl) (s_fa E rfl rfl (s_ld E rfl rfl (hr3 2 _ rfl) (s_fa E rfl rfl (s_ld E rfl rfl (hr3 3 _ rfl) (s_bld rfl (cells := (chC gs[i].ch).toArray) (by kernel_rfl) (s_bs E rfl rfl rfl rfl rfl (cells := (chC gs[i].ch).toArray) (by kernel_rfl) (s_ap (news := chC gs[i].ch) E rfl rfl rfl rfl (Ext.owns e1 (Ext.owns hE3 hown)) rfl rfl bcr rfl rfl (by omega) fun v' w4 hown' hmod hon => (s_as rfl (s_nil ?_))))))))))))))
    refine W_reg rfl (s_add rfl rfl (by omega) (s_mv rfl (s_nil ?_)))
    refine ⟨ng - (i + 1), by omega, _, i + 1, v', u7 rfl rfl rfl rfl rfl rfl rfl, Ext.thenMod (hE2.trans (hE3.trans e1)) hmod (fun k hk he => by have := hfr k he; omega), by omega, rfl, ?_, ?_⟩
    · rw [List.take_succ_eq_append_getElem hil, List.map_append, List.flatMap_append]
      simpa using hown'
    · intro k hk
      rcases hon with h | ⟨j, hj, hle⟩
      · exact hfr k (by rw [← h]; exact hk)
      · rw [hj] at hk; cases hk
        have h2 := hE2.size; have h3 := hE3.size
        simp at hle
        omega
  · have hc := of_decide_eq_false hc
    have hie : i = ng := by omega
    subst hie
    rw [List.take_of_length_le (by omega)] at hown
    obtain ⟨p2, c2, rfl, hsl2, _, _⟩ := hown.form
    have hlc : i = (gs.map Gl.ch).length := by simp [hn]
    generalize gs.map Gl.ch = cs at hown hsl2 hlc ⊢
    have hE02 := hE1.trans hE2
    have hh2 := Ext.heap hE2 hh1
    refine W_sr rfl (s_mv rfl (s_mv rfl (s_mv rfl (s_call rfl rfl (metric_made_c hlc hm hln hlm hsl2 (Ext.sl hE02 hq)) ?_))))
    rintro _ w3 ⟨⟨me, p3, q3, c3, d3, rfl, hR3, hsz, hpc, hpr, hsc, hsr, hfp, hfq⟩, hE3⟩
    have hmade : Made size cs k me := ⟨hsz, hpc, hpr, hsc, hsr⟩
    refine (s_alst E rfl rfl rfl rfl rfl fun w4 hE4 hs4 hh4 => (s_nil ?_))
    have hr4 := row_heap hh4
    have hE04 := hE02.trans (hE3.trans hE4)
    have hh4' := Ext.heap (hE3.trans hE4) hh2
    have callA : ∀ w', Ext w4 w' → Ret Go.Proofs.Tryz.prog 33 #[.slice p2 i c2, .func (.func 34) #[] #[]] w' _ := fun w' h => metric_all_CharMetric_c hlc hln (Ext.sl ((hE3.trans hE4).trans h) hsl2) (fun _ _ => metric_isChar_c)
    have callB : ∀ w', Ext w4 w' → Ret Go.Proofs.Tryz.prog 51 #[.slice q m d, .func (.func 52) #[] #[]] w' _ := fun w' h => metric_all_LigRule_c hm hlm (Ext.sl (hE04.trans h) hq) (fun _ _ => metric_isRule_c)
    have err : ∀ (e : Int) (w' : World), e ≠ 0 → Ext w4 w' → ofE size cs k me = e → Row (w'.setRow w.heap.size (splice (Value.agg #[iV 0, .slice none 0 0, .slice none 0 0]).cells 0 (meC me0 none none 0 0))) ⟨w.heap.size, 0, none⟩ (meC me0 none none 0 0) ∧
        (∃ me, Made size cs k me ∧ Ans (w'.setRow w.heap.size (splice (Value.agg #[iV 0, .slice none 0 0, .slice none 0 0]).cells 0 (meC me0 none none 0 0))) (.tuple #[.agg (meC me0 none none 0 0).toArray, iV e]) me (ofE size cs k me) ∧ FrA w.heap.size (.tuple #[.agg (meC me0 none none 0 0).toArray, iV e])) ∧ Ext w (w'.setRow w.heap.size (splice (Value.agg #[iV 0, .slice none 0 0, .slice none 0 0]).cells 0 (meC me0 none none 0 0))) := by
      intro e w' he hE' hof
      have fin := fin_cell (vs := meC me0 none none 0 0) (hE04.trans hE') (Nat.le_refl _) (Ext.heap hE' hh4') rfl
      exact ⟨fin.1, ⟨me, hmade, by rw [hof]; exact ans_err he, fr_err⟩, fin.2⟩
    refine W_n5 0 2 6 8 11 (iV size) (.slice q m d) (.pointer (some ⟨w.heap.size, 0, none⟩)) (.slice p2 i c2) (.pointer (some ⟨w3.heap.size, 0, none⟩)) rfl rfl rfl rfl rfl fun ρ => ?_
    refine W_sk fun K hK => ?_
    refine W_block ?_
    cases h0 : sizeB size
    · refine W_sr rfl (s_mv rfl (s_callp rfl rfl (Ret.eqv metric_IsSize_c (congrArg Value.bool h0)) (s_not rfl (s_mv rfl (s_g0 rfl (s_g0 rfl (s_g0 rfl (s_pk rfl (s_mv rfl (s_g0 rfl (s_g0 rfl (s_g0 rfl (s_pk rfl (s_as rfl (s_nil ?_)))))))))))))))
      refine W_if rfl (fun _ => ?_) (fun h => by cases h)
      refine W_sr rfl (s_bld rfl (cells := (meC me0 none none 0 0).toArray) (by kernel_rfl) (s_st E (vs := meC me0 none none 0 0) rfl rfl rfl rfl hh4' rfl rfl rfl (Nat.le_refl _) (s_as rfl (s_nil ?_))))
      obtain ⟨g1, g2⟩ := err 2 w4 (by decide) Mod.refl (by unfold ofE; rw [h0]; rfl)
      exact W_ret ⟨_, resC2 E rfl rfl rfl g1 rfl rfl, g2⟩
    cases h1 : cs.all charB
    · refine W_sr rfl (s_mv rfl (s_callp rfl rfl (Ret.eqv metric_IsSize_c (congrArg Value.bool h0)) (s_not rfl (s_mv rfl (s_g1 rfl (s_mv rfl (s_g1 rfl (s_callx rfl rfl (Ret.eqv (callA _ Mod.refl) (congrArg Value.bool h1)) fun w5 hE5 => (s_g1 rfl (s_not rfl (s_pk rfl (s_mv rfl (s_g0 rfl (s_g0 rfl (s_g0 rfl (s_pk rfl (s_as rfl (s_nil ?_))))))))))))))))))
      refine W_if rfl (fun _ => ?_) (fun h => by cases h)
      refine W_sr rfl (s_bld rfl (cells := (meC me0 none none 0 0).toArray) (by kernel_rfl) (s_st E (vs := meC me0 none none 0 0) rfl rfl rfl rfl (Ext.heap hE5 hh4') rfl rfl rfl (Nat.le_refl _) (s_as rfl (s_nil ?_))))
      obtain ⟨g1, g2⟩ := err 2 w5 (by decide) hE5 (by unfold ofE; rw [h0, h1]; rfl)
      exact W_ret ⟨_, resC2 E rfl rfl rfl g1 rfl rfl, g2⟩
    cases h2 : k.all ruleB
    · refine W_sr rfl (s_mv rfl (s_callp rfl rfl (Ret.eqv metric_IsSize_c (congrArg Value.bool h0)) (s_not rfl (s_mv rfl (s_g1 rfl (s_mv rfl (s_g1 rfl (s_callx rfl rfl (Ret.eqv (callA _ Mod.refl) (congrArg Value.bool h1)) fun w5 hE5 => (s_g1 rfl (s_not rfl (s_pk rfl (s_mv rfl (s_g1 rfl (s_mv rfl (s_g1 rfl (s_callx rfl rfl (Ret.eqv (callB _ hE5) (congrArg Value.bool h2)) fun w6 hE6 => (s_g1 rfl (s_not rfl (s_pk rfl (s_as rfl (s_nil ?_)))))))))))))))))))))
      refine W_if rfl (fun _ => ?_) (fun h => by cases h)
      refine W_sr rfl (s_bld rfl (cells := (meC me0 none none 0 0).toArray) (by kernel_rfl) (s_st E (vs := meC me0 none none 0 0) rfl rfl rfl rfl (Ext.heap (hE5.trans hE6) hh4') rfl rfl rfl (Nat.le_refl _) (s_as rfl (s_nil ?_))))
      obtain ⟨g1, g2⟩ := err 2 w6 (by decide) (hE5.trans hE6) (by unfold ofE; rw [h0, h1, h2]; rfl)
      exact W_ret ⟨_, resC2 E rfl rfl rfl g1 rfl rfl, g2⟩
    refine W_sr rfl (s_mv rfl (s_callp rfl rfl (Ret.eqv metric_IsSize_c (congrArg Value.bool h0)) (s_not rfl (s_mv rfl (s_g1 rfl (s_mv rfl (s_g1 rfl (s_callx rfl rfl (Ret.eqv (callA _ Mod.refl) (congrArg Value.bool h1)) fun w5 hE5 => (s_g1 rfl (s_not rfl (s_pk rfl (s_mv rfl (s_g1 rfl (s_mv rfl (s_g1 rfl (s_callx rfl rfl (Ret.eqv (callB _ hE5) (congrArg Value.bool h2)) fun w6 hE6 => (s_g1 rfl (s_not rfl (s_pk rfl (s_as rfl (s_nil ?_)))))))))))))))))))))
    refine W_if rfl (fun h => by cases h) (fun _ => ?_)
    refine W_n5 0 2 6 8 11 (iV size) (.slice q m d) (.pointer (some ⟨w.heap.size, 0, none⟩)) (.slice p2 i c2) (.pointer (some ⟨w3.heap.size, 0, none⟩)) rfl rfl rfl rfl rfl fun ρ => ?_
    have hE46 := hE5.trans hE6
    have hh6 := Ext.heap hE46 hh4'
    have lim : ∀ b, (decide (256 < cs.length) || decide (500 < k.length)) = b → ofE size cs k me = if b then 3 else if twiceB codeCmp me.chars || twiceB pairCmp me.rules then 14 else 0 := fun b hb => by
      unfold ofE; rw [h0, h1, h2, hb]; rfl
    by_cases h3 : (256 : Int) < i
    · have hl := lim true (by rw [decide_eq_true (show 256 < cs.length by omega)]; rfl)
      refine W_sr rfl (s_mv rfl (s_len E rfl rfl (s_cmp (c := true) rfl rfl (decide_eq_true h3) (s_mv rfl (s_g0 rfl (s_g0 rfl (s_g0 rfl (s_pk rfl (s_as rfl (s_nil ?_))))))))))
      refine W_if rfl (fun _ => ?_) (fun h => by cases h)
      refine W_sr rfl (s_bld rfl (cells := (meC me0 none none 0 0).toArray) (by kernel_rfl) (s_st E (vs := meC me0 none none 0 0) rfl rfl rfl rfl hh6 rfl rfl rfl (Nat.le_refl _) (s_as rfl (s_nil ?_))))
      obtain ⟨g1, g2⟩ := err 3 w6 (by decide) hE46 hl
      exact W_ret ⟨_, resC2 E rfl rfl rfl g1 rfl rfl, g2⟩
    by_cases h4 : (500 : Int) < m
    · have hl := lim true (by rw [decide_eq_true (show 500 < k.length by omega), Bool.or_true])
      refine W_sr rfl (s_mv rfl (s_len E rfl rfl (s_cmp (c := false) rfl rfl (decide_eq_false h3) (s_mv rfl (s_g1 rfl (s_mv rfl (s_g1 rfl (s_len E rfl rfl (s_g1 rfl (s_cmp (c := true) rfl rfl (decide_eq_true h4) (s_pk rfl (s_as rfl (s_nil ?_)))))))))))))
      refine W_if rfl (fun _ => ?_) (fun h => by cases h)
      refine W_sr rfl (s_bld rfl (cells := (meC me0 none none 0 0).toArray) (by kernel_rfl) (s_st E (vs := meC me0 none none 0 0) rfl rfl rfl rfl hh6 rfl rfl rfl (Nat.le_refl _) (s_as rfl (s_nil ?_))))
      obtain ⟨g1, g2⟩ := err 3 w6 (by decide) hE46 hl
      exact W_ret ⟨_, resC2 E rfl rfl rfl g1 rfl rfl, g2⟩
    have hl := lim false (by rw [decide_eq_false (show ¬ 256 < cs.length by omega), decide_eq_false (show ¬ 500 < k.length by omega)]; rfl)
    refine W_sr rfl (s_mv rfl (s_len E rfl rfl (s_cmp (c := false) rfl rfl (decide_eq_false h3) (s_mv rfl (s_g1 rfl (s_mv rfl (s_g1 rfl (s_len E rfl rfl (s_g1 rfl (s_cmp (c := false) rfl rfl (decide_eq_false h4) (s_pk rfl (s_as rfl (s_nil ?_)))))))))))))
    refine W_if rfl (fun h => by cases h) (fun _ => ?_)
    refine W_n5 0 2 6 8 11 (iV size) (.slice q m d) (.pointer (some ⟨w.heap.size, 0, none⟩)) (.slice p2 i c2) (.pointer (some ⟨w3.heap.size, 0, none⟩)) rfl rfl rfl rfl rfl fun ρ => ?_
    have hR6 : MeR w6 me p3 q3 := hR3.ext (hE4.trans hE46)
    have hr6 : Row w6 _ _ := Ext.row hE46 hr4
    cases h5 : twiceB codeCmp me.chars
    case true =>
      refine W_sr rfl (s_fa E rfl rfl (s_ld E rfl rfl (hr6 1 _ rfl) (s_callx rfl rfl (Ret.eqv (metric_twice_CharMetric_c rfl hR6.nch hR6.ch (fun _ _ _ => metric_compareCodes_c)) (congrArg Value.bool h5)) fun w7 hE7 => (s_mv rfl (s_g0 rfl (s_g0 rfl (s_g0 rfl (s_pk rfl (s_as rfl (s_nil ?_))))))))))
      refine W_if rfl (fun _ => ?_) (fun h => by cases h)
      refine W_sr rfl (s_bld rfl (cells := (meC me0 none none 0 0).toArray) (by kernel_rfl) (s_st E (vs := meC me0 none none 0 0) rfl rfl rfl rfl (Ext.heap hE7 hh6) rfl rfl rfl (Nat.le_refl _) (s_as rfl (s_nil ?_))))
      obtain ⟨g1, g2⟩ := err 14 w7 (by decide) (hE46.trans hE7) (by rw [hl, h5]; rfl)
      exact W_ret ⟨_, resC2 E rfl rfl rfl g1 rfl rfl, g2⟩
    cases h6 : twiceB pairCmp me.rules
    case true =>
      refine W_sr rfl (s_fa E rfl rfl (s_ld E rfl rfl (hr6 1 _ rfl) (s_callx rfl rfl (Ret.eqv (metric_twice_CharMetric_c rfl hR6.nch hR6.ch (fun _ _ _ => metric_compareCodes_c)) (congrArg Value.bool h5)) fun w7 hE7 => (s_mv rfl (s_g1 rfl (s_fa E rfl rfl (s_g1 rfl (s_ld E rfl rfl (Ext.row hE7 hr6 2 _ rfl) (s_g1 rfl (s_callx rfl rfl (Ret.eqv (metric_twice_LigRule_c rfl hR6.nru (hR6.ext hE7).ru (fun _ _ _ => metric_ComparePairs_c)) (congrArg Value.bool h6)) fun w8 hE8 => (s_pk rfl (s_as rfl (s_nil ?_)))))))))))))
      refine W_if rfl (fun _ => ?_) (fun h => by cases h)
      refine W_sr rfl (s_bld rfl (cells := (meC me0 none none 0 0).toArray) (by kernel_rfl) (s_st E (vs := meC me0 none none 0 0) rfl rfl rfl rfl (Ext.heap (hE7.trans hE8) hh6) rfl rfl rfl (Nat.le_refl _) (s_as rfl (s_nil ?_))))
      obtain ⟨g1, g2⟩ := err 14 w8 (by decide) (hE46.trans (hE7.trans hE8)) (by rw [hl, h5, h6]; rfl)
      exact W_ret ⟨_, resC2 E rfl rfl rfl g1 rfl rfl, g2⟩
    refine W_sr rfl (s_fa E rfl rfl (s_ld E rfl rfl (hr6 1 _ rfl) (s_callx rfl rfl (Ret.eqv (metric_twice_CharMetric_c rfl hR6.nch hR6.ch (fun _ _ _ => metric_compareCodes_c)) (congrArg Value.bool h5)) fun w7 hE7 => (s_mv rfl (s_g1 rfl (s_fa E rfl rfl (s_g1 rfl (s_ld E rfl rfl (Ext.row hE7 hr6 2 _ rfl) (s_g1 rfl (s_callx rfl rfl (Ret.eqv (metric_twice_LigRule_c rfl hR6.nru (hR6.ext hE7).ru (fun _ _ _ => metric_ComparePairs_c)) (congrArg Value.bool h6)) fun w8 hE8 => (s_pk rfl (s_as rfl (s_nil ?_)))))))))))))
    refine W_if rfl (fun h => by cases h) (fun _ => W_skip ?_)
    refine hK _ _ ?_
    have hE68 := hE7.trans hE8
    have fin := fin_cell (vs := meC me p3 q3 c3 d3) (hE04.trans (hE46.trans hE68)) (Nat.le_refl _) (Ext.heap hE68 hh6) rfl
    have hR8 : MeR (w8.setRow w.heap.size (splice (Value.agg #[iV 0, .slice none 0 0, .slice none 0 0]).cells 0 (meC me p3 q3 c3 d3))) me p3 q3 := by
      refine ⟨SlR.mod (setRow_mod (M := fun k => k = w.heap.size) rfl) (hR6.ext hE68).ch ?_, SlR.mod (setRow_mod (M := fun k => k = w.heap.size) rfl) (hR6.ext hE68).ru ?_, hR6.nch, hR6.nru⟩
      · intro a ha he; have := hfp a ha; have := hE1.size; have := hE2.size; omega
      · intro a ha he; have := hfq a ha; have := hE1.size; have := hE2.size; omega
    refine W_sr rfl (s_lda (xs := meC me p3 q3 c3 d3) E rfl rfl (Ext.row hE68 hr6) rfl (s_st E (vs := meC me p3 q3 c3 d3) rfl rfl rfl rfl (Ext.heap hE68 hh6) rfl rfl rfl (Nat.le_refl _) (s_as rfl (s_nil ?_))))
    have hof : ofE size cs k me = 0 := by rw [hl, h5, h6]; rfl
    refine W_ret ⟨_, resC2 E rfl rfl rfl fin.1 rfl rfl, ⟨me, hmade, ?_, ⟨me, p3, q3, c3, d3, 0, rfl, fun a ha => by have := hfp a ha; have := hE1.size; have := hE2.size; omega, fun a ha => by have := hfq a ha; have := hE1.size; have := hE2.size; omega⟩⟩, fin.2⟩
    rw [hof]
    exact ⟨p3, q3, c3, d3, rfl, hR8⟩
end
end Go.Proofs.YthfnijlgmjkedaaGreat
namespace Go.Proofs.YthfnijlgmjkedaaGreat
set_option maxRecDepth 100000
set_option maxHeartbeats 1000000
set_option linter.unusedVariables false
set_option linter.unusedSimpArgs false
open Go Go.Fx Go.Proofs.YthfnijlgmjkedaaGreat.Tab Go.RowKit
theorem slP_zero (a : Addr) (m s : Nat) : slP (some a) 0 m s = some a := by
  unfold slP; split
  · rfl
  · simp [add_zero]
section
variable {w : World}
theorem slices_Grow_CharMetric_c {n : Nat} (hn : n ≤ 2000000) : Ret Go.Proofs.Tryz.prog 96 #[.slice none 0 0, iV n] w fun v w' => Own w' 50 4 v 0 [] ∧ (∀ k, v.ownBlock = some k → w.heap.size ≤ k) ∧ Ext w w' := by
  refine enter Go.Proofs.Tryz.func96 rfl rfl rfl ?_
  refine W_sr rfl (s_as rfl (s_nil ?_))
  refine W_seq ?_
  refine W_sr rfl (s_mv rfl (s_cmp (c := false) rfl rfl (decide_eq_false (by omega)) (s_nil ?_)))
  refine W_if rfl (fun h => by cases h) (fun _ => W_skip ?_)
  refine W_seq ?_
  refine W_sr rfl (s_mv rfl (s_mv rfl (s_cap E rfl rfl (s_mv rfl (s_len E rfl rfl (s_sub rfl rfl (by omega) (s_sub rfl rfl (by omega) (s_as rfl (s_nil ?_)))))))))
  refine W_sr rfl (s_mv rfl (s_gtr rfl rfl (s_nil ?_)))
  refine W_if rfl (fun hc => ?_) (fun hc => W_skip ?_)
  · have hc := of_decide_eq_true hc
    have e0 : ((n : Int) - (0 - 0)) = n := by omega
    obtain ⟨hu, i, hi, hs⟩ := E.h_sl _ _ _ (show E.sl 22 = some (50, 4) from rfl)
    obtain ⟨i', hi', hz⟩ := E.h_zr _ _ (show E.zr 50 = some (.agg #[iV 0, iV 0, iV 0, iV 0]) from rfl)
    rw [hi] at hi'; cases hi'
    obtain ⟨i', hi', hb⟩ := E.h_bt _ _ (show E.bt 50 = some 32 from rfl)
    rw [hi] at hi'; cases hi'
    have hint := E.h_kd _ _ (show E.kd 3 = some .i64 from rfl)
    have hr := Go.Lib.run_append_nil_zeros (P := Go.Proofs.Tryz.prog) w 22 3 22 50 i _ .i64 .i64 hu hint hi hz n (by omega) (by omega) (by omega) (by rw [hb]; omega)
    have hcm := grownCap_le_maxLen w n 0 50 (by simp only [maxLen]; omega)
    refine W_reg rfl (s_mv rfl (s_mv rfl (s_cap E rfl rfl (s_slc E rfl rfl (sb_h rfl (Nat.le_refl 0)) (s_mv rfl (s_val (v := .slice (some ⟨w.heap.size, 0, none⟩) n (grownCap w n 0 50)) (w' := w.drew.alloc (.cells (Builtin.zeroCells (Value.agg #[iV 0, iV 0, iV 0, iV 0]).cells n ++ Builtin.zeroCells (Value.agg #[iV 0, iV 0, iV 0, iV 0]).cells (grownCap w n 0 50 - n)) 50)) ?_ (s_mv rfl (s_len E rfl rfl (s_slc (h := 0) E rfl rfl (sb_h rfl (Nat.zero_le _)) (s_as rfl (s_nil ?_)))))))))))
    · have e1 : ((n : Int) - ((0 : Nat) - (0 : Nat))) = n := by omega
      simp only [execOp, resolve, invoke, builtin, Sem.run_bind, Sem.run_pure, Result.andThen_ok, List.map_toArray, List.map_cons, List.map_nil]
      show Result.andThen ((Builtin.append_ #[22, 3] 22 #[.slice none 0 0, .int .i64 ((n : Int) - ((0 : Nat) - (0 : Nat)))]).run _ w) _ = _
      rw [e1, hr]
      rfl
    refine W_sr rfl (s_mv rfl (s_as rfl (s_nil ?_)))
    have hge := grownCap_ge w n 0 50
    refine W_ret ⟨_, rfl, ?_, ?_, ?_⟩
    · show Own _ _ 4 (.slice (slP (some ⟨w.heap.size, 0, none⟩) 0 _ 4) (0 - 0) (grownCap w n 0 50 - 0)) 0 []
      rw [slP_zero]
      refine ⟨rfl, .inr ⟨w.heap.size, grownCap w n 0 50, _, rfl, Nat.zero_le _, heap_alloc_new w.drew _, Nat.zero_le _, hcm, ?_, rfl⟩⟩
      simp only [Array.size_append, size_zeroCells]
      have : (Value.agg #[iV 0, iV 0, iV 0, iV 0]).cells.size = 4 := rfl
      rw [this, ← Nat.add_mul]
      congr 1
      omega
    · show ∀ k, (Value.slice (slP (some ⟨w.heap.size, 0, none⟩) 0 _ 4) (0 - 0) (grownCap w n 0 50 - 0)).ownBlock = some k → w.heap.size ≤ k
      rw [slP_zero]
      intro k hk
      have h1 : w.heap.size = k := Option.some.inj hk
      omega
    · exact Mod.alloc Ext.drew0 _
  · have hc := of_decide_eq_false hc
    refine W_sr rfl (s_mv rfl (s_as rfl (s_nil ?_)))
    exact W_ret ⟨_, rfl, Own.nil _ _ _, (show ∀ k, (Value.slice none 0 0).ownBlock = some k → w.heap.size ≤ k from fun k hk => by simp [Value.ownBlock] at hk), Mod.refl⟩
theorem slices_Grow_LigRule_c {n : Nat} (hn : n ≤ 2000000) : Ret Go.Proofs.Tryz.prog 97 #[.slice none 0 0, iV n] w fun v w' => Own w' 45 4 v 0 [] ∧ (∀ k, v.ownBlock = some k → w.heap.size ≤ k) ∧ Ext w w' := by
  refine enter Go.Proofs.Tryz.func97 rfl rfl rfl ?_
  refine W_sr rfl (s_as rfl (s_nil ?_))
  refine W_seq ?_
  refine W_sr rfl (s_mv rfl (s_cmp (c := false) rfl rfl (decide_eq_false (by omega)) (s_nil ?_)))
  refine W_if rfl (fun h => by cases h) (fun _ => W_skip ?_)
  refine W_seq ?_
  refine W_sr rfl (s_mv rfl (s_mv rfl (s_cap E rfl rfl (s_mv rfl (s_len E rfl rfl (s_sub rfl rfl (by omega) (s_sub rfl rfl (by omega) (s_as rfl (s_nil ?_)))))))))
  refine W_sr rfl (s_mv rfl (s_gtr rfl rfl (s_nil ?_)))
  refine W_if rfl (fun hc => ?_) (fun hc => W_skip ?_)
  · have hc := of_decide_eq_true hc
    have e0 : ((n : Int) - (0 - 0)) = n := by omega
    obtain ⟨hu, i, hi, hs⟩ := E.h_sl _ _ _ (show E.sl 23 = some (45, 4) from rfl)
    obtain ⟨i', hi', hz⟩ := E.h_zr _ _ (show E.zr 45 = some (.agg #[iV 0, iV 0, iV 0, iV 0]) from rfl)
    rw [hi] at hi'; cases hi'
    obtain ⟨i', hi', hb⟩ := E.h_bt _ _ (show E.bt 45 = some 32 from rfl)
    rw [hi] at hi'; cases hi'
    have hint := E.h_kd _ _ (show E.kd 3 = some .i64 from rfl)
    have hr := Go.Lib.run_append_nil_zeros (P := Go.Proofs.Tryz.prog) w 23 3 23 45 i _ .i64 .i64 hu hint hi hz n (by omega) (by omega) (by omega) (by rw [hb]; omega)
    have hcm := grownCap_le_maxLen w n 0 45 (by simp only [maxLen]; omega)
    refine W_reg rfl (s_mv rfl (s_mv rfl (s_cap E rfl rfl (s_slc E rfl rfl (sb_h rfl (Nat.le_refl 0)) (s_mv rfl (s_val (v := .slice (some ⟨w.heap.size, 0, none⟩) n (grownCap w n 0 45)) (w' := w.drew.alloc (.cells (Builtin.zeroCells (Value.agg #[iV 0, iV 0, iV 0, iV 0]).cells n ++ Builtin.zeroCells (Value.agg #[iV 0, iV 0, iV 0, iV 0]).cells (grownCap w n 0 45 - n)) 45)) ?_ (s_mv rfl (s_len E rfl rfl (s_slc (h := 0) E rfl rfl (sb_h rfl (Nat.zero_le _)) (s_as rfl (s_nil ?_)))))))))))
    · have e1 : ((n : Int) - ((0 : Nat) - (0 : Nat))) = n := by omega
      simp only [execOp, resolve, invoke, builtin, Sem.run_bind, Sem.run_pure, Result.andThen_ok, List.map_toArray, List.map_cons, List.map_nil]
      show Result.andThen ((Builtin.append_ #[23, 3] 23 #[.slice none 0 0, .int .i64 ((n : Int) - ((0 : Nat) - (0 : Nat)))]).run _ w) _ = _
      rw [e1, hr]
      rfl
    refine W_sr rfl (s_mv rfl (s_as rfl (s_nil ?_)))
    have hge := grownCap_ge w n 0 45
    refine W_ret ⟨_, rfl, ?_, ?_, ?_⟩
    · show Own _ _ 4 (.slice (slP (some ⟨w.heap.size, 0, none⟩) 0 _ 4) (0 - 0) (grownCap w n 0 45 - 0)) 0 []
      rw [slP_zero]
      refine ⟨rfl, .inr ⟨w.heap.size, grownCap w n 0 45, _, rfl, Nat.zero_le _, heap_alloc_new w.drew _, Nat.zero_le _, hcm, ?_, rfl⟩⟩
      simp only [Array.size_append, size_zeroCells]
      have : (Value.agg #[iV 0, iV 0, iV 0, iV 0]).cells.size = 4 := rfl
      rw [this, ← Nat.add_mul]
      congr 1
      omega
    · show ∀ k, (Value.slice (slP (some ⟨w.heap.size, 0, none⟩) 0 _ 4) (0 - 0) (grownCap w n 0 45 - 0)).ownBlock = some k → w.heap.size ≤ k
      rw [slP_zero]
      intro k hk
      have h1 : w.heap.size = k := Option.some.inj hk
      omega
    · exact Mod.alloc Ext.drew0 _
  · have hc := of_decide_eq_false hc
    refine W_sr rfl (s_mv rfl (s_as rfl (s_nil ?_)))
    exact W_ret ⟨_, rfl, Own.nil _ _ _, (show ∀ k, (Value.slice none 0 0).ownBlock = some k → w.heap.size ≤ k from fun k hk => by simp [Value.ownBlock] at hk), Mod.refl⟩
/-- a slice and its elements -/
structure Sl (α : Type) where
  p : Option Addr
  c : Nat
  l : List α
def slV {α : Type} (s : Sl α) : Value := .slice s.p s.l.length s.c
theorem take_flat {α : Type} (ps : List (Sl α)) (i : Nat) (h : i < ps.length) : (ps.take (i + 1)).flatMap Sl.l = (ps.take i).flatMap Sl.l ++ ps[i].l := by
  rw [List.take_succ_eq_append_getElem h]
  simp only [List.flatMap_append, List.flatMap_cons, List.flatMap_nil, List.append_nil]
theorem take_flat_le {α : Type} (ps : List (Sl α)) (i : Nat) : ((ps.take i).flatMap Sl.l).length ≤ (ps.flatMap Sl.l).length := by
  conv => rhs; rw [← List.take_append_drop i ps, List.flatMap_append, List.length_append]
  omega
theorem slices_Concat_CharMetric_c {a : Addr} {n cc : Nat} {ps : List (Sl Ch)} (hn : n = ps.length) (hs : n ≤ 1000) (hr : Row w a (ps.map slV)) (hp : ∀ s ∈ ps, SlR w s.p (s.l.flatMap chC)) (hz : ∀ s ∈ ps, s.p = none → s.c = 0) (hm : (ps.flatMap Sl.l).length ≤ 1000000) :
    Ret Go.Proofs.Tryz.prog 67 #[.slice (some a) n cc] w fun v w' => Own w' 50 4 v (ps.flatMap Sl.l).length ((ps.flatMap Sl.l).flatMap chC) ∧ (∀ k, v.ownBlock = some k → w.heap.size ≤ k) ∧ Ext w w' := by
  have cell : ∀ i (h : i < ps.length), w.cell? (a.add (i * 1)) = some (slV ps[i]) := fun i h => by rw [Nat.mul_one]; exact hr i _ (by simp [h])
  refine enter Go.Proofs.Tryz.func67 rfl rfl rfl ?_
  refine W_sr rfl (s_as rfl (s_nil ?_))
  refine W_sr rfl (s_as rfl (s_nil ?_))
  refine W_seq ?_
  refine W_sr rfl (s_mv rfl (s_len E rfl rfl (s_mv rfl (s_nil ?_))))
  refine W_block ?_
  refine W_loop (fun q ρ w' => ∃ ρ' i, ρ = upd (upd (upd (upd (upd ρ' 0 (.slice (some a) n cc)) 3 (iV ((ps.take i).flatMap Sl.l).length)) 9 (.slice (some a) n cc)) 10 (iV n)) 11 (iV (i : Nat)) ∧ i ≤ n ∧ q = n - i ∧ Ext w w') n
    ⟨_, 0, u5 rfl rfl rfl rfl rfl, by omega, by omega, Mod.refl⟩ ?_
  rintro q _ w1 ⟨ρ, i, rfl, hi, rfl, hE⟩
  refine W_sr rfl (s_lss rfl rfl (s_nil ?_))
  refine W_seq ?_
  refine W_if rfl (fun hd => W_skip ?_) (fun hd => W_exit ?_)
  · have hd := of_decide_eq_true hd
    have hil : i < ps.length := by omega
    have hle := take_flat_le ps i
    have hle1 := take_flat_le ps (i + 1)
    have ht := congrArg List.length (take_flat ps i hil)
    rw [List.length_append] at ht
    refine W_seq (W_block ?_)
    refine W_sr rfl (s_ia E rfl rfl rfl rfl (by omega) (s_ld E rfl rfl (Ext.cell hE (cell i hil)) (s_as rfl (s_nil ?_))))
    refine W_sr rfl (s_mv rfl (s_mv rfl (s_len E rfl rfl (s_add (a := (((ps.take i).flatMap Sl.l).length : Int)) (b := (ps[i].l.length : Int)) rfl rfl (by omega) (s_as rfl (s_nil ?_))))))
    refine W_sr rfl (s_mv rfl (s_cmp (c := false) rfl rfl (decide_eq_false (by omega)) (s_nil ?_)))
    refine W_if rfl (fun h => by cases h) (fun _ => W_skip ?_)
    refine W_reg rfl (s_add rfl rfl (by omega) (s_mv rfl (s_nil ?_)))
    exact ⟨n - (i + 1), by omega, _, i + 1, u5 rfl (congrArg iV (by rw [ht]; omega)) rfl rfl rfl, by omega, rfl, hE⟩
  have hd := of_decide_eq_false hd
  have hie : i = ps.length := by omega
  rw [hie, List.take_length]
  refine W_sr rfl (s_mv rfl (s_call rfl rfl (slices_Grow_CharMetric_c (n := (ps.flatMap Sl.l).length) (by omega)) ?_))
  rintro v2 w2 ⟨ho2, hf2, hE2⟩
  refine (s_as rfl (s_nil ?_))
  refine W_seq ?_
  refine W_sr rfl (s_mv rfl (s_len E rfl rfl (s_mv rfl (s_nil ?_))))
  refine W_block ?_
  refine W_loop (fun q ρ w' => ∃ ρ' i v, ρ = upd (upd (upd (upd ρ' 6 v) 25 (.slice (some a) n cc)) 26 (iV n)) 27 (iV (i : Nat)) ∧ i ≤ n ∧ q = n - i ∧ Ext w w' ∧ Own w' 50 4 v ((ps.take i).flatMap Sl.l).length (((ps.take i).flatMap Sl.l).flatMap chC) ∧ ∀ k, v.ownBlock = some k → w.heap.size ≤ k) n
    ⟨_, 0, v2, u4 rfl rfl rfl rfl, by omega, by omega, hE.trans hE2, ho2, fun k hk => by have := hf2 k hk; have := hE.size; omega⟩ ?_
  clear hE hie hd hi ho2 hf2 hE2
  rintro q _ w3 ⟨ρ, i, v, rfl, hi, rfl, hE, hown, hfr⟩
  refine W_sr rfl (s_lss rfl rfl (s_nil ?_))
  refine W_seq ?_
  refine W_if rfl (fun hd => W_skip ?_) (fun hd => W_exit ?_)
  · have hd := of_decide_eq_true hd
    have hil : i < ps.length := by omega
    have hle := take_flat_le ps i
    have hle1 := take_flat_le ps (i + 1)
    have ht := take_flat ps i hil
    have htl := congrArg List.length ht
    rw [List.length_append] at htl
    have hps := hp ps[i] (List.getElem_mem hil)
    have hz := hz ps[i] (List.getElem_mem hil)
    refine W_seq (W_block ?_)
    refine W_sr rfl (s_ia E rfl rfl rfl rfl (by omega) (s_ld E rfl rfl (Ext.cell hE (cell i hil)) (s_as rfl (s_nil ?_))))
    have hall : ∀ l : List Ch, (l.flatMap chC).all (·.oneCell') = true := fun l => by
      rw [List.all_eq_true]; intro x hx; rw [List.mem_flatMap] at hx; obtain ⟨y, _, hy⟩ := hx
      simp only [chC, List.mem_cons, List.not_mem_nil, or_false] at hy
      rcases hy with rfl | rfl | rfl | rfl <;> rfl
    obtain ⟨⟨p, c, l⟩, hsi⟩ : ∃ s, ps[i] = s := ⟨_, rfl⟩
    rw [hsi] at hps hz ht htl ⊢
    have hc : p = none → l = [] ∧ True := fun h0 => by
      subst h0
      have h1 : l.flatMap chC = [] := hps
      have h2 := flat_length chC 4 chC_len l
      rw [h1] at h2
      exact ⟨List.eq_nil_of_length_eq_zero (by simp at h2; omega), trivial⟩
    cases p with
    | none =>
      obtain ⟨rfl, _⟩ := hc rfl
      have hz : c = 0 := hz rfl
      subst hz
      refine W_reg rfl (s_mv rfl (s_mv rfl (s_ap0 E rfl hown rfl rfl (s_as rfl (s_nil ?_)))))
      refine W_reg rfl (s_add rfl rfl (by omega) (s_mv rfl (s_nil ?_)))
      refine ⟨n - (i + 1), by omega, _, i + 1, v, u4 rfl rfl rfl rfl, by omega, rfl, hE, ?_, hfr⟩
      rw [ht]
      show Own w3 _ 4 v ((ps.take i).flatMap Sl.l ++ []).length _
      rw [List.append_nil]
      exact hown
    | some b =>
      have hb9 : (((ps.take i).flatMap Sl.l).length + (Sl.mk (some b) c l).l.length) * 32 ≤ 140737488355328 ∧ ((ps.take i).flatMap Sl.l).length + (Sl.mk (some b) c l).l.length ≤ 9223372036854775807 := by omega
      refine W_reg rfl (s_mv rfl (s_mv rfl (s_ap (news := l.flatMap chC) E rfl rfl rfl rfl hown rfl rfl (Ext.row hE hps) (flat_length chC 4 chC_len l) (hall l) (hb9) fun v' w4 hown' hmod hon => (s_as rfl (s_nil ?_)))))
      refine W_reg rfl (s_add rfl rfl (by omega) (s_mv rfl (s_nil ?_)))
      refine ⟨n - (i + 1), by omega, _, i + 1, v', u4 rfl rfl rfl rfl, by omega, rfl, Ext.thenMod hE hmod (fun k hk he => by have := hfr k he; omega), ?_, ?_⟩
      · rw [ht, List.length_append, List.flatMap_append]; exact hown'
      · intro k hk
        rcases hon with h | ⟨j, hj, hle⟩
        · exact hfr k (by rw [← h]; exact hk)
        · rw [hj] at hk; cases hk
          have := hE.size
          omega
  · have hd := of_decide_eq_false hd
    have hie : i = ps.length := by omega
    subst hie
    rw [List.take_length] at hown
    refine W_sr rfl (s_mv rfl (s_as rfl (s_nil ?_)))
    exact W_ret ⟨_, rfl, hown, hfr, hE⟩
theorem slices_Concat_LigRule_c {a : Addr} {n cc : Nat} {ps : List (Sl Ru)} (hn : n = ps.length) (hs : n ≤ 1000) (hr : Row w a (ps.map slV)) (hp : ∀ s ∈ ps, SlR w s.p (s.l.flatMap ruC)) (hz : ∀ s ∈ ps, s.p = none → s.c = 0) (hm : (ps.flatMap Sl.l).length ≤ 1000000) :
    Ret Go.Proofs.Tryz.prog 68 #[.slice (some a) n cc] w fun v w' => Own w' 45 4 v (ps.flatMap Sl.l).length ((ps.flatMap Sl.l).flatMap ruC) ∧ (∀ k, v.ownBlock = some k → w.heap.size ≤ k) ∧ Ext w w' := by
  have cell : ∀ i (h : i < ps.length), w.cell? (a.add (i * 1)) = some (slV ps[i]) := fun i h => by rw [Nat.mul_one]; exact hr i _ (by simp [h])
  refine enter Go.Proofs.Tryz.func68 rfl rfl rfl ?_
  refine W_sr rfl (s_as rfl (s_nil ?_))
  refine W_sr rfl (s_as rfl (s_nil ?_))
  refine W_seq ?_
  refine W_sr rfl (s_mv rfl (s_len E rfl rfl (s_mv rfl (s_nil ?_))))
  refine W_block ?_
  refine W_loop (fun q ρ w' => ∃ ρ' i, ρ = upd (upd (upd (upd (upd ρ' 0 (.slice (some a) n cc)) 3 (iV ((ps.take i).flatMap Sl.l).length)) 9 (.slice (some a) n cc)) 10 (iV n)) 11 (iV (i : Nat)) ∧ i ≤ n ∧ q = n - i ∧ Ext w w') n
    ⟨_, 0, u5 rfl rfl rfl rfl rfl, by omega, by omega, Mod.refl⟩ ?_
  rintro q _ w1 ⟨ρ, i, rfl, hi, rfl, hE⟩
  refine W_sr rfl (s_lss rfl rfl (s_nil ?_))
  refine W_seq ?_
  refine W_if rfl (fun hd => W_skip ?_) (fun hd => W_exit ?_)
  · have hd := of_decide_eq_true hd
    have hil : i < ps.length := by omega
    have hle := take_flat_le ps i
    have hle1 := take_flat_le ps (i + 1)
    have ht := congrArg List.length (take_flat ps i hil)
    rw [List.length_append] at ht
    refine W_seq (W_block ?_)
    refine W_sr rfl (s_ia E rfl rfl rfl rfl (by omega) (s_ld E rfl rfl (Ext.cell hE (cell i hil)) (s_as rfl (s_nil ?_))))
    refine W_sr rfl (s_mv rfl (s_mv rfl (s_len E rfl rfl (s_add (a := (((ps.take i).flatMap Sl.l).length : Int)) (b := (ps[i].l.length : Int)) rfl rfl (by omega) (s_as rfl (s_nil ?_))))))
    refine W_sr rfl (s_mv rfl (s_cmp (c := false) rfl rfl (decide_eq_false (by omega)) (s_nil ?_)))
    refine W_if rfl (fun h => by cases h) (fun _ => W_skip ?_)
    refine W_reg rfl (s_add rfl rfl (by omega) (s_mv rfl (s_nil ?_)))
    exact ⟨n - (i + 1), by omega, _, i + 1, u5 rfl (congrArg iV (by rw [ht]; omega)) rfl rfl rfl, by omega, rfl, hE⟩
  have hd := of_decide_eq_false hd
  have hie : i = ps.length := by omega
  rw [hie, List.take_length]
  refine W_sr rfl (s_mv rfl (s_call rfl rfl (slices_Grow_LigRule_c (n := (ps.flatMap Sl.l).length) (by omega)) ?_))
  rintro v2 w2 ⟨ho2, hf2, hE2⟩
  refine (s_as rfl (s_nil ?_))
  refine W_seq ?_
  refine W_sr rfl (s_mv rfl (s_len E rfl rfl (s_mv rfl (s_nil ?_))))
  refine W_block ?_
  refine W_loop (fun q ρ w' => ∃ ρ' i v, ρ = upd (upd (upd (upd ρ' 6 v) 25 (.slice (some a) n cc)) 26 (iV n)) 27 (iV (i : Nat)) ∧ i ≤ n ∧ q = n - i ∧ Ext w w' ∧ Own w' 45 4 v ((ps.take i).flatMap Sl.l).length (((ps.take i).flatMap Sl.l).flatMap ruC) ∧ ∀ k, v.ownBlock = some k → w.heap.size ≤ k) n
    ⟨_, 0, v2, u4 rfl rfl rfl rfl, by omega, by omega, hE.trans hE2, ho2, fun k hk => by have := hf2 k hk; have := hE.size; omega⟩ ?_
  clear hE hie hd hi ho2 hf2 hE2
  rintro q _ w3 ⟨ρ, i, v, rfl, hi, rfl, hE, hown, hfr⟩
  refine W_sr rfl (s_lss rfl rfl (s_nil ?_))
  refine W_seq ?_
  refine W_if rfl (fun hd => W_skip ?_) (fun hd => W_exit ?_)
  · have hd := of_decide_eq_true hd
    have hil : i < ps.length := by omega
    have hle := take_flat_le ps i
    have hle1 := take_flat_le ps (i + 1)
    have ht := take_flat ps i hil
    have htl := congrArg List.length ht
    rw [List.length_append] at htl
    have hps := hp ps[i] (List.getElem_mem hil)
    have hz := hz ps[i] (List.getElem_mem hil)
    refine W_seq (W_block ?_)
    refine W_sr rfl (s_ia E rfl rfl rfl rfl (by omega) (s_ld E rfl rfl (Ext.cell hE (cell i hil)) (s_as rfl (s_nil ?_))))
    have hall : ∀ l : List Ru, (l.flatMap ruC).all (·.oneCell') = true := fun l => by
      rw [List.all_eq_true]; intro x hx; rw [List.mem_flatMap] at hx; obtain ⟨y, _, hy⟩ := hx
      simp only [ruC, List.mem_cons, List.not_mem_nil, or_false] at hy
      rcases hy with rfl | rfl | rfl | rfl <;> rfl
    obtain ⟨⟨p, c, l⟩, hsi⟩ : ∃ s, ps[i] = s := ⟨_, rfl⟩
    rw [hsi] at hps hz ht htl ⊢
    have hc : p = none → l = [] ∧ True := fun h0 => by
      subst h0
      have h1 : l.flatMap ruC = [] := hps
      have h2 := flat_length ruC 4 ruC_len l
      rw [h1] at h2
      exact ⟨List.eq_nil_of_length_eq_zero (by simp at h2; omega), trivial⟩
    cases p with
    | none =>
      obtain ⟨rfl, _⟩ := hc rfl
      have hz : c = 0 := hz rfl
      subst hz
      refine W_reg rfl (s_mv rfl (s_mv rfl (s_ap0 E rfl hown rfl rfl (s_as rfl (s_nil ?_)))))
      refine W_reg rfl (s_add rfl rfl (by omega) (s_mv rfl (s_nil ?_)))
      refine ⟨n - (i + 1), by omega, _, i + 1, v, u4 rfl rfl rfl rfl, by omega, rfl, hE, ?_, hfr⟩
      rw [ht]
      show Own w3 _ 4 v ((ps.take i).flatMap Sl.l ++ []).length _
      rw [List.append_nil]
      exact hown
    | some b =>
      have hb9 : (((ps.take i).flatMap Sl.l).length + (Sl.mk (some b) c l).l.length) * 32 ≤ 140737488355328 ∧ ((ps.take i).flatMap Sl.l).length + (Sl.mk (some b) c l).l.length ≤ 9223372036854775807 := by omega
      refine W_reg rfl (s_mv rfl (s_mv rfl (s_ap (news := l.flatMap ruC) E rfl rfl rfl rfl hown rfl rfl (Ext.row hE hps) (flat_length ruC 4 ruC_len l) (hall l) (hb9) fun v' w4 hown' hmod hon => (s_as rfl (s_nil ?_)))))
      refine W_reg rfl (s_add rfl rfl (by omega) (s_mv rfl (s_nil ?_)))
      refine ⟨n - (i + 1), by omega, _, i + 1, v', u4 rfl rfl rfl rfl, by omega, rfl, Ext.thenMod hE hmod (fun k hk he => by have := hfr k he; omega), ?_, ?_⟩
      · rw [ht, List.length_append, List.flatMap_append]; exact hown'
      · intro k hk
        rcases hon with h | ⟨j, hj, hle⟩
        · exact hfr k (by rw [← h]; exact hk)
        · rw [hj] at hk; cases hk
          have := hE.size
          omega
  · have hd := of_decide_eq_false hd
    have hie : i = ps.length := by omega
    subst hie
    rw [List.take_length] at hown
    refine W_sr rfl (s_mv rfl (s_as rfl (s_nil ?_)))
    exact W_ret ⟨_, rfl, hown, hfr, hE⟩
end
end Go.Proofs.YthfnijlgmjkedaaGreat
namespace Go.Fx
open Go.RowKit
set_option linter.unusedVariables false
set_option linter.unusedSimpArgs false
/-! ## operations in whatever order, each proved once: what an operation yields is said by G and stays true as the world grows -/
/-- the temporary that operation j writes -/
def dsOf (ops : Array Oper) (j : Nat) : Nat := ((ops[j]?).bind (·.dst)).getD 0
/-- operation i waits for j -/
def wts (ops : Array Oper) (i j : Nat) : Bool := ((ops[i]?).map fun o => o.after.any fun e => Region.binds .any e && Nat.beq e.on j).getD false
/-- the operations of A: each writes a temporary of its own and waits for listed ones and earlier ones of A only; all others that are not listed wait for all of A -/
def setOk (ops : Array Oper) (L0 : Array Bool) (A : List Nat) : Bool :=
  (Nat.beq L0.size ops.size && A.all fun i => !L0.getD i false && (((ops[i]?).map fun o => o.dst.isSome && o.after.all fun e => !Region.binds .any e || (L0.getD e.on false || (A.contains e.on && Nat.blt e.on i))).getD false) && A.all fun j => Nat.beq i j || !Nat.beq (dsOf ops i) (dsOf ops j)) &&
  (List.range ops.size).all fun i => L0.getD i false || (A.contains i || A.all fun j => wts ops i j)
def addAll (L0 : Array Bool) : List Nat → Array Bool
  | [] => L0
  | j :: A => addAll (L0.setIfInBounds j true) A
/-- t is no temporary of A's -/
def frs (ops : Array Oper) (A : List Nat) (t : Nat) : Bool := A.all fun j => !Nat.beq t (dsOf ops j)
theorem wts_of {ops : Array Oper} {i j : Nat} {o : Oper} (hi : ops[i]? = some o) (h : wts ops i j = true) : ∃ e ∈ o.after, Region.binds .any e = true ∧ e.on = j := by
  unfold wts at h
  simp only [hi, Option.map_some, Option.getD_some, Array.any_eq_true, Bool.and_eq_true, Nat.beq_eq] at h
  obtain ⟨k, hk, hb, he⟩ := h
  exact ⟨_, Array.getElem_mem hk, hb, he⟩
section
variable {P : Program} {n : Nat} {ops : Array Oper} {K : Fr → World → Prop}
theorem addAll_get (A : List Nat) (L0 : Array Bool) (j : Nat) : (addAll L0 A).size = L0.size ∧ (addAll L0 A).getD j false = (L0.getD j false || (A.contains j && decide (j < L0.size))) := by
  induction A generalizing L0 with
  | nil => simp [addAll]
  | cons i A ih =>
    have := ih (L0.setIfInBounds i true)
    refine ⟨by rw [addAll, this.1]; simp, ?_⟩
    rw [addAll, this.2]
    by_cases e : i = j
    · subst e
      by_cases hl : i < L0.size
      · simp [hl]
      · simp [hl]
    · have h1 : (L0.setIfInBounds i true).getD j false = L0.getD j false := by
        simp only [Array.getD_eq_getD_getElem?, Array.getElem?_setIfInBounds_ne e]
      have h2 : (j == i) = false := by simpa using fun h => e h.symm
      rw [h1, List.contains_cons, h2]
      simp
/-- how many of A are not listed -/
def cnt (A : List Nat) (L : Array Bool) : Nat := A.countP fun j => !L.getD j false
theorem cnt_set {A : List Nat} {j : Nat} {L : Array Bool} (hj : j ∈ A) (hL : j < L.size) (h : L.getD j false = false) : cnt A (L.setIfInBounds j true) < cnt A L := by
  unfold cnt
  induction A with
  | nil => cases hj
  | cons i A ih =>
    have hle : ∀ A : List Nat, A.countP (fun k => !(L.setIfInBounds j true).getD k false) ≤ A.countP (fun k => !L.getD k false) := fun A => by
      refine List.countP_mono_left fun k _ hk => ?_
      by_cases e : j = k
      · subst e; simp [hL] at hk
      · simpa only [Array.getD_eq_getD_getElem?, Array.getElem?_setIfInBounds_ne e] using hk
    by_cases e : j = i
    · subst e
      have h2 : (L.setIfInBounds j true).getD j false = true := by simp [hL]
      rw [List.countP_cons, List.countP_cons, h2, h]
      have := hle A
      simp only [Bool.not_true, Bool.not_false, if_true, if_false, Bool.false_eq_true]; omega
    · have h2 : (L.setIfInBounds j true).getD i false = L.getD i false := by
        simp only [Array.getD_eq_getD_getElem?, Array.getElem?_setIfInBounds_ne e]
      have hjA : j ∈ A := by
        rcases List.mem_cons.1 hj with h | h
        · exact absurd h e
        · exact h
      rw [List.countP_cons, List.countP_cons, h2]
      have := ih hjA
      omega
def Stp (P : Program) (ops : Array Oper) (A : List Nat) (G : Nat → Value → World → Prop) (ρ0 : Fr) (w0 : World) (i : Nat) : Prop :=
  ∀ o, ops[i]? = some o → ∀ ρ w, Ext w0 w → (∀ t, frs ops A t = true → ρ t = ρ0 t) → (∀ j, j ∈ A → wts ops i j = true → G j (ρ (dsOf ops j)) w) →
      vcs P ops.toList (fun ρ' w' => Ext w w' ∧ ∃ v, ρ' = put ρ (some (dsOf ops i)) v ∧ G i v w') [o] ρ w
theorem D_mono_fuel {R : World → Prop} {M : List Nat} : ∀ (f f' : Nat) (L : Array Bool) (ρ : Fr) (w : World), f ≤ f' → D P n ops R M K f L ρ w → D P n ops R M K f' L ρ w := by
  intro f f' L ρ w hle h a ha
  have key : ∀ (f f' : Nat) (L : Array Bool) (a : Act) (w : World), f ≤ f' → wA P ops (nrm n K) R M f L a w → wA P ops (nrm n K) R M f' L a w := by
    intro f
    induction f with
    | zero =>
      intro f' L a w _ h
      cases f' with
      | zero => exact h
      | succ f' => exact ⟨fun _ => h.2, fun i hi => by rw [h.1] at hi; cases hi⟩
    | succ f ih =>
      intro f' L a w hle h
      cases f' with
      | zero => omega
      | succ f' => exact ⟨h.1, fun i hi => wpOp_mono (fun a' w' h' => ⟨h'.1, ih f' _ _ _ (by omega) h'.2⟩) (h.2 i hi)⟩
  exact key f f' L a w hle (h a ha)
theorem D_set {R : World → Prop} {fuel fuel' : Nat} {L0 : Array Bool} {ρ0 : Fr} {w0 : World} (A : List Nat) (G : Nat → Value → World → Prop) (hok : okOps n ops = true) (hpre : setOk ops L0 A = true) (hf : Nat.ble (fuel' + A.length) fuel = true) (hR : ∀ w, Ext w0 w → R w) (hmono : ∀ j v w w', Ext w w' → G j v w → G j v w')
    (hstep : ∀ i ∈ A, Stp P ops A G ρ0 w0 i)
    (hend : ∀ ρ w, Ext w0 w → (∀ t, frs ops A t = true → ρ t = ρ0 t) → (∀ j, j ∈ A → G j (ρ (dsOf ops j)) w) → D P n ops R [] K fuel' (addAll L0 A) ρ w) :
    D P n ops R [] K fuel L0 ρ0 w0 := by
  simp only [setOk, Bool.and_eq_true, List.all_eq_true, List.mem_range, Nat.beq_eq] at hpre
  obtain ⟨⟨hs0, h1⟩, h2⟩ := hpre
  have hun0 : ∀ i ∈ A, L0.getD i false = false := fun i hi => by simpa using (h1 i hi).1.1
  have hds : ∀ i ∈ A, ∀ j ∈ A, dsOf ops i = dsOf ops j → i = j := by
    intro i hi j hj he
    have := (h1 i hi).2 j hj
    simp only [Bool.or_eq_true, Nat.beq_eq, Bool.not_eq_true', he] at this
    rcases this with h | h
    · exact h
    · rw [Nat.beq_refl] at h; cases h
  have hsz : ∀ i ∈ A, i < ops.size := by
    intro i hi
    have := (h1 i hi).1.2
    by_cases h : i < ops.size
    · exact h
    · rw [Array.getElem?_eq_none (by omega)] at this; cases this
  have hlow : ∀ i ∈ A, ∀ o, ops[i]? = some o → ∀ e ∈ o.after, Region.binds .any e = true → L0.getD e.on false = true ∨ (e.on ∈ A ∧ e.on < i) := by
    intro i hi o ho e he hb
    have := (h1 i hi).1.2
    rw [ho] at this
    simp only [Option.map_some, Option.getD_some, Bool.and_eq_true, Array.all_eq_true, Bool.or_eq_true, Bool.not_eq_true', Nat.blt_eq, List.contains_iff_mem] at this
    obtain ⟨k, hk, rfl⟩ := Array.getElem_of_mem he
    rcases this.2 k hk with h | h | h
    · rw [hb] at h; cases h
    · exact .inl h
    · exact .inr h
  have hall : ∀ i, i < ops.size → L0.getD i false = false → i ∉ A → ∀ j ∈ A, wts ops i j = true := by
    intro i hs hl hA j hj
    have := h2 i hs
    simp only [Bool.or_eq_true, List.all_eq_true, List.contains_iff_mem] at this
    rcases this with h | h | h
    · rw [hl] at h; cases h
    · exact absurd h hA
    · exact h j hj
  have hgt : ∀ (L : Array Bool) j, j < L.size → L.getD j true = L.getD j false := fun L j hj => by simp [hj]
  have key : ∀ c (L : Array Bool) ρ w, cnt A L ≤ c → L.size = ops.size → (∀ j, j ∉ A → L.getD j false = L0.getD j false) → Ext w0 w → (∀ t, frs ops A t = true → ρ t = ρ0 t) → (∀ j, j ∈ A → L.getD j false = true → G j (ρ (dsOf ops j)) w) →
      D P n ops R [] K (fuel' + c) L ρ w := by
    intro c
    induction c with
    | zero =>
      intro L ρ w hc hsz' hhi hE hag hG
      have hlo : ∀ j ∈ A, L.getD j false = true := by
        intro j hj
        have := List.countP_eq_zero.1 (Nat.le_zero.1 hc) j hj
        simpa using this
      have : L = addAll L0 A := by
        apply Array.ext
        · rw [(addAll_get A L0 0).1, hs0, hsz']
        · intro j hj hj'
          have e1 : L[j] = L.getD j false := by simp [hj]
          have e2 : (addAll L0 A)[j] = (addAll L0 A).getD j false := by simp [hj']
          rw [e1, e2, (addAll_get A L0 j).2]
          by_cases h : j ∈ A
          · rw [hlo j h]; simp [h, show j < L0.size by omega]
          · rw [hhi j h]; simp [h]
      rw [this]
      exact hend ρ w hE hag (fun j hj => hG j hj (hlo j hj))
    | succ c ih =>
      intro L ρ w hc hsz' hhi hE hag hG
      by_cases hex : ∃ i, i ∈ A ∧ L.getD i false = false
      case neg =>
        refine D_mono_fuel (fuel' + c) _ L ρ w (by omega) (ih L ρ w ?_ hsz' hhi hE hag hG)
        have : cnt A L = 0 := List.countP_eq_zero.2 fun j hj => by
          cases hv : L.getD j false
          · exact absurd ⟨j, hj, hv⟩ hex
          · simp
        omega
      case pos =>
      intro a ha
      have hmin : ∃ i, i ∈ A ∧ L.getD i false = false ∧ ∀ j, j < i → j ∈ A → L.getD j false = true := by
        obtain ⟨i, hi, hx⟩ := hex
        clear hc
        induction i using Nat.strongRecOn with
        | _ i ihh =>
          by_cases h : ∀ j, j < i → j ∈ A → L.getD j false = true
          · exact ⟨i, hi, hx, h⟩
          · have : ∃ j, j < i ∧ j ∈ A ∧ L.getD j false = false := by
              apply Classical.byContradiction
              intro hn
              apply h
              intro j hj hjA
              cases hv : L.getD j false
              · exact absurd ⟨j, hj, hjA, hv⟩ hn
              · rfl
            obtain ⟨j, hj, hjA, hv⟩ := this
            exact ihh j hj hjA hv
      obtain ⟨i0, hi0, hun1, hbel⟩ := hmin
      have hkeep : ∀ j, L0.getD j false = true → L.getD j false = true := fun j hj => by
        rw [hhi j (fun hA => by rw [hun0 j hA] at hj; cases hj)]; exact hj
      have hready0 : i0 ∈ Region.ready .any ops L := by
        refine mem_ready.2 ⟨by rw [hgt L i0 (by rw [hsz']; exact hsz i0 hi0)]; exact hun1, ops[i0]'(hsz i0 hi0), by simp, fun e he hb => ?_⟩
        rcases hlow i0 hi0 _ (by simp) e he hb with h | h
        · exact hkeep _ h
        · exact hbel _ h.2 h.1
      refine ⟨fun h0 => (by rw [h0] at hready0; cases hready0), fun j hj => ?_⟩
      obtain ⟨hun, oj, hoj, hdep⟩ := mem_ready.1 hj
      have hjs : j < ops.size := (Array.getElem?_eq_some_iff.1 hoj).1
      have hun : L.getD j false = false := by rw [← hgt L j (by omega)]; exact hun
      have hjA : j ∈ A := by
        apply Classical.byContradiction
        intro h
        have hl0 : L0.getD j false = false := by rw [← hhi j h]; exact hun
        obtain ⟨e, he, hb, heq⟩ := wts_of hoj (hall j hjs hl0 h i0 hi0)
        have := hdep e he hb
        rw [heq, hun1] at this; cases this
      refine D_mem hok hoj ?_ ha
      refine vcs_mono (fun ρ' w' hx => ?_) (hstep j hjA oj hoj ρ w hE hag (fun k hk hw => hG k hk ?_))
      · obtain ⟨hE', v, rfl, hv⟩ := hx
        refine ⟨fun _ => hR _ (hE.trans hE'), ih _ _ _ ?_ ?_ ?_ ?_ ?_ ?_⟩
        · have := cnt_set hjA (by omega) hun; omega
        · simp [hsz']
        · intro k hk
          rw [← hhi k hk, Array.getD_eq_getD_getElem?, Array.getElem?_setIfInBounds_ne (fun h => by subst h; exact hk hjA), ← Array.getD_eq_getD_getElem?]
        · exact hE.trans hE'
        · intro t ht
          simp only [put, upd]
          have hne : ¬ t = dsOf ops j := by
            intro h
            have := List.all_eq_true.1 ht j hjA
            simp only [Bool.not_eq_true', h] at this
            rw [Nat.beq_refl] at this; cases this
          rw [if_neg hne]
          exact hag t ht
        · intro k hk hl
          by_cases e : k = j
          · subst e
            simp only [put, upd, if_pos]
            exact hv
          · have hne : dsOf ops k ≠ dsOf ops j := fun h => e (hds k hk j hjA h)
            simp only [put, upd]
            rw [if_neg hne]
            rw [Array.getD_eq_getD_getElem?, Array.getElem?_setIfInBounds_ne (fun h => e h.symm), ← Array.getD_eq_getD_getElem?] at hl
            exact hmono _ _ _ _ hE' (hG k hk hl)
      · obtain ⟨e, he, hb, heq⟩ := wts_of hoj hw
        have := hdep e he hb
        rw [heq] at this
        exact this
  have h0 : cnt A L0 ≤ A.length := List.countP_le_length
  exact D_mono_fuel _ _ _ _ _ (Nat.le_of_ble_eq_true hf) (key A.length L0 ρ0 w0 h0 hs0 (fun _ _ => rfl) Mod.refl (fun _ _ => rfl) (fun j hj hl => by rw [hun0 j hj] at hl; cases hl))
end
end Go.Fx

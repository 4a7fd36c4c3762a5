/- Contracts of functions that the laws of this seat call: what each answers, for every input that its hypotheses name. -/
import Derived.Test.YthfnijlgmjkedaaGreatG8
import Derived.Test.YthfnijlgmjkedaaGreatG7
import Derived.Test.YthfnijlgmjkedaaGreatG2
import Derived.WalkKit
import Derived.ProofKit
namespace Go.Proofs.YthfnijlgmjkedaaGreat
set_option maxRecDepth 100000
set_option maxHeartbeats 2000000
set_option linter.unusedVariables false
set_option linter.unusedSimpArgs false
open Go Go.Fx Go.Proofs.YthfnijlgmjkedaaGreat.Tab
theorem sumFrom_take (l : List Int) : ∀ (i : Nat) (s : Int) (k : Nat) (h : k < l.length), sumFrom i s (l.take (k + 1)) = (sumFrom i s (l.take k) + (i + k + 1) * l[k]) % 4294967296 := by
  induction l with
  | nil => intro i s k h; simp at h
  | cons c l ih =>
    intro i s k h
    cases k with
    | zero => simp [sumFrom]
    | succ k =>
      simp only [List.take_succ_cons, sumFrom, List.getElem_cons_succ]
      rw [ih (i + 1) _ k (by simpa using h)]
      congr 2
      congr 1
      omega
section
variable {w : World}
theorem fleuronref27_Closed_c {p : Option Addr} {n c : Nat} {l : List Int} (ho : OwnF w 5 1 (.slice p n c) n (l.map bV)) (hn : n = l.length) (hl : n ≤ 1000000) (hb : byt l) :
    Ret Go.Proofs.Tryz.prog 81 #[.slice p n c] w fun v' w' => Own w' 5 1 v' (n + 4) ((l ++ bytes4 (sumB l)).map bV) ∧ Mod (fun k => (Value.slice p n c).ownBlock = some k) w w' ∧ OldOrNew w (.slice p n c) v' := by
  refine enter Go.Proofs.Tryz.func81 rfl rfl rfl ?_
  have hp : SlR w p (l.map bV) := by obtain ⟨p', c', h1, h2, _⟩ := ho.form; cases h1; exact h2
  refine W_sr rfl (s_as rfl (s_nil ?_))
  refine W_sr rfl (s_as rfl (s_nil ?_))
  refine W_seq ?_
  refine W_sr rfl (s_mv rfl (s_len E rfl rfl (s_mv rfl (s_nil ?_))))
  refine W_block ?_
  refine W_loop (fun m ρ w' => ∃ ρ' i, ρ = upd (upd (upd (upd (upd ρ' 0 (.slice p n c)) 3 (iV (sumB (l.take i)))) 6 (.slice p n c)) 7 (iV n)) 8 (iV (i : Nat)) ∧ w' = w ∧ i ≤ n ∧ m = n - i) n ⟨_, 0, u5 rfl rfl rfl rfl rfl, rfl, by omega, by omega⟩ ?_
  rintro m _ _ ⟨ρ, i, rfl, rfl, hi, rfl⟩
  refine W_sr rfl (s_lss rfl rfl (s_nil ?_))
  refine W_seq ?_
  refine W_if rfl (fun hc => W_skip ?_) (fun hc => W_exit ?_)
  · have hc := of_decide_eq_true hc
    have hil : i < l.length := by omega
    obtain ⟨a, rfl, hcell⟩ := sl_bytes hp hil
    have hy := hb l[i] (List.getElem_mem hil)
    have hst := sumFrom_take l 0 0 i hil
    have hbd := sumFrom_bd (l.take i) 0 0 (by decide)
    obtain ⟨y, hye⟩ : ∃ y, y = l[i] := ⟨_, rfl⟩
    rw [← hye] at hcell hy hst
    obtain ⟨s, hs⟩ : ∃ s, s = sumFrom 0 0 (l.take i) := ⟨_, rfl⟩
    rw [← hs] at hst hbd
    have hbd2 := mul_bd (a := y) (b := (i : Int) + 1) (A := 255) (B := 1000001) ⟨by omega, by omega⟩ ⟨by omega, by omega⟩ (by decide)
    have hcm : ((i : Int) + 1) * y = y * ((i : Int) + 1) := Int.mul_comm _ _
    have e2 : IntKind.i64.wrap y = y := wrap64_in (by omega) (by omega)
    refine W_n5 0 3 6 7 8 (.slice (some a) n c) (iV s) (.slice (some a) n c) (iV n) (iV i) rfl (congrArg iV hs.symm) rfl rfl rfl fun ρ => ?_
    refine W_seq (W_block ?_)
    refine W_sr rfl (s_mv rfl (s_ia E rfl rfl rfl rfl (by omega) (s_ld E rfl rfl hcell (s_as rfl (s_as rfl (s_nil ?_))))))
    refine W_reg rfl (s_mv rfl (s_mv rfl (s_add rfl rfl (by omega) (s_mv rfl (s_cvx E rfl rfl rfl e2 (s_mul (a := (i : Int) + 1) (b := y) rfl rfl (by omega) (s_add (a := s) (b := ((i : Int) + 1) * y) rfl rfl (by omega) (s_rem rfl rfl (by decide) (s_as rfl (s_nil ?_))))))))))
    refine W_reg rfl (s_add rfl rfl (by omega) (s_mv rfl (s_nil ?_)))
    refine ⟨n - (i + 1), by omega, _, i + 1, u5 rfl (congrArg iV ?_) rfl rfl rfl, rfl, by omega, rfl⟩
    show (s + ((i : Int) + 1) * y).tmod 4294967296 = sumFrom 0 0 (l.take (i + 1))
    rw [hst, Int.tmod_eq_emod_of_nonneg]
    · have e : ((0 : Nat) : Int) + i + 1 = (i : Int) + 1 := by omega
      rw [e]
    · have := Int.mul_nonneg (show 0 ≤ (i : Int) + 1 by omega) hy.1
      omega
  · have hc := of_decide_eq_false hc
    have e : l.take i = l := List.take_of_length_le (by omega)
    have call := fleuronref27_Bytes_c (x := sumB (l.take i)) (many := 4) ho hn (by omega) (by decide)
    refine W_sr rfl (s_mv rfl (s_mv rfl (s_call rfl rfl call fun v w2 h => (s_as rfl (s_nil ?_)))))
    obtain ⟨h1, h2⟩ := h
    rw [bytesK4, e] at h1
    exact W_ret ⟨_, rfl, h1, h2⟩
/-- what an insertion makes -/
def insU (l : List Int) (n : Int) : List Int :=
  let at_ := (l.takeWhile fun y => decide (y < n)).length
  if at_ < l.length ∧ l.getD at_ 0 = n then l else l.take at_ ++ ([n] ++ l.drop at_)
theorem takeWhile_at {α : Type} {p : α → Bool} {l : List α} {k : Nat} (hk : k ≤ l.length) (h : ∀ j (hj : j < k), p l[j] = true) (hs : ∀ h : k < l.length, p l[k] = false) : (l.takeWhile p).length = k := by
  induction l generalizing k with
  | nil => simp at hk; subst hk; rfl
  | cons a l ih =>
    cases k with
    | zero => have := hs (by simp); simp only [List.getElem_cons_zero] at this; simp [List.takeWhile_cons, this]
    | succ k =>
      have h0 := h 0 (by omega)
      simp only [List.getElem_cons_zero] at h0
      rw [List.takeWhile_cons, if_pos h0, List.length_cons]
      rw [ih (by simpa using hk) (fun j hj => by have := h (j + 1) (by omega); simpa using this) (fun hh => by have := hs (by simpa using hh); simpa using this)]
theorem fleuronref27_table_c {p : Option Addr} {n c : Nat} {l : List Ch} {k : Nat} (hn : n = l.length) (hm : n ≤ 1000) (hk : k < 3) (hp : SlR w p (l.flatMap chC)) :
    Ret Go.Proofs.Tryz.prog 79 #[.slice p n c, iV k] w fun v w' => Own w' 3 1 v ((l.map (dimF k)).foldl insU []).length (((l.map (dimF k)).foldl insU []).map iV) ∧ (∀ j, v.ownBlock = some j → w.heap.size ≤ j) ∧ Ext w w' := by
  refine enter Go.Proofs.Tryz.func79 rfl rfl rfl ?_
  have hS := (Sep.start (w := w)).nil 3 1
  refine W_sr rfl (s_as rfl (s_nil ?_))
  refine W_sr rfl (s_as rfl (s_nil ?_))
  refine W_seq ?_
  refine W_sr rfl (s_mv rfl (s_len E rfl rfl (s_mv rfl (s_nil ?_))))
  refine W_block ?_
  refine W_loop (fun m ρ w' => ∃ ρ' i v o, ρ = upd (upd (upd (upd (upd ρ' 1 (iV k)) 5 v) 10 (.slice p n c)) 11 (iV n)) 12 (iV (i : Nat)) ∧ i ≤ n ∧ m = n - i ∧ o.length ≤ i ∧ ((l.take i).map (dimF k)).foldl insU [] = o ∧ Sep w w' [ow 3 1 v o.length (o.map iV)]) n
    ⟨_, 0, _, [], u5 rfl rfl rfl rfl rfl, by omega, by omega, by simp, rfl, hS⟩ ?_
  clear hS
  rintro m _ w1 ⟨ρ, i, v, o, rfl, hi, rfl, hol, hfo, hS⟩
  refine W_sr rfl (s_lss rfl rfl (s_nil ?_))
  refine W_seq ?_
  refine W_if rfl (fun hc => W_skip ?_) (fun hc => W_exit ?_)
  · have hc := of_decide_eq_true hc
    have hil : i < l.length := by omega
    obtain ⟨a, rfl, hrow⟩ := hp.some (by intro h0; have := flat_length chC 4 chC_len l; rw [h0] at this; simp at this; omega)
    obtain ⟨r, hr⟩ : ∃ r, r = l[i] := ⟨_, rfl⟩
    have hrr := Ext.row hS.ext (hrow.at chC_len hil)
    rw [← hr] at hrr
    have hfo1 : ((l.take (i + 1)).map (dimF k)).foldl insU [] = insU o (dimF k r) := by
      rw [List.take_succ_eq_append_getElem hil, List.map_append, List.foldl_append, hfo, hr]; rfl
    obtain ⟨y, hy⟩ : ∃ y, y = dimF k r := ⟨_, rfl⟩
    rw [← hy] at hfo1
    refine W_sk fun K hK => ?_
    have H : ∀ (ρ : Fr) w' v o', insU o y = o' → o'.length ≤ i + 1 → Sep w w' [ow 3 1 v o'.length (o'.map iV)] → ρ 1 = iV k → ρ 5 = v → ρ 10 = .slice (some a) n c → ρ 11 = iV n → ρ 12 = iV i → K ρ w' := by
      intro ρ w' v o' he hl' hS q1 q5 q10 q11 q12
      rw [u5 q1 q5 q10 q11 q12]
      refine hK _ _ ?_
      refine W_reg rfl (s_add rfl rfl (by omega) (s_mv rfl (s_nil ?_)))
      exact ⟨n - (i + 1), by omega, _, i + 1, v, o', u5 rfl rfl rfl rfl rfl, by omega, rfl, hl', by rw [hfo1, he], hS⟩
    refine W_block ?_
    refine W_sr rfl (s_ia E rfl rfl rfl rfl (by omega) (s_lda E rfl rfl hrr rfl (s_alS hS E rfl rfl fun w2 g hS => (s_stS hS 1 E (us := chC r) rfl rfl rfl rfl rfl rfl rfl rfl rfl rfl fun w3 hS => (s_nil ?_)))))
    refine W_sr rfl (s_lda (xs := chC r) E rfl rfl (hS.row 1 rfl) rfl (s_mv rfl (s_callE hS rfl rfl (Ret.eqv (fleuronref27_dimension_c (c := r) hk) (congrArg iV hy.symm)) fun w4 hS => (s_as rfl (s_nil ?_)))))
    refine W_n6 1 5 8 10 11 12 (iV k) v (iV y) (.slice (some a) n c) (iV n) (iV i) rfl rfl rfl rfl rfl rfl fun ρ => ?_
    have hS : Sep w w4 [ow 3 1 v o.length (o.map iV)] := hS.take 1
    obtain ⟨q, oc, hve, hq, hoc, hqb⟩ := (hS.own 0 rfl).form
    subst hve
    refine W_sr rfl (s_as rfl (s_nil ?_))
    refine W_sk fun K2 hK2 => ?_
    have H2 : ∀ (ρ : Fr) at_, at_ ≤ o.length → (o.takeWhile fun z => decide (z < y)).length = at_ → ρ 1 = iV k → ρ 5 = .slice q o.length oc → ρ 8 = iV y → ρ 9 = iV (at_ : Nat) → ρ 10 = .slice (some a) n c → ρ 11 = iV n → ρ 12 = iV i → K2 ρ w4 := by
      intro ρ at_ hat htw q1 q5 q8 q9 q10 q11 q12
      rw [u7 q1 q5 q8 q9 q10 q11 q12]
      refine hK2 _ _ ?_
      have heq : insU o y = if at_ < o.length ∧ o.getD at_ 0 = y then o else o.take at_ ++ ([y] ++ o.drop at_) := by unfold insU; rw [htw]
      refine W_sk fun K3 hK3 => ?_
      have noC : oc = 0 ∨ q ≠ none := by
        rcases (hS.own 0 rfl).2 with ⟨h1, _⟩ | ⟨g', cap, cur, h1, _⟩
        · left; exact (Value.slice.inj h1).2.2
        · right; rw [(Value.slice.inj h1).1]; simp
      have hqn : q = none → o = [] ∧ oc = 0 := by
        intro h; subst h
        have h1 : o.map iV = [] := hq
        exact ⟨by simpa using h1, by rcases noC with h | h; exact h; exact absurd rfl h⟩
      have hnn : slP q at_ oc 1 = none → o.length - at_ = 0 ∧ oc - at_ = 0 := by
        intro h
        cases q with
        | none => obtain ⟨rfl, rfl⟩ := hqn rfl; simp
        | some b => unfold slP at h; split at h <;> cases h
      have hparts := SlR.part (l := at_) (h := o.length) (m := oc) (s := 1) hq hat hoc (by simp)
      have hpl : (((o.map iV).take (o.length * 1)).drop (at_ * 1)).length = (o.length - at_) * 1 := by rw [List.length_drop, List.length_take, List.length_map]; omega
      have hpo : (((o.map iV).take (o.length * 1)).drop (at_ * 1)).all (·.oneCell') = true := by
        rw [List.all_eq_true]
        intro x hx
        obtain ⟨y, _, rfl⟩ := List.mem_map.1 (List.mem_of_mem_take (List.mem_of_mem_drop hx))
        rfl
      have hpo2 : ([iV y] ++ ((o.map iV).take (o.length * 1)).drop (at_ * 1)).all (·.oneCell') = true := by rw [List.all_append, hpo]; rfl
      have hfull : OwnF w4 3 1 (.slice (slP q 0 at_ 1) (at_ - 0) (at_ - 0)) at_ ((o.take at_).map iV) := by
        cases q with
        | none =>
          obtain ⟨rfl, rfl⟩ := hqn rfl
          obtain rfl : at_ = 0 := by simpa using hat
          exact .inl (Own.nil _ _ _)
        | some b =>
          have h1 := SlR.part (l := 0) (h := at_) (m := at_) (s := 1) hq (Nat.zero_le _) (Nat.le_refl _) (by simp; omega)
          have h2 : ∃ b', slP (some b) 0 at_ 1 = some b' := by unfold slP; split <;> exact ⟨_, rfl⟩
          obtain ⟨b', hb'⟩ := h2
          rw [hb'] at h1 ⊢
          refine .inr ⟨by simp; omega, b', rfl, ?_⟩
          have h1 : Row w4 b' _ := h1
          simpa [List.map_take] using h1
      have hblk : ∀ kk, (Value.slice (slP q 0 at_ 1) (at_ - 0) (at_ - 0)).ownBlock = some kk → (Value.slice q o.length oc).ownBlock = some kk := by
        intro kk hk
        cases q with
        | none => unfold slP at hk; split at hk <;> cases hk
        | some b =>
          unfold slP at hk
          split at hk
          · exact hk
          · rw [← hk]; show some b.block = some (b.add _).block; rw [add_block]
      have ins : ∀ ρ : Fr, insU o y = o.take at_ ++ ([y] ++ o.drop at_) → ρ 1 = iV k → ρ 5 = .slice q o.length oc → ρ 8 = iV y → ρ 9 = iV (at_ : Nat) → ρ 10 = .slice (some a) n c → ρ 11 = iV n → ρ 12 = iV i → ρ 44 = .bool true → K3 ρ w4 := by
        intro ρ hin q1 q5 q8 q9 q10 q11 q12 q44
        rw [u8 q1 q5 q8 q9 q10 q11 q12 q44]
        refine hK3 _ _ ?_
        refine W_if rfl (fun _ => ?_) (fun h => by cases h)
        have hEx : ∀ {w6 w7 : World}, Ext { w4 with drawn := w4.drawn + 1 } w6 → Mod (fun kk => (Value.slice (some ⟨w4.heap.size, 0, none⟩) 1 1).ownBlock = some kk) w6 w7 → Ext w4 w7 := fun h1 h2 => Ext.thenMod (Ext.drew0.trans h1) h2 (fun kk hk he => by cases he; exact Nat.lt_irrefl _ hk)
        refine W_d (fun _ => True) [] orders (D_pure 0 rfl rfl (by kernel_rfl) rfl (fun _ => r_mv rfl) (fun _ => trivial) (D_pure 1 rfl rfl (by kernel_rfl) rfl (fun _ => r_mv rfl) (fun _ => trivial) (D_pure 2 rfl rfl (by kernel_rfl) rfl (fun _ => r_mv rfl) (fun _ => trivial) (D_pure 3 rfl rfl (by kernel_rfl) rfl (fun _ => r_slc E rfl rfl (sb_hm (h := at_) (m := at_) rfl rfl (Nat.le_refl _) (by omega))) (fun _ => trivial) (D_pure 4 rfl rfl (by kernel_rfl) rfl (fun _ => r_mv rfl) (fun _ => trivial) (D_pure 6 rfl rfl (by kernel_rfl) rfl (fun _ => r_mv rfl) (fun _ => trivial) (D_pure 7 rfl rfl (by kernel_rfl) rfl (fun _ => r_mv rfl) (fun _ => trivial) (D_pure 8 rfl rfl (by kernel_rfl) rfl (fun _ => r_slc E rfl rfl (sb_l (l := at_) rfl hat)) (fun _ => trivial) (D_one 5 rfl (by kernel_rfl) rfl (s_bsA E rfl rfl rfl rfl rfl (cells := #[iV y]) (by kernel_rfl) fun w6 hE6 hh6 hs6 => (s_nil ⟨trivial, (D_one 9 rfl (by kernel_rfl) rfl (s_apP E rfl rfl rfl rfl (own_lit (vs := [iV y]) (n := 1) hh6 rfl (by decide)) rfl rfl hnn (Ext.sl (Ext.drew0.trans hE6) hparts) hpl hpo (by omega) fun v7 w7 ho7 hM7 hon7 => (s_nil ⟨trivial, (D_one 10 rfl (by kernel_rfl) rfl (s_apFO E rfl rfl rfl rfl (OwnF.mod (hEx hE6 hM7) hfull (fun _ _ h => h)) rfl rfl ho7 (by omega) hpo2 (by omega) fun v8 w8 ho8 hM8 hon8 => (s_nil ⟨trivial, (D_one 11 rfl (by kernel_rfl) rfl (s_as rfl (s_nil ⟨trivial, (D_done (by kernel_rfl) ?_)⟩)))⟩)))⟩)))⟩)))))))))))
        have hE7 := hEx hE6 hM7
        have hS7 := hS.ext_ hE7
        have hlen : (o.take at_ ++ ([y] ++ o.drop at_)).length = at_ + (1 + (o.length - at_)) := by simp; omega
        have hS8 := hS7.upd 0 rfl (Mod.mono hM8 (fun kk _ h => hblk kk h)) (ow 3 1 v8 (o.take at_ ++ ([y] ++ o.drop at_)).length ((o.take at_ ++ ([y] ++ o.drop at_)).map iV))
          (by
            have : (o.take at_ ++ ([y] ++ o.drop at_)).map iV = (o.take at_).map iV ++ ([iV y] ++ ((o.map iV).take (o.length * 1)).drop (at_ * 1)) := by
              rw [List.map_append, List.map_append, Nat.mul_one, Nat.mul_one, List.take_of_length_le (l := o.map iV) (i := o.length) (by simp), List.map_drop]; rfl
            rw [hlen, this]
            exact ho8) (fun kk hk => by
            have hk' : v8.ownBlock = some kk := hk
            rcases hon8 with h2 | ⟨j, h2, h3⟩
            · left; exact hblk kk (by rw [← h2]; exact hk')
            · right; rw [h2] at hk'; cases hk'
              exact ⟨h3, Own.lt ho8 h2⟩) (Nat.zero_le _)
        exact H _ _ v8 _ hin (by rw [hlen]; omega) hS8 rfl rfl rfl rfl rfl
      have same : ∀ ρ : Fr, insU o y = o → ρ 1 = iV k → ρ 5 = .slice q o.length oc → ρ 8 = iV y → ρ 9 = iV (at_ : Nat) → ρ 10 = .slice (some a) n c → ρ 11 = iV n → ρ 12 = iV i → ρ 44 = .bool false → K3 ρ w4 := by
        intro ρ hin q1 q5 q8 q9 q10 q11 q12 q44
        rw [u8 q1 q5 q8 q9 q10 q11 q12 q44]
        refine hK3 _ _ ?_
        refine W_if rfl (fun h => by cases h) (fun _ => W_skip ?_)
        exact H _ _ (.slice q o.length oc) o hin (by omega) hS rfl rfl rfl rfl rfl
      by_cases h0 : at_ = o.length
      · refine W_reg rfl (s_mv rfl (s_mv rfl (s_len E rfl rfl (s_cmp (c := true) rfl rfl (decide_eq_true (show ((at_ : Nat) : Int) = ((o.length : Nat) : Int) by omega)) (s_mv rfl (s_g0 rfl (s_g0 rfl (s_g0 rfl (s_g0 rfl (s_g0 rfl (s_g0 rfl (s_pk rfl (s_nil ?_)))))))))))))
        exact ins _ (by rw [heq, if_neg (by omega)]) rfl rfl rfl rfl rfl rfl rfl rfl
      have h0' : at_ < o.length := by omega
      obtain ⟨b, rfl, hcell⟩ := sl_map hq h0'
      obtain ⟨z, hz⟩ : ∃ z, z = o[at_] := ⟨_, rfl⟩
      rw [← hz] at hcell
      have hget : o.getD at_ 0 = z := by rw [hz]; simp [h0']
      by_cases h1 : z = y
      · refine W_reg rfl (s_mv rfl (s_mv rfl (s_len E rfl rfl (s_cmp (c := false) rfl rfl (decide_eq_false (show ¬ ((at_ : Nat) : Int) = ((o.length : Nat) : Int) by omega)) (s_mv rfl (s_g1 rfl (s_mv rfl (s_g1 rfl (s_mv rfl (s_g1 rfl (s_ia E rfl rfl rfl rfl h0' (s_g1 rfl (s_ld E rfl rfl hcell (s_g1 rfl (s_mv rfl (s_g1 rfl (s_cmp (c := false) rfl rfl (decide_eq_false (fun h => h h1)) (s_pk rfl (s_nil ?_)))))))))))))))))))
        exact same _ (by rw [heq, hget, if_pos ⟨h0', h1⟩]) rfl rfl rfl rfl rfl rfl rfl rfl
      · refine W_reg rfl (s_mv rfl (s_mv rfl (s_len E rfl rfl (s_cmp (c := false) rfl rfl (decide_eq_false (show ¬ ((at_ : Nat) : Int) = ((o.length : Nat) : Int) by omega)) (s_mv rfl (s_g1 rfl (s_mv rfl (s_g1 rfl (s_mv rfl (s_g1 rfl (s_ia E rfl rfl rfl rfl h0' (s_g1 rfl (s_ld E rfl rfl hcell (s_g1 rfl (s_mv rfl (s_g1 rfl (s_cmp (c := true) rfl rfl (decide_eq_true h1) (s_pk rfl (s_nil ?_)))))))))))))))))))
        exact ins _ (by rw [heq, hget, if_neg (fun h => h1 h.2)]) rfl rfl rfl rfl rfl rfl rfl rfl
    refine W_block ?_
    refine W_loop (fun m ρ w' => ∃ ρ' j, ρ = upd (upd (upd (upd (upd (upd (upd ρ' 1 (iV k)) 5 (.slice q o.length oc)) 8 (iV y)) 9 (iV (j : Nat))) 10 (.slice (some a) n c)) 11 (iV n)) 12 (iV i) ∧ w' = w4 ∧ j ≤ o.length ∧ m = o.length - j ∧ ∀ t (h : t < o.length), t < j → o[t] < y) o.length
      ⟨_, 0, u7 rfl rfl rfl rfl rfl rfl rfl, rfl, by omega, by omega, fun _ _ h => by omega⟩ ?_
    rintro m _ _ ⟨ρ, j, rfl, rfl, hj, rfl, hlt⟩
    refine W_seq ?_
    by_cases h0 : j < o.length
    case neg =>
      have h0 : ¬ ((j : Nat) : Int) < ((o.length : Nat) : Int) := by omega
      refine W_sr rfl (s_mv rfl (s_mv rfl (s_len E rfl rfl (s_cmp (c := false) rfl rfl (decide_eq_false h0) (s_mv rfl (s_g0 rfl (s_g0 rfl (s_g0 rfl (s_g0 rfl (s_g0 rfl (s_g0 rfl (s_pk rfl (s_nil ?_)))))))))))))
      refine W_if rfl (fun h => by cases h) (fun _ => W_exit ?_)
      exact H2 _ j hj (takeWhile_at hj (fun t ht => decide_eq_true (hlt t (by omega) ht)) (fun h => by omega)) rfl rfl rfl rfl rfl rfl rfl
    obtain ⟨b, rfl, hcell⟩ := sl_map hq h0
    obtain ⟨z, hz⟩ : ∃ z, z = o[j] := ⟨_, rfl⟩
    rw [← hz] at hcell
    have h0' : ((j : Nat) : Int) < ((o.length : Nat) : Int) := by omega
    by_cases h1 : z < y
    · refine W_sr rfl (s_mv rfl (s_mv rfl (s_len E rfl rfl (s_cmp (c := true) rfl rfl (decide_eq_true h0') (s_mv rfl (s_g1 rfl (s_mv rfl (s_g1 rfl (s_mv rfl (s_g1 rfl (s_ia E rfl rfl rfl rfl h0 (s_g1 rfl (s_ld E rfl rfl hcell (s_g1 rfl (s_mv rfl (s_g1 rfl (s_cmp (c := true) rfl rfl (decide_eq_true h1) (s_pk rfl (s_nil ?_)))))))))))))))))))
      refine W_if rfl (fun _ => W_skip ?_) (fun h => by cases h)
      refine W_block ?_
      refine W_reg rfl (s_mv rfl (s_add rfl rfl (by omega) (s_as rfl (s_nil ?_))))
      refine ⟨o.length - (j + 1), by omega, _, j + 1, u7 rfl rfl rfl rfl rfl rfl rfl, rfl, by omega, rfl, fun t ht htj => ?_⟩
      by_cases e : t = j
      · subst e; rw [← hz]; exact h1
      · exact hlt t ht (by omega)
    · refine W_sr rfl (s_mv rfl (s_mv rfl (s_len E rfl rfl (s_cmp (c := true) rfl rfl (decide_eq_true h0') (s_mv rfl (s_g1 rfl (s_mv rfl (s_g1 rfl (s_mv rfl (s_g1 rfl (s_ia E rfl rfl rfl rfl h0 (s_g1 rfl (s_ld E rfl rfl hcell (s_g1 rfl (s_mv rfl (s_g1 rfl (s_cmp (c := false) rfl rfl (decide_eq_false h1) (s_pk rfl (s_nil ?_)))))))))))))))))))
      refine W_if rfl (fun h => by cases h) (fun _ => W_exit ?_)
      exact H2 _ j hj (takeWhile_at hj (fun t ht => decide_eq_true (hlt t (by omega) ht)) (fun h => by rw [← hz]; exact decide_eq_false h1)) rfl rfl rfl rfl rfl rfl rfl
  · have hc := of_decide_eq_false hc
    refine W_sr rfl (s_mv rfl (s_as rfl (s_nil ?_)))
    have e : l.take i = l := List.take_of_length_le (by omega)
    rw [e] at hfo
    refine W_ret ⟨_, rfl, ?_, fun j hj => (hS.getL 0 rfl hj).1, hS.ext⟩
    rw [hfo]
    exact hS.own 0 rfl
end
end Go.Proofs.YthfnijlgmjkedaaGreat
namespace Go.Proofs.YthfnijlgmjkedaaGreat
set_option maxRecDepth 100000
set_option maxHeartbeats 2000000
set_option linter.unusedVariables false
set_option linter.unusedSimpArgs false
open Go Go.Fx Go.Proofs.YthfnijlgmjkedaaGreat.Tab
/-! ## the reference's file -/
def rT (m : Me) (k : Nat) : List Int := (m.chars.map (dimF k)).foldl insU []
def rDim (m : Me) (c : Ch) (j : Nat) : List Int := bytes2 (fidx (rT m j) (dimF j c))
def rCh (m : Me) (c : Ch) : List Int := [c.code % 256] ++ (List.range 3).flatMap (rDim m c)
def rTabs (m : Me) (i : Nat) : List Int := (List.range i).flatMap fun j => tabBytes (rT m j)
def rbody (m : Me) : List Int := headB m ++ rTabs m 3 ++ bytes2 m.chars.length ++ m.chars.flatMap (rCh m) ++ bytes2 m.rules.length ++ m.rules.flatMap ruBytes
def fileR (m : Me) : List Int := rbody m ++ bytes4 (sumB (rbody m))
theorem insU_len (l : List Int) (n : Int) : (insU l n).length ≤ l.length + 1 := by
  have h := List.Sublist.length_le (List.takeWhile_sublist (fun y => decide (y < n)) (l := l))
  unfold insU; simp only; split
  · omega
  · simp; omega
theorem foldU_len (l : List Int) : ∀ o : List Int, (l.foldl insU o).length ≤ o.length + l.length := by
  induction l with
  | nil => intro o; simp
  | cons a l ih => intro o; have := ih (insU o a); have := insU_len o a; simp only [List.foldl_cons, List.length_cons]; omega
theorem rT_len (m : Me) (k : Nat) : (rT m k).length ≤ m.chars.length := by have := foldU_len (m.chars.map (dimF k)) []; simpa [rT] using this
theorem byt_app {a b : List Int} (h : byt a) (k : byt b) : byt (a ++ b) := fun x hx => by
  rcases List.mem_append.1 hx with h1 | h1
  · exact h x h1
  · exact k x h1
theorem byt_flat {α : Type} {f : α → List Int} {l : List α} (h : ∀ x, byt (f x)) : byt (l.flatMap f) := fun x hx => by
  obtain ⟨y, _, hy⟩ := List.mem_flatMap.1 hx
  exact h y x hy
theorem byt_mod (x : Int) : byt [x % 256] := fun y hy => by rw [List.mem_singleton] at hy; subst hy; omega
theorem byt_2 (x : Int) : byt (bytes2 x) := fun y hy => by
  simp only [bytes2, List.mem_cons, List.not_mem_nil, or_false] at hy
  rcases hy with rfl | rfl <;> omega
theorem byt_4 (x : Int) : byt (bytes4 x) := fun y hy => by
  simp only [bytes4, List.mem_cons, List.not_mem_nil, or_false] at hy
  rcases hy with rfl | rfl | rfl | rfl <;> omega
theorem byt_ru (r : Ru) : byt (ruBytes r) := byt_app (byt_app (byt_app (byt_mod _) (byt_mod _)) (byt_mod _)) (byt_4 _)
theorem byt_head (m : Me) : byt (headB m) := byt_app (by intro x hx; simp [magicB] at hx; omega) (byt_4 _)
theorem byt_rbody (m : Me) : byt (rbody m) :=
  byt_app (byt_app (byt_app (byt_app (byt_app (byt_head m) (byt_flat fun _ => byt_app (byt_2 _) (byt_flat byt_4))) (byt_2 _)) (byt_flat fun _ => byt_app (byt_mod _) (byt_flat fun _ => byt_2 _))) (byt_2 _)) (byt_flat byt_ru)
section
variable {w : World}
theorem bytes4_c {v : Value} {xs : List Int} {x : Int} (ho : OwnF w 5 1 v xs.length (xs.map bV)) (hl : xs.length ≤ 1000100) :
    Ret Go.Proofs.Tryz.prog 78 #[v, iV x, iV 4] w fun v' w' => Own w' 5 1 v' (xs ++ bytes4 x).length ((xs ++ bytes4 x).map bV) ∧ Mod (fun k => v.ownBlock = some k) w w' ∧ OldOrNew w v v' :=
  (fleuronref27_Bytes_c (many := 4) ho rfl hl (by decide)).mono fun v' w' h => ⟨by rw [List.length_append]; rw [bytesK4] at h; exact h.1, h.2⟩
theorem bytes2_c {v : Value} {xs : List Int} {x : Int} (ho : OwnF w 5 1 v xs.length (xs.map bV)) (hl : xs.length ≤ 1000100) :
    Ret Go.Proofs.Tryz.prog 78 #[v, iV x, iV 2] w fun v' w' => Own w' 5 1 v' (xs ++ bytes2 x).length ((xs ++ bytes2 x).map bV) ∧ Mod (fun k => v.ownBlock = some k) w w' ∧ OldOrNew w v v' :=
  (fleuronref27_Bytes_c (many := 2) ho rfl hl (by decide)).mono fun v' w' h => ⟨by rw [List.length_append]; rw [bytesK2] at h; exact h.1, h.2⟩
theorem lit_push {w0 w1 w2 w3 : World} {C : List Chunk} {e : TypeId} {n : Nat} {vs : List Value} (hS : Sep w0 w1 C) (hE : Ext w1 w2) (hh : w2.heap[w1.heap.size]? = some (.cells vs.toArray e (0, 0))) (hs : w2.heap.size = w1.heap.size + 1)
    (hM : Mod (fun k => k = (⟨w1.heap.size, 0, none⟩ : Addr).block) w2 w3) (hc : ∀ p, w3.cell? p = w2.cell? p) (hn : vs.length = n) : Sep w0 w3 (C ++ [owF e 1 (.slice (some ⟨w1.heap.size, 0, none⟩) n n) n vs]) := by
  refine hS.push (Ext.thenMod hE hM (fun k hk he => ?_)) _ (.inr ⟨by rw [Nat.mul_one]; exact hn, _, rfl, fun i x hx => ?_⟩) (fun k hk => ?_) (Nat.zero_le _)
  · have he : k = w1.heap.size := he
    omega
  · rw [hc]
    have := row_heap hh
    simp only [] at this
    exact this i x hx
  · have hk : some w1.heap.size = some k := hk
    cases hk
    have := hM.size
    omega
def flL (gm gt : Nat) (mc : List Value) (vo : Value) (bs : List Int) (u : Nat → Value) (T : Nat → List Int) : List Chunk :=
  [cl gm mc 25, owF 5 1 vo bs.length (bs.map bV), cl gt [u 0, u 1, u 2] 73, ow 3 1 (u 0) (T 0).length ((T 0).map iV), ow 3 1 (u 1) (T 1).length ((T 1).map iV), ow 3 1 (u 2) (T 2).length ((T 2).map iV)]
theorem flL_set {w0 w w' : World} {gm gt : Nat} {mc : List Value} {vo : Value} {bs : List Int} {u : Nat → Value} {T : Nat → List Int} {k : Nat} (hk : k < 3) {x : Value} {t : List Int} (hS : Sep w0 w (flL gm gt mc vo bs u T)) (hE : Ext w w') (ho : Own w' 3 1 x t.length (t.map iV)) (hn : ∀ j, x.ownBlock = some j → w.heap.size ≤ j) :
    Sep w0 w' ([cl gm mc 25, owF 5 1 vo bs.length (bs.map bV), cl gt [u 0, u 1, u 2] 73, ow 3 1 (updV u k x 0) (updT T k t 0).length ((updT T k t 0).map iV), ow 3 1 (updV u k x 1) (updT T k t 1).length ((updT T k t 1).map iV), ow 3 1 (updV u k x 2) (updT T k t 2).length ((updT T k t 2).map iV)]) := by
  have h3 : k = 0 ∨ k = 1 ∨ k = 2 := by omega
  rcases h3 with rfl | rfl | rfl
  · exact hS.upd 3 rfl (Mod.of_ext hE) (ow 3 1 x t.length (t.map iV)) ho (fun j hj => .inr ⟨hn j hj, Own.lt ho hj⟩) (Nat.zero_le _)
  · exact hS.upd 4 rfl (Mod.of_ext hE) (ow 3 1 x t.length (t.map iV)) ho (fun j hj => .inr ⟨hn j hj, Own.lt ho hj⟩) (Nat.zero_le _)
  · exact hS.upd 5 rfl (Mod.of_ext hE) (ow 3 1 x t.length (t.map iV)) ho (fun j hj => .inr ⟨hn j hj, Own.lt ho hj⟩) (Nat.zero_le _)
theorem flL_own {gm gt : Nat} {mc : List Value} {vo : Value} {bs : List Int} {u : Nat → Value} {T : Nat → List Int} {k : Nat} (hk : k < 3) : (flL gm gt mc vo bs u T)[3 + k]? = some (ow 3 1 (u k) (T k).length ((T k).map iV)) := by
  have h3 : k = 0 ∨ k = 1 ∨ k = 2 := by omega
  rcases h3 with rfl | rfl | rfl <;> rfl
def rTk (m : Me) (k : Nat) : Nat → List Int := fun j => if j < k then rT m j else []
theorem rTk_succ (m : Me) (k : Nat) : updT (rTk m k) k (rT m k) = rTk m (k + 1) := by
  funext j; unfold updT rTk
  by_cases h : j = k
  · subst h; simp
  · rw [if_neg h]
    by_cases h2 : j < k
    · rw [if_pos h2, if_pos (by omega)]
    · rw [if_neg h2, if_neg (by omega)]
theorem fleuronref27_File_c {m : Me} {p q : Option Addr} {c d : Nat} (hm : MeR w m p q) (hb1 : m.chars.length ≤ 1000) (hb2 : m.rules.length ≤ 1000) :
    Ret Go.Proofs.Tryz.prog 31 #[meV m p q c d] w fun v w' => (∃ pp cc, v = .slice pp (fileR m).length cc ∧ (fileR m).length ≤ cc ∧ SlR w' pp ((fileR m).map bV)) ∧ Ext w w' := by
  refine enter Go.Proofs.Tryz.func31 rfl rfl rfl ?_
  have hS := Sep.start (w := w)
  refine W_sr rfl (s_bxS hS (vs := meC m p q c d) rfl rfl fun w1 gm hS => (s_as rfl (s_nil ?_)))
  refine W_sr rfl (s_bsA E rfl rfl rfl rfl rfl (cells := #[bV 70, bV 77, bV 69, bV 84]) (by kernel_rfl) fun w2 hE2 hh2 hs2 => (s_cvs E rfl rfl rfl fun w3 hmod3 hc3 => have hS := lit_push (vs := magicB.map bV) (n := magicB.length) hS hE2 hh2 hs2 hmod3 hc3 rfl; (s_fa E rfl rfl (s_ld E rfl rfl (hS.cell 0 rfl rfl) (s_bytes hS 1 rfl rfl rfl (bytes4_c (x := m.size) (hS.ownF 1 rfl) (by decide)) fun vo w4 hS => (s_as rfl (s_nil ?_)))))))
  refine W_sr rfl (s_alS hS E rfl rfl fun w5 gt hS => (s_nil ?_))
  have hS := ((hS.nil 3 1).nil 3 1).nil 3 1
  obtain ⟨mc, hmc⟩ : ∃ mc, mc = meC m p q c d := ⟨_, rfl⟩
  have hS : Sep w w5 (flL gm gt mc vo (headB m) (fun _ => .slice none 0 0) (rTk m 0)) := by subst hmc; exact hS
  refine W_n3 1 3 4 (.pointer (some ⟨gm, 0, none⟩)) vo (.pointer (some ⟨gt, 0, none⟩)) rfl rfl rfl fun ρ => ?_
  have hlen0 : (headB m).length ≤ 8 := by simp [headB, magicB, bytes4]
  have hmc1 : mc[1]? = some (.slice p m.chars.length c) := by subst hmc; rfl
  have hmc2 : mc[2]? = some (.slice q m.rules.length d) := by subst hmc; rfl
  refine W_sk fun K hK => ?_
  have H : ∀ (ρ : Fr) w' vo u bs, bs = headB m ++ rTabs m 3 → bs.length ≤ 13000 → Sep w w' (flL gm gt mc vo bs u (rTk m 3)) → ρ 1 = .pointer (some ⟨gm, 0, none⟩) → ρ 3 = vo → ρ 4 = .pointer (some ⟨gt, 0, none⟩) → K ρ w' := by
    intro ρ w6 vo u bs hbs hbl hS q1 q3 q4
    rw [u3 q1 q3 q4]
    refine hK _ _ ?_
    clear hK
    refine W_sr rfl (s_mv rfl (s_fa E rfl rfl (s_ld E rfl rfl (hS.cell 0 rfl hmc1) (s_len E rfl rfl (s_bytes hS 1 rfl rfl rfl (bytes2_c (x := (m.chars.length : Nat)) (hS.ownF 1 rfl) (by omega)) fun vo w7 hS => (s_as rfl (s_nil ?_)))))))
    obtain ⟨b1, hb1e⟩ : ∃ b1, b1 = bs ++ bytes2 (m.chars.length : Nat) := ⟨_, rfl⟩
    rw [← hb1e] at hS
    have hS : Sep w w7 (flL gm gt mc vo b1 u (rTk m 3)) := hS
    have hl1 : b1.length ≤ 13002 := by rw [hb1e, List.length_append]; have : (bytes2 (m.chars.length : Nat)).length = 2 := rfl; omega
    obtain ⟨l, hl⟩ : ∃ l, l = m.chars := ⟨_, rfl⟩
    have hpc := hm.ch
    refine W_sk fun K hK => ?_
    have H : ∀ (ρ : Fr) w' vo b2, b2 = b1 ++ m.chars.flatMap (rCh m) → b2.length ≤ 21000 → Sep w w' (flL gm gt mc vo b2 u (rTk m 3)) → ρ 1 = .pointer (some ⟨gm, 0, none⟩) → ρ 3 = vo → K ρ w' := by
      intro ρ w8 vo b2 hb2 hbl2 hS q1 q3
      rw [u2 q1 q3]
      refine hK _ _ ?_
      clear hK
      refine W_sr rfl (s_mv rfl (s_fa E rfl rfl (s_ld E rfl rfl (hS.cell 0 rfl hmc2) (s_len E rfl rfl (s_bytes hS 1 rfl rfl rfl (bytes2_c (x := (m.rules.length : Nat)) (hS.ownF 1 rfl) (by omega)) fun vo w9 hS => (s_as rfl (s_nil ?_)))))))
      obtain ⟨b3, hb3e⟩ : ∃ b3, b3 = b2 ++ bytes2 (m.rules.length : Nat) := ⟨_, rfl⟩
      rw [← hb3e] at hS
      have hS : Sep w w9 (flL gm gt mc vo b3 u (rTk m 3)) := hS
      have hl3 : b3.length ≤ 21002 := by rw [hb3e, List.length_append]; have : (bytes2 (m.rules.length : Nat)).length = 2 := rfl; omega
      have hpr := hm.ru
      obtain ⟨n, hn⟩ : ∃ n, n = m.rules.length := ⟨_, rfl⟩
      obtain ⟨k, hk⟩ : ∃ k, k = m.rules := ⟨_, rfl⟩
      have hnk : n = k.length := by rw [hn, hk]
      refine W_seq ?_
      refine W_sr rfl (s_fa E rfl rfl (s_ld E rfl rfl (hS.cell 0 rfl hmc2) (s_len E rfl rfl (s_mv rfl (s_nil ?_)))))
      refine W_block ?_
      refine W_loop (fun r ρ w' => ∃ ρ' j vo, ρ = upd (upd (upd (upd (upd ρ' 1 (.pointer (some ⟨gm, 0, none⟩))) 3 vo) 84 (.slice q n d)) 85 (iV n)) 86 (iV (j : Nat)) ∧ j ≤ n ∧ r = n - j ∧
          Sep w w' (flL gm gt mc vo (b3 ++ (k.take j).flatMap ruBytes) u (rTk m 3))) n ⟨_, 0, vo, u5 rfl rfl (by rw [hn]; rfl) (by rw [hn]; rfl) rfl, by omega, rfl, by simpa using hS⟩ ?_
      clear hS
      rw [← hk] at hpr
      rintro r _ w10 ⟨ρ, j, vo, rfl, hj, rfl, hS⟩
      have hl10 : (b3 ++ (k.take j).flatMap ruBytes).length ≤ 21002 + 7 * j := by
        have h1 := flat_len_le ruBytes 7 ruBytes_len (k.take j)
        have h2 : (k.take j).length ≤ j := by simp; omega
        rw [List.length_append]; omega
      refine W_sr rfl (s_lss rfl rfl (s_nil ?_))
      refine W_seq ?_
      refine W_if rfl (fun hd => W_skip ?_) (fun hd => W_exit ?_)
      · have hd := of_decide_eq_true hd
        have hjl : j < k.length := by omega
        obtain ⟨a, hqa, hrow⟩ := hpr.some (by intro h0; have := flat_length ruC 4 ruC_len k; rw [h0] at this; simp at this; omega)
        obtain ⟨x, hx⟩ : ∃ x, x = k[j] := ⟨_, rfl⟩
        have hrr := Ext.row hS.ext (hrow.at ruC_len hjl)
        rw [← hx] at hrr
        refine W_seq (W_block ?_)
        refine W_sr rfl (s_ia E rfl (congrArg (fun z => Value.slice z n d) hqa) rfl rfl (by omega) (s_lda E rfl rfl hrr rfl (s_alS hS E rfl rfl fun w11 g hS => (s_stS hS 6 E (us := ruC x) rfl rfl rfl rfl rfl rfl rfl rfl rfl rfl fun w12 hS => (s_nil ?_)))))
        refine W_sr rfl (s_mv rfl (s_fa E rfl rfl (s_ld E rfl rfl (hS.cell 6 rfl rfl) (s_cvb E rfl rfl rfl (s_fa E rfl rfl (s_ld E rfl rfl (hS.cell 6 rfl rfl) (s_cvb E rfl rfl rfl (s_fa E rfl rfl (s_ld E rfl rfl (hS.cell 6 rfl rfl) (s_cvb E rfl rfl rfl (s_bsA E rfl rfl rfl rfl rfl (cells := #[bV (x.first % 256), bV (x.next % 256), bV (x.op % 256)]) (by kernel_rfl) fun w13 hE13 hh13 hs13 => have hS := hS.ext_ hE13; (s_apFS hS 1 E rfl rfl rfl rfl rfl rfl rfl (row_heap hh13) rfl rfl rfl (by omega) fun vo w14 hS => (s_as rfl (s_nil ?_))))))))))))))
        have hS : Sep w w14 (flL gm gt mc vo (b3 ++ (k.take j).flatMap ruBytes ++ [x.first % 256, x.next % 256, x.op % 256]) u (rTk m 3) ++ [cl g (ruC x) 45]) := by
          unfold flL
          rw [List.length_append, List.map_append]
          exact hS
        refine W_reg rfl (s_mv rfl (s_fa E rfl rfl (s_ld E rfl rfl (hS.cell 6 rfl rfl) (s_bytes hS 1 rfl rfl rfl (bytes4_c (x := x.value) (hS.ownF 1 rfl) (by rw [List.length_append]; show _ + 3 ≤ _; omega)) fun vo w15 hS => (s_as rfl (s_nil ?_))))))
        refine W_reg rfl (s_add rfl rfl (by omega) (s_mv rfl (s_nil ?_)))
        refine ⟨n - (j + 1), by omega, _, j + 1, vo, u5 rfl rfl rfl rfl rfl, by omega, rfl, ?_⟩
        have e : b3 ++ (k.take (j + 1)).flatMap ruBytes = b3 ++ (k.take j).flatMap ruBytes ++ [x.first % 256, x.next % 256, x.op % 256] ++ bytes4 x.value := by
          rw [flat_take ruBytes k j hjl, ← hx]; simp [ruBytes]
        rw [e]
        exact hS.take 6
      · have hd := of_decide_eq_false hd
        have e : k.take j = k := List.take_of_length_le (by omega)
        rw [e, hk] at hS hl10
        have e2 : b3 ++ m.rules.flatMap ruBytes = rbody m := by rw [hb3e, hb2, hb1e, hbs]; rfl
        rw [e2] at hS hl10
        have ho := hS.ownF 1 rfl
        obtain ⟨po, co, hvo, _, _⟩ := ho.form
        have call : Ret Go.Proofs.Tryz.prog 81 #[vo] w10 fun v' w' => Own w' 5 1 v' ((rbody m).length + 4) ((rbody m ++ bytes4 (sumB (rbody m))).map bV) ∧ Mod (fun k => vo.ownBlock = some k) w10 w' ∧ OldOrNew w10 vo v' := by
          rw [hvo] at ho ⊢
          exact fleuronref27_Closed_c ho rfl (by omega) (byt_rbody m)
        refine W_sr rfl (s_mv rfl (s_call rfl rfl call fun v11 w11 h11 => (s_as rfl (s_nil ?_))))
        obtain ⟨ho11, hM11, _⟩ := h11
        obtain ⟨pv, cv, rfl, hsv, hcv, _⟩ := ho11.form
        have hfl : (fileR m).length = (rbody m).length + 4 := by unfold fileR; rw [List.length_append]; rfl
        refine W_ret ⟨_, rfl, ⟨pv, cv, ?_, by omega, hsv⟩, Ext.thenMod hS.ext hM11 (fun kk hk hck => by have := (hS.getL 1 rfl hck).1; omega)⟩
        rw [hfl]; rfl
    obtain ⟨n, hn⟩ : ∃ n, n = m.chars.length := ⟨_, rfl⟩
    have hnl : n = l.length := by rw [hn, hl]
    have hlc : l.length ≤ 1000 := by rw [hl]; exact hb1
    refine W_n3 1 3 4 (.pointer (some ⟨gm, 0, none⟩)) vo (.pointer (some ⟨gt, 0, none⟩)) rfl rfl rfl fun ρ => ?_
    refine W_sr rfl (s_fa E rfl rfl (s_ld E rfl rfl (hS.cell 0 rfl hmc1) (s_len E rfl rfl (s_mv rfl (s_nil ?_)))))
    refine W_block ?_
    refine W_loop (fun r ρ w' => ∃ ρ' j vo, ρ = upd (upd (upd (upd (upd (upd ρ' 1 (.pointer (some ⟨gm, 0, none⟩))) 3 vo) 4 (.pointer (some ⟨gt, 0, none⟩))) 52 (.slice p n c)) 53 (iV n)) 54 (iV (j : Nat)) ∧ j ≤ n ∧ r = n - j ∧
        (b1 ++ (l.take j).flatMap (rCh m)).length ≤ 13002 + 7 * j ∧ Sep w w' (flL gm gt mc vo (b1 ++ (l.take j).flatMap (rCh m)) u (rTk m 3))) n
      ⟨_, 0, vo, u6 rfl rfl rfl (by rw [hn]; rfl) (by rw [hn]; rfl) rfl, by omega, rfl, by simpa using hl1, by simpa using hS⟩ ?_
    clear hS
    rw [← hl] at hpc
    rintro r _ w8 ⟨ρ, j, vo, rfl, hj, rfl, hlb, hS⟩
    refine W_sr rfl (s_lss rfl rfl (s_nil ?_))
    refine W_seq ?_
    refine W_if rfl (fun hd => W_skip ?_) (fun hd => W_exit ?_)
    · have hd := of_decide_eq_true hd
      have hjl : j < l.length := by omega
      obtain ⟨a, hpa, hrow⟩ := hpc.some (by intro h0; have := flat_length chC 4 chC_len l; rw [h0] at this; simp at this; omega)
      obtain ⟨x, hx⟩ : ∃ x, x = l[j] := ⟨_, rfl⟩
      have hrr := Ext.row hS.ext (hrow.at chC_len hjl)
      rw [← hx] at hrr
      obtain ⟨bs', hbs'⟩ : ∃ b, b = b1 ++ (l.take j).flatMap (rCh m) := ⟨_, rfl⟩
      have hnext : b1 ++ (l.take (j + 1)).flatMap (rCh m) = bs' ++ [x.code % 256] ++ (List.range 3).flatMap (rDim m x) := by
        rw [flat_take (rCh m) l j hjl, ← hx, hbs']; simp only [rCh, List.append_assoc]
      rw [← hbs'] at hS hlb
      refine W_sk fun K2 hK2 => ?_
      have H2 : ∀ (ρ : Fr) w' vo, Sep w w' (flL gm gt mc vo (bs' ++ [x.code % 256] ++ (List.range 3).flatMap (rDim m x)) u (rTk m 3)) → (bs' ++ [x.code % 256] ++ (List.range 3).flatMap (rDim m x)).length ≤ 13002 + 7 * (j + 1) → ρ 1 = .pointer (some ⟨gm, 0, none⟩) → ρ 3 = vo → ρ 4 = .pointer (some ⟨gt, 0, none⟩) → ρ 52 = .slice p n c → ρ 53 = iV n → ρ 54 = iV j → K2 ρ w' := by
        intro ρ w' vo hS hlen q1 q3 q4 q52 q53 q54
        rw [u6 q1 q3 q4 q52 q53 q54]
        refine hK2 _ _ ?_
        refine W_reg rfl (s_add rfl rfl (by omega) (s_mv rfl (s_nil ?_)))
        exact ⟨n - (j + 1), by omega, _, j + 1, vo, u6 rfl rfl rfl rfl rfl rfl, by omega, rfl, by rw [hnext]; exact hlen, by rw [hnext]; exact hS⟩
      refine W_block ?_
      refine W_sr rfl (s_ia E rfl (congrArg (fun z => Value.slice z n c) hpa) rfl rfl (by omega) (s_lda E rfl rfl hrr rfl (s_alS hS E rfl rfl fun w9 g hS => (s_stS hS 6 E (us := chC x) rfl rfl rfl rfl rfl rfl rfl rfl rfl rfl fun w10 hS => (s_nil ?_)))))
      refine W_sr rfl (s_mv rfl (s_fa E rfl rfl (s_ld E rfl rfl (hS.cell 6 rfl rfl) (s_cvb E rfl rfl rfl (s_bsA E rfl rfl rfl rfl rfl (cells := #[bV (x.code % 256)]) (by kernel_rfl) fun w13 hE13 hh13 hs13 => have hS := hS.ext_ hE13; (s_apFS hS 1 E rfl rfl rfl rfl rfl rfl rfl (row_heap hh13) rfl rfl rfl (by omega) fun vo w14 hS => (s_as rfl (s_nil ?_))))))))
      have hS : Sep w w14 (flL gm gt mc vo (bs' ++ [x.code % 256]) u (rTk m 3) ++ [cl g (chC x) 50]) := by
        unfold flL
        rw [List.length_append, List.map_append]
        exact hS
      have hlb2 : (bs' ++ [x.code % 256]).length ≤ 13002 + 7 * j + 1 := by rw [List.length_append]; show _ + 1 ≤ _; omega
      refine W_sr rfl (s_mv rfl (s_nil ?_))
      refine W_block ?_
      refine W_loop (fun r ρ w' => ∃ ρ' k vo, ρ = upd (upd (upd (upd (upd (upd (upd (upd ρ' 1 (.pointer (some ⟨gm, 0, none⟩))) 3 vo) 4 (.pointer (some ⟨gt, 0, none⟩))) 9 (.pointer (some ⟨g, 0, none⟩))) 52 (.slice p n c)) 53 (iV n)) 54 (iV (j : Nat))) 64 (iV (k : Nat)) ∧ k ≤ 3 ∧ r = 3 - k ∧
          Sep w w' (flL gm gt mc vo (bs' ++ [x.code % 256] ++ (List.range k).flatMap (rDim m x)) u (rTk m 3) ++ [cl g (chC x) 50])) 3
        ⟨_, 0, vo, u8 rfl rfl rfl rfl rfl rfl rfl rfl, by omega, rfl, by simpa using hS⟩ ?_
      clear hS
      rintro r _ w15 ⟨ρ, k, vo, rfl, hk, rfl, hS⟩
      obtain ⟨bk, hbk⟩ : ∃ b, b = bs' ++ [x.code % 256] ++ (List.range k).flatMap (rDim m x) := ⟨_, rfl⟩
      have hlb3 : bk.length ≤ 13002 + 7 * j + 1 + 2 * k := by
        have h1 := flat_len_le (rDim m x) 2 (fun _ => by simp [rDim, bytes2]) (List.range k)
        rw [List.length_range] at h1
        rw [hbk, List.length_append]; omega
      rw [← hbk] at hS
      refine W_sr rfl (s_lss rfl rfl (s_nil ?_))
      refine W_seq ?_
      refine W_if rfl (fun hd => W_skip ?_) (fun hd => W_exit ?_)
      · have hd := of_decide_eq_true hd
        have hk3 : k < 3 := by omega
        have hTk : rTk m 3 k = rT m k := by unfold rTk; rw [if_pos hk3]
        have hTl := rT_len m k
        refine W_seq (W_block ?_)
        refine W_sr rfl (s_mv rfl (s_as rfl (s_nil ?_)))
        have hS := hS.drew
        have h6 : Sep w _ (flL gm gt mc vo bk u (rTk m 3)) := hS.take 6
        obtain ⟨qk, ck, huk, _, _⟩ := (h6.own (3 + k) (flL_own hk3)).form
        have hcell := h6.cell 2 rfl (opL_cell hk3)
        rw [huk] at hcell
        refine W_n9 1 3 4 9 10 52 53 54 64 (.pointer (some ⟨gm, 0, none⟩)) vo (.pointer (some ⟨gt, 0, none⟩)) (.pointer (some ⟨g, 0, none⟩)) (iV k) (.slice p n c) (iV n) (iV j) (iV k) rfl rfl rfl rfl rfl rfl rfl rfl rfl fun ρ => ?_
        refine W_d (fun w' => w'.cell? (Addr.add ⟨gt, 0, none⟩ (k * 1)) = some (.slice qk (rTk m 3 k).length ck) ∧ Row w' ⟨g, 0, none⟩ (chC x)) [] orders (D_pure 0 rfl rfl (by kernel_rfl) rfl (fun _ => r_mv rfl) (fun _ => ⟨by rw [← huk]; exact hS.cell 2 rfl (opL_cell hk3), hS.row 6 rfl⟩) (D_pure 1 rfl rfl (by kernel_rfl) rfl (fun _ => r_mv rfl) (fun _ => ⟨by rw [← huk]; exact hS.cell 2 rfl (opL_cell hk3), hS.row 6 rfl⟩) (D_pure 2 rfl rfl (by kernel_rfl) rfl (fun _ => r_iaA (i := k) E rfl rfl rfl rfl hk3) (fun _ => ⟨by rw [← huk]; exact hS.cell 2 rfl (opL_cell hk3), hS.row 6 rfl⟩) (D_take 3 rfl rfl (by kernel_rfl) rfl (fun _ hs => r_ld E rfl rfl hs.1) ⟨by rw [← huk]; exact hS.cell 2 rfl (opL_cell hk3), hS.row 6 rfl⟩ (D_take 4 rfl rfl (by kernel_rfl) rfl (fun _ hs => r_lda (xs := chC x) E rfl rfl hs.2 rfl) ⟨by rw [← huk]; exact hS.cell 2 rfl (opL_cell hk3), hS.row 6 rfl⟩ (D_pure 5 rfl rfl (by kernel_rfl) rfl (fun _ => r_mv rfl) (fun _ => ⟨by rw [← huk]; exact hS.cell 2 rfl (opL_cell hk3), hS.row 6 rfl⟩) (D_one 6 rfl (by kernel_rfl) rfl (s_callE hS rfl rfl (fleuronref27_dimension_c (c := x) hk3) fun w16 hS => have h6 : Sep w w16 (flL gm gt mc vo bk u (rTk m 3)) := hS.take 6; (s_nil ⟨⟨by rw [← huk]; exact hS.cell 2 rfl (opL_cell hk3), hS.row 6 rfl⟩, (D_one 7 rfl (by kernel_rfl) rfl (s_callp rfl rfl (fleuronref27_index_c (l := rTk m 3 k) (x := dimF k x) rfl (by rw [hTk]; omega) (Own.slr (by rw [← huk]; exact h6.own (3 + k) (flL_own hk3)))) (s_nil ⟨⟨by rw [← huk]; exact hS.cell 2 rfl (opL_cell hk3), hS.row 6 rfl⟩, (D_one 8 rfl (by kernel_rfl) rfl (s_bytes hS 1 rfl rfl rfl (bytes2_c (x := ((fidx (rTk m 3 k) (dimF k x) : Nat) : Int)) (hS.ownF 1 rfl) (by omega)) fun vo w17 hS => (s_nil ⟨⟨by rw [← huk]; exact hS.cell 2 rfl (opL_cell hk3), hS.row 6 rfl⟩, (D_one 9 rfl (by kernel_rfl) rfl (s_as rfl (s_nil ⟨⟨by rw [← huk]; exact hS.cell 2 rfl (opL_cell hk3), hS.row 6 rfl⟩, (D_done (by kernel_rfl) ?_)⟩)))⟩)))⟩)))⟩)))))))))
        refine W_reg rfl (s_add rfl rfl (by omega) (s_mv rfl (s_nil ?_)))
        refine ⟨3 - (k + 1), by omega, _, k + 1, vo, u8 rfl rfl rfl rfl rfl rfl rfl rfl, by omega, rfl, ?_⟩
        have e : bs' ++ [x.code % 256] ++ (List.range (k + 1)).flatMap (rDim m x) = bk ++ bytes2 (fidx (rTk m 3 k) (dimF k x) : Nat) := by
          rw [range_flat, ← List.append_assoc, ← hbk, rDim, hTk]
        rw [e]
        exact hS
      · have hd := of_decide_eq_false hd
        have h3 : k = 3 := by omega
        have hS6 : Sep w w15 (flL gm gt mc vo bk u (rTk m 3)) := hS.take 6
        rw [h3] at hbk
        rw [hbk] at hS6 hlb3
        exact H2 _ _ vo hS6 (by omega) rfl rfl rfl rfl rfl rfl
    · have hd := of_decide_eq_false hd
      have e : l.take j = l := List.take_of_length_le (by omega)
      rw [e, hl] at hS hlb
      exact H _ _ vo _ rfl (by omega) hS rfl rfl
  refine W_sr rfl (s_mv rfl (s_nil ?_))
  refine W_block ?_
  refine W_loop (fun r ρ w' => ∃ ρ' k vo u, ρ = upd (upd (upd (upd ρ' 1 (.pointer (some ⟨gm, 0, none⟩))) 3 vo) 4 (.pointer (some ⟨gt, 0, none⟩))) 18 (iV (k : Nat)) ∧ k ≤ 3 ∧ r = 3 - k ∧ (headB m ++ rTabs m k).length ≤ 8 + k * 4002 ∧ Sep w w' (flL gm gt mc vo (headB m ++ rTabs m k) u (rTk m k))) 3
    ⟨_, 0, vo, _, u4 rfl rfl rfl rfl, by omega, rfl, by simpa [rTabs] using hlen0, by simpa [rTabs] using hS⟩ ?_
  clear hS
  rintro r _ w6 ⟨ρ, k, vo, u, rfl, hk, rfl, hlb, hS⟩
  refine W_sr rfl (s_lss rfl rfl (s_nil ?_))
  refine W_seq ?_
  refine W_if rfl (fun hd => W_skip ?_) (fun hd => W_exit ?_)
  · have hd := of_decide_eq_true hd
    have hk3 : k < 3 := by omega
    refine W_sk fun K2 hK2 => ?_
    have H2 : ∀ (ρ : Fr) w' vo u, (headB m ++ rTabs m (k + 1)).length ≤ 8 + (k + 1) * 4002 → Sep w w' (flL gm gt mc vo (headB m ++ rTabs m (k + 1)) u (rTk m (k + 1))) → ρ 1 = .pointer (some ⟨gm, 0, none⟩) → ρ 3 = vo → ρ 4 = .pointer (some ⟨gt, 0, none⟩) → ρ 18 = iV k → K2 ρ w' := by
      intro ρ w' vo u hl hS q1 q3 q4 q18
      rw [u4 q1 q3 q4 q18]
      refine hK2 _ _ ?_
      refine W_reg rfl (s_add rfl rfl (by omega) (s_mv rfl (s_nil ?_)))
      exact ⟨3 - (k + 1), by omega, _, k + 1, vo, u, u4 rfl rfl rfl rfl, by omega, rfl, hl, hS⟩
    refine W_block ?_
    refine W_sr rfl (s_mv rfl (s_as rfl (s_nil ?_)))
    have call := fleuronref27_table_c (w := w6) (c := c) (k := k) rfl hb1 hk3 (Ext.sl hS.ext hm.ch)
    refine W_sr rfl (s_mv rfl (s_fa E rfl rfl (s_ld E rfl rfl (hS.cell 0 rfl hmc1) (s_mv rfl (s_call rfl rfl call ?_)))))
    rintro x w7 ⟨ho7, hn7, hE7⟩
    have hS := flL_set (t := rT m k) hk3 hS hE7 ho7 hn7
    refine (s_iaA (i := k) E rfl rfl rfl rfl hk3 (s_st1S hS 2 E rfl rfl rfl (ad0 gt (k * 1)) rfl ho7.one (by simp; omega) (opL_st hk3 x) fun w8 hS => (s_nil ?_)))
    have hT : Sep w w8 (flL gm gt mc vo (headB m ++ rTabs m k) (updV u k x) (rTk m (k + 1))) := by rw [← rTk_succ]; exact hS
    obtain ⟨u', hu'⟩ : ∃ u', u' = updV u k x := ⟨_, rfl⟩
    rw [← hu'] at hT
    have hux : u' k = x := by rw [hu']; simp [updV]
    obtain ⟨px, cx, rfl, hpx, hcx, _⟩ := ho7.form
    have hTk : rTk m (k + 1) k = rT m k := by unfold rTk; rw [if_pos (by omega)]
    obtain ⟨t, ht⟩ : ∃ t, t = rT m k := ⟨_, rfl⟩
    have htl := rT_len m k
    change _ = Value.slice px (rT m k).length cx at hux
    rw [← ht] at hTk htl hux
    have ho8 := hT.own (3 + k) (flL_own hk3)
    rw [hTk, hux] at ho8
    clear hpx ho7 hn7 call
    refine W_n5 1 3 4 5 18 (.pointer (some ⟨gm, 0, none⟩)) vo (.pointer (some ⟨gt, 0, none⟩)) (iV k) (iV k) rfl rfl rfl rfl rfl fun ρ => ?_
    refine W_sr rfl (s_mv rfl (s_mv rfl (s_iaA (i := k) E rfl rfl rfl rfl hk3 (s_ld E rfl rfl (by rw [← hux]; exact hT.cell 2 rfl (opL_cell hk3)) (s_len E rfl rfl (s_bytes hT 1 rfl rfl rfl (bytes2_c (x := (t.length : Nat)) (hT.ownF 1 rfl) (by omega)) fun vo w9 hS => (s_as rfl (s_nil ?_))))))))
    have hS : Sep w w9 (flL gm gt mc vo (headB m ++ rTabs m k ++ bytes2 t.length) u' (rTk m (k + 1))) := hS
    refine W_sr rfl (s_mv rfl (s_iaA (i := k) E rfl rfl rfl rfl hk3 (s_ld E rfl rfl (by rw [← hux]; exact hS.cell 2 rfl (opL_cell hk3)) (s_len E rfl rfl (s_mv rfl (s_nil ?_))))))
    refine W_block ?_
    refine W_loop (fun r ρ w' => ∃ ρ' j vo, ρ = upd (upd (upd (upd (upd (upd (upd ρ' 1 (.pointer (some ⟨gm, 0, none⟩))) 3 vo) 4 (.pointer (some ⟨gt, 0, none⟩))) 18 (iV k)) 35 (.slice px t.length cx)) 36 (iV t.length)) 37 (iV (j : Nat)) ∧ j ≤ t.length ∧ r = t.length - j ∧
        Sep w w' (flL gm gt mc vo (headB m ++ rTabs m k ++ bytes2 t.length ++ (t.take j).flatMap bytes4) u' (rTk m (k + 1)))) t.length
      ⟨_, 0, vo, u7 rfl rfl rfl rfl rfl rfl rfl, by omega, rfl, by simpa using hS⟩ ?_
    clear hS ho8
    rintro r _ w10 ⟨ρ, j, vo, rfl, hj, rfl, hS⟩
    have hl10 : (headB m ++ rTabs m k ++ bytes2 (t.length : Nat) ++ (t.take j).flatMap bytes4).length ≤ 8 + k * 4002 + 2 + 4 * j := by
      have h1 := flat_len_le bytes4 4 (fun _ => by simp [bytes4]) (t.take j)
      have h2 : (t.take j).length ≤ j := by simp; omega
      have h3 : (bytes2 (t.length : Nat)).length = 2 := rfl
      rw [List.length_append, List.length_append, h3]
      omega
    refine W_sr rfl (s_lss rfl rfl (s_nil ?_))
    refine W_seq ?_
    refine W_if rfl (fun hd => W_skip ?_) (fun hd => W_exit ?_)
    · have hd := of_decide_eq_true hd
      have hjl : j < t.length := by omega
      have ho := hS.own (3 + k) (flL_own hk3)
      rw [hTk, hux] at ho
      obtain ⟨a, ha, hcell⟩ := sl_map (Own.slr ho) hjl
      obtain ⟨y, hy⟩ : ∃ y, y = t[j] := ⟨_, rfl⟩
      rw [← hy] at hcell
      refine W_seq (W_block ?_)
      refine W_sr rfl (s_ia E rfl (congrArg (fun z => Value.slice z t.length cx) ha) rfl rfl (by omega) (s_ld E rfl rfl hcell (s_as rfl (s_nil ?_))))
      refine W_reg rfl (s_mv rfl (s_mv rfl (s_bytes hS 1 rfl rfl rfl (bytes4_c (x := y) (hS.ownF 1 rfl) (by omega)) fun vo w11 hS => (s_as rfl (s_nil ?_)))))
      refine W_reg rfl (s_add rfl rfl (by omega) (s_mv rfl (s_nil ?_)))
      refine ⟨t.length - (j + 1), by omega, _, j + 1, vo, u7 rfl rfl rfl rfl rfl rfl rfl, by omega, rfl, ?_⟩
      rw [flat_take bytes4 t j hjl, ← hy, ← List.append_assoc]
      exact hS
    · have hd := of_decide_eq_false hd
      have e : t.take j = t := List.take_of_length_le (by omega)
      rw [e] at hS hl10
      have e2 : headB m ++ rTabs m k ++ bytes2 (t.length : Nat) ++ t.flatMap bytes4 = headB m ++ rTabs m (k + 1) := by
        unfold rTabs
        rw [range_flat, ← ht, tabBytes]; simp only [List.append_assoc]
      rw [e2] at hS hl10
      exact H2 _ _ vo u' (by omega) hS rfl rfl rfl rfl
  · have hd := of_decide_eq_false hd
    have h3 : k = 3 := by omega
    subst h3
    exact H _ _ vo u (headB m ++ rTabs m 3) rfl (by omega) hS rfl rfl rfl
end
end Go.Proofs.YthfnijlgmjkedaaGreat
namespace Go.Proofs.YthfnijlgmjkedaaGreat
set_option maxRecDepth 100000
set_option maxHeartbeats 2000000
set_option linter.unusedVariables false
set_option linter.unusedSimpArgs false
open Go Go.Fx Go.Proofs.YthfnijlgmjkedaaGreat.Tab
def rdN (b : List Int) : Nat → Nat → Int → Bool → Int × Bool
  | 0, _, n, s => (n, s)
  | k + 1, at_, n, s => rdN b k (at_ + 1) (n * 256 + b.getD at_ 0) (s || decide (b.length ≤ at_))
section
variable {w : World}
theorem fleuronref27_Pack_c {m : Me} {p q : Option Addr} {c d : Nat} (hm : MeR w m p q) (hb1 : m.chars.length ≤ 1000) (hb2 : m.rules.length ≤ 1000) :
    Ret Go.Proofs.Tryz.prog 12 #[meV m p q c d] w fun v w' => (if validM m then ∃ p c, v = .tuple #[.slice p (fileR m).length c, iV 0] ∧ (fileR m).length ≤ c ∧ SlR w' p ((fileR m).map bV) else v = .tuple #[.slice none 0 0, iV 2]) ∧ Ext w w' := by
  refine enter Go.Proofs.Tryz.func12 rfl rfl rfl ?_
  have hS := Sep.start (w := w)
  refine W_sr rfl (s_bxS hS (vs := meC m p q c d) rfl rfl fun w1 gm hS => (s_as rfl (s_as rfl (s_nil ?_))))
  refine W_seq ?_
  cases hv : validM m
  · refine W_sr rfl (s_lda (xs := meC m p q c d) E rfl rfl (hS.row 0 rfl) rfl (s_callE hS rfl rfl (Ret.eqv (fleuronref27_Valid_c (hm.ext hS.ext)) (congrArg Value.bool hv)) fun w3 hS => (s_not rfl (s_nil ?_))))
    refine W_if rfl (fun _ => ?_) (fun h => by cases h)
    refine W_sr rfl (s_as rfl (s_as rfl (s_nil ?_)))
    exact W_ret ⟨_, rfl, rfl, hS.ext⟩
  refine W_sr rfl (s_lda (xs := meC m p q c d) E rfl rfl (hS.row 0 rfl) rfl (s_callE hS rfl rfl (Ret.eqv (fleuronref27_Valid_c (hm.ext hS.ext)) (congrArg Value.bool hv)) fun w3 hS => (s_not rfl (s_nil ?_))))
  refine W_if rfl (fun h => by cases h) (fun _ => W_skip ?_)
  refine W_sr rfl (s_lda (xs := meC m p q c d) E rfl rfl (hS.row 0 rfl) rfl (s_call rfl rfl (fleuronref27_File_c (hm.ext hS.ext) hb1 hb2) fun v w4 h4 => (s_as rfl (s_as rfl (s_nil ?_)))))
  obtain ⟨⟨pp, cc, rfl, h1, h2⟩, hE4⟩ := h4
  exact W_ret ⟨_, rfl, ⟨pp, cc, rfl, h1, h2⟩, hS.ext.trans hE4⟩
theorem fleuronref27_Bin_Number_c {r n c at_ many : Nat} {p : Option Addr} {b : List Int} {s : Bool} {ty : TypeId} (hh : w.heap[r]? = some (.cells #[.slice p n c, iV at_, .bool s] ty (0, 0))) (hp : SlR w p (b.map bV)) (hn : n = b.length) (hb : byt b) (hne : b ≠ [] → ∀ a, p = some a → a.block ≠ r) (hat : at_ ≤ 100000000) (hm : many ≤ 4) :
    Ret Go.Proofs.Tryz.prog 48 #[.pointer (some ⟨r, 0, none⟩), iV many] w fun v w' => v = iV (rdN b many at_ 0 s).1 ∧ w'.heap[r]? = some (.cells #[.slice p n c, iV (at_ + many : Nat), .bool (rdN b many at_ 0 s).2] ty (0, 0)) ∧ Mod (fun k => k = r) w w' := by
  refine enter Go.Proofs.Tryz.func48 rfl rfl rfl ?_
  refine W_sr rfl (s_as rfl (s_nil ?_))
  refine W_sr rfl (s_as rfl (s_nil ?_))
  refine W_seq ?_
  refine W_sr rfl (s_mv rfl (s_mv rfl (s_nil ?_)))
  refine W_block ?_
  refine W_loop (fun m ρ w' => ∃ ρ' j x t, ρ = upd (upd (upd (upd ρ' 0 (.pointer (some ⟨r, 0, none⟩))) 5 (iV x)) 6 (iV many)) 7 (iV (j : Nat)) ∧ j ≤ many ∧ m = many - j ∧ 0 ≤ x ∧ x < 256 ^ j ∧ rdN b (many - j) (at_ + j) x t = rdN b many at_ 0 s ∧ w'.heap[r]? = some (.cells #[.slice p n c, iV (at_ + j : Nat), .bool t] ty (0, 0)) ∧ Mod (fun k => k = r) w w') many
    ⟨_, 0, 0, s, u4 rfl rfl rfl rfl, by omega, by omega, by decide, by decide, rfl, hh, Mod.refl⟩ ?_
  rintro m _ w1 ⟨ρ, j, x, t, rfl, hj, rfl, hx0, hx1, hgo, hh1, hM1⟩
  refine W_sr rfl (s_lss rfl rfl (s_nil ?_))
  refine W_seq ?_
  refine W_if rfl (fun hc => W_skip ?_) (fun hc => W_exit ?_)
  · have hc := of_decide_eq_true hc
    have hjm : j < many := by omega
    have hx2 : x < 16777216 := by
      have h3 : j = 0 ∨ j = 1 ∨ j = 2 ∨ j = 3 := by omega
      rcases h3 with rfl | rfl | rfl | rfl
      · have e : (256 : Int) ^ 0 = 1 := by decide
        omega
      · have e : (256 : Int) ^ 1 = 256 := by decide
        omega
      · have e : (256 : Int) ^ 2 = 65536 := by decide
        omega
      · have e : (256 : Int) ^ 3 = 16777216 := by decide
        omega
    have hpow : (256 : Int) ^ (j + 1) = 256 ^ j * 256 := Int.pow_succ _ _
    have hgo' : rdN b (many - (j + 1)) (at_ + (j + 1)) (x * 256 + b.getD (at_ + j) 0) (t || decide (b.length ≤ at_ + j)) = rdN b many at_ 0 s := by
      rw [← hgo, show many - j = many - (j + 1) + 1 by omega]; rfl
    refine W_seq (W_block ?_)
    refine W_sr rfl (s_mv rfl (s_mul (a := x) (b := 256) rfl rfl (by omega) (s_as rfl (s_nil ?_))))
    refine W_sk fun K hK => ?_
    have H : ∀ (ρ : Fr) w' y t', 0 ≤ y → y < 256 ^ (j + 1) → rdN b (many - (j + 1)) (at_ + (j + 1)) y t' = rdN b many at_ 0 s → w'.heap[r]? = some (.cells #[.slice p n c, iV (at_ + j : Nat), .bool t'] ty (0, 0)) → Mod (fun k => k = r) w w' → ρ 0 = .pointer (some ⟨r, 0, none⟩) → ρ 5 = iV y → ρ 6 = iV many → ρ 7 = iV j → K ρ w' := by
      intro ρ w2 y t' hy0 hy1 hgo2 hh2 hM2 q0 q5 q6 q7
      rw [u4 q0 q5 q6 q7]
      refine hK _ _ ?_
      have hc1 : w2.cell? (Addr.add ⟨r, 0, none⟩ 1) = some (iV (at_ + j : Nat)) := by rw [ad0]; simp [World.cell?, hh2]
      refine W_reg rfl (s_mv rfl (s_nc rfl (s_fa E rfl rfl (s_ld E rfl rfl hc1 (s_add rfl rfl (by omega) (s_nc rfl (s_fa E rfl rfl (s_st1 E rfl rfl (ad0 r 1) rfl rfl hh2 (by simp) (s_nil ?_)))))))))
      refine W_reg rfl (s_add rfl rfl (by omega) (s_mv rfl (s_nil ?_)))
      refine ⟨many - (j + 1), by omega, _, j + 1, y, t', u4 rfl rfl rfl rfl, by omega, rfl, hy0, hy1, hgo2, ?_, hM2.trans (setRow_mod rfl)⟩
      have := setRow_heap w2 r _ #[.slice p n c, iV (at_ + (j + 1) : Nat), .bool t'] ty (0, 0) hh2
      exact this
    have hc0 : ∀ w', Ext w1 w' → w'.cell? (Addr.add ⟨r, 0, none⟩ 0) = some (.slice p n c) := fun w' h => Ext.cell h (by rw [ad0]; simp [World.cell?, hh1])
    have hc1 : ∀ w', Ext w1 w' → w'.cell? (Addr.add ⟨r, 0, none⟩ 1) = some (iV (at_ + j : Nat)) := fun w' h => Ext.cell h (by rw [ad0]; simp [World.cell?, hh1])
    refine W_n4 0 5 6 7 (.pointer (some ⟨r, 0, none⟩)) (iV (x * 256)) (iV many) (iV j) rfl rfl rfl rfl fun ρ => ?_
    by_cases hin : at_ + j < b.length
    · refine W_qr (Ext w1) orders rfl (by kernel_rfl) (Ext.drew0) (q_mv rfl (q_nc rfl (q_fa E rfl rfl (q_ld E rfl rfl hc1 (q_cmp (c := true) rfl rfl (decide_eq_true (by omega)) (q_mv rfl (q_g1 rfl (q_mv rfl (q_g1 rfl (q_nc rfl (q_g1 rfl (q_fa E rfl rfl (q_g1 rfl (q_ld E rfl rfl hc1 (q_g1 rfl (q_mv rfl (q_g1 rfl (q_nc rfl (q_g1 rfl (q_fa E rfl rfl (q_g1 rfl (q_ld E rfl rfl hc0 (q_g1 rfl (q_len E rfl rfl (q_g1 rfl (q_cmp (c := true) rfl rfl (decide_eq_true (show ((at_ + j : Nat) : Int) < ((n : Nat) : Int) by omega)) (q_pk rfl (q_nil ?_))))))))))))))))))))))))))))
      intro w2 hE2
      refine W_if rfl (fun _ => ?_) (fun h => by cases h)
      have hpw : SlR w2 p (b.map bV) := Ext.sl hE2 (SlR.keep hM1 hp (fun hx a ha => hne (fun h0 => hx (by rw [h0]; rfl)) a ha))
      obtain ⟨a, hpa, hcell⟩ := sl_bytes hpw hin
      have hby := hb b[at_ + j] (List.getElem_mem hin)
      have hget : b.getD (at_ + j) 0 = b[at_ + j] := by simp [hin]
      obtain ⟨y, hy⟩ : ∃ y, y = b[at_ + j] := ⟨_, rfl⟩
      rw [← hy] at hcell hby hget
      rw [hget, decide_eq_false (show ¬ b.length ≤ at_ + j by omega), Bool.or_false] at hgo'
      have e2 : IntKind.i64.wrap y = y := wrap64_in (by omega) (by omega)
      refine W_q (Ext w2) orders rfl (by kernel_rfl) (Ext.drew0) (q_mv rfl (q_mv rfl (q_nc rfl (q_fa E rfl rfl (q_ld E rfl rfl (fun w' h => hc0 w' (hE2.trans h)) (q_mv rfl (q_nc rfl (q_fa E rfl rfl (q_ld E rfl rfl (fun w' h => hc1 w' (hE2.trans h)) (q_ia (i := at_ + j) E rfl (congrArg (fun z => Value.slice z n c) hpa) rfl rfl (by omega) (q_ld E rfl rfl (fun w' h => Ext.cell h hcell) (q_cv E rfl rfl rfl (q_add (a := x * 256) (b := y) rfl (congrArg iV e2) (by omega) (q_as rfl (q_nil ?_)))))))))))))))
      intro w3 hE3
      have hE13 := hE2.trans hE3
      exact H _ _ (x * 256 + y) t (by omega) (by omega) hgo' (Ext.heap hE13 hh1) (hM1.trans (Mod.of_ext hE13)) rfl rfl rfl rfl
    · refine W_qr (Ext w1) orders rfl (by kernel_rfl) (Ext.drew0) (q_mv rfl (q_nc rfl (q_fa E rfl rfl (q_ld E rfl rfl hc1 (q_cmp (c := true) rfl rfl (decide_eq_true (by omega)) (q_mv rfl (q_g1 rfl (q_mv rfl (q_g1 rfl (q_nc rfl (q_g1 rfl (q_fa E rfl rfl (q_g1 rfl (q_ld E rfl rfl hc1 (q_g1 rfl (q_mv rfl (q_g1 rfl (q_nc rfl (q_g1 rfl (q_fa E rfl rfl (q_g1 rfl (q_ld E rfl rfl hc0 (q_g1 rfl (q_len E rfl rfl (q_g1 rfl (q_cmp (c := false) rfl rfl (decide_eq_false (show ¬ ((at_ + j : Nat) : Int) < ((n : Nat) : Int) by omega)) (q_pk rfl (q_nil ?_))))))))))))))))))))))))))))
      intro w2 hE2
      refine W_if rfl (fun h => by cases h) (fun _ => ?_)
      have hget : b.getD (at_ + j) 0 = 0 := by rw [List.getD_eq_getElem?_getD, List.getElem?_eq_none (by omega)]; rfl
      rw [hget, decide_eq_true (show b.length ≤ at_ + j by omega), Bool.or_true, Int.add_zero] at hgo'
      have hh2 := Ext.heap hE2 hh1
      refine W_reg rfl (s_mv rfl (s_nc rfl (s_fa E rfl rfl (s_st1 E rfl rfl (ad0 r 2) rfl rfl hh2 (by simp) (s_nil ?_)))))
      have := setRow_heap w2 r _ #[.slice p n c, iV (at_ + j : Nat), .bool true] ty (0, 0) hh2
      exact H _ _ (x * 256) true (by omega) (by omega) hgo' this ((hM1.trans (Mod.of_ext hE2)).trans (setRow_mod rfl)) rfl rfl rfl rfl
  · have hc := of_decide_eq_false hc
    obtain rfl : j = many := by omega
    refine W_sr rfl (s_mv rfl (s_as rfl (s_nil ?_)))
    rw [Nat.sub_self] at hgo
    exact W_ret ⟨_, rfl, by rw [← hgo]; rfl, by rw [← hgo]; exact hh1, hM1⟩
theorem rdN_bd {b : List Int} (hb : byt b) : ∀ (k at_ : Nat) (n : Int) (s : Bool) (j : Nat), 0 ≤ n ∧ n < 256 ^ j → 0 ≤ (rdN b k at_ n s).1 ∧ (rdN b k at_ n s).1 < 256 ^ (j + k)
  | 0, _, n, s, j, h => h
  | k + 1, at_, n, s, j, h => by
    have hg : 0 ≤ b.getD at_ 0 ∧ b.getD at_ 0 < 256 := by
      rw [List.getD_eq_getElem?_getD]
      cases hx : b[at_]? with
      | none => simp
      | some y => simpa using hb y (List.mem_of_getElem? hx)
    have hp : (256 : Int) ^ (j + 1) = 256 ^ j * 256 := Int.pow_succ _ _
    have := rdN_bd hb k (at_ + 1) (n * 256 + b.getD at_ 0) (s || decide (b.length ≤ at_)) (j + 1) (by omega)
    rw [show j + (k + 1) = j + 1 + k by omega]
    exact this
def rdS (b : List Int) (at_ : Nat) (s : Bool) : Int := s32 (rdN b 4 at_ 0 s).1
theorem fleuronref27_Bin_Signed_c {r n c at_ : Nat} {p : Option Addr} {b : List Int} {s : Bool} {ty : TypeId} (hh : w.heap[r]? = some (.cells #[.slice p n c, iV at_, .bool s] ty (0, 0))) (hp : SlR w p (b.map bV)) (hn : n = b.length) (hb : byt b) (hne : b ≠ [] → ∀ a, p = some a → a.block ≠ r) (hat : at_ ≤ 100000000) :
    Ret Go.Proofs.Tryz.prog 47 #[.pointer (some ⟨r, 0, none⟩)] w fun v w' => v = iV (rdS b at_ s) ∧ w'.heap[r]? = some (.cells #[.slice p n c, iV (at_ + 4 : Nat), .bool (rdN b 4 at_ 0 s).2] ty (0, 0)) ∧ Mod (fun k => k = r) w w' := by
  refine enter Go.Proofs.Tryz.func47 rfl rfl rfl ?_
  refine W_sr rfl (s_as rfl (s_nil ?_))
  refine W_sr rfl (s_mv rfl (s_call rfl rfl (fleuronref27_Bin_Number_c (many := 4) hh hp hn hb hne hat (by decide)) fun v w1 h1 => (s_as rfl (s_nil ?_))))
  obtain ⟨rfl, hh1, hM1⟩ := h1
  have hbd := rdN_bd hb 4 at_ 0 s 0 (by decide)
  rw [show (256 : Int) ^ (0 + 4) = 4294967296 from by decide] at hbd
  unfold rdS
  obtain ⟨x, hx⟩ : ∃ x, x = (rdN b 4 at_ 0 s).1 := ⟨_, rfl⟩
  rw [← hx] at hbd ⊢
  refine W_n1 3 (iV x) (by rw [hx]; rfl) fun ρ => ?_
  refine W_seq ?_
  refine W_sr rfl (s_mv rfl (s_geq rfl rfl (s_nil ?_)))
  refine W_if rfl (fun hd => ?_) (fun hd => W_skip ?_)
  · have hd := of_decide_eq_true hd
    refine W_reg rfl (s_mv rfl (s_sub rfl rfl (by omega) (s_as rfl (s_nil ?_))))
    refine W_sr rfl (s_mv rfl (s_as rfl (s_nil ?_)))
    exact W_ret ⟨_, rfl, by unfold s32; rw [if_neg (by omega)]; rfl, hh1, hM1⟩
  · have hd := of_decide_eq_false hd
    refine W_sr rfl (s_mv rfl (s_as rfl (s_nil ?_)))
    exact W_ret ⟨_, rfl, by unfold s32; rw [if_pos (by omega)]; rfl, hh1, hM1⟩
end
end Go.Proofs.YthfnijlgmjkedaaGreat
namespace Go.Proofs.YthfnijlgmjkedaaGreat
set_option maxRecDepth 100000
set_option linter.unusedVariables false
set_option linter.unusedSimpArgs false
open Go Go.Fx
/-! ## the reference's file is the program's -/
theorem lt_uniq : ∀ (a b : List Int), a.Pairwise (· < ·) → b.Pairwise (· < ·) → (∀ x, x ∈ a ↔ x ∈ b) → a = b
  | [], [], _, _, _ => rfl
  | [], y :: b, _, _, h => absurd ((h y).2 (by simp)) (by simp)
  | x :: a, [], _, _, h => absurd ((h x).1 (by simp)) (by simp)
  | x :: a, y :: b, ha, hb, h => by
    rw [List.pairwise_cons] at ha hb
    have hxy : x = y := by
      have h1 := (h x).1 (by simp)
      have h2 := (h y).2 (by simp)
      rcases List.mem_cons.1 h1 with h1 | h1
      · exact h1
      · rcases List.mem_cons.1 h2 with h2 | h2
        · exact h2.symm
        · have := ha.1 y h2; have := hb.1 x h1; omega
    subst hxy
    rw [lt_uniq a b ha.2 hb.2 fun z => ?_]
    constructor
    · intro hz
      rcases List.mem_cons.1 ((h z).1 (List.mem_cons_of_mem _ hz)) with h1 | h1
      · have := ha.1 z hz; omega
      · exact h1
    · intro hz
      rcases List.mem_cons.1 ((h z).2 (List.mem_cons_of_mem _ hz)) with h1 | h1
      · have := hb.1 z hz; omega
      · exact h1
theorem tw_all {p : Int → Bool} : ∀ (l : List Int) x, x ∈ l.takeWhile p → p x = true
  | [], x, h => by simp at h
  | y :: l, x, h => by
    rw [List.takeWhile_cons] at h
    split at h
    · rename_i hy
      rcases List.mem_cons.1 h with rfl | h
      · exact hy
      · exact tw_all l x h
    · simp at h
theorem flat_congr {α β : Type} {f g : α → List β} : ∀ {l : List α}, (∀ x ∈ l, f x = g x) → l.flatMap f = l.flatMap g
  | [], _ => rfl
  | x :: l, h => by rw [List.flatMap_cons, List.flatMap_cons, h x (by simp), flat_congr fun y hy => h y (by simp [hy])]
theorem insU_eq (l : List Int) (n : Int) : insU l n = (match l.dropWhile (fun y => decide (y < n)) with
    | [] => l ++ [n]
    | y :: r => if y = n then l else l.takeWhile (fun y => decide (y < n)) ++ n :: y :: r) := by
  have h0 := List.takeWhile_append_dropWhile (p := fun y : Int => decide (y < n)) (l := l)
  have ht : l.take (l.takeWhile fun y => decide (y < n)).length = l.takeWhile fun y => decide (y < n) := by
    conv => lhs; arg 2; rw [← h0]
    exact List.take_left
  have hd : l.drop (l.takeWhile fun y => decide (y < n)).length = l.dropWhile fun y => decide (y < n) := by
    conv => lhs; arg 2; rw [← h0]
    exact List.drop_left
  unfold insU
  simp only [ht, hd]
  cases hw : l.dropWhile (fun y => decide (y < n)) with
  | nil =>
    have h1 : (l.takeWhile fun y => decide (y < n)) = l := by rw [hw] at h0; simpa using h0
    rw [h1, if_neg (by omega)]; simp
  | cons y r =>
    have hlt : (l.takeWhile fun y => decide (y < n)).length < l.length := by
      have := congrArg List.length h0
      rw [hw] at this
      simp only [List.length_append, List.length_cons] at this
      omega
    have hg : l.getD (l.takeWhile fun y => decide (y < n)).length 0 = y := by
      have : l[(l.takeWhile fun y => decide (y < n)).length]? = some y := by
        have h2 : (l.drop (l.takeWhile fun y => decide (y < n)).length)[0]? = some y := by rw [hd, hw]; rfl
        rw [List.getElem?_drop] at h2
        simpa using h2
      rw [List.getD_eq_getElem?_getD, this]; rfl
    rw [hg]
    by_cases hy : y = n
    · rw [if_pos ⟨hlt, hy⟩]
      show l = if y = n then l else _
      rw [if_pos hy]
    · rw [if_neg (fun h => hy h.2)]
      show _ = if y = n then l else _
      rw [if_neg hy]; rfl
theorem insU_ok {l : List Int} (n : Int) (h : l.Pairwise (· < ·)) : (insU l n).Pairwise (· < ·) ∧ ∀ x, x ∈ insU l n ↔ x ∈ l ∨ x = n := by
  have h0 := List.takeWhile_append_dropWhile (p := fun y : Int => decide (y < n)) (l := l)
  rw [insU_eq]
  have htw : ∀ x ∈ l.takeWhile (fun y => decide (y < n)), x < n := fun x hx => by simpa using tw_all l x hx
  cases hw : l.dropWhile (fun y => decide (y < n)) with
  | nil =>
    simp only
    have h1 : (l.takeWhile fun y => decide (y < n)) = l := by rw [hw] at h0; simpa using h0
    rw [h1] at htw
    exact ⟨List.pairwise_append.2 ⟨h, List.pairwise_singleton _ _, fun a ha b hb => by rw [List.mem_singleton] at hb; subst hb; exact htw a ha⟩, fun x => by simp⟩
  | cons y r =>
    simp only
    rw [hw] at h0
    have hyn : ¬ y < n := by
      have := List.head_dropWhile_not (fun y : Int => decide (y < n)) (l := l) (by rw [hw]; simp)
      simp only [hw, List.head_cons] at this
      simpa using this
    split
    · rename_i e
      subst e
      refine ⟨h, fun x => ⟨.inl, fun hx => ?_⟩⟩
      rcases hx with hx | rfl
      · exact hx
      · rw [← h0]; simp
    · rename_i e
      have hp := h
      rw [← h0, List.pairwise_append] at hp
      refine ⟨List.pairwise_append.2 ⟨hp.1, List.pairwise_cons.2 ⟨fun z hz => ?_, hp.2.1⟩, fun a ha b hb => ?_⟩, fun x => ?_⟩
      · rcases List.mem_cons.1 hz with rfl | hz
        · omega
        · have := (List.pairwise_cons.1 hp.2.1).1 z hz; omega
      · rcases List.mem_cons.1 hb with rfl | hb
        · exact htw a ha
        · exact hp.2.2 a ha b hb
      · conv => rhs; rw [← h0]
        simp only [List.mem_append, List.mem_cons]
        constructor
        · rintro (h | h | h | h)
          · exact .inl (.inl h)
          · exact .inr h
          · exact .inl (.inr (.inl h))
          · exact .inl (.inr (.inr h))
        · rintro ((h | h | h) | h)
          · exact .inl h
          · exact .inr (.inr (.inl h))
          · exact .inr (.inr (.inr h))
          · exact .inr (.inl h)
theorem foldU_ok : ∀ (l o : List Int), o.Pairwise (· < ·) → (l.foldl insU o).Pairwise (· < ·) ∧ ∀ x, x ∈ l.foldl insU o ↔ x ∈ o ∨ x ∈ l
  | [], o, h => ⟨h, fun x => by simp⟩
  | n :: l, o, h => by
    have h1 := insU_ok n h
    have h2 := foldU_ok l (insU o n) h1.1
    refine ⟨h2.1, fun x => ?_⟩
    rw [List.foldl_cons, h2.2, h1.2, List.mem_cons]
    constructor
    · rintro ((h | h) | h)
      · exact .inl h
      · exact .inr (.inl h)
      · exact .inr (.inr h)
    · rintro (h | h | h)
      · exact .inl (.inl h)
      · exact .inl (.inr h)
      · exact .inr h
theorem compact_ok {l : List Int} (h : l.Pairwise (· ≤ ·)) : (Lib.compact l).Pairwise (· < ·) ∧ ∀ x, x ∈ Lib.compact l ↔ x ∈ l := by
  unfold Lib.compact
  have key : ∀ m, m ≤ l.length → (Lib.compactUpTo l.toArray m).Pairwise (· < ·) ∧ ∀ x, x ∈ Lib.compactUpTo l.toArray m ↔ x ∈ l.take m := by
    intro m
    induction m with
    | zero => intro _; simp [Lib.compactUpTo]
    | succ m ih =>
      intro hm
      have ih := ih (by omega)
      have hml : m < l.length := by omega
      have hget : l.toArray[m]! = l[m] := by rw [getElem!_pos _ _ (by simpa using hml)]; simp
      have hle : ∀ x ∈ l.take m, x ≤ l[m] := by
        intro x hx
        obtain ⟨i, hi, rfl⟩ := List.getElem_of_mem hx
        have hi' : i < m := by simp at hi; omega
        rw [List.getElem_take]
        exact (List.pairwise_iff_getElem.1 h) i m (by omega) hml hi'
      rw [Lib.compactUpTo_succ, List.take_succ_eq_append_getElem hml]
      by_cases h0 : m = 0
      · subst h0
        have : Lib.keeps l.toArray 0 = true := by simp [Lib.keeps]
        rw [if_pos this, hget]
        simp [Lib.compactUpTo]
      · have hm1 : m - 1 < l.length := by omega
        have hget1 : l.toArray[m - 1]! = l[m - 1] := by rw [getElem!_pos _ _ (by simpa using hm1)]; simp
        have hmem1 : l[m - 1] ∈ l.take m := by
          rw [List.mem_take_iff_getElem]
          exact ⟨m - 1, by omega, rfl⟩
        by_cases he : l[m] = l[m - 1]
        · rw [Lib.keeps_neg (by omega) (by rw [hget, hget1]; exact he)]
          simp only [Bool.false_eq_true, if_false, List.append_nil]
          refine ⟨ih.1, fun x => ?_⟩
          rw [ih.2, List.mem_append, List.mem_singleton]
          exact ⟨.inl, fun hx => by
            rcases hx with hx | rfl
            · exact hx
            · rw [he]; exact hmem1⟩
        · rw [Lib.keeps_pos (by rw [hget, hget1]; exact he), hget]
          simp only [if_true]
          refine ⟨List.pairwise_append.2 ⟨ih.1, List.pairwise_singleton _ _, fun a ha b hb => ?_⟩, fun x => by rw [List.mem_append, List.mem_append, ih.2]⟩
          rw [List.mem_singleton] at hb; subst hb
          have ha := (ih.2 a).1 ha
          have h1 := hle a ha
          obtain ⟨i, hi, rfl⟩ := List.getElem_of_mem ha
          have hi' : i < m := by simp at hi; omega
          rw [List.getElem_take] at h1 ⊢
          have h2 : l[i] ≤ l[m - 1] := by
            by_cases e : i = m - 1
            · subst e; exact Int.le_refl _
            · exact (List.pairwise_iff_getElem.1 h) i (m - 1) (by omega) hm1 (by omega)
          have h3 := (List.pairwise_iff_getElem.1 h) (m - 1) m hm1 hml (by omega)
          omega
  have := key l.length (Nat.le_refl _)
  rwa [List.take_length] at this
theorem tabs_ok (m : Me) (j : Nat) : (tabs m j).Pairwise (· < ·) ∧ ∀ x, x ∈ tabs m j ↔ x ∈ m.chars.map (dimF j) := by
  have h1 : ((m.chars.map (dimF j)).mergeSort leI).Pairwise (fun a b => leI a b = true) :=
    List.pairwise_mergeSort (fun a b c h1 h2 => by simp [leI] at *; omega) (fun a b => by simp [leI]; omega) _
  have h2 := compact_ok (h1.imp (fun {a b} h => by simpa [leI] using h))
  exact ⟨h2.1, fun x => by unfold tabs tabL; rw [h2.2]; exact List.mem_mergeSort⟩
theorem rT_tabs (m : Me) (j : Nat) : rT m j = tabs m j := by
  have h1 := foldU_ok (m.chars.map (dimF j)) [] List.Pairwise.nil
  have h2 := tabs_ok m j
  exact lt_uniq _ _ h1.1 h2.1 fun x => by
    rw [h2.2]
    have := h1.2 x
    simpa [rT] using this
theorem fidx_idxT {l : List Int} (h : l.Pairwise (· < ·)) {x : Int} (hx : x ∈ l) : (fidx l x : Int) = idxT l x := by
  obtain ⟨i, hi, rfl⟩ := List.getElem_of_mem hx
  have hp := List.pairwise_iff_getElem.1 h
  have h1 : fidx l l[i] = i := fidx_at hi (fun j hj e => by have := hp j i (by omega) hi hj; omega) rfl
  rw [h1]
  unfold idxT
  have : l.countP (fun y => decide (y < l[i])) = i := by
    have h0 := List.take_append_drop i l
    conv => lhs; arg 2; rw [← h0]
    rw [List.countP_append]
    have e1 : (l.take i).countP (fun y => decide (y < l[i])) = i := by
      rw [List.countP_eq_length.2 (fun y hy => by
        obtain ⟨j, hj, rfl⟩ := List.getElem_of_mem hy
        rw [List.getElem_take]
        have hj' : j < i := by simp at hj; omega
        exact decide_eq_true (hp j i (by omega) hi hj'))]
      simp; omega
    have e2 : (l.drop i).countP (fun y => decide (y < l[i])) = 0 := by
      rw [List.countP_eq_zero]
      intro y hy
      obtain ⟨j, hj, rfl⟩ := List.getElem_of_mem hy
      rw [List.getElem_drop]
      have hj' : i + j < l.length := by simp at hj; omega
      by_cases e : j = 0
      · subst e; simp
      · have := hp i (i + j) hi hj' (by omega)
        simp; omega
    rw [e1, e2]; rfl
  rw [this]
theorem rbody_eq (m : Me) : rbody m = bodyM m := by
  have hT : rTabs m 3 = tabsB m 3 := by unfold rTabs tabsB; simp only [rT_tabs]
  have hC : ∀ c ∈ m.chars, rCh m c = chBytes m c := fun c hc => by
    unfold rCh chBytes rDim dimB
    simp only [rT_tabs]
    congr 1
    refine flat_congr fun j _ => ?_
    rw [fidx_idxT (tabs_ok m j).1 (((tabs_ok m j).2 _).2 (List.mem_map.2 ⟨c, hc, rfl⟩))]
  unfold rbody bodyM
  rw [hT, flat_congr hC]
theorem fileR_eq (m : Me) : fileR m = packM m := by unfold fileR packM; rw [rbody_eq]
end Go.Proofs.YthfnijlgmjkedaaGreat
namespace Go.Proofs.YthfnijlgmjkedaaGreat
set_option maxRecDepth 100000
set_option maxHeartbeats 4000000
set_option linter.unusedVariables false
set_option linter.unusedSimpArgs false
open Go Go.Fx Go.Proofs.YthfnijlgmjkedaaGreat.Tab
theorem q_eqsc {P : Program} {L os : List Oper} {Kq : Fr → Prop} {C : World → Prop} {ρ : Fr} {d : Option Tmp} {T : TypeId} {pos : String} {af : Array Edge} {t yt : TypeId} {x y : Operand} {a b : ByteArray} {c : Bool} (hx : ev ρ x = .string a) (hy : ev ρ y = .string b) (hc : (a.toList == b.toList) = c) (hk : vq P L C Kq os (put ρ d (.bool c))) : vq P L C Kq (⟨d, .binOp .eql t x y yt, T, pos, af, none⟩ :: os) ρ :=
  q_eqs hx hy (by rw [hc]; exact hk)
theorem few1 {m : Me} {p q : Option Addr} {c d : Nat} {w : World} {a : Addr} (h : Row w a (meC m p q c d)) : Ret Go.Proofs.Tryz.prog 9 #[.slice (some a) 1 1] w fun v w' => v = .bool (fewB m) ∧ Ext w w' := by
  refine (fleuronlaw27_few_c (ms := [⟨m, p, q, c, d⟩]) rfl (show 1 ≤ 1000 by decide) h).mono fun v w' hh => ⟨?_, hh.2⟩
  rw [hh.1]; simp
theorem few_bd {m : Me} (h : fewB m = true) : m.chars.length ≤ 300 ∧ m.rules.length ≤ 600 := by
  simpa [fewB] using h
section
variable {w : World}
def packL (m : Me) : List Int := if validM m then packM m else []
def packE (m : Me) : Int := if validM m then 0 else 2
theorem pack_any {m : Me} {p q : Option Addr} {c d : Nat} (hm : MeR w m p q) (h : fewB m = true) : Ret Go.Proofs.Tryz.prog 11 #[meV m p q c d] w fun v w' => (∃ pa ca, v = .tuple #[.slice pa (packL m).length ca, iV (packE m)] ∧ (packL m).length ≤ ca ∧ SlR w' pa ((packL m).map bV) ∧ OwnF w' 5 1 (.slice pa (packL m).length ca) (packL m).length ((packL m).map bV) ∧ ∀ k, (Value.slice pa (packL m).length ca).ownBlock = some k → w.heap.size ≤ k) ∧ Ext w w' := by
  have hb := few_bd h
  refine (metric_Pack_c hm (by omega) (by omega)).mono fun v w' hh => ⟨?_, hh.2⟩
  unfold packL packE
  cases hv : validM m
  · have := hh.1
    rw [hv] at this
    exact ⟨none, 0, this, Nat.le_refl _, rfl, .inl (Own.nil _ _ _), fun k hk => by cases hk⟩
  · have := hh.1
    rw [hv] at this
    obtain ⟨p, c, h1, h2, h3, h4, h5⟩ := this
    exact ⟨p, c, h1, h2, h3, h4, h5⟩
theorem rpack_any {m : Me} {p q : Option Addr} {c d : Nat} (hm : MeR w m p q) (h : fewB m = true) : Ret Go.Proofs.Tryz.prog 12 #[meV m p q c d] w fun v w' => (∃ pa ca, v = .tuple #[.slice pa (packL m).length ca, iV (packE m)] ∧ SlR w' pa ((packL m).map bV)) ∧ Ext w w' := by
  have hb := few_bd h
  refine (fleuronref27_Pack_c hm (by omega) (by omega)).mono fun v w' hh => ⟨?_, hh.2⟩
  unfold packL packE
  rw [fileR_eq] at hh
  cases hv : validM m
  · have := hh.1
    rw [hv] at this
    exact ⟨none, 0, this, rfl⟩
  · have := hh.1
    rw [hv] at this
    obtain ⟨p, c, h1, h2, h3⟩ := this
    exact ⟨p, c, h1, h3⟩
theorem MetricFiles_c {m : Me} {p q : Option Addr} {c d : Nat} (hp : SlR w p (m.chars.flatMap chC)) (hq : SlR w q (m.rules.flatMap ruC)) :
    Ret Go.Proofs.Tryz.prog 3 #[meV m p q c d] w fun v w' => v = .bool true ∧ Ext w w' := by
  refine enter Go.Proofs.Tryz.func3 rfl rfl rfl ?_
  have hS := Sep.start (w := w)
  refine W_sr rfl (s_bxS hS (vs := meC m p q c d) rfl rfl fun w1 gm hS => (s_as rfl (s_nil ?_)))
  have hE1 := hS.ext
  have r1 : Row w1 ⟨gm, 0, none⟩ (meC m p q c d) := hS.row 0 rfl
  clear hS
  refine W_seq ?_
  cases hf : fewB m
  · refine W_sr rfl (s_lda (xs := meC m p q c d) E rfl rfl r1 rfl (s_bsA E rfl rfl rfl rfl rfl (cells := (meC m p q c d).toArray) (by kernel_rfl) fun w2 hE2 hh2 hs2 => (s_callx rfl rfl (Ret.eqv (few1 (m := m) (p := p) (q := q) (c := c) (d := d) (row_heap hh2)) (congrArg Value.bool hf)) fun w3 hE3 => (s_not rfl (s_nil ?_)))))
    refine W_if rfl (fun _ => ?_) (fun h => by cases h)
    refine W_sr rfl (s_callx rfl rfl fleuronlaw27_awake_c fun w4 hE4 => (s_as rfl (s_nil ?_)))
    exact W_ret ⟨_, rfl, rfl, hE1.trans (hE2.trans (hE3.trans hE4))⟩
  refine W_sr rfl (s_lda (xs := meC m p q c d) E rfl rfl r1 rfl (s_bsA E rfl rfl rfl rfl rfl (cells := (meC m p q c d).toArray) (by kernel_rfl) fun w2 hE2 hh2 hs2 => (s_callx rfl rfl (Ret.eqv (few1 (m := m) (p := p) (q := q) (c := c) (d := d) (row_heap hh2)) (congrArg Value.bool hf)) fun w3 hE3 => (s_not rfl (s_nil ?_)))))
  refine W_if rfl (fun h => by cases h) (fun _ => W_skip ?_)
  have hb := few_bd hf
  have hE13 := hE2.trans hE3
  have hm : MeR w3 m p q := ⟨Ext.sl (hE1.trans hE13) hp, Ext.sl (hE1.trans hE13) hq, by omega, by omega⟩
  have r3 := Ext.row hE13 r1
  refine W_sr rfl (s_lda (xs := meC m p q c d) E rfl rfl r3 rfl (s_call rfl rfl (pack_any hm hf) ?_))
  rintro _ w4 ⟨⟨pa, ca, rfl, _, hsa, _, _⟩, hE4⟩
  refine (s_mv rfl (s_ex rfl rfl (s_ex rfl rfl (s_as rfl (s_as rfl (s_nil ?_))))))
  refine W_sr rfl (s_lda (xs := meC m p q c d) E rfl rfl (Ext.row hE4 r3) rfl (s_call rfl rfl (rpack_any (hm.ext hE4) hf) ?_))
  rintro _ w5 ⟨⟨pb, cb, rfl, hsb⟩, hE5⟩
  refine (s_mv rfl (s_ex rfl rfl (s_ex rfl rfl (s_as rfl (s_as rfl (s_nil ?_))))))
  refine W_n5 1 3 4 5 6 (.pointer (some ⟨gm, 0, none⟩)) (.slice pa (packL m).length ca) (iV (packE m)) (.slice pb (packL m).length cb) (iV (packE m)) rfl rfl rfl rfl rfl fun ρ => ?_
  have hE35 := hE4.trans hE5
  have r5 := Ext.row hE35 r3
  have hm5 := hm.ext hE35
  have hsa5 := Ext.sl hE5 hsa
  obtain ⟨bv, hv⟩ : ∃ b, validM m = b := ⟨_, rfl⟩
  cases bv
  all_goals
    refine W_qr (Ext w5) orders rfl (by kernel_rfl) (Ext.drew0) (q_lda (xs := meC m p q c d) E rfl rfl (fun w' h => Ext.row h r5) rfl (q_callE rfl rfl (fun w' h => Ret.eqv (metric_Valid_c (m := m) (p := p) (q := q) (c := c) (d := d) (hm5.ext h)) (congrArg Value.bool hv)) (q_lda (xs := meC m p q c d) E rfl rfl (fun w' h => Ext.row h r5) rfl (q_callE rfl rfl (fun w' h => Ret.eqv (fleuronref27_Valid_c (m := m) (p := p) (q := q) (c := c) (d := d) (hm5.ext h)) (congrArg Value.bool hv)) (q_eqb (by kernel_rfl) rfl rfl (q_mv rfl (q_g1 rfl (q_mv rfl (q_g1 rfl (q_val (fun w' h => r_str (l := packL m) E rfl rfl (by kernel_rfl) rfl rfl (Ext.sl h hsa5)) (q_g1 rfl (q_mv rfl (q_g1 rfl (q_val (fun w' h => r_str (l := packL m) E rfl rfl (by kernel_rfl) rfl rfl (Ext.sl h hsb)) (q_g1 rfl (q_eqsc rfl rfl (str_of rfl) (q_pk rfl (q_mv rfl (q_g1 rfl (q_mv rfl (q_g1 rfl (q_mv rfl (q_g1 rfl (q_cmp (c := true) rfl rfl (decide_eq_true rfl) (q_pk rfl (q_mv rfl (q_g1 rfl (q_callE rfl rfl (fun w' h => fleuronlaw27_awake_c) (q_pk rfl (q_as rfl (q_nil ?_)))))))))))))))))))))))))))))))
    intro w6 hE6
    exact W_ret ⟨_, rfl, rfl, hE1.trans (hE13.trans (hE35.trans hE6))⟩
end
end Go.Proofs.YthfnijlgmjkedaaGreat
namespace Go.Proofs.YthfnijlgmjkedaaGreat
set_option maxRecDepth 100000
set_option linter.unusedVariables false
open Go Go.Fx Go.RowKit Go.WideShapes Go.ChangeShapes
instance : Inhabited Ch := ⟨⟨0, 0, 0, 0⟩⟩
instance : Inhabited Ru := ⟨⟨0, 0, 0, 0⟩⟩
/-! ## the arguments of the rows, opened -/
section
variable {H : Type} {enc : TypeId × Value → H} {w : World} {base : Nat} {spare : Nat → Bool} {held : Bool}
theorem op_ch (fuel : Nat) (cs : List Value) (x : DataW H × List MemPlace) (h : DataW.trod enc Go.Proofs.Tryz.prog w base spare held fuel 50 cs = some x) : ∃ a, cs = chC a := by
  obtain ⟨a, b, c, d, rfl⟩ := op_int4 (t0 := 3) (t1 := 3) (t2 := 3) (t3 := 3) (by kernel_rfl) (by kernel_rfl) (by kernel_rfl) (by kernel_rfl) (by kernel_rfl) (by kernel_rfl) h
  exact ⟨⟨a, b, c, d⟩, rfl⟩
theorem op_ru (fuel : Nat) (cs : List Value) (x : DataW H × List MemPlace) (h : DataW.trod enc Go.Proofs.Tryz.prog w base spare held fuel 45 cs = some x) : ∃ a, cs = ruC a := by
  obtain ⟨a, b, c, d, rfl⟩ := op_int4 (t0 := 3) (t1 := 3) (t2 := 43) (t3 := 3) (by kernel_rfl) (by kernel_rfl) (by kernel_rfl) (by kernel_rfl) (by kernel_rfl) (by kernel_rfl) h
  exact ⟨⟨a, b, c, d⟩, rfl⟩
theorem op_me (fuel : Nat) (cs : List Value) (x : DataW H × List MemPlace) (h : DataW.trod enc Go.Proofs.Tryz.prog w base spare held fuel 25 cs = some x) :
    ∃ m p q c d, cs = meC m p q c d ∧ SlR w p (m.chars.flatMap chC) ∧ SlR w q (m.rules.flatMap ruC) ∧ m.chars.length ≤ maxLen ∧ m.rules.length ≤ maxLen := by
  obtain ⟨hl, hg⟩ := op_struct (l := [(0, 3, 1), (1, 22, 1), (2, 23, 1)]) (n := 3) (by kernel_rfl) (by kernel_rfl) h
  match cs, hl with
  | [c0, c1, c2], _ =>
    obtain ⟨_, _, g0⟩ := hg 0 _ _ _ rfl
    obtain ⟨_, _, g1⟩ := hg 1 _ _ _ rfl
    obtain ⟨_, _, g2⟩ := hg 2 _ _ _ rfl
    obtain ⟨a, ha, _⟩ := op_int (t := 3) (k := .i64) (by kernel_rfl) (cs := [c0]) g0
    obtain ⟨p, c, l1, hb, h1, h2, h3, _⟩ := op_slice (t := 22) (e := 50) (n := 4) (by kernel_rfl) (by kernel_rfl) chC_len op_ch (cs := [c1]) g1
    obtain ⟨q, d, l2, hc, k1, k2, k3, _⟩ := op_slice (t := 23) (e := 45) (n := 4) (by kernel_rfl) (by kernel_rfl) ruC_len op_ru (cs := [c2]) g2
    cases ha; cases hb; cases hc
    exact ⟨⟨a, l1, l2⟩, p, q, c, d, rfl, h1, k1, Nat.le_trans h2 h3, Nat.le_trans k2 k3⟩
theorem op_meV {v : Value} {d : DataW H} {ps : List MemPlace} {base2 : Nat} (hv : Value.okWide Go.Proofs.Tryz.prog w .any base2 25 v) (h : DataW.Trod enc Go.Proofs.Tryz.prog w base spare held 25 v d ps) :
    ∃ m p q c d, v = meV m p q c d ∧ SlR w p (m.chars.flatMap chC) ∧ SlR w q (m.rules.flatMap ruC) ∧ m.chars.length ≤ maxLen ∧ m.rules.length ≤ maxLen := by
  obtain ⟨fuel, h⟩ := h
  obtain ⟨cs, rfl⟩ := op_agg (l := [(0, 3, 1), (1, 22, 1), (2, 23, 1)]) (by kernel_rfl) hv
  obtain ⟨m, p, q, c, d, h1, h2⟩ := op_me _ _ _ h
  refine ⟨m, p, q, c, d, ?_, h2⟩
  have h3 : cs.toList = meC m p q c d := h1
  show Value.agg cs = .agg (meC m p q c d).toArray
  rw [← h3]
end
end Go.Proofs.YthfnijlgmjkedaaGreat

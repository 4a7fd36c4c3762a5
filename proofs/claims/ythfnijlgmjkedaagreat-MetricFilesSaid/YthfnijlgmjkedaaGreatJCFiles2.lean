/- fleuronlaw27.MetricFiles returns true for every metric, and the metric reads behind the call as it read before; conditions: none beside the given row's own. Part 2 of 9 of the proof. -/
import Derived.Test.YthfnijlgmjkedaaGreatJCFiles1
import Derived.Laws.AppendOwn
import Derived.Laws.AppendOwnNone
import Derived.Laws.MakeOwn
import Derived.Laws.BytesArg
import Derived.Laws.StructEq
import Derived.Laws.Cover3
import Derived.Test.YthfnijlgmjkedaaGreatProg
import Derived.KernelRfl
namespace Go.Fx
open Go.RowKit

/-! ## slices that the call itself has made: v starts at the head of a block that nobody else has -/
abbrev Own (w : World) (e : TypeId) (sz : Nat) (v : Value) (n : Nat) (xs : List Value) : Prop := w.ownsRow 0 e sz v n xs
theorem Own.nil (w : World) (e : TypeId) (sz : Nat) : Own w e sz (.slice none 0 0) 0 [] := World.ownsRow_nil w 0 e sz
theorem Own.form {w : World} {e : TypeId} {sz : Nat} {v : Value} {n : Nat} {xs : List Value} (h : Own w e sz v n xs) :
    ∃ p c, v = .slice p n c ∧ SlR w p xs ∧ n ≤ c ∧ (∀ a, p = some a → v.ownBlock = some a.block ∧ a = ⟨a.block, 0, none⟩) := by
  obtain ⟨hl, h⟩ := h
  rcases h with ⟨rfl, rfl⟩ | ⟨g, cap, cur, rfl, hb, hg, hnc, hcm, hcs, ht⟩
  · refine ⟨none, 0, rfl, ?_, Nat.le_refl _, by simp⟩
    show xs = []
    exact List.eq_nil_of_length_eq_zero (by simpa using hl)
  · refine ⟨some ⟨g, 0, none⟩, cap, rfl, ?_, hnc, by rintro a ⟨⟩; exact ⟨rfl, rfl⟩⟩
    have := World.ownsRow.cells (w := w) (base := 0) (e := e) (size := sz) (v := .slice (some ⟨g, 0, none⟩) n cap) (n := n) (xs := xs) ⟨hl, .inr ⟨g, cap, cur, rfl, hb, hg, hnc, hcm, hcs, ht⟩⟩ (g := g) rfl
    exact this
theorem Own.slr {w : World} {e : TypeId} {sz : Nat} {p : Option Addr} {n c : Nat} {xs : List Value} (h : Own w e sz (.slice p n c) n xs) : SlR w p xs := by
  obtain ⟨p', c', h1, h2, _⟩ := h.form; cases h1; exact h2
theorem Own.lt {w : World} {e : TypeId} {sz : Nat} {v : Value} {n : Nat} {xs : List Value} (h : Own w e sz v n xs) {k : Nat} (hk : v.ownBlock = some k) : k < w.heap.size := (World.ownsRow.lt h k hk).2
theorem Own.len {w : World} {e : TypeId} {sz : Nat} {v : Value} {n : Nat} {xs : List Value} (h : Own w e sz v n xs) : xs.length = n * sz := h.1
/-- the block is the old one, or a new one -/
def OldOrNew (w : World) (v v' : Value) : Prop := v'.ownBlock = v.ownBlock ∨ ∃ k, v'.ownBlock = some k ∧ w.heap.size ≤ k
section
variable {P : Program} {L os : List Oper} {K : Fr → World → Prop} {ρ : Fr} {w : World} {d : Option Tmp} {T : TypeId} {pos : String} {af : Array Edge}
theorem run_ap (w : World) (t ty e : TypeId) (i : TypeInfo) (z : Value) (ht : P.underlying t = some (.slice e)) (hi : P.info? e = some i) (hz : i.zero = some z) (hzs : z.cells.size = i.size) (hsz : 0 < i.size)
    (v : Value) (n : Nat) (xs : List Value) (hown : Own w e i.size v n xs) (a : Addr) (m c : Nat) (news : List Value) (hl : news.length = m * i.size) (hnews : Row w a news) (h1 : news.all (·.oneCell') = true)
    (hbytes : (n + m) * i.bytes ≤ 140737488355328) (h63 : n + m ≤ maxLen) :
    ∃ v' w', (Builtin.append_ #[t, t] ty #[v, .slice (some a) m c]).run P w = .ok v' w' ∧ Own w' e i.size v' (n + m) (xs ++ news) ∧ Mod (fun k => v.ownBlock = some k) w w' ∧ OldOrNew w v v' := by
  obtain ⟨v', w', hr, hown', hgr, hnil⟩ := run_append_own (P := P) w 0 t ty e i z i.size i.bytes ht hi hz rfl rfl hzs hsz v n xs hown a m c news hl hnews (by simpa using h1) h63 hbytes (Nat.zero_le _)
  refine ⟨v', w', hr, hown', Mod.grown hgr (fun k hk => hk), ?_⟩
  rcases hown.2 with ⟨rfl, rfl⟩ | ⟨g, cap, cur, rfl, hbg, hg, hnc, hcm, hcs, htake⟩
  · by_cases hm : m = 0
    · have := hnil.2 ⟨rfl, hm⟩; subst this; exact .inl rfl
    · have hr' := run_append_nil (P := P) w t ty e i z ht hi hz a m c news hl hnews (by omega) (by simp only [maxLen] at h63; omega) (by have hb := hbytes; simp only [Nat.zero_add] at hb; omega)
      rw [hr'] at hr
      cases hr
      exact .inr ⟨_, rfl, Nat.le_refl _⟩
  · by_cases hroom : n + m ≤ cap
    · have hfit : n * i.size + news.length ≤ cur.size := by rw [hl, hcs, ← Nat.add_mul]; exact Nat.mul_le_mul_right _ hroom
      have hr' := run_append_room (P := P) w t ty e i ht hi g n cap cur hg a m c news hl hnews (by simpa using h1) hroom hfit
      rw [hr'] at hr
      cases hr
      exact .inl rfl
    · have holds : ∀ j u, xs[j]? = some u → w.cell? ((⟨g, 0, none⟩ : Addr).add j) = some u := World.ownsRow.cells hown (g := g) rfl
      have hr' := run_append_grow (P := P) w t ty e i z ht hi hz ⟨g, 0, none⟩ n cap xs hown.1 holds a m c news hl hnews (by omega) (by simp only [maxLen] at h63; omega) (growslice_fits (by omega) hbytes)
      rw [hr'] at hr
      cases hr
      exact .inr ⟨_, rfl, Nat.le_refl _⟩
/-- append onto a slice of the call's own -/
theorem s_ap (E : Env P) {x y : Operand} {t e : TypeId} {sz m c n by_ : Nat} {z v : Value} {a : Addr} {xs news : List Value}
    (hs : E.sl t = some (e, sz)) (hz : E.zr e = some z) (hb : E.bt e = some by_) (hzs : (Nat.beq z.cells.size sz && Nat.blt 0 sz) = true) (hown : Own w e sz v n xs) (hx : ev ρ x = v)
    (hy : ev ρ y = .slice (some a) m c) (hr : Row w a news) (hl : news.length = m * sz) (h1 : news.all (·.oneCell') = true) (hle : (n + m) * by_ ≤ 140737488355328 ∧ n + m ≤ 9223372036854775807)
    (h : ∀ v' w', Own w' e sz v' (n + m) (xs ++ news) → Mod (fun k => v.ownBlock = some k) w w' → OldOrNew w v v' → vcs P L K os (put ρ d v') w') :
    vcs P L K (⟨d, .call { callee := .builtin .append, args := #[x, y], argTypes := #[t, t] }, T, pos, af, none⟩ :: os) ρ w := by
  obtain ⟨hu, i, hi, hn⟩ := E.h_sl _ _ _ hs
  obtain ⟨i', hi', hv⟩ := E.h_zr _ _ hz
  rw [hi] at hi'; cases hi'
  obtain ⟨i', hi', hbb⟩ := E.h_bt _ _ hb
  rw [hi] at hi'; cases hi'
  subst hn; subst hbb
  simp only [Bool.and_eq_true, Nat.beq_eq, Nat.blt_eq] at hzs
  obtain ⟨v', w', hrun, h2, h3, h4⟩ := run_ap (P := P) w t T e i z hu hi hv hzs.1 hzs.2 v n xs hown a m c news hl hr h1 hle.1 (by simp only [maxLen]; omega)
  refine s_val (v := v') (w' := w') ?_ (h v' w' h2 h3 h4)
  simp [execOp, resolve, invoke, builtin, hx, hy, hrun]
/-- a slice that is full: an append makes a new one -/
def OwnF (w : World) (e : TypeId) (sz : Nat) (v : Value) (n : Nat) (xs : List Value) : Prop :=
  Own w e sz v n xs ∨ (xs.length = n * sz ∧ ∃ a, v = .slice (some a) n n ∧ Row w a xs)
theorem OwnF.form {w : World} {e : TypeId} {sz : Nat} {v : Value} {n : Nat} {xs : List Value} (h : OwnF w e sz v n xs) : ∃ p c, v = .slice p n c ∧ SlR w p xs ∧ n ≤ c := by
  rcases h with h | ⟨_, a, rfl, h⟩
  · obtain ⟨p, c, h1, h2, h3, _⟩ := h.form; exact ⟨p, c, h1, h2, h3⟩
  · exact ⟨some a, n, rfl, h, Nat.le_refl _⟩
theorem OwnF.mod {M : Nat → Prop} {w w' : World} (h : Mod M w w') {e : TypeId} {sz : Nat} {v : Value} {n : Nat} {xs : List Value} (ho : OwnF w e sz v n xs) (hm : ∀ k, v.ownBlock = some k → ¬ M k) : OwnF w' e sz v n xs := by
  rcases ho with ho | ⟨h1, a, rfl, h2⟩
  · exact .inl (h.owns ho hm)
  · exact .inr ⟨h1, a, rfl, h.row h2 (hm _ rfl)⟩
theorem s_apF (E : Env P) {x y : Operand} {t e : TypeId} {sz m c n by_ : Nat} {z v : Value} {a : Addr} {xs news : List Value}
    (hs : E.sl t = some (e, sz)) (hz : E.zr e = some z) (hb : E.bt e = some by_) (hzs : (Nat.beq z.cells.size sz && Nat.blt 0 sz) = true) (hown : OwnF w e sz v n xs) (hx : ev ρ x = v)
    (hy : ev ρ y = .slice (some a) m c) (hr : Row w a news) (hl : news.length = m * sz) (hm : Nat.blt 0 m = true) (h1 : news.all (·.oneCell') = true) (hle : (n + m) * by_ ≤ 140737488355328 ∧ n + m ≤ 9223372036854775807)
    (h : ∀ v' w', Own w' e sz v' (n + m) (xs ++ news) → Mod (fun k => v.ownBlock = some k) w w' → OldOrNew w v v' → vcs P L K os (put ρ d v') w') :
    vcs P L K (⟨d, .call { callee := .builtin .append, args := #[x, y], argTypes := #[t, t] }, T, pos, af, none⟩ :: os) ρ w := by
  rcases hown with hown | ⟨hlx, b, rfl, hrow⟩
  · exact s_ap E hs hz hb hzs hown hx hy hr hl h1 hle h
  · obtain ⟨hu, i, hi, hn⟩ := E.h_sl _ _ _ hs
    obtain ⟨i', hi', hv⟩ := E.h_zr _ _ hz
    rw [hi] at hi'; cases hi'
    obtain ⟨i', hi', hbb⟩ := E.h_bt _ _ hb
    rw [hi] at hi'; cases hi'
    subst hn; subst hbb
    simp only [Bool.and_eq_true, Nat.beq_eq, Nat.blt_eq] at hzs hm
    have hrun := run_append_grow (P := P) w t T e i z hu hi hv b n n xs hlx hrow a m c news hl hr (by omega) (by omega) (growslice_fits (by omega) hle.1)
    refine s_val (v := _) (w' := _) (by simp only [execOp, resolve, invoke, builtin, List.map_toArray, List.map_cons, List.map_nil, hx, hy, Sem.run_bind, Sem.run_pure, Result.andThen_ok, hrun]; rfl) (h _ _ ?_ ?_ (.inr ⟨_, rfl, Nat.le_refl _⟩))
    · have hge := grownCap_ge w (n + m) n e
      refine ⟨by rw [List.length_append, hlx, hl, Nat.add_mul], .inr ⟨w.heap.size, _, _, rfl, Nat.zero_le _, heap_alloc_new w.drew _, hge, grownCap_le_maxLen w (n + m) n e (by simp only [maxLen]; omega), ?_, ?_⟩⟩
      · simp only [Array.size_append, List.size_toArray, size_zeroCells, hzs.1, hlx, hl, ← Nat.add_mul]
        congr 1
        omega
      · simp only [Array.toList_append, List.append_assoc]
        rw [← List.append_assoc, show (n + m) * i.size = (xs ++ news).length by rw [List.length_append, hlx, hl, Nat.add_mul]]
        exact List.take_left
    · exact ⟨rfl, rfl, rfl, by simp, fun k hk _ => heap_alloc_old w.drew _ k hk⟩
/-- append of a nil slice -/
theorem s_ap0 (E : Env P) {x y : Operand} {t e : TypeId} {sz n : Nat} {v : Value} {xs : List Value} (hs : E.sl t = some (e, sz)) (hown : Own w e sz v n xs) (hx : ev ρ x = v) (hy : ev ρ y = .slice none 0 0)
    (h : vcs P L K os (put ρ d v) w) : vcs P L K (⟨d, .call { callee := .builtin .append, args := #[x, y], argTypes := #[t, t] }, T, pos, af, none⟩ :: os) ρ w := by
  obtain ⟨hu, i, hi, hn⟩ := E.h_sl _ _ _ hs
  have hrun := run_append_owned_none (P := P) (w := w) 0 t T e i sz hu hi v n xs hown
  refine s_val (v := v) (w' := w) ?_ h
  simp [execOp, resolve, invoke, builtin, hx, hy, hrun]
/-! ### new blocks, the new world under a name -/
theorem alloc_facts {o : Obj} : Ext w (w.alloc o) ∧ (w.alloc o).heap[w.heap.size]? = some o ∧ (w.alloc o).heap.size = w.heap.size + 1 := ⟨e1, al_heap, by simp⟩
theorem s_bxA {e : TypeId} {x : Operand} {v : Value} (hx : ev ρ x = v)
    (h : ∀ w', Ext w w' → w'.heap[w.heap.size]? = some (.cells v.cells e (0, 0)) → w'.heap.size = w.heap.size + 1 → vcs P L K os (put ρ d (.pointer (some ⟨w.heap.size, 0, none⟩))) w') :
    vcs P L K (⟨d, .box e x, T, pos, af, none⟩ :: os) ρ w :=
  s_bx hx (h _ alloc_facts.1 alloc_facts.2.1 alloc_facts.2.2)
theorem s_alA (E : Env P) {e : TypeId} {v : Value} (hz : E.zr e = some v)
    (h : ∀ w', Ext w w' → w'.heap[w.heap.size]? = some (.cells v.cells e (0, 0)) → w'.heap.size = w.heap.size + 1 → vcs P L K os (put ρ d (.pointer (some ⟨w.heap.size, 0, none⟩))) w') :
    vcs P L K (⟨d, .alloc e, T, pos, af, none⟩ :: os) ρ w :=
  s_al E hz (h _ alloc_facts.1 alloc_facts.2.1 alloc_facts.2.2)
theorem s_bsA (E : Env P) {t e : TypeId} {n len : Nat} {z : Value} {ps : Array (Nat × Operand)} {qs : List (Nat × Value)} {cells : Array Value} (hs : E.sl t = some (e, n)) (hz : E.zr e = some z) (hle : Nat.ble (len * n) 16777216 = true) (hne : Nat.blt 0 (len * n) = true)
    (hq : ps.toList.map (fun p => (p.1, ev ρ p.2)) = qs) (hf : Instr.fill (fun i => some (i * n, n)) ((Array.range (len * n)).map (z.cells[· % z.cells.size]!)) qs = some cells)
    (h : ∀ w', Ext w w' → w'.heap[w.heap.size]? = some (.cells cells e (0, 0)) → w'.heap.size = w.heap.size + 1 → vcs P L K os (put ρ d (.slice (some ⟨w.heap.size, 0, none⟩) len len)) w') :
    vcs P L K (⟨d, .buildSlice t len ps, T, pos, af, none⟩ :: os) ρ w :=
  s_bs E hs hz hle hne hq hf (h _ alloc_facts.1 alloc_facts.2.1 alloc_facts.2.2)
/-! ### numbers, as bytes are made of them -/
theorem s_shk {x y : Operand} {t yt : TypeId} {k k' : IntKind} {a b c : Int} (hx : ev ρ x = .int k a) (hy : ev ρ y = .int k' b) (hb : 0 ≤ b) (hc : (2 : Int) ^ min b.toNat k.bits = c) (h0 : 0 ≤ c)
    (h : vcs P L K os (put ρ d (.int k (a / c))) w) : vcs P L K (⟨d, .binOp .shr t x y yt, T, pos, af, none⟩ :: os) ρ w :=
  s_shr hx hy hb (by rw [hc, Int.fdiv_eq_ediv_of_nonneg _ h0]; exact h)
theorem s_cvb (E : Env P) {x : Operand} {t st : TypeId} {k sk : IntKind} {a : Int} (hs : E.kd st = some sk) (hd : E.kd t = some .u8) (hx : ev ρ x = .int k a) (h : vcs P L K os (put ρ d (.int .u8 (a % 256))) w) :
    vcs P L K (⟨d, .convert st t x, T, pos, af, none⟩ :: os) ρ w :=
  s_cv E hs hd hx h
theorem cells_one {v : Value} (h : v.oneCell' = true) : v.cells = #[v] := by cases v <;> first | rfl | simp [Value.oneCell'] at h
theorem Own.one {w : World} {e : TypeId} {sz : Nat} {v : Value} {n : Nat} {xs : List Value} (h : Own w e sz v n xs) : v.oneCell' = true := by
  obtain ⟨p, c, rfl, _⟩ := h.form; rfl
theorem splice_one (cs : Array Value) (o : Nat) (v : Value) (h : o < cs.size) : splice cs o [v] = cs.setIfInBounds o v := by
  apply Array.toList_inj.1
  simp only [splice, Array.toList_setIfInBounds, List.length_singleton]
  rw [List.set_eq_take_append_cons_drop, if_pos (by simpa using h)]
  simp
theorem s_st1 (E : Env P) {x y : Operand} {t : TypeId} {p : Addr} {g o : Nat} {cs : Array Value} {ty : TypeId} {v : Value} (hl : E.ld t = some none) (hx : ev ρ x = .pointer (some p)) (hp : p = ⟨g, o, none⟩)
    (hy : ev ρ y = v) (hv : v.oneCell' = true) (hb : w.heap[g]? = some (.cells cs ty (0, 0))) (hsz : o < cs.size)
    (h : vcs P L K os (put ρ d undef) (w.setRow g (cs.setIfInBounds o v))) :
    vcs P L K (⟨d, .store t x y, T, pos, af, none⟩ :: os) ρ w :=
  s_st E (vs := [v]) hl hx hp hy hb (by rw [cells_one hv]) rfl (by simp [hv]) hsz (by rw [splice_one cs o v hsz]; exact h)
theorem splice_all (cs : Array Value) (vs : List Value) (h : cs.size = vs.length) : splice cs 0 vs = vs.toArray := by
  unfold splice
  rw [List.drop_of_length_le (by simp; omega)]; simp
/-- a variable of its own, and its first value -/
theorem s_alst (E : Env P) {y : Operand} {t : TypeId} {z v : Value} {vs : List Value} {m : Option Nat} {d' : Nat} {T' : TypeId} {pos' : String} {af' : Array Edge} (hz : E.zr t = some z) (hl : E.ld t = some m)
    (hy : ev (put ρ (some d') (.pointer (some ⟨w.heap.size, 0, none⟩))) y = v) (hvs : v.cells.toList = vs) (hs : (Nat.beq z.cells.size vs.length && Nat.beq (m.getD 1) vs.length && vs.all (·.oneCell')) = true)
    (h : ∀ w', Ext w w' → w'.heap.size = w.heap.size + 1 → w'.heap[w.heap.size]? = some (.cells vs.toArray t (0, 0)) → vcs P L K os (put ρ (some d') (.pointer (some ⟨w.heap.size, 0, none⟩))) w') :
    vcs P L K (⟨some d', .alloc t, T, pos, af, none⟩ :: ⟨none, .store t (.tmp d') y, T', pos', af', none⟩ :: os) ρ w := by
  simp only [Bool.and_eq_true, Nat.beq_eq] at hs
  obtain ⟨⟨h1, h2⟩, h3⟩ := hs
  refine s_al E hz ?_
  refine s_st E (d := none) (cs := z.cells) (g := w.heap.size) (o := 0) (vs := vs) hl (by simp [ev, put, upd]) rfl hy al_heap hvs h2 h3 (by omega) ?_
  rw [splice_all _ _ h1]
  exact h _ (Ext.thenMod (M := fun k => k = w.heap.size) e1 ⟨rfl, rfl, rfl, by simp, fun k hk hm => setRow_other _ _ k _ hm⟩ (fun k hk he => by omega)) (by simp) (setRow_heap _ _ _ _ _ _ al_heap)
/-- a conversion of a slice of bytes to its own type: a mark behind the block -/
theorem s_cvs (E : Env P) {x : Operand} {t e : TypeId} {sz n c : Nat} {a : Addr} (hs : E.sl t = some (e, sz)) (he : E.kd e = some .u8) (hx : ev ρ x = .slice (some a) n c)
    (h : ∀ w', Mod (fun k => k = a.block) w w' → (∀ p, w'.cell? p = w.cell? p) → vcs P L K os (put ρ d (.slice (some a) n c)) w') :
    vcs P L K (⟨d, .convert t t x, T, pos, af, none⟩ :: os) ρ w := by
  obtain ⟨hu, _⟩ := E.h_sl _ _ _ hs
  have hk := E.h_kd _ _ he
  have key : ∃ w', (execOp (ev ρ) ⟨d, .convert t t x, T, pos, af, none⟩).run P w = .ok (.value (.slice (some a) n c)) w' ∧ Mod (fun k => k = a.block) w w' ∧ (∀ p, w'.cell? p = w.cell? p) := by
    cases hsh : w.shape? a.block with
    | none => exact ⟨w, by simp [execOp, hx, convert, run_under hu, run_under hk, markStringish, hsh], Mod.refl, fun _ => rfl⟩
    | some p =>
      obtain ⟨el, m⟩ := p
      refine ⟨w.freeze ⟨a.block, m, none⟩ 1, by simp [execOp, hx, convert, run_under hu, run_under hk, markStringish, hsh], ⟨rfl, rfl, rfl, by simp [World.freeze], fun k hk hm => ?_⟩, fun p => ?_⟩
      · simp only [World.freeze, Nat.one_ne_zero, if_false, Array.getElem?_modify]
        rw [if_neg (fun e => hm e.symm)]
      · have hh : (w.freeze ⟨a.block, m, none⟩ 1).heap[p.block]? = if a.block = p.block then (w.heap[p.block]?).map (fun | .cells c elem (lo, hi) => .cells c elem (if lo == hi then (m, m + 1) else (min lo m, max hi (m + 1))) | o => o) else w.heap[p.block]? := by
          simp only [World.freeze, Nat.one_ne_zero, if_false, Array.getElem?_modify]
          rfl
        unfold World.cell?
        rw [hh]
        by_cases hb : a.block = p.block
        · rw [if_pos hb]
          cases w.heap[p.block]? with
          | none => rfl
          | some o => cases o <;> rfl
        · rw [if_neg hb]
  obtain ⟨w', hr, h1, h2⟩ := key
  exact s_val hr (h w' h1 h2)
theorem setRow_mod {w : World} {g : Nat} {cs : Array Value} {M : Nat → Prop} (hM : M g) : Mod M w (w.setRow g cs) :=
  ⟨rfl, rfl, rfl, by simp, fun k hk hm => setRow_other w g k cs (fun e => hm (e ▸ hM))⟩
end
end Go.Fx
namespace Go.Fx
open Go.RowKit
set_option linter.unusedVariables false
set_option linter.unusedSimpArgs false
/-! ## results that lie in a variable of their own -/
section
variable {P : Program}
theorem run_lda (E : Env P) {t : TypeId} {a : Addr} {n : Nat} {xs : List Value} {w : World} (hl : E.ld t = some (some n)) (hc : Row w a xs) (hn : xs.length = n) :
    (loadVar t a).run P w = .ok (.agg xs.toArray) w := by
  obtain ⟨dd, hu, hm, i, hi, hz⟩ := E.h_ld _ _ hl
  have hag : (isAgg t).run P w = .ok true w := by
    unfold isAgg; simp only [Sem.run_bind, run_under hu, Result.andThen_ok]; cases dd <;> simp_all
  have hrl := run_loadCells_list (P := P) (w := w) a xs (fun j v hj => hc j v hj)
  rw [hn] at hrl
  simp [loadVar, hag, sizeOf, typeInfo, hi, hz, hrl]
/-- one result -/
def rOne (P : Program) (ρ : Fr) (w : World) : ResultVar → Value → Prop
  | .tmp t, v => ρ t = v
  | .cell t T, v => ∃ a, ρ t = .pointer (some a) ∧ (loadVar T a).run P w = .ok v w
def resC (P : Program) (fn : Func) (ρ : Fr) (w : World) (v : Value) : Prop :=
  match fn.results.toList with
  | [x] => rOne P ρ w x v
  | [x, y] => ∃ a b, rOne P ρ w x a ∧ rOne P ρ w y b ∧ v = .tuple #[a, b]
  | _ => False
def rF (tmps : Array Value) : ResultVar → Sem Value
  | .tmp t => pure (tmps.getD t undef)
  | .cell a t => do loadVar t (← asAddr (tmps.getD a undef))
theorem results_rF (fn : Func) (tmps : Array Value) : results fn tmps = (do
    let vs ← fn.results.mapM (rF tmps)
    pure (if h : vs.size = 1 then vs[0] else .tuple vs)) := by
  unfold results
  congr 1
theorem rOne_run {n a ρ w x v} (h : Rep n a ρ) (hv : rOne P ρ w x v) : (rF a.tmps x).run P w = .ok v w := by
  cases x with
  | tmp t => simp only [rOne] at hv; subst hv; simp only [rF, Sem.run_pure]; rw [h.val]
  | cell p t =>
    obtain ⟨ad, h1, h2⟩ := hv
    simp only [rF, Sem.run_bind, h.val, h1, asAddr, Sem.run_pure, Result.andThen_ok, h2]
theorem resC_run {n a ρ w fn v} (h : Rep n a ρ) (hv : resC P fn ρ w v) : (results fn a.tmps).run P w = .ok v w := by
  have key : fn.results = fn.results.toList.toArray := by simp
  unfold resC at hv
  rw [results_rF]
  split at hv
  · rename_i x heq
    have := rOne_run h hv
    rw [key, heq]
    simp [this]
  · rename_i x y heq
    obtain ⟨u, v', h1, h2, rfl⟩ := hv
    have h1 := rOne_run h h1
    have h2 := rOne_run h h2
    rw [key, heq]
    simp [h1, h2]
  · exact hv.elim
def FinC (P : Program) (fn : Func) (R : Value → World → Prop) : Post
  | .normal, ρ, w | .ret, ρ, w => ∃ v, resC P fn ρ w v ∧ R v w
  | _, _, _ => False
theorem enterC {f fn c args w R} (hf : P.funcs[f]? = some fn) (hb : fn.body = some c) (hm : (fn.name == "runtime.NumGoroutine") = false) (hn : Nat.ble args.size fn.ntmps = true)
    (h : W P fn.ntmps c (FinC P fn R) (init args) w) : Ret P f args w R := by
  refine ⟨⟨fn, hf, hm, by rw [hb]; rfl⟩, ?_⟩
  refine calls_of_wp hf hb (wp_mono (h _ ?_) fun e a w ⟨ρ, hr, hQ⟩ => ?_)
  · have hn := Nat.le_of_ble_eq_true hn
    refine ⟨rfl, by simp; omega, fun t => ?_⟩
    simp only [init, Array.getD_eq_getD_getElem?, Array.getElem?_append]
    by_cases hlt : t < args.size
    · rw [if_pos hlt]
    · rw [if_neg hlt, Array.getElem?_replicate, Array.getElem?_eq_none (xs := args) (by omega)]
      split <;> rfl
  · cases e with
    | normal => obtain ⟨v, hv, hR⟩ := hQ; exact ⟨hr.defers, v, resC_run hr hv, v, rfl, hR⟩
    | ret => obtain ⟨v, hv, hR⟩ := hQ; exact ⟨hr.defers, v, resC_run hr hv, v, rfl, hR⟩
    | _ => exact hQ.elim
/-- the variable's cells, and one more result -/
theorem resC2 (E : Env P) {fn : Func} {ρ : Fr} {w : World} {t u : Nat} {T : TypeId} {a : Addr} {n : Nat} {xs : List Value} {v : Value} (hr : fn.results.toList = [.cell t T, .tmp u]) (hp : ρ t = .pointer (some a))
    (hl : E.ld T = some (some n)) (hc : Row w a xs) (hn : xs.length = n) (hv : ρ u = v) : resC P fn ρ w (.tuple #[.agg xs.toArray, v]) := by
  unfold resC; rw [hr]; exact ⟨_, _, ⟨a, hp, run_lda E hl hc hn⟩, hv, rfl⟩
theorem resC1 (E : Env P) {fn : Func} {ρ : Fr} {w : World} {t : Nat} {T : TypeId} {a : Addr} {n : Nat} {xs : List Value} (hr : fn.results.toList = [.cell t T]) (hp : ρ t = .pointer (some a))
    (hl : E.ld T = some (some n)) (hc : Row w a xs) (hn : xs.length = n) : resC P fn ρ w (.agg xs.toArray) := by
  unfold resC; rw [hr]; exact ⟨a, hp, run_lda E hl hc hn⟩
end
/-! ## parts of slices -/
/-- a part of a slice's cells -/
def slP (a : Option Addr) (l m s : Nat) : Option Addr := if m = l then a else a.map (·.add (l * s))
theorem SlR.part {w : World} {a : Option Addr} {xs : List Value} {l h m s : Nat} (hp : SlR w a xs) (hlh : l ≤ h) (hhm : h ≤ m) (hx : h * s ≤ xs.length) : SlR w (slP a l m s) ((xs.take (h * s)).drop (l * s)) := by
  unfold slP
  split
  · rename_i e
    have : l = h := by omega
    subst this
    have e0 : (xs.take (l * s)).drop (l * s) = [] := List.drop_of_length_le (by simp [List.length_take]; omega)
    rw [e0]
    cases a with
    | none => rfl
    | some a => exact Row.nil _ _
  · cases a with
    | none => have : xs = [] := hp; subst this; simp [SlR]
    | some a =>
      refine Row.mono (k := l * s) hp fun i x hxi => ?_
      rw [List.getElem?_drop] at hxi
      rw [← hxi, List.getElem?_take]
      split
      · rfl
      · rename_i hn
        rw [List.getElem?_take, if_neg hn] at hxi
        cases hxi
section
variable {P : Program} {L os : List Oper} {K : Fr → World → Prop} {Kq : Fr → Prop} {C : World → Prop} {ρ : Fr} {w : World} {d : Option Tmp} {T : TypeId} {pos : String} {af : Array Edge}
theorem elem_of {t e : TypeId} (h : P.underlying t = some (.slice e)) : P.elem t = e := by simp [Program.elem, h]
theorem run_sz (E : Env P) {t e : TypeId} {sz : Nat} {w : World} (hs : E.sl t = some (e, sz)) : (sizeOf (P.elem t)).run P w = .ok sz w := by
  obtain ⟨hu, i, hi, hn⟩ := E.h_sl _ _ _ hs
  rw [elem_of hu]; simp [sizeOf, typeInfo, hi, hn]
theorem s_slc (E : Env P) {x : Operand} {lo hi mx : Option Operand} {t e : TypeId} {sz len cap l h m : Nat} {a : Option Addr} (hs : E.sl t = some (e, sz)) (hx : ev ρ x = .slice a len cap)
    (hb : ∀ w : World, (Instr.sliceBounds true len cap (lo.map (ev ρ)) (hi.map (ev ρ)) (mx.map (ev ρ))).run P w = .ok (l, h, m) w) (hk : vcs P L K os (put ρ d (.slice (slP a l m sz) (h - l) (m - l))) w) :
    vcs P L K (⟨d, .slice t x lo hi mx, T, pos, af, none⟩ :: os) ρ w := by
  refine s_val ?_ hk
  obtain ⟨hu, i, hi', hn⟩ := E.h_sl _ _ _ hs
  have hu' : P.underlying t = some (.slice (P.elem t)) := by rw [elem_of hu]; exact hu
  simp only [execOp, hx, Sem.run_bind, run_sliceAt_slice w t _ _ _ _ hu', run_slice_any w t a len cap hu', hb, Result.andThen_ok, run_sz E hs, Sem.run_pure]
  rfl
theorem sb_l {len cap : Nat} {k : IntKind} {l : Nat} {x : Option Value} (hx : x = some (.int k l)) (h : l ≤ len) : ∀ w : World, (Instr.sliceBounds true len cap x none none).run P w = .ok (l, len, cap) w := by
  intro w; subst hx; simp [Instr.sliceBounds, Instr.sliceBound, asIntOf, h]
theorem sb_h {len cap : Nat} {k : IntKind} {h : Nat} {x : Option Value} (hx : x = some (.int k h)) (hh : h ≤ cap) : ∀ w : World, (Instr.sliceBounds true len cap none x none).run P w = .ok (0, h, cap) w := by
  intro w; subst hx; simp [Instr.sliceBounds, Instr.sliceBound, asIntOf, hh]
theorem sb_lh {len cap : Nat} {k k' : IntKind} {l h : Nat} {x y : Option Value} (hx : x = some (.int k l)) (hy : y = some (.int k' h)) (hl : l ≤ h) (hh : h ≤ cap) : ∀ w : World, (Instr.sliceBounds true len cap x y none).run P w = .ok (l, h, cap) w := by
  intro w; subst hx; subst hy; simp [Instr.sliceBounds, Instr.sliceBound, asIntOf, hh, hl]
theorem sb_hm {len cap : Nat} {k k' : IntKind} {h m : Nat} {x y : Option Value} (hx : x = some (.int k h)) (hy : y = some (.int k' m)) (hh : h ≤ m) (hm : m ≤ cap) : ∀ w : World, (Instr.sliceBounds true len cap none x y).run P w = .ok (0, h, m) w := by
  intro w; subst hx; subst hy; simp [Instr.sliceBounds, Instr.sliceBound, asIntOf, hh, hm]
theorem s_mk (E : Env P) {x y : Operand} {t e : TypeId} {sz n by_ : Nat} {z : Value} {k k' : IntKind} (hs : E.sl t = some (e, sz)) (hz : E.zr e = some z) (hb : E.bt e = some by_) (hx : ev ρ x = .int k n) (hy : ev ρ y = .int k' n)
    (hle : n * by_ ≤ 140737488355328 ∧ n ≤ 9223372036854775807)
    (h : ∀ w', Ext w w' → w'.heap[w.heap.size]? = some (.cells (madeCells z.cells (n * sz)) e (0, 0)) → w'.heap.size = w.heap.size + 1 → vcs P L K os (put ρ d (.slice (some ⟨w.heap.size, 0, none⟩) n n)) w') :
    vcs P L K (⟨d, .makeSlice t x y, T, pos, af, none⟩ :: os) ρ w := by
  obtain ⟨hu, i, hi, hn⟩ := E.h_sl _ _ _ hs
  obtain ⟨i', hi', hv⟩ := E.h_zr _ _ hz
  rw [hi] at hi'; cases hi'
  obtain ⟨i', hi', hbb⟩ := E.h_bt _ _ hb
  rw [hi] at hi'; cases hi'
  subst hn; subst hbb
  have hr := run_make (P := P) w t e i z hu hi hv k k' n n (by omega) (Int.le_refl _) (by have := hle.1; rw [Nat.mul_comm] at this; have : ((i.bytes * n : Nat) : Int) ≤ 140737488355328 := by omega
                                                                                          rw [Int.natCast_mul] at this; omega) (by have := hle.2; omega)
  simp only [Int.toNat_natCast] at hr
  refine s_val ?_ (h _ alloc_facts.1 alloc_facts.2.1 alloc_facts.2.2)
  simp [execOp, hx, hy, hr]
theorem s_nil_eq {x y : Operand} {t yt e : TypeId} {a : Option Addr} {l c : Nat} (hu : P.underlying t = some (.slice e)) (hx : ev ρ x = .slice a l c) (hy : ev ρ y = .slice none 0 0) (h : vcs P L K os (put ρ d (.bool a.isNone)) w) :
    vcs P L K (⟨d, .binOp .eql t x y yt, T, pos, af, none⟩ :: os) ρ w := by
  refine s_val ?_ h
  have h1 : (eqGuard .eql t x y (.slice a l c) (.slice none 0 0)).run P w = .ok () w := by simp [eqGuard]
  have h2 := run_equal_slice_nil (P := P) w t e a l c hu
  simp only [execOp, hx, hy, Sem.run_bind, h1, Result.andThen_ok, Sem.run_pure, binOp]
  simp [h2]
theorem r_ix (E : Env P) {x y : Operand} {t e : TypeId} {k : IntKind} {n i len : Nat} {j : Int} {cs : Array Value} {v : Value} (hs : E.ar t = some (len, e, n)) (he : E.ld e = some none) (hx : ev ρ x = .agg cs) (hy : ev ρ y = .int k j) (hj : j = i) (hi : i < len) (hv : cs[i]? = some v) :
    (execOp (ev ρ) ⟨d, .index t x y, T, pos, af, none⟩).run P w = .ok (.value v) w := by
  subst hj
  obtain ⟨hu, inf, hin, hz⟩ := E.h_ar _ _ _ _ hs
  obtain ⟨dd, hud, hm, i', hi', hz'⟩ := E.h_ld _ _ he
  rw [hin] at hi'; cases hi'
  have hag : (isAgg e).run P w = .ok false w := by
    unfold isAgg; simp only [Sem.run_bind, run_under hud, Result.andThen_ok]; cases dd <;> simp_all
  simp [execOp, hx, hy, Instr.index, asIntOf, run_under hu, hi, sizeOf, typeInfo, hin, hz', part, hag, hv]
theorem s_ix (E : Env P) {x y : Operand} {t e : TypeId} {k : IntKind} {n i len : Nat} {j : Int} {cs : Array Value} {v : Value} (hs : E.ar t = some (len, e, n)) (he : E.ld e = some none) (hx : ev ρ x = .agg cs) (hy : ev ρ y = .int k j) (hj : j = i) (hi : i < len) (hv : cs[i]? = some v)
    (h : vcs P L K os (put ρ d v) w) : vcs P L K (⟨d, .index t x y, T, pos, af, none⟩ :: os) ρ w := s_val (r_ix E hs he hx hy hj hi hv) h
/-- string(b) -/
theorem r_str (E : Env P) {x : Operand} {st t e : TypeId} {sz len cap : Nat} {a : Option Addr} {l : List Int} (hs : E.sl st = some (e, sz)) (he : E.kd e = some .u8) (hd : P.underlying t = some .string) (hx : ev ρ x = .slice a len cap) (hl : l.length = len)
    (hp : SlR w a (l.map (Value.int .u8))) : (execOp (ev ρ) ⟨d, .convert st t x, T, pos, af, none⟩).run P w = .ok (.value (.string (strOfNums l))) w := by
  obtain ⟨hu, _⟩ := E.h_sl _ _ _ hs
  have hk := E.h_kd _ _ he
  have : (convert st t (.slice a len cap)).run P w = .ok (.string (strOfNums l)) w := by
    cases a with
    | none =>
      have : l = [] := by have h : l.map (Value.int .u8) = [] := hp; simpa using h
      subst this
      rw [run_convert_bytes_nil w st e hu hk len cap t hd]; rfl
    | some a =>
      have hrow : Row w a (l.map (Value.int .u8)) := hp
      rw [run_convert_bytes_string w st t e _ len cap hu hk hd]
      have hlc := run_loadCells_list (P := P) (w := w) a (l.map (Value.int .u8)) (fun j v hj => hrow j v hj)
      rw [List.length_map, hl] at hlc
      rw [run_bytesToString w a len cap l hlc, foldl_push_bytes]
      simp [strOfNums, ByteArray.empty, ByteArray.emptyWithCapacity]
      rfl
  simp [execOp, hx, this]
theorem s_str (E : Env P) {x : Operand} {st t e : TypeId} {sz len cap : Nat} {a : Option Addr} {l : List Int} (hs : E.sl st = some (e, sz)) (he : E.kd e = some .u8) (hd : P.underlying t = some .string) (hx : ev ρ x = .slice a len cap) (hl : l.length = len)
    (hp : SlR w a (l.map (Value.int .u8))) (h : vcs P L K os (put ρ d (.string (strOfNums l))) w) : vcs P L K (⟨d, .convert st t x, T, pos, af, none⟩ :: os) ρ w := s_val (r_str E hs he hd hx hl hp) h
/-- conversions and shifts whose value is named -/
theorem s_cvx (E : Env P) {x : Operand} {t st : TypeId} {k sk dk : IntKind} {a b : Int} (hs : E.kd st = some sk) (hd : E.kd t = some dk) (hx : ev ρ x = .int k a) (hv : dk.wrap a = b) (h : vcs P L K os (put ρ d (.int dk b)) w) :
    vcs P L K (⟨d, .convert st t x, T, pos, af, none⟩ :: os) ρ w := s_cv E hs hd hx (by rw [hv]; exact h)
theorem s_half {x y : Operand} {t yt : TypeId} {k k' : IntKind} {a b : Int} (hx : ev ρ x = .int k a) (hy : ev ρ y = .int k' 1) (hk : Nat.blt 1 k.bits = true) (hv : a / 2 = b) (h : vcs P L K os (put ρ d (.int k b)) w) :
    vcs P L K (⟨d, .binOp .shr t x y yt, T, pos, af, none⟩ :: os) ρ w :=
  s_shr hx hy (by decide) (by
    have : min (1 : Int).toNat k.bits = 1 := by rw [Nat.blt_eq] at hk; exact Nat.min_eq_left (by omega)
    rw [this, show (2 : Int) ^ 1 = 2 from rfl, Int.fdiv_eq_ediv_of_nonneg _ (by decide), hv]; exact h)
theorem wrapu_in {n : Int} (h1 : 0 ≤ n) (h2 : n ≤ 9223372036854775807) : IntKind.u64.wrap n = n := by
  simp only [IntKind.wrap, IntKind.bits, IntKind.signed]
  simp
  omega
/-! ### structs and arrays of numbers, compared -/
def fldI (P : Program) : List Field → Nat → List IntKind → Bool
  | [], _, [] => true
  | f :: fs, o, k :: ks => f.name != "_" && (Nat.beq f.offset o && ((match P.underlying f.type with | some (.int k') => k' == k | _ => false) && fldI P fs (o + 1) ks))
  | _, _, _ => false
def sameI : List (IntKind × Int × Int) → Bool
  | [] => true
  | x :: l => decide (x.2.1 = x.2.2) && sameI l
theorem run_eqf (dd : Nat) (w : World) (xs ys : Array Value) : ∀ (fs : List Field) (o : Nat) (l : List (IntKind × Int × Int)), fldI P fs o (l.map (·.1)) = true →
    (∀ i x, l[i]? = some x → xs[o + i]? = some (.int x.1 x.2.1) ∧ ys[o + i]? = some (.int x.1 x.2.2)) → (Op.eqFields (dd + 1) xs ys fs).run P w = .ok (sameI l) w := by
  intro fs
  induction fs with
  | nil => intro o l h _; cases l with
    | nil => simp [Op.eqFields, sameI]
    | cons x l => simp [fldI] at h
  | cons f fs ih => intro o l h hx; cases l with
    | nil => simp [fldI] at h
    | cons x l =>
      simp only [List.map_cons, fldI, Bool.and_eq_true, Nat.beq_eq, bne_iff_ne, ne_eq] at h
      obtain ⟨hn, ho, hu, hr⟩ := h
      split at hu
      · rename_i k' hk
        have hk' : k' = x.1 := by simpa using hu
        subst hk'
        obtain ⟨h1, h2⟩ := hx 0 x rfl
        have hag : (isAgg f.type).run P w = .ok false w := by unfold isAgg; simp [run_under hk]
        have p1 : (part f.type xs f.offset).run P w = .ok (.int x.1 x.2.1) w := by
          rw [ho]; rw [Nat.add_zero] at h1; simp [part, hag, h1]
        have p2 : (part f.type ys f.offset).run P w = .ok (.int x.1 x.2.2) w := by
          rw [ho]; rw [Nat.add_zero] at h2; simp [part, hag, h2]
        have p3 := run_equalIn_int (P := P) w dd f.type x.1 x.1 x.2.1 x.2.2 hk
        have := ih (o + 1) l hr (fun i y hy => by have := hx (i + 1) y (by simpa using hy); rw [show o + 1 + i = o + (i + 1) by omega]; exact this)
        simp only [Op.eqFields, hn, ne_eq, not_false_eq_true, if_true, Sem.run_bind, p1, p2, p3, Result.andThen_ok, sameI]
        by_cases he : x.2.1 = x.2.2
        · simp [he, this]
        · simp [he]
      · cases hu
def eqS (P : Program) (t : TypeId) (ks : List IntKind) : Bool :=
  (match P.underlying t with | some (.struct fs) => fldI P fs.toList 0 ks | _ => false) && (!P.stoodInHeld t && !P.eqGuardType P.depth t)
theorem run_eqS {t : TypeId} {l : List (IntKind × Int × Int)} {x y : Operand} (op : BinOp) (h : eqS P t (l.map (·.1)) = true) :
    (eqGuard op t x y (.agg (l.map fun x => Value.int x.1 x.2.1).toArray) (.agg (l.map fun x => Value.int x.1 x.2.2).toArray)).run P w = .ok () w ∧
    (Op.equalIn 10000 t (.agg (l.map fun x => Value.int x.1 x.2.1).toArray) (.agg (l.map fun x => Value.int x.1 x.2.2).toArray)).run P w = .ok (sameI l) w := by
  simp only [eqS, Bool.and_eq_true, Bool.not_eq_true'] at h
  obtain ⟨hu, hs, hg⟩ := h
  split at hu
  · rename_i fs hfs
    have hf : P.fieldsOf t = fs := by simp [Program.fieldsOf, hfs]
    refine ⟨run_eqGuard_agg w op t x y _ _ hg, ?_⟩
    rw [run_equalIn_struct w 9999 t _ _ (by rw [hf]; exact hfs) hs, hf]
    refine run_eqf 9998 w _ _ _ 0 l hu fun i z hz => ?_
    simp [hz]
  · cases hu
theorem s_eqS {t yt : TypeId} {l : List (IntKind × Int × Int)} {x y : Operand} (h : eqS P t (l.map (·.1)) = true) (hx : ev ρ x = .agg (l.map fun x => Value.int x.1 x.2.1).toArray) (hy : ev ρ y = .agg (l.map fun x => Value.int x.1 x.2.2).toArray)
    (hk : vcs P L K os (put ρ d (.bool (sameI l))) w) : vcs P L K (⟨d, .binOp .eql t x y yt, T, pos, af, none⟩ :: os) ρ w := by
  refine s_val ?_ hk
  obtain ⟨h1, h2⟩ := run_eqS (P := P) (w := w) (x := x) (y := y) .eql h
  simp only [execOp, hx, hy, Sem.run_bind, h1, Result.andThen_ok, Sem.run_pure, run_eql_struct, h2]
theorem r_neS {t yt : TypeId} {l : List (IntKind × Int × Int)} {x y : Operand} (h : eqS P t (l.map (·.1)) = true) (hx : ev ρ x = .agg (l.map fun x => Value.int x.1 x.2.1).toArray) (hy : ev ρ y = .agg (l.map fun x => Value.int x.1 x.2.2).toArray) :
    (execOp (ev ρ) ⟨d, .binOp .neq t x y yt, T, pos, af, none⟩).run P w = .ok (.value (.bool (!sameI l))) w := by
  obtain ⟨h1, h2⟩ := run_eqS (P := P) (w := w) (x := x) (y := y) .neq h
  simp only [execOp, hx, hy, Sem.run_bind, h1, Result.andThen_ok, Sem.run_pure, run_neq_struct, h2]
theorem s_neS {t yt : TypeId} {l : List (IntKind × Int × Int)} {x y : Operand} (h : eqS P t (l.map (·.1)) = true) (hx : ev ρ x = .agg (l.map fun x => Value.int x.1 x.2.1).toArray) (hy : ev ρ y = .agg (l.map fun x => Value.int x.1 x.2.2).toArray)
    (hk : vcs P L K os (put ρ d (.bool (!sameI l))) w) : vcs P L K (⟨d, .binOp .neq t x y yt, T, pos, af, none⟩ :: os) ρ w := s_val (r_neS h hx hy) hk
theorem q_neS {t yt : TypeId} {l : List (IntKind × Int × Int)} {x y : Operand} (h : eqS P t (l.map (·.1)) = true) (hx : ev ρ x = .agg (l.map fun x => Value.int x.1 x.2.1).toArray) (hy : ev ρ y = .agg (l.map fun x => Value.int x.1 x.2.2).toArray)
    (hk : vq P L C Kq os (put ρ d (.bool (!sameI l)))) : vq P L C Kq (⟨d, .binOp .neq t x y yt, T, pos, af, none⟩ :: os) ρ := q_val (fun _ _ => r_neS h hx hy) hk
end
end Go.Fx
namespace Go.Proofs.YthfnijlgmjkedaaGreat.Tab
open Go Go.Fx
def tsl : TypeId → Option (TypeId × Nat)
  | 22 => some (50, 4)
  | 23 => some (45, 4)
  | 28 => some (5, 1)
  | 37 => some (42, 5)
  | 48 => some (3, 1)
  | 60 => some (25, 3)
  | 101 => some (100, 1)
  | 114 => some (22, 1)
  | 116 => some (23, 1)
  | _ => none
def tar : TypeId → Option (Nat × TypeId × Nat)
  | 47 => some (3, 3, 1)
  | 73 => some (3, 48, 1)
  | _ => none
def tfl : TypeId → Nat → Option (Nat × TypeId)
  | 8, 0 => some (0, 2)
  | 8, 1 => some (1, 3)
  | 8, 2 => some (2, 4)
  | 8, 3 => some (3, 6)
  | 14, 0 => some (0, 9)
  | 14, 1 => some (1, 12)
  | 19, 0 => some (0, 17)
  | 25, 0 => some (0, 3)
  | 25, 1 => some (1, 22)
  | 25, 2 => some (2, 23)
  | 42, 0 => some (0, 3)
  | 42, 1 => some (1, 3)
  | 42, 2 => some (2, 3)
  | 42, 3 => some (3, 3)
  | 42, 4 => some (4, 40)
  | 45, 0 => some (0, 3)
  | 45, 1 => some (1, 3)
  | 45, 2 => some (2, 43)
  | 45, 3 => some (3, 3)
  | 50, 0 => some (0, 3)
  | 50, 1 => some (1, 3)
  | 50, 2 => some (2, 3)
  | 50, 3 => some (3, 3)
  | 70, 0 => some (0, 28)
  | 70, 1 => some (1, 4)
  | 78, 0 => some (0, 28)
  | 78, 1 => some (1, 3)
  | 78, 2 => some (2, 4)
  | 98, 0 => some (0, 28)
  | _, _ => none
def tld : TypeId → Option (Option Nat)
  | 3 => some none
  | 4 => some none
  | 5 => some none
  | 8 => some (some 4)
  | 9 => some none
  | 10 => some none
  | 11 => some none
  | 14 => some (some 2)
  | 15 => some none
  | 16 => some none
  | 17 => some none
  | 19 => some (some 1)
  | 21 => some none
  | 22 => some none
  | 23 => some none
  | 25 => some (some 3)
  | 28 => some none
  | 29 => some none
  | 37 => some none
  | 42 => some (some 5)
  | 43 => some none
  | 45 => some (some 4)
  | 47 => some (some 3)
  | 48 => some none
  | 50 => some (some 4)
  | 60 => some none
  | 64 => some none
  | 66 => some none
  | 68 => some none
  | 70 => some (some 2)
  | 73 => some (some 3)
  | 76 => some none
  | 78 => some (some 3)
  | 82 => some none
  | 84 => some none
  | 96 => some none
  | 98 => some (some 1)
  | 100 => some none
  | 101 => some none
  | 112 => some none
  | 114 => some none
  | 116 => some none
  | 127 => some none
  | 133 => some none
  | 141 => some none
  | 142 => some none
  | 146 => some none
  | 148 => some none
  | 158 => some none
  | _ => none
def tkd : TypeId → Option IntKind
  | 3 => some .i64
  | 5 => some .u8
  | 21 => some .i32
  | 29 => some .i64
  | 43 => some .i64
  | 112 => some .u64
  | 127 => some .u32
  | 133 => some .i64
  | 141 => some .u64
  | 142 => some .u64
  | 158 => some .u8
  | _ => none
def tzr : TypeId → Option Value
  | 3 => some (.int .i64 0)
  | 4 => some (.bool false)
  | 5 => some (.int .u8 0)
  | 8 => some (.agg #[.int .i64 0, .int .i64 0, .bool false, .int .u8 0])
  | 9 => some (.string ByteArray.empty)
  | 10 => some (.string ByteArray.empty)
  | 11 => some (.string ByteArray.empty)
  | 14 => some (.agg #[.string ByteArray.empty, .int .u64 0])
  | 15 => some (.pointer none)
  | 16 => some (.pointer none)
  | 17 => some (.pointer none)
  | 19 => some (.agg #[.pointer none])
  | 21 => some (.int .i32 0)
  | 22 => some (.slice none 0 0)
  | 23 => some (.slice none 0 0)
  | 25 => some (.agg #[.int .i64 0, .slice none 0 0, .slice none 0 0])
  | 28 => some (.slice none 0 0)
  | 29 => some (.int .i64 0)
  | 37 => some (.slice none 0 0)
  | 42 => some (.agg #[.int .i64 0, .int .i64 0, .int .i64 0, .int .i64 0, .slice none 0 0])
  | 43 => some (.int .i64 0)
  | 45 => some (.agg #[.int .i64 0, .int .i64 0, .int .i64 0, .int .i64 0])
  | 47 => some (.agg #[.int .i64 0, .int .i64 0, .int .i64 0])
  | 48 => some (.slice none 0 0)
  | 50 => some (.agg #[.int .i64 0, .int .i64 0, .int .i64 0, .int .i64 0])
  | 60 => some (.slice none 0 0)
  | 64 => some (.nilFunc)
  | 66 => some (.nilFunc)
  | 68 => some (.pointer none)
  | 70 => some (.agg #[.slice none 0 0, .bool false])
  | 73 => some (.agg #[.slice none 0 0, .slice none 0 0, .slice none 0 0])
  | 76 => some (.pointer none)
  | 78 => some (.agg #[.slice none 0 0, .int .i64 0, .bool false])
  | 82 => some (.nilFunc)
  | 84 => some (.nilFunc)
  | 96 => some (.pointer none)
  | 98 => some (.agg #[.slice none 0 0])
  | 100 => some (.nilFunc)
  | 101 => some (.slice none 0 0)
  | 112 => some (.int .u64 0)
  | 114 => some (.slice none 0 0)
  | 116 => some (.slice none 0 0)
  | 127 => some (.int .u32 0)
  | 133 => some (.int .i64 0)
  | 141 => some (.int .u64 0)
  | 142 => some (.int .u64 0)
  | 146 => some (.pointer none)
  | 148 => some (.pointer none)
  | 158 => some (.int .u8 0)
  | _ => none
def tbt : TypeId → Option Nat
  | 3 => some 8
  | 4 => some 1
  | 5 => some 1
  | 8 => some 24
  | 9 => some 16
  | 10 => some 16
  | 11 => some 16
  | 14 => some 24
  | 15 => some 8
  | 16 => some 8
  | 17 => some 8
  | 19 => some 8
  | 21 => some 4
  | 22 => some 24
  | 23 => some 24
  | 25 => some 56
  | 28 => some 24
  | 29 => some 8
  | 37 => some 24
  | 42 => some 56
  | 43 => some 8
  | 45 => some 32
  | 47 => some 24
  | 48 => some 24
  | 50 => some 32
  | 60 => some 24
  | 64 => some 8
  | 66 => some 8
  | 68 => some 8
  | 70 => some 32
  | 73 => some 72
  | 76 => some 8
  | 78 => some 40
  | 82 => some 8
  | 84 => some 8
  | 96 => some 8
  | 98 => some 24
  | 100 => some 8
  | 101 => some 24
  | 112 => some 8
  | 114 => some 24
  | 116 => some 24
  | 127 => some 4
  | 133 => some 8
  | 141 => some 8
  | 142 => some 8
  | 146 => some 8
  | 148 => some 8
  | 158 => some 1
  | _ => none
theorem h_sl : ∀ t e n, tsl t = some (e, n) → Go.Proofs.Tryz.prog.underlying t = some (.slice e) ∧ ∃ i, Go.Proofs.Tryz.prog.info? e = some i ∧ i.size = n := by
  intro t e n h; unfold tsl at h
  split at h <;> first | (cases h; done) | (cases h; exact slOk_of (by kernel_rfl))
theorem h_ar : ∀ t l e n, tar t = some (l, e, n) → Go.Proofs.Tryz.prog.underlying t = some (.array l e) ∧ ∃ i, Go.Proofs.Tryz.prog.info? e = some i ∧ i.size = n := by
  intro t l e n h; unfold tar at h
  split at h <;> first | (cases h; done) | (cases h; exact arOk_of (by kernel_rfl))
theorem h_fl : ∀ t k o e, tfl t k = some (o, e) → ∃ fs f, Go.Proofs.Tryz.prog.underlying t = some (.struct fs) ∧ fs[k]? = some f ∧ f.offset = o ∧ f.type = e ∧ ∃ i, Go.Proofs.Tryz.prog.info? e = some i ∧ i.size ≠ 0 := by
  intro t k o e h; unfold tfl at h
  split at h <;> first | (cases h; done) | (cases h; exact flOk_of (by kernel_rfl))
theorem h_ld : ∀ t m, tld t = some m → match m with
    | none => ∃ d, Go.Proofs.Tryz.prog.underlying t = some d ∧ (match d with | .struct _ => False | .array _ _ => False | _ => True) ∧ ∃ i, Go.Proofs.Tryz.prog.info? t = some i ∧ i.size = 1
    | some n => ∃ d, Go.Proofs.Tryz.prog.underlying t = some d ∧ (match d with | .struct _ => True | .array _ _ => True | _ => False) ∧ ∃ i, Go.Proofs.Tryz.prog.info? t = some i ∧ i.size = n := by
  intro t m h; unfold tld at h
  split at h <;> first | (cases h; done) | (cases h; exact ld1_of (by kernel_rfl)) | (cases h; exact ldn_of (by kernel_rfl))
theorem h_kd : ∀ t k, tkd t = some k → Go.Proofs.Tryz.prog.underlying t = some (.int k) := by
  intro t k h; unfold tkd at h
  split at h <;> first | (cases h; done) | (cases h; kernel_rfl)
theorem h_zr : ∀ t v, tzr t = some v → ∃ i, Go.Proofs.Tryz.prog.info? t = some i ∧ i.zero = some v := by
  intro t v h; unfold tzr at h
  split at h <;> first | (cases h; done) | (cases h; exact zr_of (by kernel_rfl))
theorem h_bt : ∀ t b, tbt t = some b → ∃ i, Go.Proofs.Tryz.prog.info? t = some i ∧ i.bytes = b := by
  intro t b h; unfold tbt at h
  split at h <;> first | (cases h; done) | (cases h; exact bt_of (by kernel_rfl))
def E : Env Go.Proofs.Tryz.prog := ⟨tsl, tar, tfl, tld, tkd, tzr, tbt, h_sl, h_ar, h_fl, h_ld, h_kd, h_zr, h_bt⟩
end Go.Proofs.YthfnijlgmjkedaaGreat.Tab
namespace Go.Proofs.YthfnijlgmjkedaaGreat
set_option maxRecDepth 100000
set_option linter.unusedVariables false
set_option linter.unusedSimpArgs false
open Go Go.Fx Go.Proofs.YthfnijlgmjkedaaGreat.Tab
theorem orders : Go.Proofs.Tryz.prog.follows .mixedOrders = true := by kernel_rfl

/-! ## the data -/
structure Ch where
  code : Int
  width : Int
  height : Int
  depth : Int
  deriving DecidableEq
structure Ru where
  first : Int
  next : Int
  op : Int
  value : Int
  deriving DecidableEq
structure Me where
  size : Int
  chars : List Ch
  rules : List Ru
  deriving DecidableEq
def chC (c : Ch) : List Value := [.int .i64 c.code, .int .i64 c.width, .int .i64 c.height, .int .i64 c.depth]
abbrev chV (c : Ch) : Value := .agg (chC c).toArray
def ruC (r : Ru) : List Value := [.int .i64 r.first, .int .i64 r.next, .int .i64 r.op, .int .i64 r.value]
abbrev ruV (r : Ru) : Value := .agg (ruC r).toArray
abbrev iV (n : Int) : Value := .int .i64 n
theorem chC_len (c : Ch) : (chC c).length = 4 := rfl
theorem ruC_len (c : Ru) : (ruC c).length = 4 := rfl

/-! ## what the functions compute -/
def coordB (n : Int) : Bool := decide (-268435455 ≤ n) && decide (n ≤ 268435455)
def codeB (n : Int) : Bool := decide (0 ≤ n) && decide (n ≤ 255)
def sizeB (n : Int) : Bool := decide (1 ≤ n) && decide (n ≤ 268435455)
def charB (c : Ch) : Bool := codeB c.code && (coordB c.width && (coordB c.height && coordB c.depth))
def ruleB (r : Ru) : Bool := codeB r.first && (codeB r.next && (decide (0 ≤ r.op) && (decide (r.op ≤ 4) && (if r.op = 0 then coordB r.value else codeB r.value))))
def cmpI (a b : Int) : Int := if a < b then -1 else if b < a then 1 else 0
def codeCmp (a b : Ch) : Int := cmpI a.code b.code
def pairCmp (a b : Ru) : Int := if cmpI a.first b.first ≠ 0 then cmpI a.first b.first else cmpI a.next b.next
def risingB {α : Type} (cmp : α → α → Int) : List α → Bool
  | [] => true
  | [_] => true
  | a :: b :: l => decide (cmp a b < 0) && risingB cmp (b :: l)
theorem risingB_iff {α : Type} (cmp : α → α → Int) (l : List α) : risingB cmp l = true ↔ ∀ i (h : i + 1 < l.length), cmp l[i] l[i+1] < 0 := by
  induction l with
  | nil => simp [risingB]
  | cons a l ih => cases l with
    | nil => simp [risingB]
    | cons b l =>
      simp only [risingB, Bool.and_eq_true, decide_eq_true_eq, ih]
      constructor
      · rintro ⟨h0, h1⟩ i hi
        cases i with
        | zero => exact h0
        | succ i => exact h1 i (by simpa using hi)
      · intro h
        exact ⟨h 0 (by simp), fun i hi => h (i + 1) (by simpa using hi)⟩
end Go.Proofs.YthfnijlgmjkedaaGreat
namespace Go.Proofs.YthfnijlgmjkedaaGreat
set_option maxRecDepth 100000
set_option linter.unusedVariables false
set_option linter.unusedSimpArgs false
open Go Go.Fx Go.Proofs.YthfnijlgmjkedaaGreat.Tab
section
variable {n a b : Int} {w : World}
theorem metric_isCoord_c : Ret Go.Proofs.Tryz.prog 85 #[iV n] w fun v w' => v = .bool (coordB n) ∧ w' = w := by
  refine enter Go.Proofs.Tryz.func85 rfl rfl rfl ?_
  refine W_sr rfl (s_as rfl (s_nil ?_))
  by_cases h0 : -268435455 ≤ n
  · refine W_sr rfl (s_mv rfl (s_cmp (c := true) rfl rfl (decide_eq_true h0) (s_mv rfl (s_g1 rfl (s_mv rfl (s_g1 rfl (s_leq rfl rfl (s_pk rfl (s_as rfl (s_nil ?_))))))))))
    exact W_ret ⟨_, rfl, by simp only [coordB, h0, decide_true, Bool.true_and]; rfl, rfl⟩
  · refine W_sr rfl (s_mv rfl (s_cmp (c := false) rfl rfl (decide_eq_false h0) (s_mv rfl (s_g0 rfl (s_g0 rfl (s_pk rfl (s_as rfl (s_nil ?_))))))))
    exact W_ret ⟨_, rfl, by simp only [coordB, h0, decide_false, Bool.false_and]; rfl, rfl⟩
theorem metric_isCode_c : Ret Go.Proofs.Tryz.prog 84 #[iV n] w fun v w' => v = .bool (codeB n) ∧ w' = w := by
  refine enter Go.Proofs.Tryz.func84 rfl rfl rfl ?_
  refine W_sr rfl (s_as rfl (s_nil ?_))
  by_cases h0 : 0 ≤ n
  · refine W_sr rfl (s_mv rfl (s_cmp (c := true) rfl rfl (decide_eq_true h0) (s_mv rfl (s_g1 rfl (s_mv rfl (s_g1 rfl (s_leq rfl rfl (s_pk rfl (s_as rfl (s_nil ?_))))))))))
    exact W_ret ⟨_, rfl, by simp only [codeB, h0, decide_true, Bool.true_and]; rfl, rfl⟩
  · refine W_sr rfl (s_mv rfl (s_cmp (c := false) rfl rfl (decide_eq_false h0) (s_mv rfl (s_g0 rfl (s_g0 rfl (s_pk rfl (s_as rfl (s_nil ?_))))))))
    exact W_ret ⟨_, rfl, by simp only [codeB, h0, decide_false, Bool.false_and]; rfl, rfl⟩
theorem metric_IsSize_c : Ret Go.Proofs.Tryz.prog 32 #[iV n] w fun v w' => v = .bool (sizeB n) ∧ w' = w := by
  refine enter Go.Proofs.Tryz.func32 rfl rfl rfl ?_
  refine W_sr rfl (s_as rfl (s_nil ?_))
  by_cases h0 : 1 ≤ n
  · refine W_sr rfl (s_mv rfl (s_cmp (c := true) rfl rfl (decide_eq_true h0) (s_mv rfl (s_g1 rfl (s_mv rfl (s_g1 rfl (s_leq rfl rfl (s_pk rfl (s_as rfl (s_nil ?_))))))))))
    exact W_ret ⟨_, rfl, by simp only [sizeB, h0, decide_true, Bool.true_and]; rfl, rfl⟩
  · refine W_sr rfl (s_mv rfl (s_cmp (c := false) rfl rfl (decide_eq_false h0) (s_mv rfl (s_g0 rfl (s_g0 rfl (s_pk rfl (s_as rfl (s_nil ?_))))))))
    exact W_ret ⟨_, rfl, by simp only [sizeB, h0, decide_false, Bool.false_and]; rfl, rfl⟩
theorem cmp_isNaN_int_c : Ret Go.Proofs.Tryz.prog 104 #[iV n] w fun v w' => v = .bool false ∧ w' = w := by
  refine enter Go.Proofs.Tryz.func104 rfl rfl rfl ?_
  refine W_sr rfl (s_as rfl (s_nil ?_))
  refine W_sr rfl (s_mv rfl (s_mv rfl (s_cmp (c := false) rfl rfl (by simp) (s_as rfl (s_nil ?_)))))
  exact W_ret ⟨_, rfl, rfl, rfl⟩
set_option maxRecDepth 100000 in
theorem cmp_Compare_int_c : Ret Go.Proofs.Tryz.prog 86 #[iV a, iV b] w fun v w' => v = iV (cmpI a b) ∧ w' = w := by
  refine enter Go.Proofs.Tryz.func86 rfl rfl rfl ?_
  refine W_sr rfl (s_as rfl (s_nil ?_))
  refine W_sr rfl (s_mv rfl (s_callp rfl rfl (cmp_isNaN_int_c) (s_as rfl (s_nil ?_))))
  refine W_sr rfl (s_mv rfl (s_callp rfl rfl (cmp_isNaN_int_c) (s_as rfl (s_nil ?_))))
  refine W_seq ?_
  refine W_sr rfl (s_mv rfl (s_nil ?_))
  refine W_if rfl (fun hc => by cases hc) (fun _ => W_skip ?_)
  refine W_seq ?_
  refine W_sr rfl (s_mv rfl (s_nil ?_))
  refine W_if rfl (fun hc => by cases hc) (fun _ => W_skip ?_)
  refine W_seq ?_
  refine W_sr rfl (s_mv rfl (s_mv rfl (s_lss rfl rfl (s_nil ?_))))
  refine W_if rfl (fun hc => ?_) (fun hc => W_skip ?_)
  · refine W_sr rfl (s_as rfl (s_nil ?_))
    exact W_ret ⟨_, rfl, by simp only [cmpI, if_pos (of_decide_eq_true hc)]; rfl, rfl⟩
  refine W_seq ?_
  refine W_sr rfl (s_mv rfl (s_mv rfl (s_gtr rfl rfl (s_nil ?_))))
  refine W_if rfl (fun hd => ?_) (fun hd => W_skip ?_)
  · refine W_sr rfl (s_as rfl (s_nil ?_))
    exact W_ret ⟨_, rfl, by simp only [cmpI, if_pos (of_decide_eq_true hd), if_neg (of_decide_eq_false hc)]; rfl, rfl⟩
  refine W_sr rfl (s_as rfl (s_nil ?_))
  exact W_ret ⟨_, rfl, by simp only [cmpI, if_neg (of_decide_eq_false hd), if_neg (of_decide_eq_false hc)]; rfl, rfl⟩
theorem metric_compareCodes_c {x y : Ch} : Ret Go.Proofs.Tryz.prog 36 #[chV x, chV y] w fun v w' => v = iV (codeCmp x y) ∧ Ext w w' := by
  refine enter Go.Proofs.Tryz.func36 rfl rfl rfl ?_
  refine W_sr rfl (s_bx rfl (s_bx rfl (s_as rfl (s_nil ?_))))
  refine W_sr rfl (s_fa E rfl rfl (s_ld E rfl rfl (bc1 rfl) (s_fa E rfl rfl (s_ld E rfl rfl (bc0 rfl) (s_callp rfl rfl (cmp_Compare_int_c) (s_as rfl (s_nil ?_)))))))
  exact W_ret ⟨_, rfl, rfl, e2⟩
theorem metric_isChar_c {x : Ch} : Ret Go.Proofs.Tryz.prog 34 #[chV x] w fun v w' => v = .bool (charB x) ∧ Ext w w' := by
  refine enter Go.Proofs.Tryz.func34 rfl rfl rfl ?_
  refine W_sr rfl (s_bx rfl (s_as rfl (s_nil ?_)))
  cases h0 : codeB x.code
  · refine W_sr rfl (s_fa E rfl rfl (s_ld E rfl rfl (bc0 rfl) (s_callp rfl rfl (Ret.eqv (metric_isCode_c) (congrArg Value.bool h0)) (s_mv rfl (s_g0 rfl (s_g0 rfl (s_g0 rfl (s_pk rfl (s_mv rfl (s_g0 rfl (s_g0 rfl (s_g0 rfl (s_pk rfl (s_mv rfl (s_g0 rfl (s_g0 rfl (s_g0 rfl (s_pk rfl (s_as rfl (s_nil ?_))))))))))))))))))))
    exact W_ret ⟨_, rfl, by simp only [charB, h0, Bool.false_and]; rfl, e1⟩
  cases h1 : coordB x.width
  · refine W_sr rfl (s_fa E rfl rfl (s_ld E rfl rfl (bc0 rfl) (s_callp rfl rfl (Ret.eqv (metric_isCode_c) (congrArg Value.bool h0)) (s_mv rfl (s_g1 rfl (s_fa E rfl rfl (s_g1 rfl (s_ld E rfl rfl (bc0 rfl) (s_g1 rfl (s_callp rfl rfl (Ret.eqv (metric_isCoord_c) (congrArg Value.bool h1)) (s_pk rfl (s_mv rfl (s_g0 rfl (s_g0 rfl (s_g0 rfl (s_pk rfl (s_mv rfl (s_g0 rfl (s_g0 rfl (s_g0 rfl (s_pk rfl (s_as rfl (s_nil ?_)))))))))))))))))))))))
    exact W_ret ⟨_, rfl, by simp only [charB, h0, h1, Bool.false_and, Bool.true_and]; rfl, e1⟩
  cases h2 : coordB x.height
  · refine W_sr rfl (s_fa E rfl rfl (s_ld E rfl rfl (bc0 rfl) (s_callp rfl rfl (Ret.eqv (metric_isCode_c) (congrArg Value.bool h0)) (s_mv rfl (s_g1 rfl (s_fa E rfl rfl (s_g1 rfl (s_ld E rfl rfl (bc0 rfl) (s_g1 rfl (s_callp rfl rfl (Ret.eqv (metric_isCoord_c) (congrArg Value.bool h1)) (s_pk rfl (s_mv rfl (s_g1 rfl (s_fa E rfl rfl (s_g1 rfl (s_ld E rfl rfl (bc0 rfl) (s_g1 rfl (s_callp rfl rfl (Ret.eqv (metric_isCoord_c) (congrArg Value.bool h2)) (s_pk rfl (s_mv rfl (s_g0 rfl (s_g0 rfl (s_g0 rfl (s_pk rfl (s_as rfl (s_nil ?_))))))))))))))))))))))))))
    exact W_ret ⟨_, rfl, by simp only [charB, h0, h1, h2, Bool.false_and, Bool.true_and]; rfl, e1⟩
  refine W_sr rfl (s_fa E rfl rfl (s_ld E rfl rfl (bc0 rfl) (s_callp rfl rfl (Ret.eqv (metric_isCode_c) (congrArg Value.bool h0)) (s_mv rfl (s_g1 rfl (s_fa E rfl rfl (s_g1 rfl (s_ld E rfl rfl (bc0 rfl) (s_g1 rfl (s_callp rfl rfl (Ret.eqv (metric_isCoord_c) (congrArg Value.bool h1)) (s_pk rfl (s_mv rfl (s_g1 rfl (s_fa E rfl rfl (s_g1 rfl (s_ld E rfl rfl (bc0 rfl) (s_g1 rfl (s_callp rfl rfl (Ret.eqv (metric_isCoord_c) (congrArg Value.bool h2)) (s_pk rfl (s_mv rfl (s_g1 rfl (s_fa E rfl rfl (s_g1 rfl (s_ld E rfl rfl (bc0 rfl) (s_g1 rfl (s_callp rfl rfl (metric_isCoord_c) (s_pk rfl (s_as rfl (s_nil ?_)))))))))))))))))))))))))))))
  exact W_ret ⟨_, rfl, by simp only [charB, h0, h1, h2, Bool.true_and]; rfl, e1⟩
end
end Go.Proofs.YthfnijlgmjkedaaGreat
namespace Go.Proofs.YthfnijlgmjkedaaGreat
set_option maxRecDepth 100000
set_option linter.unusedVariables false
set_option linter.unusedSimpArgs false
open Go Go.Fx Go.Proofs.YthfnijlgmjkedaaGreat.Tab
def orI : List Int → Int
  | [] => 0
  | a :: l => if a ≠ 0 then a else orI l
theorem orI_drop (l : List Int) (i : Nat) (hi : i < l.length) : orI (l.drop i) = if l[i] ≠ 0 then l[i] else orI (l.drop (i + 1)) := by
  rw [List.drop_eq_getElem_cons hi, orI]
theorem sl_map {w : World} {p : Option Addr} {l : List Int} (hp : SlR w p (l.map iV)) {i : Nat} (hi : i < l.length) : ∃ a, p = some a ∧ w.cell? (a.add (i * 1)) = some (iV l[i]) := by
  obtain ⟨a, rfl, h⟩ := hp.some (by intro h0; simp at h0; subst h0; simp at hi)
  exact ⟨a, rfl, by rw [Nat.mul_one]; exact h i _ (by simp [hi])⟩
theorem cmp_Or_int_c {p : Option Addr} {n c : Nat} {l : List Int} {w : World} (hn : n = l.length) (hm : n ≤ 1000000) (hp : SlR w p (l.map iV)) :
    Ret Go.Proofs.Tryz.prog 94 #[.slice p n c] w fun v w' => v = iV (orI l) ∧ w' = w := by
  refine enter Go.Proofs.Tryz.func94 rfl rfl rfl ?_
  refine W_sr rfl (s_as rfl (s_nil ?_))
  refine W_sr rfl (s_as rfl (s_nil ?_))
  refine W_seq ?_
  refine W_sr rfl (s_mv rfl (s_len E rfl rfl (s_mv rfl (s_nil ?_))))
  refine W_block ?_
  refine W_loop (fun m ρ w' => ∃ ρ' i, ρ = upd (upd (upd (upd ρ' 3 (iV 0)) 6 (.slice p n c)) 7 (iV n)) 8 (iV (i : Nat)) ∧ w' = w ∧ i ≤ n ∧ m = n - i ∧ orI l = orI (l.drop i)) n ⟨_, 0, u4 rfl rfl rfl rfl, rfl, by omega, by omega, rfl⟩ ?_
  rintro m _ _ ⟨ρ, i, rfl, rfl, hi, rfl, ho⟩
  refine W_sr rfl (s_lss rfl rfl (s_nil ?_))
  refine W_seq ?_
  refine W_if rfl (fun hc => W_skip ?_) (fun hc => W_exit ?_)
  · have hc := of_decide_eq_true hc
    have hil : i < l.length := by omega
    obtain ⟨a, rfl, hcell⟩ := sl_map hp hil
    refine W_seq (W_block ?_)
    refine W_sr rfl (s_ia E rfl rfl rfl rfl (by omega) (s_ld E rfl rfl hcell (s_as rfl (s_nil ?_))))
    refine W_sr rfl (s_mv rfl (s_mv rfl (s_neq rfl rfl (s_nil ?_))))
    refine W_if rfl (fun hd => ?_) (fun hd => W_skip ?_)
    · have hd := of_decide_eq_true hd
      refine W_sr rfl (s_mv rfl (s_as rfl (s_nil ?_)))
      refine W_ret ⟨_, rfl, ?_, rfl⟩
      rw [ho, orI_drop l i hil, if_pos hd]; rfl
    · have hd := of_decide_eq_false hd
      refine W_reg rfl (s_add rfl rfl (by omega) (s_mv rfl (s_nil ?_)))
      refine ⟨n - (i + 1), by omega, _, i + 1, u4 rfl rfl rfl rfl, rfl, by omega, rfl, ?_⟩
      rw [ho, orI_drop l i hil, if_neg hd]
  · have hc := of_decide_eq_false hc
    refine W_sr rfl (s_mv rfl (s_as rfl (s_nil ?_)))
    refine W_ret ⟨_, rfl, ?_, rfl⟩
    rw [ho, List.drop_of_length_le (by omega)]; rfl
theorem metric_ComparePairs_c {x y : Ru} {w : World} : Ret Go.Proofs.Tryz.prog 55 #[ruV x, ruV y] w fun v w' => v = iV (pairCmp x y) ∧ Ext w w' := by
  refine enter Go.Proofs.Tryz.func55 rfl rfl rfl ?_
  refine W_sr rfl (s_bx rfl (s_bx rfl (s_as rfl (s_nil ?_))))
  refine W_dr (Ext ((w.alloc _).alloc _)) [] orders (D_pure 0 rfl rfl (by kernel_rfl) rfl (fun _ => r_fa E rfl rfl) (fun _ => Ext.drew0) (D_take 1 rfl rfl (by kernel_rfl) rfl (fun _ hs => r_ld E rfl rfl (Ext.cell hs (bc1 rfl))) Ext.drew0 (D_pure 2 rfl rfl (by kernel_rfl) rfl (fun _ => r_fa E rfl rfl) (fun _ => Ext.drew0) (D_take 3 rfl rfl (by kernel_rfl) rfl (fun _ hs => r_ld E rfl rfl (Ext.cell hs (bc0 rfl))) Ext.drew0 (D_pure 5 rfl rfl (by kernel_rfl) rfl (fun _ => r_fa E rfl rfl) (fun _ => Ext.drew0) (D_take 6 rfl rfl (by kernel_rfl) rfl (fun _ hs => r_ld E rfl rfl (Ext.cell hs (bc1 rfl))) Ext.drew0 (D_pure 7 rfl rfl (by kernel_rfl) rfl (fun _ => r_fa E rfl rfl) (fun _ => Ext.drew0) (D_take 8 rfl rfl (by kernel_rfl) rfl (fun _ hs => r_ld E rfl rfl (Ext.cell hs (bc0 rfl))) Ext.drew0 (D_one 4 rfl (by kernel_rfl) rfl (s_callp rfl rfl (cmp_Compare_int_c) (s_nil ⟨Ext.drew0, (D_one 9 rfl (by kernel_rfl) rfl (s_callp rfl rfl (cmp_Compare_int_c) (s_nil ⟨Ext.drew0, (D_one 10 rfl (by kernel_rfl) rfl (s_bs E rfl rfl rfl rfl rfl (cells := #[iV (cmpI x.first y.first), iV (cmpI x.next y.next)]) (by kernel_rfl) (s_nil ⟨(Mod.alloc Ext.drew0 _), (D_one 11 rfl (by kernel_rfl) rfl (s_callp rfl rfl (cmp_Or_int_c (l := [cmpI x.first y.first, cmpI x.next y.next]) rfl (by decide) bcr) (s_nil ⟨(Mod.alloc Ext.drew0 _), (D_one 12 rfl (by kernel_rfl) rfl (s_as rfl (s_nil ⟨(Mod.alloc Ext.drew0 _), (D_done (by kernel_rfl) ?_)⟩)))⟩)))⟩)))⟩)))⟩)))))))))))
  refine W_ret ⟨_, rfl, ?_, ?_⟩
  · show iV (orI [cmpI x.first y.first, cmpI x.next y.next]) = _
    by_cases h : cmpI x.first y.first = 0 <;> by_cases k : cmpI x.next y.next = 0 <;> simp [orI, pairCmp, h, k]
  · exact e2.trans (Mod.alloc Ext.drew0 _)
end Go.Proofs.YthfnijlgmjkedaaGreat
namespace Go.Proofs.YthfnijlgmjkedaaGreat
set_option maxRecDepth 100000
set_option linter.unusedVariables false
set_option linter.unusedSimpArgs false
open Go Go.Fx Go.Proofs.YthfnijlgmjkedaaGreat.Tab
theorem metric_isRule_c {x : Ru} {w : World} : Ret Go.Proofs.Tryz.prog 52 #[ruV x] w fun v w' => v = .bool (ruleB x) ∧ Ext w w' := by
  refine enter Go.Proofs.Tryz.func52 rfl rfl rfl ?_
  refine W_sr rfl (s_bx rfl (s_as rfl (s_nil ?_)))
  refine W_sr rfl (s_fa E rfl rfl (s_ld E rfl rfl (bc0 rfl) (s_callp rfl rfl (metric_isCode_c) (s_as rfl (s_nil ?_)))))
  refine W_sk fun K hK => ?_
  have H : ∀ (ρ : Fr) w', Row w' ⟨w.heap.size, 0, none⟩ (ruC x) → Ext w w' → ρ 1 = .pointer (some ⟨w.heap.size, 0, none⟩) → ρ 3 = .bool (if x.op = 0 then coordB x.value else codeB x.value) → K ρ w' := by
    intro ρ w' hr hE h1 h3
    rw [u2 h1 h3]
    refine hK _ _ ?_
    cases h0 : codeB x.first
    · refine W_sr rfl (s_fa E rfl rfl (s_ld E rfl rfl (hr _ _ rfl) (s_callp rfl rfl (Ret.eqv (metric_isCode_c) (congrArg Value.bool h0)) (s_mv rfl (s_g0 rfl (s_g0 rfl (s_g0 rfl (s_pk rfl (s_mv rfl (s_g0 rfl (s_g0 rfl (s_g0 rfl (s_pk rfl (s_mv rfl (s_g0 rfl (s_g0 rfl (s_g0 rfl (s_pk rfl (s_mv rfl (s_g0 rfl (s_pk rfl (s_as rfl (s_nil ?_)))))))))))))))))))))))
      exact W_ret ⟨_, rfl, by simp only [ruleB, h0, Bool.false_and]; rfl, hE⟩
    cases h1 : codeB x.next
    · refine W_sr rfl (s_fa E rfl rfl (s_ld E rfl rfl (hr _ _ rfl) (s_callp rfl rfl (Ret.eqv (metric_isCode_c) (congrArg Value.bool h0)) (s_mv rfl (s_g1 rfl (s_fa E rfl rfl (s_g1 rfl (s_ld E rfl rfl (hr _ _ rfl) (s_g1 rfl (s_callp rfl rfl (Ret.eqv (metric_isCode_c) (congrArg Value.bool h1)) (s_pk rfl (s_mv rfl (s_g0 rfl (s_g0 rfl (s_g0 rfl (s_pk rfl (s_mv rfl (s_g0 rfl (s_g0 rfl (s_g0 rfl (s_pk rfl (s_mv rfl (s_g0 rfl (s_pk rfl (s_as rfl (s_nil ?_))))))))))))))))))))))))))
      exact W_ret ⟨_, rfl, by simp only [ruleB, h0, h1, Bool.false_and, Bool.true_and]; rfl, hE⟩
    by_cases h2 : 0 ≤ x.op
    case neg =>
      refine W_sr rfl (s_fa E rfl rfl (s_ld E rfl rfl (hr _ _ rfl) (s_callp rfl rfl (Ret.eqv (metric_isCode_c) (congrArg Value.bool h0)) (s_mv rfl (s_g1 rfl (s_fa E rfl rfl (s_g1 rfl (s_ld E rfl rfl (hr _ _ rfl) (s_g1 rfl (s_callp rfl rfl (Ret.eqv (metric_isCode_c) (congrArg Value.bool h1)) (s_pk rfl (s_mv rfl (s_g1 rfl (s_fa E rfl rfl (s_g1 rfl (s_ld E rfl rfl (hr _ _ rfl) (s_g1 rfl (s_cmp (c := false) rfl rfl (decide_eq_false h2) (s_pk rfl (s_mv rfl (s_g0 rfl (s_g0 rfl (s_g0 rfl (s_pk rfl (s_mv rfl (s_g0 rfl (s_pk rfl (s_as rfl (s_nil ?_)))))))))))))))))))))))))))))
      exact W_ret ⟨_, rfl, by simp only [ruleB, h0, h1, h2, decide_false, Bool.false_and, Bool.true_and]; rfl, hE⟩
    by_cases h3 : x.op ≤ 4
    case neg =>
      refine W_sr rfl (s_fa E rfl rfl (s_ld E rfl rfl (hr _ _ rfl) (s_callp rfl rfl (Ret.eqv (metric_isCode_c) (congrArg Value.bool h0)) (s_mv rfl (s_g1 rfl (s_fa E rfl rfl (s_g1 rfl (s_ld E rfl rfl (hr _ _ rfl) (s_g1 rfl (s_callp rfl rfl (Ret.eqv (metric_isCode_c) (congrArg Value.bool h1)) (s_pk rfl (s_mv rfl (s_g1 rfl (s_fa E rfl rfl (s_g1 rfl (s_ld E rfl rfl (hr _ _ rfl) (s_g1 rfl (s_cmp (c := true) rfl rfl (decide_eq_true h2) (s_pk rfl (s_mv rfl (s_g1 rfl (s_fa E rfl rfl (s_g1 rfl (s_ld E rfl rfl (hr _ _ rfl) (s_g1 rfl (s_cmp (c := false) rfl rfl (decide_eq_false h3) (s_pk rfl (s_mv rfl (s_g0 rfl (s_pk rfl (s_as rfl (s_nil ?_))))))))))))))))))))))))))))))))
      exact W_ret ⟨_, rfl, by simp only [ruleB, h0, h1, h2, h3, decide_true, decide_false, Bool.false_and, Bool.true_and]; rfl, hE⟩
    refine W_sr rfl (s_fa E rfl rfl (s_ld E rfl rfl (hr _ _ rfl) (s_callp rfl rfl (Ret.eqv (metric_isCode_c) (congrArg Value.bool h0)) (s_mv rfl (s_g1 rfl (s_fa E rfl rfl (s_g1 rfl (s_ld E rfl rfl (hr _ _ rfl) (s_g1 rfl (s_callp rfl rfl (Ret.eqv (metric_isCode_c) (congrArg Value.bool h1)) (s_pk rfl (s_mv rfl (s_g1 rfl (s_fa E rfl rfl (s_g1 rfl (s_ld E rfl rfl (hr _ _ rfl) (s_g1 rfl (s_cmp (c := true) rfl rfl (decide_eq_true h2) (s_pk rfl (s_mv rfl (s_g1 rfl (s_fa E rfl rfl (s_g1 rfl (s_ld E rfl rfl (hr _ _ rfl) (s_g1 rfl (s_cmp (c := true) rfl rfl (decide_eq_true h3) (s_pk rfl (s_mv rfl (s_g1 rfl (s_mv rfl (s_pk rfl (s_as rfl (s_nil ?_)))))))))))))))))))))))))))))))))
    exact W_ret ⟨_, rfl, by simp only [ruleB, h0, h1, h2, h3, decide_true, Bool.true_and]; rfl, hE⟩
  by_cases hop : x.op = 0
  · refine W_sr rfl (s_fa E rfl rfl (s_ld E rfl rfl (bc0 rfl) (s_cmp (c := true) rfl rfl (decide_eq_true hop) (s_nil ?_))))
    refine W_if rfl (fun _ => ?_) (fun h => by cases h)
    refine W_reg rfl (s_fa E rfl rfl (s_ld E rfl rfl (bc0 rfl) (s_callp rfl rfl (metric_isCoord_c) (s_as rfl (s_nil ?_)))))
    exact H _ _ bcr e1 rfl (by rw [if_pos hop]; rfl)
  · refine W_sr rfl (s_fa E rfl rfl (s_ld E rfl rfl (bc0 rfl) (s_cmp (c := false) rfl rfl (decide_eq_false hop) (s_nil ?_))))
    refine W_if rfl (fun h => by cases h) (fun _ => W_skip ?_)
    exact H _ _ bcr e1 rfl (by rw [if_neg hop]; rfl)
def idxF {α : Type} (f : α → Bool) : List α → Int
  | [] => -1
  | a :: l => if f a then 0 else let r := idxF f l; if r < 0 then -1 else r + 1
theorem idxF_none {α : Type} (f : α → Bool) (l : List α) (h : ∀ j (hj : j < l.length), f l[j] = false) : idxF f l = -1 := by
  induction l with
  | nil => rfl
  | cons a l ih =>
    have h0 := h 0 (by simp)
    simp only [List.getElem_cons_zero] at h0
    have := ih fun j hj => h (j + 1) (by simpa using hj)
    simp [idxF, h0, this]
theorem idxF_some {α : Type} (f : α → Bool) (l : List α) (i : Nat) (hi : i < l.length) (h : ∀ j (hj : j < i), f l[j] = false) (hf : f l[i] = true) : idxF f l = i := by
  induction l generalizing i with
  | nil => simp at hi
  | cons a l ih => cases i with
    | zero => simp only [List.getElem_cons_zero] at hf; simp [idxF, hf]
    | succ i =>
      have h0 := h 0 (by omega)
      simp only [List.getElem_cons_zero] at h0
      have := ih i (by simpa using hi) (fun j hj => h (j + 1) (by omega)) (by simpa using hf)
      simp [idxF, h0, this]
      omega
theorem idxF_any {α : Type} (f : α → Bool) (l : List α) : decide (0 ≤ idxF f l) = l.any f := by
  induction l with
  | nil => rfl
  | cons a l ih =>
    cases h : f a
    · simp only [idxF, h, List.any_cons, Bool.false_or, ← ih]
      by_cases hr : idxF f l < 0
      · simp [hr]
      · simp [hr]; omega
    · simp [idxF, h]
theorem metric_all_CharMetric_1_c {x : Ch} {a : Addr} {g : FuncId} {want : Ch → Bool} {w : World} (hc : w.cell? a = some (.func (.func g) #[] #[])) (hg : ∀ x w, Ret Go.Proofs.Tryz.prog g #[chV x] w fun v w' => v = .bool (want x) ∧ Ext w w') :
    Ret Go.Proofs.Tryz.prog 83 #[chV x, .pointer (some a)] w fun v w' => v = .bool (!want x) ∧ Ext w w' := by
  refine enter Go.Proofs.Tryz.func83 rfl rfl rfl ?_
  refine W_sr rfl (s_bx rfl (s_as rfl (s_nil ?_)))
  refine W_sr rfl (s_ld E rfl rfl (Ext.cell e1 hc) (s_lda E rfl rfl bcr rfl (s_callx rfl rfl (hg x _) fun w1 hE1 => (s_not rfl (s_as rfl (s_nil ?_))))))
  exact W_ret ⟨_, rfl, rfl, e1.trans hE1⟩
theorem slices_IndexFunc_CharMetric_c {p : Option Addr} {n c : Nat} {l : List Ch} {g : FuncId} {cs : Array Value} {f : Ch → Bool} {w : World} (hn : n = l.length) (hm : n ≤ 1000000) (hp : SlR w p (l.flatMap chC))
    (hg : ∀ x w', Ext w w' → Ret Go.Proofs.Tryz.prog g (chV x :: cs.toList).toArray w' fun v w'' => v = .bool (f x) ∧ Ext w' w'') :
    Ret Go.Proofs.Tryz.prog 103 #[.slice p n c, .func (.func g) #[] cs] w fun v w' => v = iV (idxF f l) ∧ Ext w w' := by
  refine enter Go.Proofs.Tryz.func103 rfl rfl rfl ?_
  refine W_sr rfl (s_as rfl (s_nil ?_))
  refine W_seq ?_
  refine W_sr rfl (s_mv rfl (s_len E rfl rfl (s_mv rfl (s_nil ?_))))
  refine W_block ?_
  refine W_loop (fun m ρ w' => ∃ ρ' i, ρ = upd (upd (upd (upd ρ' 0 (.slice p n c)) 1 (.func (.func g) #[] cs)) 7 (iV n)) 8 (iV (i : Nat)) ∧ Ext w w' ∧ i ≤ n ∧ m = n - i ∧ ∀ j (h : j < l.length), j < i → f l[j] = false) n
    ⟨_, 0, u4 rfl rfl rfl rfl, Mod.refl, by omega, by omega, fun j _ h => by omega⟩ ?_
  rintro m _ w1 ⟨ρ, i, rfl, hE1, hi, rfl, ho⟩
  refine W_sr rfl (s_lss rfl rfl (s_nil ?_))
  refine W_seq ?_
  refine W_if rfl (fun hc => W_skip ?_) (fun hc => W_exit ?_)
  · have hc := of_decide_eq_true hc
    have hil : i < l.length := by omega
    obtain ⟨a, rfl, hrow⟩ := hp.some (by intro h0; have := flat_length chC 4 chC_len l; rw [h0] at this; simp at this; omega)
    refine W_seq (W_block ?_)
    refine W_sr rfl (s_mv rfl (s_as rfl (s_nil ?_)))
    refine W_sr rfl (s_mv rfl (s_mv rfl (s_mv rfl (s_ia E rfl rfl rfl rfl (by omega) (s_lda E rfl rfl (Ext.row hE1 (hrow.at chC_len hil)) rfl (s_callx rfl rfl (hg l[i] _ hE1) fun w2 hE2 => (s_nil ?_)))))))
    refine W_if rfl (fun hd => ?_) (fun hd => W_skip ?_)
    · refine W_sr rfl (s_mv rfl (s_as rfl (s_nil ?_)))
      refine W_ret ⟨_, rfl, ?_, hE1.trans hE2⟩
      rw [idxF_some f l i hil (fun j hj => ho j (by omega) hj) hd]; rfl
    · refine W_reg rfl (s_add rfl rfl (by omega) (s_mv rfl (s_nil ?_)))
      refine ⟨n - (i + 1), by omega, _, i + 1, u4 rfl rfl rfl rfl, hE1.trans hE2, by omega, rfl, fun j hj h => ?_⟩
      by_cases e : j = i
      · subst e; exact hd
      · exact ho j hj (by omega)
  · have hc := of_decide_eq_false hc
    refine W_sr rfl (s_as rfl (s_nil ?_))
    refine W_ret ⟨_, rfl, ?_, hE1⟩
    rw [idxF_none f l fun j hj => ho j hj (by omega)]; rfl
theorem slices_ContainsFunc_CharMetric_c {p : Option Addr} {n c : Nat} {l : List Ch} {g : FuncId} {cs : Array Value} {f : Ch → Bool} {w : World} (hn : n = l.length) (hm : n ≤ 1000000) (hp : SlR w p (l.flatMap chC))
    (hg : ∀ x w', Ext w w' → Ret Go.Proofs.Tryz.prog g (chV x :: cs.toList).toArray w' fun v w'' => v = .bool (f x) ∧ Ext w' w'') :
    Ret Go.Proofs.Tryz.prog 82 #[.slice p n c, .func (.func g) #[] cs] w fun v w' => v = .bool (l.any f) ∧ Ext w w' := by
  refine enter Go.Proofs.Tryz.func82 rfl rfl rfl ?_
  refine W_sr rfl (s_as rfl (s_nil ?_))
  refine W_sr rfl (s_mv rfl (s_mv rfl (s_callx rfl rfl (slices_IndexFunc_CharMetric_c hn hm hp hg) fun w1 hE1 => (s_geq rfl rfl (s_as rfl (s_nil ?_))))))
  exact W_ret ⟨_, rfl, by rw [← idxF_any]; rfl, hE1⟩
theorem metric_all_CharMetric_c {p : Option Addr} {n c : Nat} {l : List Ch} {g : FuncId} {want : Ch → Bool} {w : World} (hn : n = l.length) (hm : n ≤ 1000000) (hp : SlR w p (l.flatMap chC))
    (hg : ∀ x w, Ret Go.Proofs.Tryz.prog g #[chV x] w fun v w' => v = .bool (want x) ∧ Ext w w') :
    Ret Go.Proofs.Tryz.prog 33 #[.slice p n c, .func (.func g) #[] #[]] w fun v w' => v = .bool (l.all want) ∧ Ext w w' := by
  refine enter Go.Proofs.Tryz.func33 rfl rfl rfl ?_
  refine W_sr rfl (s_bx rfl (s_as rfl (s_nil ?_)))
  refine W_sr rfl (s_mv rfl (s_mf rfl rfl (s_callx rfl rfl (slices_ContainsFunc_CharMetric_c hn hm (Ext.sl e1 hp) (fun x w' hw' => metric_all_CharMetric_1_c (Ext.cell hw' (bc0 (j := 0) rfl)) hg)) fun w1 hE1 => (s_not rfl (s_as rfl (s_nil ?_))))))
  refine W_ret ⟨_, rfl, ?_, e1.trans hE1⟩
  rw [List.all_eq_not_any_not]; rfl
theorem metric_all_LigRule_1_c {x : Ru} {a : Addr} {g : FuncId} {want : Ru → Bool} {w : World} (hc : w.cell? a = some (.func (.func g) #[] #[])) (hg : ∀ x w, Ret Go.Proofs.Tryz.prog g #[ruV x] w fun v w' => v = .bool (want x) ∧ Ext w w') :
    Ret Go.Proofs.Tryz.prog 93 #[ruV x, .pointer (some a)] w fun v w' => v = .bool (!want x) ∧ Ext w w' := by
  refine enter Go.Proofs.Tryz.func93 rfl rfl rfl ?_
  refine W_sr rfl (s_bx rfl (s_as rfl (s_nil ?_)))
  refine W_sr rfl (s_ld E rfl rfl (Ext.cell e1 hc) (s_lda E rfl rfl bcr rfl (s_callx rfl rfl (hg x _) fun w1 hE1 => (s_not rfl (s_as rfl (s_nil ?_))))))
  exact W_ret ⟨_, rfl, rfl, e1.trans hE1⟩
theorem slices_IndexFunc_LigRule_c {p : Option Addr} {n c : Nat} {l : List Ru} {g : FuncId} {cs : Array Value} {f : Ru → Bool} {w : World} (hn : n = l.length) (hm : n ≤ 1000000) (hp : SlR w p (l.flatMap ruC))
    (hg : ∀ x w', Ext w w' → Ret Go.Proofs.Tryz.prog g (ruV x :: cs.toList).toArray w' fun v w'' => v = .bool (f x) ∧ Ext w' w'') :
    Ret Go.Proofs.Tryz.prog 107 #[.slice p n c, .func (.func g) #[] cs] w fun v w' => v = iV (idxF f l) ∧ Ext w w' := by
  refine enter Go.Proofs.Tryz.func107 rfl rfl rfl ?_
  refine W_sr rfl (s_as rfl (s_nil ?_))
  refine W_seq ?_
  refine W_sr rfl (s_mv rfl (s_len E rfl rfl (s_mv rfl (s_nil ?_))))
  refine W_block ?_
  refine W_loop (fun m ρ w' => ∃ ρ' i, ρ = upd (upd (upd (upd ρ' 0 (.slice p n c)) 1 (.func (.func g) #[] cs)) 7 (iV n)) 8 (iV (i : Nat)) ∧ Ext w w' ∧ i ≤ n ∧ m = n - i ∧ ∀ j (h : j < l.length), j < i → f l[j] = false) n
    ⟨_, 0, u4 rfl rfl rfl rfl, Mod.refl, by omega, by omega, fun j _ h => by omega⟩ ?_
  rintro m _ w1 ⟨ρ, i, rfl, hE1, hi, rfl, ho⟩
  refine W_sr rfl (s_lss rfl rfl (s_nil ?_))
  refine W_seq ?_
  refine W_if rfl (fun hc => W_skip ?_) (fun hc => W_exit ?_)
  · have hc := of_decide_eq_true hc
    have hil : i < l.length := by omega
    obtain ⟨a, rfl, hrow⟩ := hp.some (by intro h0; have := flat_length ruC 4 ruC_len l; rw [h0] at this; simp at this; omega)
    refine W_seq (W_block ?_)
    refine W_sr rfl (s_mv rfl (s_as rfl (s_nil ?_)))
    refine W_sr rfl (s_mv rfl (s_mv rfl (s_mv rfl (s_ia E rfl rfl rfl rfl (by omega) (s_lda E rfl rfl (Ext.row hE1 (hrow.at ruC_len hil)) rfl (s_callx rfl rfl (hg l[i] _ hE1) fun w2 hE2 => (s_nil ?_)))))))
    refine W_if rfl (fun hd => ?_) (fun hd => W_skip ?_)
    · refine W_sr rfl (s_mv rfl (s_as rfl (s_nil ?_)))
      refine W_ret ⟨_, rfl, ?_, hE1.trans hE2⟩
      rw [idxF_some f l i hil (fun j hj => ho j (by omega) hj) hd]; rfl
    · refine W_reg rfl (s_add rfl rfl (by omega) (s_mv rfl (s_nil ?_)))
      refine ⟨n - (i + 1), by omega, _, i + 1, u4 rfl rfl rfl rfl, hE1.trans hE2, by omega, rfl, fun j hj h => ?_⟩
      by_cases e : j = i
      · subst e; exact hd
      · exact ho j hj (by omega)
  · have hc := of_decide_eq_false hc
    refine W_sr rfl (s_as rfl (s_nil ?_))
    refine W_ret ⟨_, rfl, ?_, hE1⟩
    rw [idxF_none f l fun j hj => ho j hj (by omega)]; rfl
theorem slices_ContainsFunc_LigRule_c {p : Option Addr} {n c : Nat} {l : List Ru} {g : FuncId} {cs : Array Value} {f : Ru → Bool} {w : World} (hn : n = l.length) (hm : n ≤ 1000000) (hp : SlR w p (l.flatMap ruC))
    (hg : ∀ x w', Ext w w' → Ret Go.Proofs.Tryz.prog g (ruV x :: cs.toList).toArray w' fun v w'' => v = .bool (f x) ∧ Ext w' w'') :
    Ret Go.Proofs.Tryz.prog 92 #[.slice p n c, .func (.func g) #[] cs] w fun v w' => v = .bool (l.any f) ∧ Ext w w' := by
  refine enter Go.Proofs.Tryz.func92 rfl rfl rfl ?_
  refine W_sr rfl (s_as rfl (s_nil ?_))
  refine W_sr rfl (s_mv rfl (s_mv rfl (s_callx rfl rfl (slices_IndexFunc_LigRule_c hn hm hp hg) fun w1 hE1 => (s_geq rfl rfl (s_as rfl (s_nil ?_))))))
  exact W_ret ⟨_, rfl, by rw [← idxF_any]; rfl, hE1⟩
theorem metric_all_LigRule_c {p : Option Addr} {n c : Nat} {l : List Ru} {g : FuncId} {want : Ru → Bool} {w : World} (hn : n = l.length) (hm : n ≤ 1000000) (hp : SlR w p (l.flatMap ruC))
    (hg : ∀ x w, Ret Go.Proofs.Tryz.prog g #[ruV x] w fun v w' => v = .bool (want x) ∧ Ext w w') :
    Ret Go.Proofs.Tryz.prog 51 #[.slice p n c, .func (.func g) #[] #[]] w fun v w' => v = .bool (l.all want) ∧ Ext w w' := by
  refine enter Go.Proofs.Tryz.func51 rfl rfl rfl ?_
  refine W_sr rfl (s_bx rfl (s_as rfl (s_nil ?_)))
  refine W_sr rfl (s_mv rfl (s_mf rfl rfl (s_callx rfl rfl (slices_ContainsFunc_LigRule_c hn hm (Ext.sl e1 hp) (fun x w' hw' => metric_all_LigRule_1_c (Ext.cell hw' (bc0 (j := 0) rfl)) hg)) fun w1 hE1 => (s_not rfl (s_as rfl (s_nil ?_))))))
  refine W_ret ⟨_, rfl, ?_, e1.trans hE1⟩
  rw [List.all_eq_not_any_not]; rfl
end Go.Proofs.YthfnijlgmjkedaaGreat
namespace Go.Proofs.YthfnijlgmjkedaaGreat
set_option maxRecDepth 100000
set_option linter.unusedVariables false
set_option linter.unusedSimpArgs false
open Go Go.Fx Go.Proofs.YthfnijlgmjkedaaGreat.Tab
theorem metric_rising_CharMetric_c {p : Option Addr} {n c : Nat} {l : List Ch} {g : FuncId} {cmp : Ch → Ch → Int} {w : World} (hn : n = l.length) (hm : n ≤ 1000000) (hp : SlR w p (l.flatMap chC))
    (hg : ∀ x y w, Ret Go.Proofs.Tryz.prog g #[chV x, chV y] w fun v w' => v = iV (cmp x y) ∧ Ext w w') :
    Ret Go.Proofs.Tryz.prog 35 #[.slice p n c, .func (.func g) #[] #[]] w fun v w' => v = .bool (risingB cmp l) ∧ Ext w w' := by
  refine enter Go.Proofs.Tryz.func35 rfl rfl rfl ?_
  refine W_sr rfl (s_as rfl (s_nil ?_))
  refine W_seq ?_
  refine W_sr rfl (s_as rfl (s_nil ?_))
  refine W_block ?_
  refine W_loop (fun m ρ w' => ∃ ρ' i, ρ = upd (upd (upd ρ' 0 (.slice p n c)) 1 (.func (.func g) #[] #[])) 5 (iV (i : Nat)) ∧ 1 ≤ i ∧ (1 ≤ n → i ≤ n) ∧ m = n - i ∧ Ext w w' ∧ ∀ j (h : j + 1 < l.length), j + 1 < i → cmp l[j] l[j+1] < 0) (n - 1)
    ⟨_, 1, u3 rfl rfl rfl, by omega, by omega, rfl, Mod.refl, fun j _ hj => by omega⟩ ?_
  rintro m _ w1 ⟨ρ, i, rfl, hi1, hin, rfl, hE1, hlt⟩
  refine W_seq ?_
  refine W_sr rfl (s_mv rfl (s_mv rfl (s_len E rfl rfl (s_lss rfl rfl (s_nil ?_)))))
  refine W_if rfl (fun hc => W_skip ?_) (fun hc => W_exit ?_)
  · have hc := of_decide_eq_true hc
    have hil : i < l.length := by omega
    obtain ⟨a, rfl, hrow⟩ := hp.some (by intro h0; have := flat_length chC 4 chC_len l; rw [h0] at this; simp at this; omega)
    refine W_seq (W_block ?_)
    have hr1 : ∀ w', Ext w w' → Row w' (a.add ((i - 1) * 4)) (chC l[i - 1]) := fun w' h => Ext.row h (hrow.at chC_len (by omega))
    have hr2 : ∀ w', Ext w w' → Row w' (a.add (i * 4)) (chC l[i]) := fun w' h => Ext.row h (hrow.at chC_len hil)
    refine W_qr (Ext w) orders rfl (by kernel_rfl) (Mod.drew hE1) (q_mv rfl (q_mv rfl (q_mv rfl (q_sub rfl rfl (by omega) (q_ia E rfl rfl rfl (show (i : Int) - 1 = ((i - 1 : Nat) : Int) by omega) (by omega) (q_lda E rfl rfl hr1 rfl (q_mv rfl (q_mv rfl (q_ia E rfl rfl rfl rfl (by omega) (q_lda E rfl rfl hr2 rfl (q_call rfl rfl (hg l[i] l[i] w).1 (fun w' hw' => (hg _ _ w').mono fun v w'' h => ⟨h.1, hw'.trans h.2⟩) (q_geq rfl rfl (q_nil ?_)))))))))))))
    intro w2 hE2
    refine W_if rfl (fun hd => ?_) (fun hd => W_skip ?_)
    · have hd := of_decide_eq_true hd
      refine W_sr rfl (s_as rfl (s_nil ?_))
      refine W_ret ⟨_, rfl, ?_, hE2⟩
      have : risingB cmp l = false := by
        rw [Bool.eq_false_iff]; intro h
        have := (risingB_iff cmp l).1 h (i - 1) (by omega)
        simp only [show i - 1 + 1 = i by omega] at this
        omega
      rw [this]; rfl
    · have hd := of_decide_eq_false hd
      refine W_reg rfl (s_mv rfl (s_add rfl rfl (by omega) (s_as rfl (s_nil ?_))))
      refine ⟨n - (i + 1), by omega, _, i + 1, u3 rfl rfl rfl, by omega, by omega, rfl, hE2, ?_⟩
      intro j h hj
      by_cases e : j + 1 = i
      · subst e; simp only [Nat.add_sub_cancel] at hd; omega
      · exact hlt j h (by omega)
  · have hc := of_decide_eq_false hc
    refine W_sr rfl (s_as rfl (s_nil ?_))
    refine W_ret ⟨_, rfl, ?_, hE1⟩
    rw [(risingB_iff cmp l).2 fun j h => hlt j h (by omega)]; rfl
theorem metric_rising_LigRule_c {p : Option Addr} {n c : Nat} {l : List Ru} {g : FuncId} {cmp : Ru → Ru → Int} {w : World} (hn : n = l.length) (hm : n ≤ 1000000) (hp : SlR w p (l.flatMap ruC))
    (hg : ∀ x y w, Ret Go.Proofs.Tryz.prog g #[ruV x, ruV y] w fun v w' => v = iV (cmp x y) ∧ Ext w w') :
    Ret Go.Proofs.Tryz.prog 87 #[.slice p n c, .func (.func g) #[] #[]] w fun v w' => v = .bool (risingB cmp l) ∧ Ext w w' := by
  refine enter Go.Proofs.Tryz.func87 rfl rfl rfl ?_
  refine W_sr rfl (s_as rfl (s_nil ?_))
  refine W_seq ?_
  refine W_sr rfl (s_as rfl (s_nil ?_))
  refine W_block ?_
  refine W_loop (fun m ρ w' => ∃ ρ' i, ρ = upd (upd (upd ρ' 0 (.slice p n c)) 1 (.func (.func g) #[] #[])) 5 (iV (i : Nat)) ∧ 1 ≤ i ∧ (1 ≤ n → i ≤ n) ∧ m = n - i ∧ Ext w w' ∧ ∀ j (h : j + 1 < l.length), j + 1 < i → cmp l[j] l[j+1] < 0) (n - 1)
    ⟨_, 1, u3 rfl rfl rfl, by omega, by omega, rfl, Mod.refl, fun j _ hj => by omega⟩ ?_
  rintro m _ w1 ⟨ρ, i, rfl, hi1, hin, rfl, hE1, hlt⟩
  refine W_seq ?_
  refine W_sr rfl (s_mv rfl (s_mv rfl (s_len E rfl rfl (s_lss rfl rfl (s_nil ?_)))))
  refine W_if rfl (fun hc => W_skip ?_) (fun hc => W_exit ?_)
  · have hc := of_decide_eq_true hc
    have hil : i < l.length := by omega
    obtain ⟨a, rfl, hrow⟩ := hp.some (by intro h0; have := flat_length ruC 4 ruC_len l; rw [h0] at this; simp at this; omega)
    refine W_seq (W_block ?_)
    have hr1 : ∀ w', Ext w w' → Row w' (a.add ((i - 1) * 4)) (ruC l[i - 1]) := fun w' h => Ext.row h (hrow.at ruC_len (by omega))
    have hr2 : ∀ w', Ext w w' → Row w' (a.add (i * 4)) (ruC l[i]) := fun w' h => Ext.row h (hrow.at ruC_len hil)
    refine W_qr (Ext w) orders rfl (by kernel_rfl) (Mod.drew hE1) (q_mv rfl (q_mv rfl (q_mv rfl (q_sub rfl rfl (by omega) (q_ia E rfl rfl rfl (show (i : Int) - 1 = ((i - 1 : Nat) : Int) by omega) (by omega) (q_lda E rfl rfl hr1 rfl (q_mv rfl (q_mv rfl (q_ia E rfl rfl rfl rfl (by omega) (q_lda E rfl rfl hr2 rfl (q_call rfl rfl (hg l[i] l[i] w).1 (fun w' hw' => (hg _ _ w').mono fun v w'' h => ⟨h.1, hw'.trans h.2⟩) (q_geq rfl rfl (q_nil ?_)))))))))))))
    intro w2 hE2
    refine W_if rfl (fun hd => ?_) (fun hd => W_skip ?_)
    · have hd := of_decide_eq_true hd
      refine W_sr rfl (s_as rfl (s_nil ?_))
      refine W_ret ⟨_, rfl, ?_, hE2⟩
      have : risingB cmp l = false := by
        rw [Bool.eq_false_iff]; intro h
        have := (risingB_iff cmp l).1 h (i - 1) (by omega)
        simp only [show i - 1 + 1 = i by omega] at this
        omega
      rw [this]; rfl
    · have hd := of_decide_eq_false hd
      refine W_reg rfl (s_mv rfl (s_add rfl rfl (by omega) (s_as rfl (s_nil ?_))))
      refine ⟨n - (i + 1), by omega, _, i + 1, u3 rfl rfl rfl, by omega, by omega, rfl, hE2, ?_⟩
      intro j h hj
      by_cases e : j + 1 = i
      · subst e; simp only [Nat.add_sub_cancel] at hd; omega
      · exact hlt j h (by omega)
  · have hc := of_decide_eq_false hc
    refine W_sr rfl (s_as rfl (s_nil ?_))
    refine W_ret ⟨_, rfl, ?_, hE1⟩
    rw [(risingB_iff cmp l).2 fun j h => hlt j h (by omega)]; rfl
def validRules (l : List Ru) : Bool := decide (l.length ≤ 500) && (l.all ruleB && risingB pairCmp l)
def validM (m : Me) : Bool := sizeB m.size && (decide (m.chars.length ≤ 256) && (m.chars.all charB && (risingB codeCmp m.chars && validRules m.rules)))
theorem metric_ValidRules_c {p : Option Addr} {n c : Nat} {l : List Ru} {w : World} (hn : n = l.length) (hm : n ≤ 1000000) (hp : SlR w p (l.flatMap ruC)) :
    Ret Go.Proofs.Tryz.prog 37 #[.slice p n c] w fun v w' => v = .bool (validRules l) ∧ Ext w w' := by
  refine enter Go.Proofs.Tryz.func37 rfl rfl rfl ?_
  refine W_sr rfl (s_as rfl (s_nil ?_))
  have call0 : ∀ w, SlR w p (l.flatMap ruC) → Ret Go.Proofs.Tryz.prog 51 #[.slice p n c, .func (.func 52) #[] #[]] w _ := fun w hp => metric_all_LigRule_c hn hm hp (fun _ _ => metric_isRule_c)
  by_cases h0 : (n : Int) ≤ 500
  case neg =>
    refine W_sr rfl (s_mv rfl (s_len E rfl rfl (s_cmp (c := false) rfl rfl (decide_eq_false h0) (s_mv rfl (s_g0 rfl (s_g0 rfl (s_pk rfl (s_mv rfl (s_g0 rfl (s_g0 rfl (s_pk rfl (s_as rfl (s_nil ?_)))))))))))))
    exact W_ret ⟨_, rfl, by simp only [validRules, show ¬ l.length ≤ 500 by omega, decide_false, Bool.false_and]; rfl, Mod.refl⟩
  have h0' : l.length ≤ 500 := by omega
  cases h1 : l.all ruleB
  · refine W_sr rfl (s_mv rfl (s_len E rfl rfl (s_cmp (c := true) rfl rfl (decide_eq_true h0) (s_mv rfl (s_g1 rfl (s_mv rfl (s_g1 rfl (s_callx rfl rfl (Ret.eqv (call0 _ hp) (congrArg Value.bool h1)) fun w1 hE1 => (s_pk rfl (s_mv rfl (s_g0 rfl (s_g0 rfl (s_pk rfl (s_as rfl (s_nil ?_)))))))))))))))
    exact W_ret ⟨_, rfl, by simp only [validRules, h0', h1, decide_true, Bool.false_and, Bool.true_and]; rfl, hE1⟩
  · refine W_sr rfl (s_mv rfl (s_len E rfl rfl (s_cmp (c := true) rfl rfl (decide_eq_true h0) (s_mv rfl (s_g1 rfl (s_mv rfl (s_g1 rfl (s_callx rfl rfl (Ret.eqv (call0 _ hp) (congrArg Value.bool h1)) fun w1 hE1 => (s_pk rfl (s_mv rfl (s_g1 rfl (s_mv rfl (s_g1 rfl (s_callx rfl rfl (metric_rising_LigRule_c hn hm (Ext.sl hE1 hp) (fun _ _ _ => metric_ComparePairs_c)) fun w2 hE2 => (s_pk rfl (s_as rfl (s_nil ?_)))))))))))))))))
    exact W_ret ⟨_, rfl, by simp only [validRules, h0', h1, decide_true, Bool.true_and]; rfl, hE1.trans hE2⟩
def meV (m : Me) (p q : Option Addr) (c d : Nat) : Value := .agg #[iV m.size, .slice p m.chars.length c, .slice q m.rules.length d]
/-- a metric's slices in memory -/
structure MeR (w : World) (m : Me) (p q : Option Addr) : Prop where
  ch : SlR w p (m.chars.flatMap chC)
  ru : SlR w q (m.rules.flatMap ruC)
  nch : m.chars.length ≤ 1000000
  nru : m.rules.length ≤ 1000000
theorem MeR.ext {w w' : World} {m : Me} {p q : Option Addr} (h : MeR w m p q) (hE : Ext w w') : MeR w' m p q := ⟨Ext.sl hE h.ch, Ext.sl hE h.ru, h.nch, h.nru⟩
theorem metric_Valid_c {m : Me} {p q : Option Addr} {c d : Nat} {w : World} (hm : MeR w m p q) : Ret Go.Proofs.Tryz.prog 13 #[meV m p q c d] w fun v w' => v = .bool (validM m) ∧ Ext w w' := by
  refine enter Go.Proofs.Tryz.func13 rfl rfl rfl ?_
  refine W_sr rfl (s_bx rfl (s_as rfl (s_nil ?_)))
  have callA : ∀ w, MeR w m p q → Ret Go.Proofs.Tryz.prog 33 #[.slice p m.chars.length c, .func (.func 34) #[] #[]] w _ := fun w hm => metric_all_CharMetric_c rfl hm.nch hm.ch (fun _ _ => metric_isChar_c)
  have callR : ∀ w, MeR w m p q → Ret Go.Proofs.Tryz.prog 35 #[.slice p m.chars.length c, .func (.func 36) #[] #[]] w _ := fun w hm => metric_rising_CharMetric_c rfl hm.nch hm.ch (fun _ _ _ => metric_compareCodes_c)
  cases h0 : sizeB m.size
  · refine W_sr rfl (s_fa E rfl rfl (s_ld E rfl rfl (bc0 rfl) (s_callp rfl rfl (Ret.eqv (metric_IsSize_c) (congrArg Value.bool h0)) (s_mv rfl (s_g0 rfl (s_g0 rfl (s_g0 rfl (s_g0 rfl (s_pk rfl (s_mv rfl (s_g0 rfl (s_g0 rfl (s_g0 rfl (s_pk rfl (s_mv rfl (s_g0 rfl (s_g0 rfl (s_g0 rfl (s_pk rfl (s_mv rfl (s_g0 rfl (s_g0 rfl (s_g0 rfl (s_pk rfl (s_as rfl (s_nil ?_))))))))))))))))))))))))))
    exact W_ret ⟨_, rfl, by simp only [validM, h0, Bool.false_and]; rfl, e1⟩
  by_cases h1 : ((m.chars.length : Nat) : Int) ≤ 256
  case neg =>
    refine W_sr rfl (s_fa E rfl rfl (s_ld E rfl rfl (bc0 rfl) (s_callp rfl rfl (Ret.eqv (metric_IsSize_c) (congrArg Value.bool h0)) (s_mv rfl (s_g1 rfl (s_fa E rfl rfl (s_g1 rfl (s_ld E rfl rfl (bc0 rfl) (s_g1 rfl (s_len E rfl rfl (s_g1 rfl (s_cmp (c := false) rfl rfl (decide_eq_false h1) (s_pk rfl (s_mv rfl (s_g0 rfl (s_g0 rfl (s_g0 rfl (s_pk rfl (s_mv rfl (s_g0 rfl (s_g0 rfl (s_g0 rfl (s_pk rfl (s_mv rfl (s_g0 rfl (s_g0 rfl (s_g0 rfl (s_pk rfl (s_as rfl (s_nil ?_))))))))))))))))))))))))))))))
    exact W_ret ⟨_, rfl, by simp only [validM, h0, show ¬ m.chars.length ≤ 256 by omega, decide_false, Bool.false_and, Bool.true_and]; rfl, e1⟩
  have h1' : m.chars.length ≤ 256 := by omega
  cases h2 : m.chars.all charB
  · refine W_sr rfl (s_fa E rfl rfl (s_ld E rfl rfl (bc0 rfl) (s_callp rfl rfl (Ret.eqv (metric_IsSize_c) (congrArg Value.bool h0)) (s_mv rfl (s_g1 rfl (s_fa E rfl rfl (s_g1 rfl (s_ld E rfl rfl (bc0 rfl) (s_g1 rfl (s_len E rfl rfl (s_g1 rfl (s_cmp (c := true) rfl rfl (decide_eq_true h1) (s_pk rfl (s_mv rfl (s_g1 rfl (s_fa E rfl rfl (s_g1 rfl (s_ld E rfl rfl (bc0 rfl) (s_g1 rfl (s_callx rfl rfl (Ret.eqv (callA _ (hm.ext e1)) (congrArg Value.bool h2)) fun w1 hE1 => (s_pk rfl (s_mv rfl (s_g0 rfl (s_g0 rfl (s_g0 rfl (s_pk rfl (s_mv rfl (s_g0 rfl (s_g0 rfl (s_g0 rfl (s_pk rfl (s_as rfl (s_nil ?_)))))))))))))))))))))))))))))))))
    exact W_ret ⟨_, rfl, by simp only [validM, h0, h1', h2, decide_true, Bool.false_and, Bool.true_and]; rfl, e1.trans hE1⟩
  cases h3 : risingB codeCmp m.chars
  · refine W_sr rfl (s_fa E rfl rfl (s_ld E rfl rfl (bc0 rfl) (s_callp rfl rfl (Ret.eqv (metric_IsSize_c) (congrArg Value.bool h0)) (s_mv rfl (s_g1 rfl (s_fa E rfl rfl (s_g1 rfl (s_ld E rfl rfl (bc0 rfl) (s_g1 rfl (s_len E rfl rfl (s_g1 rfl (s_cmp (c := true) rfl rfl (decide_eq_true h1) (s_pk rfl (s_mv rfl (s_g1 rfl (s_fa E rfl rfl (s_g1 rfl (s_ld E rfl rfl (bc0 rfl) (s_g1 rfl (s_callx rfl rfl (Ret.eqv (callA _ (hm.ext e1)) (congrArg Value.bool h2)) fun w1 hE1 => (s_pk rfl (s_mv rfl (s_g1 rfl (s_fa E rfl rfl (s_g1 rfl (s_ld E rfl rfl (Ext.cell hE1 (bc0 rfl)) (s_g1 rfl (s_callx rfl rfl (Ret.eqv (callR _ (hm.ext (e1.trans hE1))) (congrArg Value.bool h3)) fun w2 hE2 => (s_pk rfl (s_mv rfl (s_g0 rfl (s_g0 rfl (s_g0 rfl (s_pk rfl (s_as rfl (s_nil ?_))))))))))))))))))))))))))))))))))))
    exact W_ret ⟨_, rfl, by simp only [validM, h0, h1', h2, h3, decide_true, Bool.false_and, Bool.true_and]; rfl, (e1.trans hE1).trans hE2⟩
  refine W_sr rfl (s_fa E rfl rfl (s_ld E rfl rfl (bc0 rfl) (s_callp rfl rfl (Ret.eqv (metric_IsSize_c) (congrArg Value.bool h0)) (s_mv rfl (s_g1 rfl (s_fa E rfl rfl (s_g1 rfl (s_ld E rfl rfl (bc0 rfl) (s_g1 rfl (s_len E rfl rfl (s_g1 rfl (s_cmp (c := true) rfl rfl (decide_eq_true h1) (s_pk rfl (s_mv rfl (s_g1 rfl (s_fa E rfl rfl (s_g1 rfl (s_ld E rfl rfl (bc0 rfl) (s_g1 rfl (s_callx rfl rfl (Ret.eqv (callA _ (hm.ext e1)) (congrArg Value.bool h2)) fun w1 hE1 => (s_pk rfl (s_mv rfl (s_g1 rfl (s_fa E rfl rfl (s_g1 rfl (s_ld E rfl rfl (Ext.cell hE1 (bc0 rfl)) (s_g1 rfl (s_callx rfl rfl (Ret.eqv (callR _ (hm.ext (e1.trans hE1))) (congrArg Value.bool h3)) fun w2 hE2 => (s_pk rfl (s_mv rfl (s_g1 rfl (s_fa E rfl rfl (s_g1 rfl (s_ld E rfl rfl (Ext.cell (hE1.trans hE2) (bc0 rfl)) (s_g1 rfl (s_callx rfl rfl (metric_ValidRules_c rfl hm.nru ((hm.ext (e1.trans (hE1.trans hE2))).ru)) fun w3 hE3 => (s_pk rfl (s_as rfl (s_nil ?_)))))))))))))))))))))))))))))))))))))))
  exact W_ret ⟨_, rfl, by simp only [validM, h0, h1', h2, h3, decide_true, Bool.true_and]; rfl, (e1.trans hE1).trans (hE2.trans hE3)⟩
end Go.Proofs.YthfnijlgmjkedaaGreat
namespace Go.Proofs.YthfnijlgmjkedaaGreat
set_option maxRecDepth 100000
set_option linter.unusedVariables false
set_option linter.unusedSimpArgs false
open Go Go.Fx Go.Proofs.YthfnijlgmjkedaaGreat.Tab
abbrev bV (n : Int) : Value := .int .u8 n
def bytes2 (n : Int) : List Int := [n / 256 % 256, n % 256]
def bytes4 (n : Int) : List Int := [n / 16777216 % 256, n / 65536 % 256, n / 256 % 256, n % 256]
/-- a pointer to a struct of one slice of bytes; S: its blocks -/
def FileR (w : World) (S : Nat → Prop) (a : Nat) (bs : List Int) : Prop :=
  ∃ v ty, w.heap[a]? = some (.cells #[v] ty (0, 0)) ∧ OwnF w 5 1 v bs.length (bs.map bV) ∧ S a ∧ ∀ k, v.ownBlock = some k → S k ∧ k ≠ a
theorem own_head {w : World} {a : Nat} {v : Value} {ty : TypeId} {f : Nat × Nat} (h : w.heap[a]? = some (.cells #[v] ty f)) : w.cell? ⟨a, 0, none⟩ = some v := by simp [World.cell?, h]
theorem FileR.mod {w w' : World} {S M : Nat → Prop} {a : Nat} {bs : List Int} (h : FileR w S a bs) (hm : Mod M w w') (hd : ∀ k, S k → ¬ M k) : FileR w' S a bs := by
  obtain ⟨v, ty, h1, h2, h3, h4⟩ := h
  exact ⟨v, ty, hm.heap h1 (hd _ h3), OwnF.mod hm h2 (fun k hk => hd _ (h4 k hk).1), h3, h4⟩
/-- what a write makes of it -/
theorem FileR.write {w w2 : World} {S : Nat → Prop} {a : Nat} {bs news : List Int} {v v' : Value} {ty : TypeId} {o : Obj} (h1 : w.heap[a]? = some (.cells #[v] ty (0, 0))) (h3 : S a) (h4 : ∀ k, v.ownBlock = some k → S k ∧ k ≠ a)
    (hown' : Own w2 5 1 v' (bs.length + news.length) (bs.map bV ++ news.map bV)) (hmod : Mod (fun k => v.ownBlock = some k) (w.alloc o) w2) (hon : OldOrNew (w.alloc o) v v') :
    w2.heap[a]? = some (.cells #[v] ty (0, 0)) ∧ FileR (w2.setRow a #[v']) (fun k => S k ∨ w.heap.size ≤ k ∧ k < (w2.setRow a #[v']).heap.size) a (bs ++ news) ∧ Mod S w (w2.setRow a #[v']) := by
  have ha : a < w.heap.size := (Array.getElem?_eq_some_iff.1 h1).1
  have hh : w2.heap[a]? = some (.cells #[v] ty (0, 0)) := hmod.heap (Ext.heap e1 h1) (fun he => (h4 a he).2 rfl)
  have hne : ∀ k, v'.ownBlock = some k → k ≠ a ∧ (S k ∨ w.heap.size ≤ k ∧ k < (w2.setRow a #[v']).heap.size) := by
    intro k hk
    rcases hon with h | ⟨j, hj, hle⟩
    · rw [h] at hk; exact ⟨(h4 k hk).2, .inl (h4 k hk).1⟩
    · rw [hj] at hk; cases hk
      simp at hle
      have hlt := Own.lt hown' hj
      exact ⟨by omega, .inr ⟨by omega, by simpa using hlt⟩⟩
  refine ⟨hh, ⟨v', ty, setRow_heap w2 a _ _ ty (0, 0) hh, ?_, .inl h3, fun k hk => ⟨(hne k hk).2, (hne k hk).1⟩⟩, ?_⟩
  · rw [List.length_append, List.map_append]
    exact .inl <| Mod.owns (M := fun k => k = a) (setRow_mod rfl) hown' (fun k hk => (hne k hk).1)
  · exact (Mod.of_ext e1).trans ((hmod.mono fun k _ hk => (h4 k hk).1).trans (setRow_mod h3))
section
variable {w : World} {S : Nat → Prop} {a : Nat} {bs : List Int} {n : Int}
theorem metric_File_One_c (hf : FileR w S a bs) (hl : bs.length ≤ 1000000) :
    Ret Go.Proofs.Tryz.prog 75 #[.pointer (some ⟨a, 0, none⟩), iV n] w fun v w' => v = .tuple #[] ∧ FileR w' (fun k => S k ∨ w.heap.size ≤ k ∧ k < w'.heap.size) a (bs ++ [n % 256]) ∧ Mod S w w' := by
  obtain ⟨v, ty, h1, h2, h3, h4⟩ := hf
  refine enter Go.Proofs.Tryz.func75 rfl rfl rfl ?_
  refine W_reg rfl (s_mv rfl (s_mv rfl (s_nc rfl (s_fa E rfl rfl (s_ld E rfl rfl (own_head h1) (s_mv rfl (s_cvb E rfl rfl rfl (s_bs E rfl rfl rfl rfl rfl (cells := #[bV (n % 256)]) (by kernel_rfl) (s_apF E rfl rfl rfl rfl (OwnF.mod e1 h2 (fun _ _ h => h)) rfl rfl bcr rfl rfl rfl (by omega) fun v' w2 hown' hmod hon => (s_nc rfl (s_fa E rfl rfl (s_st1 E rfl rfl rfl rfl hown'.one (FileR.write (news := [n % 256]) h1 h3 h4 hown' hmod hon).1 Nat.zero_lt_one (s_nil ?_)))))))))))))
  exact ⟨_, rfl, rfl, (FileR.write (news := [n % 256]) h1 h3 h4 hown' hmod hon).2⟩
theorem metric_File_Two_c (hf : FileR w S a bs) (hl : bs.length ≤ 1000000) :
    Ret Go.Proofs.Tryz.prog 74 #[.pointer (some ⟨a, 0, none⟩), iV n] w fun v w' => v = .tuple #[] ∧ FileR w' (fun k => S k ∨ w.heap.size ≤ k ∧ k < w'.heap.size) a (bs ++ bytes2 n) ∧ Mod S w w' := by
  obtain ⟨v, ty, h1, h2, h3, h4⟩ := hf
  refine enter Go.Proofs.Tryz.func74 rfl rfl rfl ?_
  refine W_reg rfl (s_mv rfl (s_mv rfl (s_nc rfl (s_fa E rfl rfl (s_ld E rfl rfl (own_head h1) (s_mv rfl (s_shk rfl rfl (by decide) (c := 256) (by decide) (by decide) (s_cvb E rfl rfl rfl (s_mv rfl (s_cvb E rfl rfl rfl (s_bs E rfl rfl rfl rfl rfl (cells := #[bV (n / 256 % 256), bV (n % 256)]) (by kernel_rfl) (s_apF E rfl rfl rfl rfl (OwnF.mod e1 h2 (fun _ _ h => h)) rfl rfl bcr rfl rfl rfl (by omega) fun v' w2 hown' hmod hon => (s_nc rfl (s_fa E rfl rfl (s_st1 E rfl rfl rfl rfl hown'.one (FileR.write (news := bytes2 n) h1 h3 h4 hown' hmod hon).1 Nat.zero_lt_one (s_nil ?_))))))))))))))))
  exact ⟨_, rfl, rfl, (FileR.write (news := bytes2 n) h1 h3 h4 hown' hmod hon).2⟩
theorem metric_File_Four_c (hf : FileR w S a bs) (hl : bs.length ≤ 1000000) :
    Ret Go.Proofs.Tryz.prog 69 #[.pointer (some ⟨a, 0, none⟩), iV n] w fun v w' => v = .tuple #[] ∧ FileR w' (fun k => S k ∨ w.heap.size ≤ k ∧ k < w'.heap.size) a (bs ++ bytes4 n) ∧ Mod S w w' := by
  obtain ⟨v, ty, h1, h2, h3, h4⟩ := hf
  refine enter Go.Proofs.Tryz.func69 rfl rfl rfl ?_
  refine W_reg rfl (s_mv rfl (s_mv rfl (s_nc rfl (s_fa E rfl rfl (s_ld E rfl rfl (own_head h1) (s_mv rfl (s_shk rfl rfl (by decide) (c := 16777216) (by decide) (by decide) (s_cvb E rfl rfl rfl (s_mv rfl (s_shk rfl rfl (by decide) (c := 65536) (by decide) (by decide) (s_cvb E rfl rfl rfl (s_mv rfl (s_shk rfl rfl (by decide) (c := 256) (by decide) (by decide) (s_cvb E rfl rfl rfl (s_mv rfl (s_cvb E rfl rfl rfl (s_bs E rfl rfl rfl rfl rfl (cells := #[bV (n / 16777216 % 256), bV (n / 65536 % 256), bV (n / 256 % 256), bV (n % 256)]) (by kernel_rfl) (s_apF E rfl rfl rfl rfl (OwnF.mod e1 h2 (fun _ _ h => h)) rfl rfl bcr rfl rfl rfl (by omega) fun v' w2 hown' hmod hon => (s_nc rfl (s_fa E rfl rfl (s_st1 E rfl rfl rfl rfl hown'.one (FileR.write (news := bytes4 n) h1 h3 h4 hown' hmod hon).1 Nat.zero_lt_one (s_nil ?_))))))))))))))))))))))
  exact ⟨_, rfl, rfl, (FileR.write (news := bytes4 n) h1 h3 h4 hown' hmod hon).2⟩
end
end Go.Proofs.YthfnijlgmjkedaaGreat
namespace Go.Proofs.YthfnijlgmjkedaaGreat
set_option maxRecDepth 100000
set_option linter.unusedVariables false
set_option linter.unusedSimpArgs false
open Go Go.Fx Go.Proofs.YthfnijlgmjkedaaGreat.Tab
def sumFrom : Nat → Int → List Int → Int
  | _, s, [] => s
  | i, s, c :: l => sumFrom (i + 1) ((s + (i + 1) * c) % 4294967296) l
def sumB (l : List Int) : Int := sumFrom 0 0 l
theorem sumFrom_bd (l : List Int) : ∀ (i : Nat) (s : Int), 0 ≤ s ∧ s < 4294967296 → 0 ≤ sumFrom i s l ∧ sumFrom i s l < 4294967296 := by
  induction l with
  | nil => intro i s h; exact h
  | cons c l ih => intro i s h; exact ih _ _ ⟨Int.emod_nonneg _ (by decide), Int.emod_lt_of_pos _ (by decide)⟩
theorem sum_step (s c : Int) (i : Int) : (s + ((i + 1) % 4294967296 * (c % 4294967296)) % 4294967296) % 4294967296 = (s + (i + 1) * c) % 4294967296 := by
  rw [← Int.mul_emod, Int.add_emod, Int.emod_emod_of_dvd _ (Int.dvd_refl _), ← Int.add_emod]
theorem sl_bytes {w : World} {p : Option Addr} {l : List Int} (hp : SlR w p (l.map bV)) {i : Nat} (hi : i < l.length) : ∃ a, p = some a ∧ w.cell? (a.add (i * 1)) = some (bV l[i]) := by
  obtain ⟨a, rfl, h⟩ := hp.some (by intro h0; simp at h0; subst h0; simp at hi)
  exact ⟨a, rfl, by rw [Nat.mul_one]; exact h i _ (by simp [hi])⟩
theorem metric_Sum_c {p : Option Addr} {n c : Nat} {l : List Int} {w : World} (hn : n = l.length) (hm : n ≤ 1000100) (hp : SlR w p (l.map bV)) :
    Ret Go.Proofs.Tryz.prog 102 #[.slice p n c] w fun v w' => v = iV (sumB l) ∧ w' = w := by
  refine enter Go.Proofs.Tryz.func102 rfl rfl rfl ?_
  refine W_sr rfl (s_as rfl (s_nil ?_))
  refine W_sr rfl (s_as rfl (s_nil ?_))
  refine W_seq ?_
  refine W_sr rfl (s_mv rfl (s_len E rfl rfl (s_mv rfl (s_nil ?_))))
  refine W_block ?_
  refine W_loop (fun m ρ w' => ∃ ρ' i s, ρ = upd (upd (upd (upd ρ' 3 (.int .u32 s)) 6 (.slice p n c)) 7 (iV n)) 8 (iV (i : Nat)) ∧ w' = w ∧ i ≤ n ∧ m = n - i ∧ sumB l = sumFrom i s (l.drop i) ∧ 0 ≤ s ∧ s < 4294967296) n
    ⟨_, 0, 0, u4 rfl rfl rfl rfl, rfl, by omega, by omega, rfl, by decide, by decide⟩ ?_
  rintro m _ _ ⟨ρ, i, s, rfl, rfl, hi, rfl, ho, hs0, hs1⟩
  refine W_sr rfl (s_lss rfl rfl (s_nil ?_))
  refine W_seq ?_
  refine W_if rfl (fun hc => W_skip ?_) (fun hc => W_exit ?_)
  · have hc := of_decide_eq_true hc
    have hil : i < l.length := by omega
    obtain ⟨a, rfl, hcell⟩ := sl_bytes hp hil
    refine W_seq (W_block ?_)
    refine W_sr rfl (s_mv rfl (s_ia E rfl rfl rfl rfl (by omega) (s_ld E rfl rfl hcell (s_as rfl (s_as rfl (s_nil ?_))))))
    refine W_reg rfl (s_mv rfl (s_mv rfl (s_add rfl rfl (by omega) (s_cv E rfl rfl rfl (s_mv rfl (s_cv E rfl rfl rfl (s_mulw rfl rfl (s_addw rfl rfl (s_as rfl (s_nil ?_))))))))))
    refine W_reg rfl (s_add rfl rfl (by omega) (s_mv rfl (s_nil ?_)))
    refine ⟨n - (i + 1), by omega, _, i + 1, _, u4 rfl rfl rfl rfl, rfl, by omega, rfl, ?_, ?_⟩
    · rw [ho, List.drop_eq_getElem_cons hil, sumFrom]
      congr 1
      exact (sum_step s l[i] i).symm
    · show 0 ≤ _ % 4294967296 ∧ _ % 4294967296 < 4294967296
      exact ⟨Int.emod_nonneg _ (by decide), Int.emod_lt_of_pos _ (by decide)⟩
  · have hc := of_decide_eq_false hc
    refine W_sr rfl (s_mv rfl (s_cv E rfl rfl rfl (s_as rfl (s_nil ?_))))
    refine W_ret ⟨_, rfl, ?_, rfl⟩
    rw [ho, List.drop_of_length_le (by omega)]
    show iV (IntKind.i64.wrap s) = iV s
    rw [wrap64_in (by omega) (by omega)]
theorem metric_File_Finish_c {w : World} {S : Nat → Prop} {a : Nat} {bs : List Int} (hf : FileR w S a bs) (hl : bs.length ≤ 1000000) :
    Ret Go.Proofs.Tryz.prog 77 #[.pointer (some ⟨a, 0, none⟩)] w fun v w' => (∃ p c, v = .slice p (bs.length + 4) c ∧ bs.length + 4 ≤ c ∧ SlR w' p ((bs ++ bytes4 (sumB bs)).map bV) ∧ OwnF w' 5 1 v (bs.length + 4) ((bs ++ bytes4 (sumB bs)).map bV) ∧ ∀ k, v.ownBlock = some k → S k ∨ w.heap.size ≤ k) ∧ Mod S w w' := by
  obtain ⟨v, ty, h1, h2, h3, h4⟩ := id hf
  obtain ⟨p, c, rfl, hsl, _⟩ := h2.form
  refine enter Go.Proofs.Tryz.func77 rfl rfl rfl ?_
  refine W_sr rfl (s_as rfl (s_nil ?_))
  refine W_sr rfl (s_mv rfl (s_mv rfl (s_nc rfl (s_fa E rfl rfl (s_ld E rfl rfl (own_head h1) (s_callp rfl rfl (metric_Sum_c rfl (by omega) hsl) (s_callx rfl rfl (metric_File_Four_c hf hl) fun w2 h2 => (s_nil ?_))))))))
  obtain ⟨⟨v', ty', k1, k2, k3, k4⟩, hmod⟩ := h2
  refine W_sr rfl (s_mv rfl (s_nc rfl (s_fa E rfl rfl (s_ld E rfl rfl (own_head k1) (s_as rfl (s_nil ?_))))))
  obtain ⟨p', c', rfl, hsl', hle⟩ := k2.form
  have hlen : (bs ++ bytes4 (sumB bs)).length = bs.length + 4 := by simp [bytes4]
  rw [hlen] at k2 hle
  refine W_ret ⟨_, rfl, ⟨p', c', ?_, hle, hsl', ?_, ?_⟩, hmod⟩
  · show Value.slice p' (bs ++ bytes4 (sumB bs)).length c' = _
    rw [hlen]
  · show OwnF _ _ 1 (Value.slice p' (bs ++ bytes4 (sumB bs)).length c') _ _
    rw [hlen]; exact k2
  · intro k hk
    rcases (k4 k hk).1 with h | h
    · exact .inl h
    · exact .inr h.1
end Go.Proofs.YthfnijlgmjkedaaGreat

/- Contracts of functions that the laws of this seat call: what each answers, for every input that its hypotheses name. -/
import Derived.Test.YthfnijlgmjkedaaGreatG1
import Derived.Laws.AppendOwn
import Derived.Laws.AppendOwnNone
import Derived.Laws.MakeOwn
import Derived.Laws.BytesArg
import Derived.Laws.StructEq
import Derived.Laws.Cover3
import Derived.Below
import Derived.ChangeSame
import Derived.Carry
import Derived.Deep.Slices
import Derived.OpenShut
import Derived.Test.YthfnijlgmjkedaaGreatProg
import Derived.KernelRfl
namespace Go.Fx
open Go.RowKit

/-! ## slices that the call itself has made: v starts at the head of a block that nobody else has -/
abbrev Own (w : World) (e : TypeId) (sz : Nat) (v : Value) (n : Nat) (xs : List Value) : Prop := w.ownsRow 0 e sz v n xs
theorem Own.nil (w : World) (e : TypeId) (sz : Nat) : Own w e sz (.slice none 0 0) 0 [] := World.ownsRow_nil w 0 e sz
theorem Own.form {w : World} {e : TypeId} {sz : Nat} {v : Value} {n : Nat} {xs : List Value} (h : Own w e sz v n xs) :
    ∃ p c, v = .slice p n c ∧ SlR w p xs ∧ n ≤ c ∧ (∀ a, p = some a → v.ownBlock = some a.block ∧ a = ⟨a.block, 0, none⟩) := by
  obtain ⟨hl, h⟩ := h
  rcases h with ⟨rfl, rfl⟩ | ⟨g, cap, cur, rfl, hb, hg, hnc, hcm, hcs, ht⟩
  · refine ⟨none, 0, rfl, ?_, Nat.le_refl _, by simp⟩
    show xs = []
    exact List.eq_nil_of_length_eq_zero (by simpa using hl)
  · refine ⟨some ⟨g, 0, none⟩, cap, rfl, ?_, hnc, by rintro a ⟨⟩; exact ⟨rfl, rfl⟩⟩
    have := World.ownsRow.cells (w := w) (base := 0) (e := e) (size := sz) (v := .slice (some ⟨g, 0, none⟩) n cap) (n := n) (xs := xs) ⟨hl, .inr ⟨g, cap, cur, rfl, hb, hg, hnc, hcm, hcs, ht⟩⟩ (g := g) rfl
    exact this
theorem Own.slr {w : World} {e : TypeId} {sz : Nat} {p : Option Addr} {n c : Nat} {xs : List Value} (h : Own w e sz (.slice p n c) n xs) : SlR w p xs := by
  obtain ⟨p', c', h1, h2, _⟩ := h.form; cases h1; exact h2
theorem Own.lt {w : World} {e : TypeId} {sz : Nat} {v : Value} {n : Nat} {xs : List Value} (h : Own w e sz v n xs) {k : Nat} (hk : v.ownBlock = some k) : k < w.heap.size := (World.ownsRow.lt h k hk).2
theorem Own.len {w : World} {e : TypeId} {sz : Nat} {v : Value} {n : Nat} {xs : List Value} (h : Own w e sz v n xs) : xs.length = n * sz := h.1
/-- the block is the old one, or a new one -/
def OldOrNew (w : World) (v v' : Value) : Prop := v'.ownBlock = v.ownBlock ∨ ∃ k, v'.ownBlock = some k ∧ w.heap.size ≤ k
section
variable {P : Program} {L os : List Oper} {K : Fr → World → Prop} {ρ : Fr} {w : World} {d : Option Tmp} {T : TypeId} {pos : String} {af : Array Edge}
theorem run_ap (w : World) (t ty e : TypeId) (i : TypeInfo) (z : Value) (ht : P.underlying t = some (.slice e)) (hi : P.info? e = some i) (hz : i.zero = some z) (hzs : z.cells.size = i.size) (hsz : 0 < i.size)
    (v : Value) (n : Nat) (xs : List Value) (hown : Own w e i.size v n xs) (a : Addr) (m c : Nat) (news : List Value) (hl : news.length = m * i.size) (hnews : Row w a news) (h1 : news.all (·.oneCell') = true)
    (hbytes : (n + m) * i.bytes ≤ 140737488355328) (h63 : n + m ≤ maxLen) :
    ∃ v' w', (Builtin.append_ #[t, t] ty #[v, .slice (some a) m c]).run P w = .ok v' w' ∧ Own w' e i.size v' (n + m) (xs ++ news) ∧ Mod (fun k => v.ownBlock = some k) w w' ∧ OldOrNew w v v' := by
  obtain ⟨v', w', hr, hown', hgr, hnil⟩ := run_append_own (P := P) w 0 t ty e i z i.size i.bytes ht hi hz rfl rfl hzs hsz v n xs hown a m c news hl hnews (by simpa using h1) h63 hbytes (Nat.zero_le _)
  refine ⟨v', w', hr, hown', Mod.grown hgr (fun k hk => hk), ?_⟩
  rcases hown.2 with ⟨rfl, rfl⟩ | ⟨g, cap, cur, rfl, hbg, hg, hnc, hcm, hcs, htake⟩
  · by_cases hm : m = 0
    · have := hnil.2 ⟨rfl, hm⟩; subst this; exact .inl rfl
    · have hr' := run_append_nil (P := P) w t ty e i z ht hi hz a m c news hl hnews (by omega) (by simp only [maxLen] at h63; omega) (by have hb := hbytes; simp only [Nat.zero_add] at hb; omega)
      rw [hr'] at hr
      cases hr
      exact .inr ⟨_, rfl, Nat.le_refl _⟩
  · by_cases hroom : n + m ≤ cap
    · have hfit : n * i.size + news.length ≤ cur.size := by rw [hl, hcs, ← Nat.add_mul]; exact Nat.mul_le_mul_right _ hroom
      have hr' := run_append_room (P := P) w t ty e i ht hi g n cap cur hg a m c news hl hnews (by simpa using h1) hroom hfit
      rw [hr'] at hr
      cases hr
      exact .inl rfl
    · have holds : ∀ j u, xs[j]? = some u → w.cell? ((⟨g, 0, none⟩ : Addr).add j) = some u := World.ownsRow.cells hown (g := g) rfl
      have hr' := run_append_grow (P := P) w t ty e i z ht hi hz ⟨g, 0, none⟩ n cap xs hown.1 holds a m c news hl hnews (by omega) (by simp only [maxLen] at h63; omega) (growslice_fits (by omega) hbytes)
      rw [hr'] at hr
      cases hr
      exact .inr ⟨_, rfl, Nat.le_refl _⟩
/-- append onto a slice of the call's own -/
theorem s_ap (E : Env P) {x y : Operand} {t e : TypeId} {sz m c n by_ : Nat} {z v : Value} {a : Addr} {xs news : List Value}
    (hs : E.sl t = some (e, sz)) (hz : E.zr e = some z) (hb : E.bt e = some by_) (hzs : (Nat.beq z.cells.size sz && Nat.blt 0 sz) = true) (hown : Own w e sz v n xs) (hx : ev ρ x = v)
    (hy : ev ρ y = .slice (some a) m c) (hr : Row w a news) (hl : news.length = m * sz) (h1 : news.all (·.oneCell') = true) (hle : (n + m) * by_ ≤ 140737488355328 ∧ n + m ≤ 9223372036854775807)
    (h : ∀ v' w', Own w' e sz v' (n + m) (xs ++ news) → Mod (fun k => v.ownBlock = some k) w w' → OldOrNew w v v' → vcs P L K os (put ρ d v') w') :
    vcs P L K (⟨d, .call { callee := .builtin .append, args := #[x, y], argTypes := #[t, t] }, T, pos, af, none⟩ :: os) ρ w := by
  obtain ⟨hu, i, hi, hn⟩ := E.h_sl _ _ _ hs
  obtain ⟨i', hi', hv⟩ := E.h_zr _ _ hz
  rw [hi] at hi'; cases hi'
  obtain ⟨i', hi', hbb⟩ := E.h_bt _ _ hb
  rw [hi] at hi'; cases hi'
  subst hn; subst hbb
  simp only [Bool.and_eq_true, Nat.beq_eq, Nat.blt_eq] at hzs
  obtain ⟨v', w', hrun, h2, h3, h4⟩ := run_ap (P := P) w t T e i z hu hi hv hzs.1 hzs.2 v n xs hown a m c news hl hr h1 hle.1 (by simp only [maxLen]; omega)
  refine s_val (v := v') (w' := w') ?_ (h v' w' h2 h3 h4)
  simp [execOp, resolve, invoke, builtin, hx, hy, hrun]
/-- a slice that is full: an append makes a new one -/
def OwnF (w : World) (e : TypeId) (sz : Nat) (v : Value) (n : Nat) (xs : List Value) : Prop :=
  Own w e sz v n xs ∨ (xs.length = n * sz ∧ ∃ a, v = .slice (some a) n n ∧ Row w a xs)
theorem OwnF.form {w : World} {e : TypeId} {sz : Nat} {v : Value} {n : Nat} {xs : List Value} (h : OwnF w e sz v n xs) : ∃ p c, v = .slice p n c ∧ SlR w p xs ∧ n ≤ c := by
  rcases h with h | ⟨_, a, rfl, h⟩
  · obtain ⟨p, c, h1, h2, h3, _⟩ := h.form; exact ⟨p, c, h1, h2, h3⟩
  · exact ⟨some a, n, rfl, h, Nat.le_refl _⟩
theorem OwnF.mod {M : Nat → Prop} {w w' : World} (h : Mod M w w') {e : TypeId} {sz : Nat} {v : Value} {n : Nat} {xs : List Value} (ho : OwnF w e sz v n xs) (hm : ∀ k, v.ownBlock = some k → ¬ M k) : OwnF w' e sz v n xs := by
  rcases ho with ho | ⟨h1, a, rfl, h2⟩
  · exact .inl (h.owns ho hm)
  · exact .inr ⟨h1, a, rfl, h.row h2 (hm _ rfl)⟩
theorem s_apF (E : Env P) {x y : Operand} {t e : TypeId} {sz m c n by_ : Nat} {z v : Value} {a : Addr} {xs news : List Value}
    (hs : E.sl t = some (e, sz)) (hz : E.zr e = some z) (hb : E.bt e = some by_) (hzs : (Nat.beq z.cells.size sz && Nat.blt 0 sz) = true) (hown : OwnF w e sz v n xs) (hx : ev ρ x = v)
    (hy : ev ρ y = .slice (some a) m c) (hr : Row w a news) (hl : news.length = m * sz) (hm : Nat.blt 0 m = true) (h1 : news.all (·.oneCell') = true) (hle : (n + m) * by_ ≤ 140737488355328 ∧ n + m ≤ 9223372036854775807)
    (h : ∀ v' w', Own w' e sz v' (n + m) (xs ++ news) → Mod (fun k => v.ownBlock = some k) w w' → OldOrNew w v v' → vcs P L K os (put ρ d v') w') :
    vcs P L K (⟨d, .call { callee := .builtin .append, args := #[x, y], argTypes := #[t, t] }, T, pos, af, none⟩ :: os) ρ w := by
  rcases hown with hown | ⟨hlx, b, rfl, hrow⟩
  · exact s_ap E hs hz hb hzs hown hx hy hr hl h1 hle h
  · obtain ⟨hu, i, hi, hn⟩ := E.h_sl _ _ _ hs
    obtain ⟨i', hi', hv⟩ := E.h_zr _ _ hz
    rw [hi] at hi'; cases hi'
    obtain ⟨i', hi', hbb⟩ := E.h_bt _ _ hb
    rw [hi] at hi'; cases hi'
    subst hn; subst hbb
    simp only [Bool.and_eq_true, Nat.beq_eq, Nat.blt_eq] at hzs hm
    have hrun := run_append_grow (P := P) w t T e i z hu hi hv b n n xs hlx hrow a m c news hl hr (by omega) (by omega) (growslice_fits (by omega) hle.1)
    refine s_val (v := _) (w' := _) (by simp only [execOp, resolve, invoke, builtin, List.map_toArray, List.map_cons, List.map_nil, hx, hy, Sem.run_bind, Sem.run_pure, Result.andThen_ok, hrun]; rfl) (h _ _ ?_ ?_ (.inr ⟨_, rfl, Nat.le_refl _⟩))
    · have hge := grownCap_ge w (n + m) n e
      refine ⟨by rw [List.length_append, hlx, hl, Nat.add_mul], .inr ⟨w.heap.size, _, _, rfl, Nat.zero_le _, heap_alloc_new w.drew _, hge, grownCap_le_maxLen w (n + m) n e (by simp only [maxLen]; omega), ?_, ?_⟩⟩
      · simp only [Array.size_append, List.size_toArray, size_zeroCells, hzs.1, hlx, hl, ← Nat.add_mul]
        congr 1
        omega
      · simp only [Array.toList_append, List.append_assoc]
        rw [← List.append_assoc, show (n + m) * i.size = (xs ++ news).length by rw [List.length_append, hlx, hl, Nat.add_mul]]
        exact List.take_left
    · exact ⟨rfl, rfl, rfl, by simp, fun k hk _ => heap_alloc_old w.drew _ k hk⟩
/-- append of a nil slice -/
theorem s_ap0 (E : Env P) {x y : Operand} {t e : TypeId} {sz n : Nat} {v : Value} {xs : List Value} (hs : E.sl t = some (e, sz)) (hown : Own w e sz v n xs) (hx : ev ρ x = v) (hy : ev ρ y = .slice none 0 0)
    (h : vcs P L K os (put ρ d v) w) : vcs P L K (⟨d, .call { callee := .builtin .append, args := #[x, y], argTypes := #[t, t] }, T, pos, af, none⟩ :: os) ρ w := by
  obtain ⟨hu, i, hi, hn⟩ := E.h_sl _ _ _ hs
  have hrun := run_append_owned_none (P := P) (w := w) 0 t T e i sz hu hi v n xs hown
  refine s_val (v := v) (w' := w) ?_ h
  simp [execOp, resolve, invoke, builtin, hx, hy, hrun]
/-! ### new blocks, the new world under a name -/
theorem alloc_facts {o : Obj} : Ext w (w.alloc o) ∧ (w.alloc o).heap[w.heap.size]? = some o ∧ (w.alloc o).heap.size = w.heap.size + 1 := ⟨e1, al_heap, by simp⟩
theorem s_bxA {e : TypeId} {x : Operand} {v : Value} (hx : ev ρ x = v)
    (h : ∀ w', Ext w w' → w'.heap[w.heap.size]? = some (.cells v.cells e (0, 0)) → w'.heap.size = w.heap.size + 1 → vcs P L K os (put ρ d (.pointer (some ⟨w.heap.size, 0, none⟩))) w') :
    vcs P L K (⟨d, .box e x, T, pos, af, none⟩ :: os) ρ w :=
  s_bx hx (h _ alloc_facts.1 alloc_facts.2.1 alloc_facts.2.2)
theorem s_alA (E : Env P) {e : TypeId} {v : Value} (hz : E.zr e = some v)
    (h : ∀ w', Ext w w' → w'.heap[w.heap.size]? = some (.cells v.cells e (0, 0)) → w'.heap.size = w.heap.size + 1 → vcs P L K os (put ρ d (.pointer (some ⟨w.heap.size, 0, none⟩))) w') :
    vcs P L K (⟨d, .alloc e, T, pos, af, none⟩ :: os) ρ w :=
  s_al E hz (h _ alloc_facts.1 alloc_facts.2.1 alloc_facts.2.2)
theorem s_bsA (E : Env P) {t e : TypeId} {n len : Nat} {z : Value} {ps : Array (Nat × Operand)} {qs : List (Nat × Value)} {cells : Array Value} (hs : E.sl t = some (e, n)) (hz : E.zr e = some z) (hle : Nat.ble (len * n) 16777216 = true) (hne : Nat.blt 0 (len * n) = true)
    (hq : ps.toList.map (fun p => (p.1, ev ρ p.2)) = qs) (hf : Instr.fill (fun i => some (i * n, n)) ((Array.range (len * n)).map (z.cells[· % z.cells.size]!)) qs = some cells)
    (h : ∀ w', Ext w w' → w'.heap[w.heap.size]? = some (.cells cells e (0, 0)) → w'.heap.size = w.heap.size + 1 → vcs P L K os (put ρ d (.slice (some ⟨w.heap.size, 0, none⟩) len len)) w') :
    vcs P L K (⟨d, .buildSlice t len ps, T, pos, af, none⟩ :: os) ρ w :=
  s_bs E hs hz hle hne hq hf (h _ alloc_facts.1 alloc_facts.2.1 alloc_facts.2.2)
/-! ### numbers, as bytes are made of them -/
theorem s_shk {x y : Operand} {t yt : TypeId} {k k' : IntKind} {a b c : Int} (hx : ev ρ x = .int k a) (hy : ev ρ y = .int k' b) (hb : 0 ≤ b) (hc : (2 : Int) ^ min b.toNat k.bits = c) (h0 : 0 ≤ c)
    (h : vcs P L K os (put ρ d (.int k (a / c))) w) : vcs P L K (⟨d, .binOp .shr t x y yt, T, pos, af, none⟩ :: os) ρ w :=
  s_shr hx hy hb (by rw [hc, Int.fdiv_eq_ediv_of_nonneg _ h0]; exact h)
theorem s_cvb (E : Env P) {x : Operand} {t st : TypeId} {k sk : IntKind} {a : Int} (hs : E.kd st = some sk) (hd : E.kd t = some .u8) (hx : ev ρ x = .int k a) (h : vcs P L K os (put ρ d (.int .u8 (a % 256))) w) :
    vcs P L K (⟨d, .convert st t x, T, pos, af, none⟩ :: os) ρ w :=
  s_cv E hs hd hx h
theorem cells_one {v : Value} (h : v.oneCell' = true) : v.cells = #[v] := by cases v <;> first | rfl | simp [Value.oneCell'] at h
theorem Own.one {w : World} {e : TypeId} {sz : Nat} {v : Value} {n : Nat} {xs : List Value} (h : Own w e sz v n xs) : v.oneCell' = true := by
  obtain ⟨p, c, rfl, _⟩ := h.form; rfl
theorem splice_one (cs : Array Value) (o : Nat) (v : Value) (h : o < cs.size) : splice cs o [v] = cs.setIfInBounds o v := by
  apply Array.toList_inj.1
  simp only [splice, Array.toList_setIfInBounds, List.length_singleton]
  rw [List.set_eq_take_append_cons_drop, if_pos (by simpa using h)]
  simp
theorem s_st1 (E : Env P) {x y : Operand} {t : TypeId} {p : Addr} {g o : Nat} {cs : Array Value} {ty : TypeId} {v : Value} (hl : E.ld t = some none) (hx : ev ρ x = .pointer (some p)) (hp : p = ⟨g, o, none⟩)
    (hy : ev ρ y = v) (hv : v.oneCell' = true) (hb : w.heap[g]? = some (.cells cs ty (0, 0))) (hsz : o < cs.size)
    (h : vcs P L K os (put ρ d undef) (w.setRow g (cs.setIfInBounds o v))) :
    vcs P L K (⟨d, .store t x y, T, pos, af, none⟩ :: os) ρ w :=
  s_st E (vs := [v]) hl hx hp hy hb (by rw [cells_one hv]) rfl (by simp [hv]) hsz (by rw [splice_one cs o v hsz]; exact h)
theorem splice_all (cs : Array Value) (vs : List Value) (h : cs.size = vs.length) : splice cs 0 vs = vs.toArray := by
  unfold splice
  rw [List.drop_of_length_le (by simp; omega)]; simp
/-- a variable of its own, and its first value -/
theorem s_alst (E : Env P) {y : Operand} {t : TypeId} {z v : Value} {vs : List Value} {m : Option Nat} {d' : Nat} {T' : TypeId} {pos' : String} {af' : Array Edge} (hz : E.zr t = some z) (hl : E.ld t = some m)
    (hy : ev (put ρ (some d') (.pointer (some ⟨w.heap.size, 0, none⟩))) y = v) (hvs : v.cells.toList = vs) (hs : (Nat.beq z.cells.size vs.length && Nat.beq (m.getD 1) vs.length && vs.all (·.oneCell')) = true)
    (h : ∀ w', Ext w w' → w'.heap.size = w.heap.size + 1 → w'.heap[w.heap.size]? = some (.cells vs.toArray t (0, 0)) → vcs P L K os (put ρ (some d') (.pointer (some ⟨w.heap.size, 0, none⟩))) w') :
    vcs P L K (⟨some d', .alloc t, T, pos, af, none⟩ :: ⟨none, .store t (.tmp d') y, T', pos', af', none⟩ :: os) ρ w := by
  simp only [Bool.and_eq_true, Nat.beq_eq] at hs
  obtain ⟨⟨h1, h2⟩, h3⟩ := hs
  refine s_al E hz ?_
  refine s_st E (d := none) (cs := z.cells) (g := w.heap.size) (o := 0) (vs := vs) hl (by simp [ev, put, upd]) rfl hy al_heap hvs h2 h3 (by omega) ?_
  rw [splice_all _ _ h1]
  exact h _ (Ext.thenMod (M := fun k => k = w.heap.size) e1 ⟨rfl, rfl, rfl, by simp, fun k hk hm => setRow_other _ _ k _ hm⟩ (fun k hk he => by omega)) (by simp) (setRow_heap _ _ _ _ _ _ al_heap)
/-- a conversion of a slice of bytes to its own type: a mark behind the block -/
theorem s_cvs (E : Env P) {x : Operand} {t e : TypeId} {sz n c : Nat} {a : Addr} (hs : E.sl t = some (e, sz)) (he : E.kd e = some .u8) (hx : ev ρ x = .slice (some a) n c)
    (h : ∀ w', Mod (fun k => k = a.block) w w' → (∀ p, w'.cell? p = w.cell? p) → vcs P L K os (put ρ d (.slice (some a) n c)) w') :
    vcs P L K (⟨d, .convert t t x, T, pos, af, none⟩ :: os) ρ w := by
  obtain ⟨hu, _⟩ := E.h_sl _ _ _ hs
  have hk := E.h_kd _ _ he
  have key : ∃ w', (execOp (ev ρ) ⟨d, .convert t t x, T, pos, af, none⟩).run P w = .ok (.value (.slice (some a) n c)) w' ∧ Mod (fun k => k = a.block) w w' ∧ (∀ p, w'.cell? p = w.cell? p) := by
    cases hsh : w.shape? a.block with
    | none => exact ⟨w, by simp [execOp, hx, convert, run_under hu, run_under hk, markStringish, hsh], Mod.refl, fun _ => rfl⟩
    | some p =>
      obtain ⟨el, m⟩ := p
      refine ⟨w.freeze ⟨a.block, m, none⟩ 1, by simp [execOp, hx, convert, run_under hu, run_under hk, markStringish, hsh], ⟨rfl, rfl, rfl, by simp [World.freeze], fun k hk hm => ?_⟩, fun p => ?_⟩
      · simp only [World.freeze, Nat.one_ne_zero, if_false, Array.getElem?_modify]
        rw [if_neg (fun e => hm e.symm)]
      · have hh : (w.freeze ⟨a.block, m, none⟩ 1).heap[p.block]? = if a.block = p.block then (w.heap[p.block]?).map (fun | .cells c elem (lo, hi) => .cells c elem (if lo == hi then (m, m + 1) else (min lo m, max hi (m + 1))) | o => o) else w.heap[p.block]? := by
          simp only [World.freeze, Nat.one_ne_zero, if_false, Array.getElem?_modify]
          rfl
        unfold World.cell?
        rw [hh]
        by_cases hb : a.block = p.block
        · rw [if_pos hb]
          cases w.heap[p.block]? with
          | none => rfl
          | some o => cases o <;> rfl
        · rw [if_neg hb]
  obtain ⟨w', hr, h1, h2⟩ := key
  exact s_val hr (h w' h1 h2)
theorem setRow_mod {w : World} {g : Nat} {cs : Array Value} {M : Nat → Prop} (hM : M g) : Mod M w (w.setRow g cs) :=
  ⟨rfl, rfl, rfl, by simp, fun k hk hm => setRow_other w g k cs (fun e => hm (e ▸ hM))⟩
end
end Go.Fx
namespace Go.Fx
open Go.RowKit
set_option linter.unusedVariables false
set_option linter.unusedSimpArgs false
/-! ## results that lie in a variable of their own -/
section
variable {P : Program}
theorem run_lda (E : Env P) {t : TypeId} {a : Addr} {n : Nat} {xs : List Value} {w : World} (hl : E.ld t = some (some n)) (hc : Row w a xs) (hn : xs.length = n) :
    (loadVar t a).run P w = .ok (.agg xs.toArray) w := by
  obtain ⟨dd, hu, hm, i, hi, hz⟩ := E.h_ld _ _ hl
  have hag : (isAgg t).run P w = .ok true w := by
    unfold isAgg; simp only [Sem.run_bind, run_under hu, Result.andThen_ok]; cases dd <;> simp_all
  have hrl := run_loadCells_list (P := P) (w := w) a xs (fun j v hj => hc j v hj)
  rw [hn] at hrl
  simp [loadVar, hag, sizeOf, typeInfo, hi, hz, hrl]
/-- one result -/
def rOne (P : Program) (ρ : Fr) (w : World) : ResultVar → Value → Prop
  | .tmp t, v => ρ t = v
  | .cell t T, v => ∃ a, ρ t = .pointer (some a) ∧ (loadVar T a).run P w = .ok v w
def resC (P : Program) (fn : Func) (ρ : Fr) (w : World) (v : Value) : Prop :=
  match fn.results.toList with
  | [x] => rOne P ρ w x v
  | [x, y] => ∃ a b, rOne P ρ w x a ∧ rOne P ρ w y b ∧ v = .tuple #[a, b]
  | _ => False
def rF (tmps : Array Value) : ResultVar → Sem Value
  | .tmp t => pure (tmps.getD t undef)
  | .cell a t => do loadVar t (← asAddr (tmps.getD a undef))
theorem results_rF (fn : Func) (tmps : Array Value) : results fn tmps = (do
    let vs ← fn.results.mapM (rF tmps)
    pure (if h : vs.size = 1 then vs[0] else .tuple vs)) := by
  unfold results
  congr 1
theorem rOne_run {n a ρ w x v} (h : Rep n a ρ) (hv : rOne P ρ w x v) : (rF a.tmps x).run P w = .ok v w := by
  cases x with
  | tmp t => simp only [rOne] at hv; subst hv; simp only [rF, Sem.run_pure]; rw [h.val]
  | cell p t =>
    obtain ⟨ad, h1, h2⟩ := hv
    simp only [rF, Sem.run_bind, h.val, h1, asAddr, Sem.run_pure, Result.andThen_ok, h2]
theorem resC_run {n a ρ w fn v} (h : Rep n a ρ) (hv : resC P fn ρ w v) : (results fn a.tmps).run P w = .ok v w := by
  have key : fn.results = fn.results.toList.toArray := by simp
  unfold resC at hv
  rw [results_rF]
  split at hv
  · rename_i x heq
    have := rOne_run h hv
    rw [key, heq]
    simp [this]
  · rename_i x y heq
    obtain ⟨u, v', h1, h2, rfl⟩ := hv
    have h1 := rOne_run h h1
    have h2 := rOne_run h h2
    rw [key, heq]
    simp [h1, h2]
  · exact hv.elim
def FinC (P : Program) (fn : Func) (R : Value → World → Prop) : Post
  | .normal, ρ, w | .ret, ρ, w => ∃ v, resC P fn ρ w v ∧ R v w
  | _, _, _ => False
theorem enterC {f fn c args w R} (hf : P.funcs[f]? = some fn) (hb : fn.body = some c) (hm : (fn.name == "runtime.NumGoroutine") = false) (hn : Nat.ble args.size fn.ntmps = true)
    (h : W P fn.ntmps c (FinC P fn R) (init args) w) : Ret P f args w R := by
  refine ⟨⟨fn, hf, hm, by rw [hb]; rfl⟩, ?_⟩
  refine calls_of_wp hf hb (wp_mono (h _ ?_) fun e a w ⟨ρ, hr, hQ⟩ => ?_)
  · have hn := Nat.le_of_ble_eq_true hn
    refine ⟨rfl, by simp; omega, fun t => ?_⟩
    simp only [init, Array.getD_eq_getD_getElem?, Array.getElem?_append]
    by_cases hlt : t < args.size
    · rw [if_pos hlt]
    · rw [if_neg hlt, Array.getElem?_replicate, Array.getElem?_eq_none (xs := args) (by omega)]
      split <;> rfl
  · cases e with
    | normal => obtain ⟨v, hv, hR⟩ := hQ; exact ⟨hr.defers, v, resC_run hr hv, v, rfl, hR⟩
    | ret => obtain ⟨v, hv, hR⟩ := hQ; exact ⟨hr.defers, v, resC_run hr hv, v, rfl, hR⟩
    | _ => exact hQ.elim
/-- the variable's cells, and one more result -/
theorem resC2 (E : Env P) {fn : Func} {ρ : Fr} {w : World} {t u : Nat} {T : TypeId} {a : Addr} {n : Nat} {xs : List Value} {v : Value} (hr : fn.results.toList = [.cell t T, .tmp u]) (hp : ρ t = .pointer (some a))
    (hl : E.ld T = some (some n)) (hc : Row w a xs) (hn : xs.length = n) (hv : ρ u = v) : resC P fn ρ w (.tuple #[.agg xs.toArray, v]) := by
  unfold resC; rw [hr]; exact ⟨_, _, ⟨a, hp, run_lda E hl hc hn⟩, hv, rfl⟩
theorem resC1 (E : Env P) {fn : Func} {ρ : Fr} {w : World} {t : Nat} {T : TypeId} {a : Addr} {n : Nat} {xs : List Value} (hr : fn.results.toList = [.cell t T]) (hp : ρ t = .pointer (some a))
    (hl : E.ld T = some (some n)) (hc : Row w a xs) (hn : xs.length = n) : resC P fn ρ w (.agg xs.toArray) := by
  unfold resC; rw [hr]; exact ⟨a, hp, run_lda E hl hc hn⟩
end
/-! ## parts of slices -/
/-- a part of a slice's cells -/
def slP (a : Option Addr) (l m s : Nat) : Option Addr := if m = l then a else a.map (·.add (l * s))
theorem SlR.part {w : World} {a : Option Addr} {xs : List Value} {l h m s : Nat} (hp : SlR w a xs) (hlh : l ≤ h) (hhm : h ≤ m) (hx : h * s ≤ xs.length) : SlR w (slP a l m s) ((xs.take (h * s)).drop (l * s)) := by
  unfold slP
  split
  · rename_i e
    have : l = h := by omega
    subst this
    have e0 : (xs.take (l * s)).drop (l * s) = [] := List.drop_of_length_le (by simp [List.length_take]; omega)
    rw [e0]
    cases a with
    | none => rfl
    | some a => exact Row.nil _ _
  · cases a with
    | none => have : xs = [] := hp; subst this; simp [SlR]
    | some a =>
      refine Row.mono (k := l * s) hp fun i x hxi => ?_
      rw [List.getElem?_drop] at hxi
      rw [← hxi, List.getElem?_take]
      split
      · rfl
      · rename_i hn
        rw [List.getElem?_take, if_neg hn] at hxi
        cases hxi
section
variable {P : Program} {L os : List Oper} {K : Fr → World → Prop} {Kq : Fr → Prop} {C : World → Prop} {ρ : Fr} {w : World} {d : Option Tmp} {T : TypeId} {pos : String} {af : Array Edge}
theorem elem_of {t e : TypeId} (h : P.underlying t = some (.slice e)) : P.elem t = e := by simp [Program.elem, h]
theorem run_sz (E : Env P) {t e : TypeId} {sz : Nat} {w : World} (hs : E.sl t = some (e, sz)) : (sizeOf (P.elem t)).run P w = .ok sz w := by
  obtain ⟨hu, i, hi, hn⟩ := E.h_sl _ _ _ hs
  rw [elem_of hu]; simp [sizeOf, typeInfo, hi, hn]
theorem s_slc (E : Env P) {x : Operand} {lo hi mx : Option Operand} {t e : TypeId} {sz len cap l h m : Nat} {a : Option Addr} (hs : E.sl t = some (e, sz)) (hx : ev ρ x = .slice a len cap)
    (hb : ∀ w : World, (Instr.sliceBounds true len cap (lo.map (ev ρ)) (hi.map (ev ρ)) (mx.map (ev ρ))).run P w = .ok (l, h, m) w) (hk : vcs P L K os (put ρ d (.slice (slP a l m sz) (h - l) (m - l))) w) :
    vcs P L K (⟨d, .slice t x lo hi mx, T, pos, af, none⟩ :: os) ρ w := by
  refine s_val ?_ hk
  obtain ⟨hu, i, hi', hn⟩ := E.h_sl _ _ _ hs
  have hu' : P.underlying t = some (.slice (P.elem t)) := by rw [elem_of hu]; exact hu
  simp only [execOp, hx, Sem.run_bind, run_sliceAt_slice w t _ _ _ _ hu', run_slice_any w t a len cap hu', hb, Result.andThen_ok, run_sz E hs, Sem.run_pure]
  rfl
theorem sb_l {len cap : Nat} {k : IntKind} {l : Nat} {x : Option Value} (hx : x = some (.int k l)) (h : l ≤ len) : ∀ w : World, (Instr.sliceBounds true len cap x none none).run P w = .ok (l, len, cap) w := by
  intro w; subst hx; simp [Instr.sliceBounds, Instr.sliceBound, asIntOf, h]
theorem sb_h {len cap : Nat} {k : IntKind} {h : Nat} {x : Option Value} (hx : x = some (.int k h)) (hh : h ≤ cap) : ∀ w : World, (Instr.sliceBounds true len cap none x none).run P w = .ok (0, h, cap) w := by
  intro w; subst hx; simp [Instr.sliceBounds, Instr.sliceBound, asIntOf, hh]
theorem sb_lh {len cap : Nat} {k k' : IntKind} {l h : Nat} {x y : Option Value} (hx : x = some (.int k l)) (hy : y = some (.int k' h)) (hl : l ≤ h) (hh : h ≤ cap) : ∀ w : World, (Instr.sliceBounds true len cap x y none).run P w = .ok (l, h, cap) w := by
  intro w; subst hx; subst hy; simp [Instr.sliceBounds, Instr.sliceBound, asIntOf, hh, hl]
theorem sb_hm {len cap : Nat} {k k' : IntKind} {h m : Nat} {x y : Option Value} (hx : x = some (.int k h)) (hy : y = some (.int k' m)) (hh : h ≤ m) (hm : m ≤ cap) : ∀ w : World, (Instr.sliceBounds true len cap none x y).run P w = .ok (0, h, m) w := by
  intro w; subst hx; subst hy; simp [Instr.sliceBounds, Instr.sliceBound, asIntOf, hh, hm]
theorem s_mk (E : Env P) {x y : Operand} {t e : TypeId} {sz n by_ : Nat} {z : Value} {k k' : IntKind} (hs : E.sl t = some (e, sz)) (hz : E.zr e = some z) (hb : E.bt e = some by_) (hx : ev ρ x = .int k n) (hy : ev ρ y = .int k' n)
    (hle : n * by_ ≤ 140737488355328 ∧ n ≤ 9223372036854775807)
    (h : ∀ w', Ext w w' → w'.heap[w.heap.size]? = some (.cells (madeCells z.cells (n * sz)) e (0, 0)) → w'.heap.size = w.heap.size + 1 → vcs P L K os (put ρ d (.slice (some ⟨w.heap.size, 0, none⟩) n n)) w') :
    vcs P L K (⟨d, .makeSlice t x y, T, pos, af, none⟩ :: os) ρ w := by
  obtain ⟨hu, i, hi, hn⟩ := E.h_sl _ _ _ hs
  obtain ⟨i', hi', hv⟩ := E.h_zr _ _ hz
  rw [hi] at hi'; cases hi'
  obtain ⟨i', hi', hbb⟩ := E.h_bt _ _ hb
  rw [hi] at hi'; cases hi'
  subst hn; subst hbb
  have hr := run_make (P := P) w t e i z hu hi hv k k' n n (by omega) (Int.le_refl _) (by have := hle.1; rw [Nat.mul_comm] at this; have : ((i.bytes * n : Nat) : Int) ≤ 140737488355328 := by omega
                                                                                          rw [Int.natCast_mul] at this; omega) (by have := hle.2; omega)
  simp only [Int.toNat_natCast] at hr
  refine s_val ?_ (h _ alloc_facts.1 alloc_facts.2.1 alloc_facts.2.2)
  simp [execOp, hx, hy, hr]
theorem s_nil_eq {x y : Operand} {t yt e : TypeId} {a : Option Addr} {l c : Nat} (hu : P.underlying t = some (.slice e)) (hx : ev ρ x = .slice a l c) (hy : ev ρ y = .slice none 0 0) (h : vcs P L K os (put ρ d (.bool a.isNone)) w) :
    vcs P L K (⟨d, .binOp .eql t x y yt, T, pos, af, none⟩ :: os) ρ w := by
  refine s_val ?_ h
  have h1 : (eqGuard .eql t x y (.slice a l c) (.slice none 0 0)).run P w = .ok () w := by simp [eqGuard]
  have h2 := run_equal_slice_nil (P := P) w t e a l c hu
  simp only [execOp, hx, hy, Sem.run_bind, h1, Result.andThen_ok, Sem.run_pure, binOp]
  simp [h2]
theorem r_ix (E : Env P) {x y : Operand} {t e : TypeId} {k : IntKind} {n i len : Nat} {j : Int} {cs : Array Value} {v : Value} (hs : E.ar t = some (len, e, n)) (he : E.ld e = some none) (hx : ev ρ x = .agg cs) (hy : ev ρ y = .int k j) (hj : j = i) (hi : i < len) (hv : cs[i]? = some v) :
    (execOp (ev ρ) ⟨d, .index t x y, T, pos, af, none⟩).run P w = .ok (.value v) w := by
  subst hj
  obtain ⟨hu, inf, hin, hz⟩ := E.h_ar _ _ _ _ hs
  obtain ⟨dd, hud, hm, i', hi', hz'⟩ := E.h_ld _ _ he
  rw [hin] at hi'; cases hi'
  have hag : (isAgg e).run P w = .ok false w := by
    unfold isAgg; simp only [Sem.run_bind, run_under hud, Result.andThen_ok]; cases dd <;> simp_all
  simp [execOp, hx, hy, Instr.index, asIntOf, run_under hu, hi, sizeOf, typeInfo, hin, hz', part, hag, hv]
theorem s_ix (E : Env P) {x y : Operand} {t e : TypeId} {k : IntKind} {n i len : Nat} {j : Int} {cs : Array Value} {v : Value} (hs : E.ar t = some (len, e, n)) (he : E.ld e = some none) (hx : ev ρ x = .agg cs) (hy : ev ρ y = .int k j) (hj : j = i) (hi : i < len) (hv : cs[i]? = some v)
    (h : vcs P L K os (put ρ d v) w) : vcs P L K (⟨d, .index t x y, T, pos, af, none⟩ :: os) ρ w := s_val (r_ix E hs he hx hy hj hi hv) h
/-- string(b) -/
theorem r_str (E : Env P) {x : Operand} {st t e : TypeId} {sz len cap : Nat} {a : Option Addr} {l : List Int} (hs : E.sl st = some (e, sz)) (he : E.kd e = some .u8) (hd : P.underlying t = some .string) (hx : ev ρ x = .slice a len cap) (hl : l.length = len)
    (hp : SlR w a (l.map (Value.int .u8))) : (execOp (ev ρ) ⟨d, .convert st t x, T, pos, af, none⟩).run P w = .ok (.value (.string (strOfNums l))) w := by
  obtain ⟨hu, _⟩ := E.h_sl _ _ _ hs
  have hk := E.h_kd _ _ he
  have : (convert st t (.slice a len cap)).run P w = .ok (.string (strOfNums l)) w := by
    cases a with
    | none =>
      have : l = [] := by have h : l.map (Value.int .u8) = [] := hp; simpa using h
      subst this
      rw [run_convert_bytes_nil w st e hu hk len cap t hd]; rfl
    | some a =>
      have hrow : Row w a (l.map (Value.int .u8)) := hp
      rw [run_convert_bytes_string w st t e _ len cap hu hk hd]
      have hlc := run_loadCells_list (P := P) (w := w) a (l.map (Value.int .u8)) (fun j v hj => hrow j v hj)
      rw [List.length_map, hl] at hlc
      rw [run_bytesToString w a len cap l hlc, foldl_push_bytes]
      simp [strOfNums, ByteArray.empty, ByteArray.emptyWithCapacity]
      rfl
  simp [execOp, hx, this]
theorem s_str (E : Env P) {x : Operand} {st t e : TypeId} {sz len cap : Nat} {a : Option Addr} {l : List Int} (hs : E.sl st = some (e, sz)) (he : E.kd e = some .u8) (hd : P.underlying t = some .string) (hx : ev ρ x = .slice a len cap) (hl : l.length = len)
    (hp : SlR w a (l.map (Value.int .u8))) (h : vcs P L K os (put ρ d (.string (strOfNums l))) w) : vcs P L K (⟨d, .convert st t x, T, pos, af, none⟩ :: os) ρ w := s_val (r_str E hs he hd hx hl hp) h
/-- conversions and shifts whose value is named -/
theorem s_cvx (E : Env P) {x : Operand} {t st : TypeId} {k sk dk : IntKind} {a b : Int} (hs : E.kd st = some sk) (hd : E.kd t = some dk) (hx : ev ρ x = .int k a) (hv : dk.wrap a = b) (h : vcs P L K os (put ρ d (.int dk b)) w) :
    vcs P L K (⟨d, .convert st t x, T, pos, af, none⟩ :: os) ρ w := s_cv E hs hd hx (by rw [hv]; exact h)
theorem s_half {x y : Operand} {t yt : TypeId} {k k' : IntKind} {a b : Int} (hx : ev ρ x = .int k a) (hy : ev ρ y = .int k' 1) (hk : Nat.blt 1 k.bits = true) (hv : a / 2 = b) (h : vcs P L K os (put ρ d (.int k b)) w) :
    vcs P L K (⟨d, .binOp .shr t x y yt, T, pos, af, none⟩ :: os) ρ w :=
  s_shr hx hy (by decide) (by
    have : min (1 : Int).toNat k.bits = 1 := by rw [Nat.blt_eq] at hk; exact Nat.min_eq_left (by omega)
    rw [this, show (2 : Int) ^ 1 = 2 from rfl, Int.fdiv_eq_ediv_of_nonneg _ (by decide), hv]; exact h)
theorem wrapu_in {n : Int} (h1 : 0 ≤ n) (h2 : n ≤ 9223372036854775807) : IntKind.u64.wrap n = n := by
  simp only [IntKind.wrap, IntKind.bits, IntKind.signed]
  simp
  omega
/-! ### structs and arrays of numbers, compared -/
def fldI (P : Program) : List Field → Nat → List IntKind → Bool
  | [], _, [] => true
  | f :: fs, o, k :: ks => f.name != "_" && (Nat.beq f.offset o && ((match P.underlying f.type with | some (.int k') => k' == k | _ => false) && fldI P fs (o + 1) ks))
  | _, _, _ => false
def sameI : List (IntKind × Int × Int) → Bool
  | [] => true
  | x :: l => decide (x.2.1 = x.2.2) && sameI l
theorem run_eqf (dd : Nat) (w : World) (xs ys : Array Value) : ∀ (fs : List Field) (o : Nat) (l : List (IntKind × Int × Int)), fldI P fs o (l.map (·.1)) = true →
    (∀ i x, l[i]? = some x → xs[o + i]? = some (.int x.1 x.2.1) ∧ ys[o + i]? = some (.int x.1 x.2.2)) → (Op.eqFields (dd + 1) xs ys fs).run P w = .ok (sameI l) w := by
  intro fs
  induction fs with
  | nil => intro o l h _; cases l with
    | nil => simp [Op.eqFields, sameI]
    | cons x l => simp [fldI] at h
  | cons f fs ih => intro o l h hx; cases l with
    | nil => simp [fldI] at h
    | cons x l =>
      simp only [List.map_cons, fldI, Bool.and_eq_true, Nat.beq_eq, bne_iff_ne, ne_eq] at h
      obtain ⟨hn, ho, hu, hr⟩ := h
      split at hu
      · rename_i k' hk
        have hk' : k' = x.1 := by simpa using hu
        subst hk'
        obtain ⟨h1, h2⟩ := hx 0 x rfl
        have hag : (isAgg f.type).run P w = .ok false w := by unfold isAgg; simp [run_under hk]
        have p1 : (part f.type xs f.offset).run P w = .ok (.int x.1 x.2.1) w := by
          rw [ho]; rw [Nat.add_zero] at h1; simp [part, hag, h1]
        have p2 : (part f.type ys f.offset).run P w = .ok (.int x.1 x.2.2) w := by
          rw [ho]; rw [Nat.add_zero] at h2; simp [part, hag, h2]
        have p3 := run_equalIn_int (P := P) w dd f.type x.1 x.1 x.2.1 x.2.2 hk
        have := ih (o + 1) l hr (fun i y hy => by have := hx (i + 1) y (by simpa using hy); rw [show o + 1 + i = o + (i + 1) by omega]; exact this)
        simp only [Op.eqFields, hn, ne_eq, not_false_eq_true, if_true, Sem.run_bind, p1, p2, p3, Result.andThen_ok, sameI]
        by_cases he : x.2.1 = x.2.2
        · simp [he, this]
        · simp [he]
      · cases hu
def eqS (P : Program) (t : TypeId) (ks : List IntKind) : Bool :=
  (match P.underlying t with | some (.struct fs) => fldI P fs.toList 0 ks | _ => false) && (!P.stoodInHeld t && !P.eqGuardType P.depth t)
theorem run_eqS {t : TypeId} {l : List (IntKind × Int × Int)} {x y : Operand} (op : BinOp) (h : eqS P t (l.map (·.1)) = true) :
    (eqGuard op t x y (.agg (l.map fun x => Value.int x.1 x.2.1).toArray) (.agg (l.map fun x => Value.int x.1 x.2.2).toArray)).run P w = .ok () w ∧
    (Op.equalIn 10000 t (.agg (l.map fun x => Value.int x.1 x.2.1).toArray) (.agg (l.map fun x => Value.int x.1 x.2.2).toArray)).run P w = .ok (sameI l) w := by
  simp only [eqS, Bool.and_eq_true, Bool.not_eq_true'] at h
  obtain ⟨hu, hs, hg⟩ := h
  split at hu
  · rename_i fs hfs
    have hf : P.fieldsOf t = fs := by simp [Program.fieldsOf, hfs]
    refine ⟨run_eqGuard_agg w op t x y _ _ hg, ?_⟩
    rw [run_equalIn_struct w 9999 t _ _ (by rw [hf]; exact hfs) hs, hf]
    refine run_eqf 9998 w _ _ _ 0 l hu fun i z hz => ?_
    simp [hz]
  · cases hu
theorem s_eqS {t yt : TypeId} {l : List (IntKind × Int × Int)} {x y : Operand} (h : eqS P t (l.map (·.1)) = true) (hx : ev ρ x = .agg (l.map fun x => Value.int x.1 x.2.1).toArray) (hy : ev ρ y = .agg (l.map fun x => Value.int x.1 x.2.2).toArray)
    (hk : vcs P L K os (put ρ d (.bool (sameI l))) w) : vcs P L K (⟨d, .binOp .eql t x y yt, T, pos, af, none⟩ :: os) ρ w := by
  refine s_val ?_ hk
  obtain ⟨h1, h2⟩ := run_eqS (P := P) (w := w) (x := x) (y := y) .eql h
  simp only [execOp, hx, hy, Sem.run_bind, h1, Result.andThen_ok, Sem.run_pure, run_eql_struct, h2]
theorem r_neS {t yt : TypeId} {l : List (IntKind × Int × Int)} {x y : Operand} (h : eqS P t (l.map (·.1)) = true) (hx : ev ρ x = .agg (l.map fun x => Value.int x.1 x.2.1).toArray) (hy : ev ρ y = .agg (l.map fun x => Value.int x.1 x.2.2).toArray) :
    (execOp (ev ρ) ⟨d, .binOp .neq t x y yt, T, pos, af, none⟩).run P w = .ok (.value (.bool (!sameI l))) w := by
  obtain ⟨h1, h2⟩ := run_eqS (P := P) (w := w) (x := x) (y := y) .neq h
  simp only [execOp, hx, hy, Sem.run_bind, h1, Result.andThen_ok, Sem.run_pure, run_neq_struct, h2]
theorem s_neS {t yt : TypeId} {l : List (IntKind × Int × Int)} {x y : Operand} (h : eqS P t (l.map (·.1)) = true) (hx : ev ρ x = .agg (l.map fun x => Value.int x.1 x.2.1).toArray) (hy : ev ρ y = .agg (l.map fun x => Value.int x.1 x.2.2).toArray)
    (hk : vcs P L K os (put ρ d (.bool (!sameI l))) w) : vcs P L K (⟨d, .binOp .neq t x y yt, T, pos, af, none⟩ :: os) ρ w := s_val (r_neS h hx hy) hk
theorem q_neS {t yt : TypeId} {l : List (IntKind × Int × Int)} {x y : Operand} (h : eqS P t (l.map (·.1)) = true) (hx : ev ρ x = .agg (l.map fun x => Value.int x.1 x.2.1).toArray) (hy : ev ρ y = .agg (l.map fun x => Value.int x.1 x.2.2).toArray)
    (hk : vq P L C Kq os (put ρ d (.bool (!sameI l)))) : vq P L C Kq (⟨d, .binOp .neq t x y yt, T, pos, af, none⟩ :: os) ρ := q_val (fun _ _ => r_neS h hx hy) hk
end
end Go.Fx
namespace Go.Fx
open Go.RowKit
set_option linter.unusedVariables false
set_option linter.unusedSimpArgs false
/-! ## operations in whatever order, each proved once: what an operation yields is said by G and stays true as the world grows -/
/-- the temporary that operation j writes -/
def dsOf (ops : Array Oper) (j : Nat) : Nat := ((ops[j]?).bind (·.dst)).getD 0
/-- operation i waits for j -/
def wts (ops : Array Oper) (i j : Nat) : Bool := ((ops[i]?).map fun o => o.after.any fun e => Region.binds .any e && Nat.beq e.on j).getD false
/-- the operations of A: each writes a temporary of its own and waits for listed ones and earlier ones of A only; all others that are not listed wait for all of A -/
def setOk (ops : Array Oper) (L0 : Array Bool) (A : List Nat) : Bool :=
  (Nat.beq L0.size ops.size && A.all fun i => !L0.getD i false && (((ops[i]?).map fun o => o.dst.isSome && o.after.all fun e => !Region.binds .any e || (L0.getD e.on false || (A.contains e.on && Nat.blt e.on i))).getD false) && A.all fun j => Nat.beq i j || !Nat.beq (dsOf ops i) (dsOf ops j)) &&
  (List.range ops.size).all fun i => L0.getD i false || (A.contains i || A.all fun j => wts ops i j)
def addAll (L0 : Array Bool) : List Nat → Array Bool
  | [] => L0
  | j :: A => addAll (L0.setIfInBounds j true) A
/-- t is no temporary of A's -/
def frs (ops : Array Oper) (A : List Nat) (t : Nat) : Bool := A.all fun j => !Nat.beq t (dsOf ops j)
theorem wts_of {ops : Array Oper} {i j : Nat} {o : Oper} (hi : ops[i]? = some o) (h : wts ops i j = true) : ∃ e ∈ o.after, Region.binds .any e = true ∧ e.on = j := by
  unfold wts at h
  simp only [hi, Option.map_some, Option.getD_some, Array.any_eq_true, Bool.and_eq_true, Nat.beq_eq] at h
  obtain ⟨k, hk, hb, he⟩ := h
  exact ⟨_, Array.getElem_mem hk, hb, he⟩
section
variable {P : Program} {n : Nat} {ops : Array Oper} {K : Fr → World → Prop}
theorem addAll_get (A : List Nat) (L0 : Array Bool) (j : Nat) : (addAll L0 A).size = L0.size ∧ (addAll L0 A).getD j false = (L0.getD j false || (A.contains j && decide (j < L0.size))) := by
  induction A generalizing L0 with
  | nil => simp [addAll]
  | cons i A ih =>
    have := ih (L0.setIfInBounds i true)
    refine ⟨by rw [addAll, this.1]; simp, ?_⟩
    rw [addAll, this.2]
    by_cases e : i = j
    · subst e
      by_cases hl : i < L0.size
      · simp [hl]
      · simp [hl]
    · have h1 : (L0.setIfInBounds i true).getD j false = L0.getD j false := by
        simp only [Array.getD_eq_getD_getElem?, Array.getElem?_setIfInBounds_ne e]
      have h2 : (j == i) = false := by simpa using fun h => e h.symm
      rw [h1, List.contains_cons, h2]
      simp
/-- how many of A are not listed -/
def cnt (A : List Nat) (L : Array Bool) : Nat := A.countP fun j => !L.getD j false
theorem cnt_set {A : List Nat} {j : Nat} {L : Array Bool} (hj : j ∈ A) (hL : j < L.size) (h : L.getD j false = false) : cnt A (L.setIfInBounds j true) < cnt A L := by
  unfold cnt
  induction A with
  | nil => cases hj
  | cons i A ih =>
    have hle : ∀ A : List Nat, A.countP (fun k => !(L.setIfInBounds j true).getD k false) ≤ A.countP (fun k => !L.getD k false) := fun A => by
      refine List.countP_mono_left fun k _ hk => ?_
      by_cases e : j = k
      · subst e; simp [hL] at hk
      · simpa only [Array.getD_eq_getD_getElem?, Array.getElem?_setIfInBounds_ne e] using hk
    by_cases e : j = i
    · subst e
      have h2 : (L.setIfInBounds j true).getD j false = true := by simp [hL]
      rw [List.countP_cons, List.countP_cons, h2, h]
      have := hle A
      simp only [Bool.not_true, Bool.not_false, if_true, if_false, Bool.false_eq_true]; omega
    · have h2 : (L.setIfInBounds j true).getD i false = L.getD i false := by
        simp only [Array.getD_eq_getD_getElem?, Array.getElem?_setIfInBounds_ne e]
      have hjA : j ∈ A := by
        rcases List.mem_cons.1 hj with h | h
        · exact absurd h e
        · exact h
      rw [List.countP_cons, List.countP_cons, h2]
      have := ih hjA
      omega
def Stp (P : Program) (ops : Array Oper) (A : List Nat) (G : Nat → Value → World → Prop) (ρ0 : Fr) (w0 : World) (i : Nat) : Prop :=
  ∀ o, ops[i]? = some o → ∀ ρ w, Ext w0 w → (∀ t, frs ops A t = true → ρ t = ρ0 t) → (∀ j, j ∈ A → wts ops i j = true → G j (ρ (dsOf ops j)) w) →
      vcs P ops.toList (fun ρ' w' => Ext w w' ∧ ∃ v, ρ' = put ρ (some (dsOf ops i)) v ∧ G i v w') [o] ρ w
theorem D_mono_fuel {R : World → Prop} {M : List Nat} : ∀ (f f' : Nat) (L : Array Bool) (ρ : Fr) (w : World), f ≤ f' → D P n ops R M K f L ρ w → D P n ops R M K f' L ρ w := by
  intro f f' L ρ w hle h a ha
  have key : ∀ (f f' : Nat) (L : Array Bool) (a : Act) (w : World), f ≤ f' → wA P ops (nrm n K) R M f L a w → wA P ops (nrm n K) R M f' L a w := by
    intro f
    induction f with
    | zero =>
      intro f' L a w _ h
      cases f' with
      | zero => exact h
      | succ f' => exact ⟨fun _ => h.2, fun i hi => by rw [h.1] at hi; cases hi⟩
    | succ f ih =>
      intro f' L a w hle h
      cases f' with
      | zero => omega
      | succ f' => exact ⟨h.1, fun i hi => wpOp_mono (fun a' w' h' => ⟨h'.1, ih f' _ _ _ (by omega) h'.2⟩) (h.2 i hi)⟩
  exact key f f' L a w hle (h a ha)
theorem D_set {R : World → Prop} {fuel fuel' : Nat} {L0 : Array Bool} {ρ0 : Fr} {w0 : World} (A : List Nat) (G : Nat → Value → World → Prop) (hok : okOps n ops = true) (hpre : setOk ops L0 A = true) (hf : Nat.ble (fuel' + A.length) fuel = true) (hR : ∀ w, Ext w0 w → R w) (hmono : ∀ j v w w', Ext w w' → G j v w → G j v w')
    (hstep : ∀ i ∈ A, Stp P ops A G ρ0 w0 i)
    (hend : ∀ ρ w, Ext w0 w → (∀ t, frs ops A t = true → ρ t = ρ0 t) → (∀ j, j ∈ A → G j (ρ (dsOf ops j)) w) → D P n ops R [] K fuel' (addAll L0 A) ρ w) :
    D P n ops R [] K fuel L0 ρ0 w0 := by
  simp only [setOk, Bool.and_eq_true, List.all_eq_true, List.mem_range, Nat.beq_eq] at hpre
  obtain ⟨⟨hs0, h1⟩, h2⟩ := hpre
  have hun0 : ∀ i ∈ A, L0.getD i false = false := fun i hi => by simpa using (h1 i hi).1.1
  have hds : ∀ i ∈ A, ∀ j ∈ A, dsOf ops i = dsOf ops j → i = j := by
    intro i hi j hj he
    have := (h1 i hi).2 j hj
    simp only [Bool.or_eq_true, Nat.beq_eq, Bool.not_eq_true', he] at this
    rcases this with h | h
    · exact h
    · rw [Nat.beq_refl] at h; cases h
  have hsz : ∀ i ∈ A, i < ops.size := by
    intro i hi
    have := (h1 i hi).1.2
    by_cases h : i < ops.size
    · exact h
    · rw [Array.getElem?_eq_none (by omega)] at this; cases this
  have hlow : ∀ i ∈ A, ∀ o, ops[i]? = some o → ∀ e ∈ o.after, Region.binds .any e = true → L0.getD e.on false = true ∨ (e.on ∈ A ∧ e.on < i) := by
    intro i hi o ho e he hb
    have := (h1 i hi).1.2
    rw [ho] at this
    simp only [Option.map_some, Option.getD_some, Bool.and_eq_true, Array.all_eq_true, Bool.or_eq_true, Bool.not_eq_true', Nat.blt_eq, List.contains_iff_mem] at this
    obtain ⟨k, hk, rfl⟩ := Array.getElem_of_mem he
    rcases this.2 k hk with h | h | h
    · rw [hb] at h; cases h
    · exact .inl h
    · exact .inr h
  have hall : ∀ i, i < ops.size → L0.getD i false = false → i ∉ A → ∀ j ∈ A, wts ops i j = true := by
    intro i hs hl hA j hj
    have := h2 i hs
    simp only [Bool.or_eq_true, List.all_eq_true, List.contains_iff_mem] at this
    rcases this with h | h | h
    · rw [hl] at h; cases h
    · exact absurd h hA
    · exact h j hj
  have hgt : ∀ (L : Array Bool) j, j < L.size → L.getD j true = L.getD j false := fun L j hj => by simp [hj]
  have key : ∀ c (L : Array Bool) ρ w, cnt A L ≤ c → L.size = ops.size → (∀ j, j ∉ A → L.getD j false = L0.getD j false) → Ext w0 w → (∀ t, frs ops A t = true → ρ t = ρ0 t) → (∀ j, j ∈ A → L.getD j false = true → G j (ρ (dsOf ops j)) w) →
      D P n ops R [] K (fuel' + c) L ρ w := by
    intro c
    induction c with
    | zero =>
      intro L ρ w hc hsz' hhi hE hag hG
      have hlo : ∀ j ∈ A, L.getD j false = true := by
        intro j hj
        have := List.countP_eq_zero.1 (Nat.le_zero.1 hc) j hj
        simpa using this
      have : L = addAll L0 A := by
        apply Array.ext
        · rw [(addAll_get A L0 0).1, hs0, hsz']
        · intro j hj hj'
          have e1 : L[j] = L.getD j false := by simp [hj]
          have e2 : (addAll L0 A)[j] = (addAll L0 A).getD j false := by simp [hj']
          rw [e1, e2, (addAll_get A L0 j).2]
          by_cases h : j ∈ A
          · rw [hlo j h]; simp [h, show j < L0.size by omega]
          · rw [hhi j h]; simp [h]
      rw [this]
      exact hend ρ w hE hag (fun j hj => hG j hj (hlo j hj))
    | succ c ih =>
      intro L ρ w hc hsz' hhi hE hag hG
      by_cases hex : ∃ i, i ∈ A ∧ L.getD i false = false
      case neg =>
        refine D_mono_fuel (fuel' + c) _ L ρ w (by omega) (ih L ρ w ?_ hsz' hhi hE hag hG)
        have : cnt A L = 0 := List.countP_eq_zero.2 fun j hj => by
          cases hv : L.getD j false
          · exact absurd ⟨j, hj, hv⟩ hex
          · simp
        omega
      case pos =>
      intro a ha
      have hmin : ∃ i, i ∈ A ∧ L.getD i false = false ∧ ∀ j, j < i → j ∈ A → L.getD j false = true := by
        obtain ⟨i, hi, hx⟩ := hex
        clear hc
        induction i using Nat.strongRecOn with
        | _ i ihh =>
          by_cases h : ∀ j, j < i → j ∈ A → L.getD j false = true
          · exact ⟨i, hi, hx, h⟩
          · have : ∃ j, j < i ∧ j ∈ A ∧ L.getD j false = false := by
              apply Classical.byContradiction
              intro hn
              apply h
              intro j hj hjA
              cases hv : L.getD j false
              · exact absurd ⟨j, hj, hjA, hv⟩ hn
              · rfl
            obtain ⟨j, hj, hjA, hv⟩ := this
            exact ihh j hj hjA hv
      obtain ⟨i0, hi0, hun1, hbel⟩ := hmin
      have hkeep : ∀ j, L0.getD j false = true → L.getD j false = true := fun j hj => by
        rw [hhi j (fun hA => by rw [hun0 j hA] at hj; cases hj)]; exact hj
      have hready0 : i0 ∈ Region.ready .any ops L := by
        refine mem_ready.2 ⟨by rw [hgt L i0 (by rw [hsz']; exact hsz i0 hi0)]; exact hun1, ops[i0]'(hsz i0 hi0), by simp, fun e he hb => ?_⟩
        rcases hlow i0 hi0 _ (by simp) e he hb with h | h
        · exact hkeep _ h
        · exact hbel _ h.2 h.1
      refine ⟨fun h0 => (by rw [h0] at hready0; cases hready0), fun j hj => ?_⟩
      obtain ⟨hun, oj, hoj, hdep⟩ := mem_ready.1 hj
      have hjs : j < ops.size := (Array.getElem?_eq_some_iff.1 hoj).1
      have hun : L.getD j false = false := by rw [← hgt L j (by omega)]; exact hun
      have hjA : j ∈ A := by
        apply Classical.byContradiction
        intro h
        have hl0 : L0.getD j false = false := by rw [← hhi j h]; exact hun
        obtain ⟨e, he, hb, heq⟩ := wts_of hoj (hall j hjs hl0 h i0 hi0)
        have := hdep e he hb
        rw [heq, hun1] at this; cases this
      refine D_mem hok hoj ?_ ha
      refine vcs_mono (fun ρ' w' hx => ?_) (hstep j hjA oj hoj ρ w hE hag (fun k hk hw => hG k hk ?_))
      · obtain ⟨hE', v, rfl, hv⟩ := hx
        refine ⟨fun _ => hR _ (hE.trans hE'), ih _ _ _ ?_ ?_ ?_ ?_ ?_ ?_⟩
        · have := cnt_set hjA (by omega) hun; omega
        · simp [hsz']
        · intro k hk
          rw [← hhi k hk, Array.getD_eq_getD_getElem?, Array.getElem?_setIfInBounds_ne (fun h => by subst h; exact hk hjA), ← Array.getD_eq_getD_getElem?]
        · exact hE.trans hE'
        · intro t ht
          simp only [put, upd]
          have hne : ¬ t = dsOf ops j := by
            intro h
            have := List.all_eq_true.1 ht j hjA
            simp only [Bool.not_eq_true', h] at this
            rw [Nat.beq_refl] at this; cases this
          rw [if_neg hne]
          exact hag t ht
        · intro k hk hl
          by_cases e : k = j
          · subst e
            simp only [put, upd, if_pos]
            exact hv
          · have hne : dsOf ops k ≠ dsOf ops j := fun h => e (hds k hk j hjA h)
            simp only [put, upd]
            rw [if_neg hne]
            rw [Array.getD_eq_getD_getElem?, Array.getElem?_setIfInBounds_ne (fun h => e h.symm), ← Array.getD_eq_getD_getElem?] at hl
            exact hmono _ _ _ _ hE' (hG k hk hl)
      · obtain ⟨e, he, hb, heq⟩ := wts_of hoj hw
        have := hdep e he hb
        rw [heq] at this
        exact this
  have h0 : cnt A L0 ≤ A.length := List.countP_le_length
  exact D_mono_fuel _ _ _ _ _ (Nat.le_of_ble_eq_true hf) (key A.length L0 ρ0 w0 h0 hs0 (fun _ _ => rfl) Mod.refl (fun _ _ => rfl) (fun j hj hl => by rw [hun0 j hj] at hl; cases hl))
end
end Go.Fx
namespace Go.Fx
open Go.RowKit
theorem hp_old (w : World) (o : Obj) (i : Nat) (h : i < w.heap.size) : (w.alloc o).heap[i]? = w.heap[i]? := by
  show (w.heap.push o)[i]? = w.heap[i]?
  rw [Array.getElem?_push, if_neg (Nat.ne_of_lt h)]
set_option linter.unusedVariables false
set_option linter.unusedSimpArgs false
/-! ## the blocks that a call has for itself, as a list of chunks that lie apart -/
structure Chunk where
  F : Nat → Prop
  N : Nat
  P : World → Prop
  loc : ∀ w w' : World, (∀ k, F k ∨ k < N → w'.heap[k]? = w.heap[k]?) → P w → P w'
/-- a block whose cells are known -/
def cl (g : Nat) (vs : List Value) (ty : TypeId) : Chunk := ⟨fun k => k = g, 0, fun w => w.heap[g]? = some (.cells vs.toArray ty (0, 0)), fun w w' h hp => by rw [h g (.inl rfl)]; exact hp⟩
theorem owns_loc {w w' : World} {e : TypeId} {sz : Nat} {v : Value} {n : Nat} {xs : List Value} (h : ∀ k, v.ownBlock = some k → w'.heap[k]? = w.heap[k]?) (ho : Own w e sz v n xs) : Own w' e sz v n xs := by
  refine ⟨ho.1, ?_⟩
  rcases ho.2 with hn | ⟨g, cap, cur, rfl, hb, hgg, rest⟩
  · exact .inl hn
  · exact .inr ⟨g, cap, cur, rfl, hb, by rw [h g rfl]; exact hgg, rest⟩
/-- a slice of the call's own -/
def ow (e : TypeId) (sz : Nat) (v : Value) (n : Nat) (xs : List Value) : Chunk := ⟨fun k => v.ownBlock = some k, 0, fun w => Own w e sz v n xs, fun w w' h hp => owns_loc (fun k hk => h k (.inl hk)) hp⟩
structure Sep (w0 w : World) (L : List Chunk) : Prop where
  ext : Ext w0 w
  apart : L.Pairwise fun a b => ∀ k, a.F k → ¬ b.F k
  holds : ∀ c ∈ L, c.P w
  low : ∀ c ∈ L, ∀ k, c.F k → w0.heap.size ≤ k ∧ k < w.heap.size
  inp : ∀ c ∈ L, c.N ≤ w0.heap.size
section
variable {w0 w w' : World} {L : List Chunk}
theorem Sep.start : Sep w w [] := ⟨Mod.refl, List.Pairwise.nil, (fun c h => by cases h), (fun c h => by cases h), (fun c h => by cases h)⟩
theorem Sep.ext_ (h : Sep w0 w L) (hE : Ext w w') : Sep w0 w' L :=
  ⟨h.ext.trans hE, h.apart, fun c hc => c.loc w w' (fun k hk => hE.block k (by
    rcases hk with hk | hk
    · exact (h.low c hc k hk).2
    · have := h.inp c hc; have := h.ext.size; omega) (fun h => h)) (h.holds c hc), fun c hc k hk => ⟨(h.low c hc k hk).1, Nat.lt_of_lt_of_le (h.low c hc k hk).2 hE.size⟩, h.inp⟩
theorem Sep.get (h : Sep w0 w L) {c : Chunk} (i : Nat) (hi : L[i]? = some c) : c.P w := h.holds c (List.mem_of_getElem? hi)
theorem Sep.getL (h : Sep w0 w L) {c : Chunk} (i : Nat) (hi : L[i]? = some c) {k : Nat} (hk : c.F k) : w0.heap.size ≤ k ∧ k < w.heap.size := h.low c (List.mem_of_getElem? hi) k hk
theorem Sep.heap (h : Sep w0 w L) {g : Nat} {vs : List Value} {ty : TypeId} (i : Nat) (hi : L[i]? = some (cl g vs ty)) : w.heap[g]? = some (.cells vs.toArray ty (0, 0)) := h.get i hi
theorem Sep.row (h : Sep w0 w L) {g : Nat} {vs : List Value} {ty : TypeId} (i : Nat) (hi : L[i]? = some (cl g vs ty)) : Row w ⟨g, 0, none⟩ vs := by
  have := row_heap (h.heap i hi); simpa using this
theorem Sep.cell (h : Sep w0 w L) {g j : Nat} {vs : List Value} {ty : TypeId} {v : Value} (i : Nat) (hi : L[i]? = some (cl g vs ty)) (hj : vs[j]? = some v) : w.cell? (Addr.add ⟨g, 0, none⟩ j) = some v := h.row i hi j v hj
theorem Sep.cell0 (h : Sep w0 w L) {g : Nat} {vs : List Value} {ty : TypeId} {v : Value} (i : Nat) (hi : L[i]? = some (cl g vs ty)) (hj : vs[0]? = some v) : w.cell? ⟨g, 0, none⟩ = some v := by
  have := h.row i hi 0 v hj; rwa [add_zero] at this
theorem Sep.own (h : Sep w0 w L) {e : TypeId} {sz n : Nat} {v : Value} {xs : List Value} (i : Nat) (hi : L[i]? = some (ow e sz v n xs)) : Own w e sz v n xs := h.get i hi
/-- two chunks lie apart -/
theorem Sep.ne (h : Sep w0 w L) {c d : Chunk} (i j : Nat) (hi : L[i]? = some c) (hj : L[j]? = some d) (hij : i ≠ j) {k : Nat} (hk : c.F k) : ¬ d.F k := by
  obtain ⟨h1, e1⟩ := List.getElem?_eq_some_iff.1 hi
  obtain ⟨h2, e2⟩ := List.getElem?_eq_some_iff.1 hj
  have hp := List.pairwise_iff_getElem.1 h.apart
  rcases Nat.lt_or_gt_of_ne hij with hlt | hlt
  · have := hp i j h1 h2 hlt k
    rw [e1, e2] at this; exact this hk
  · intro hd
    have := hp j i h2 h1 hlt k
    rw [e1, e2] at this; exact this hd hk
/-- a chunk more -/
theorem Sep.push (h : Sep w0 w L) (hE : Ext w w') (c : Chunk) (hc : c.P w') (hF : ∀ k, c.F k → w.heap.size ≤ k ∧ k < w'.heap.size) (hN : c.N ≤ w0.heap.size) : Sep w0 w' (L ++ [c]) := by
  have h' := h.ext_ hE
  refine ⟨h'.ext, ?_, ?_, ?_, ?_⟩
  · rw [List.pairwise_append]
    refine ⟨h.apart, List.pairwise_singleton _ _, fun a ha b hb k hk hk2 => ?_⟩
    rw [List.mem_singleton] at hb; subst hb
    have := (h.low a ha k hk).2
    have := (hF k hk2).1
    omega
  · intro d hd
    rcases List.mem_append.1 hd with hd | hd
    · exact h'.holds d hd
    · rw [List.mem_singleton] at hd; subst hd; exact hc
  · intro d hd k hk
    rcases List.mem_append.1 hd with hd | hd
    · exact h'.low d hd k hk
    · rw [List.mem_singleton] at hd; subst hd
      have := h.ext.size
      have := hF k hk
      exact ⟨by omega, by omega⟩
  · intro d hd
    rcases List.mem_append.1 hd with hd | hd
    · exact h.inp d hd
    · rw [List.mem_singleton] at hd; subst hd; exact hN
/-- a chunk's blocks have changed, and new ones may have come -/
theorem Sep.upd (h : Sep w0 w L) {c : Chunk} (i : Nat) (hi : L[i]? = some c) (hM : Mod c.F w w') (c' : Chunk) (hc : c'.P w') (hF : ∀ k, c'.F k → c.F k ∨ (w.heap.size ≤ k ∧ k < w'.heap.size)) (hN : c'.N ≤ w0.heap.size) : Sep w0 w' (L.set i c') := by
  obtain ⟨h1, e1⟩ := List.getElem?_eq_some_iff.1 hi
  have hlow : ∀ k, c.F k → w0.heap.size ≤ k ∧ k < w.heap.size := fun k hk => h.getL i hi hk
  have key : ∀ j d, L[j]? = some d → j ≠ i → d.P w' := fun j d hj hne => d.loc w w' (fun k hk => by
    rcases hk with hk | hk
    · exact hM.block k (h.getL j hj hk).2 (h.ne j i hj hi hne hk)
    · have := h.inp d (List.mem_of_getElem? hj)
      have := h.ext.size
      exact hM.block k (by omega) (fun hc => by have := (hlow k hc).1; omega)) (h.get j hj)
  refine ⟨?_, ?_, ?_, ?_, ?_⟩
  · exact Ext.thenMod h.ext hM (fun k hk hck => by have := (hlow k hck).1; omega)
  · rw [List.pairwise_iff_getElem]
    intro a b ha hb hab k hka hkb
    rw [List.length_set] at ha hb
    have ga : L[a]? = some L[a] := List.getElem?_eq_getElem ha
    have gb : L[b]? = some L[b] := List.getElem?_eq_getElem hb
    rw [List.getElem_set] at hka hkb
    by_cases hia : i = a
    · rw [if_pos hia] at hka
      rw [if_neg (by omega)] at hkb
      rcases hF k hka with h2 | h2
      · exact h.ne i b hi gb (by omega) h2 hkb
      · have := (h.getL b gb hkb).2; omega
    · rw [if_neg hia] at hka
      by_cases hib : i = b
      · rw [if_pos hib] at hkb
        rcases hF k hkb with h2 | h2
        · exact h.ne a i ga hi (by omega) hka h2
        · have := (h.getL a ga hka).2; omega
      · rw [if_neg hib] at hkb
        exact h.ne a b ga gb (by omega) hka hkb
  · intro d hd
    obtain ⟨j, hj⟩ := List.getElem?_of_mem hd
    rw [List.getElem?_set] at hj
    by_cases hij : i = j
    · subst hij
      rw [if_pos rfl, if_pos h1] at hj
      cases hj; exact hc
    · rw [if_neg hij] at hj
      exact key j d hj (fun e => hij e.symm)
  · intro d hd k hk
    obtain ⟨j, hj⟩ := List.getElem?_of_mem hd
    rw [List.getElem?_set] at hj
    have hs := h.ext.size
    have hs' := hM.size
    by_cases hij : i = j
    · subst hij
      rw [if_pos rfl, if_pos h1] at hj
      cases hj
      rcases hF k hk with h2 | h2
      · have := hlow k h2; exact ⟨by omega, by omega⟩
      · exact ⟨by omega, by omega⟩
    · rw [if_neg hij] at hj
      have := h.getL j hj hk
      exact ⟨by omega, by omega⟩
  · intro d hd
    obtain ⟨j, hj⟩ := List.getElem?_of_mem hd
    rw [List.getElem?_set] at hj
    by_cases hij : i = j
    · subst hij
      rw [if_pos rfl, if_pos h1] at hj
      cases hj; exact hN
    · rw [if_neg hij] at hj
      exact h.inp d (List.mem_of_getElem? hj)
theorem Sep.setRow (h : Sep w0 w L) {g : Nat} {vs : List Value} {ty : TypeId} (i : Nat) (hi : L[i]? = some (cl g vs ty)) (us : List Value) : Sep w0 (w.setRow g us.toArray) (L.set i (cl g us ty)) :=
  h.upd i hi (setRow_mod (M := fun k => k = g) rfl) (cl g us ty) (setRow_heap w g _ us.toArray ty (0, 0) (h.heap i hi)) (fun k hk => .inl hk) (Nat.zero_le _)
/-- a chunk is let go -/
theorem Sep.drop (h : Sep w0 w L) {L' : List Chunk} (hL : List.Sublist L' L) : Sep w0 w L' := ⟨h.ext, h.apart.sublist hL, fun c hc => h.holds c (hL.subset hc), fun c hc => h.low c (hL.subset hc), fun c hc => h.inp c (hL.subset hc)⟩
theorem Sep.take (h : Sep w0 w L) (k : Nat) : Sep w0 w (L.take k) := h.drop (List.take_sublist k L)
theorem Sep.drew (h : Sep w0 w L) : Sep w0 { w with drawn := w.drawn + 1 } L := h.ext_ Ext.drew0
end
/-! ### steps -/
section
variable {P : Program} {L os : List Oper} {K : Fr → World → Prop} {ρ : Fr} {w w0 : World} {d : Option Tmp} {T : TypeId} {pos : String} {af : Array Edge} {C : List Chunk}
theorem s_bxS (hS : Sep w0 w C) {e : TypeId} {x : Operand} {v : Value} {vs : List Value} (hx : ev ρ x = v) (hv : v.cells.toList = vs) (h : ∀ (w' : World) (g : Nat), Sep w0 w' (C ++ [cl g vs e]) → vcs P L K os (put ρ d (.pointer (some ⟨g, 0, none⟩))) w') :
    vcs P L K (⟨d, .box e x, T, pos, af, none⟩ :: os) ρ w :=
  s_bxA hx fun w' hE hh hs => h w' _ (hS.push hE (cl w.heap.size vs e) (by show _ = _; rw [hh, ← hv]) (fun k hk => by have hk : k = w.heap.size := hk; omega) (Nat.zero_le _))
theorem s_alS (hS : Sep w0 w C) (E : Env P) {e : TypeId} {v : Value} {vs : List Value} (hz : E.zr e = some v) (hv : v.cells.toList = vs) (h : ∀ (w' : World) (g : Nat), Sep w0 w' (C ++ [cl g vs e]) → vcs P L K os (put ρ d (.pointer (some ⟨g, 0, none⟩))) w') :
    vcs P L K (⟨d, .alloc e, T, pos, af, none⟩ :: os) ρ w :=
  s_alA E hz fun w' hE hh hs => h w' _ (hS.push hE (cl w.heap.size vs e) (by show _ = _; rw [hh, ← hv]) (fun k hk => by have hk : k = w.heap.size := hk; omega) (Nat.zero_le _))
theorem s_bsS (hS : Sep w0 w C) (E : Env P) {t e : TypeId} {n len : Nat} {z : Value} {ps : Array (Nat × Operand)} {qs : List (Nat × Value)} {cells : Array Value} {vs : List Value} (hs : E.sl t = some (e, n)) (hz : E.zr e = some z) (hle : Nat.ble (len * n) 16777216 = true) (hne : Nat.blt 0 (len * n) = true)
    (hq : ps.toList.map (fun p => (p.1, ev ρ p.2)) = qs) (hf : Instr.fill (fun i => some (i * n, n)) ((Array.range (len * n)).map (z.cells[· % z.cells.size]!)) qs = some cells) (hv : cells.toList = vs)
    (h : ∀ (w' : World) (g : Nat), Sep w0 w' (C ++ [cl g vs e]) → vcs P L K os (put ρ d (.slice (some ⟨g, 0, none⟩) len len)) w') :
    vcs P L K (⟨d, .buildSlice t len ps, T, pos, af, none⟩ :: os) ρ w :=
  s_bsA E hs hz hle hne hq hf fun w' hE hh hs => h w' _ (hS.push hE (cl w.heap.size vs e) (by show _ = _; rw [hh, ← hv]) (fun k hk => by have hk : k = w.heap.size := hk; omega) (Nat.zero_le _))
/-- the cells of a chunk with some of them stored anew -/
def spl (cs : List Value) (o : Nat) (vs : List Value) : List Value := cs.take o ++ vs ++ cs.drop (o + vs.length)
theorem s_stS (hS : Sep w0 w C) (i : Nat) (E : Env P) {x y : Operand} {t : TypeId} {m : Option Nat} {p : Addr} {g o : Nat} {cs : List Value} {ty : TypeId} {v : Value} {vs us : List Value} (hi : C[i]? = some (cl g cs ty)) (hl : E.ld t = some m) (hx : ev ρ x = .pointer (some p)) (hp : p = ⟨g, o, none⟩)
    (hy : ev ρ y = v) (hvs : v.cells.toList = vs) (hm : m.getD 1 = vs.length) (h1 : vs.all (·.oneCell') = true) (hsz : Nat.ble (o + vs.length) cs.length = true) (hus : spl cs o vs = us)
    (h : ∀ w', Sep w0 w' (C.set i (cl g us ty)) → vcs P L K os (put ρ d undef) w') :
    vcs P L K (⟨d, .store t x y, T, pos, af, none⟩ :: os) ρ w :=
  s_st E hl hx hp hy (hS.heap i hi) hvs hm h1 (by simpa using Nat.le_of_ble_eq_true hsz) (by
    have : splice cs.toArray o vs = us.toArray := by rw [← hus]; rfl
    rw [this]; exact h _ (hS.setRow i hi us))
theorem s_st1S (hS : Sep w0 w C) (i : Nat) (E : Env P) {x y : Operand} {t : TypeId} {p : Addr} {g o : Nat} {cs us : List Value} {ty : TypeId} {v : Value} (hi : C[i]? = some (cl g cs ty)) (hl : E.ld t = some none) (hx : ev ρ x = .pointer (some p)) (hp : p = ⟨g, o, none⟩)
    (hy : ev ρ y = v) (hv : v.oneCell' = true) (hsz : o < cs.length) (hus : cs.set o v = us)
    (h : ∀ w', Sep w0 w' (C.set i (cl g us ty)) → vcs P L K os (put ρ d undef) w') :
    vcs P L K (⟨d, .store t x y, T, pos, af, none⟩ :: os) ρ w :=
  s_st1 E hl hx hp hy hv (hS.heap i hi) (by simpa using hsz) (by
    have : cs.toArray.setIfInBounds o v = us.toArray := by rw [← hus]; simp
    rw [this]; exact h _ (hS.setRow i hi us))
theorem Sep.nil (hS : Sep w0 w C) (e : TypeId) (sz : Nat) : Sep w0 w (C ++ [ow e sz (.slice none 0 0) 0 []]) := hS.push Mod.refl _ (Own.nil w e sz) (fun k hk => by cases hk) (Nat.zero_le _)
/-- append onto a slice of the call's own -/
theorem s_apS (hS : Sep w0 w C) (i : Nat) (E : Env P) {x y : Operand} {t e : TypeId} {sz m c n by_ : Nat} {z v : Value} {a : Addr} {xs news : List Value}
    (hi : C[i]? = some (ow e sz v n xs)) (hs : E.sl t = some (e, sz)) (hz : E.zr e = some z) (hb : E.bt e = some by_) (hzs : (Nat.beq z.cells.size sz && Nat.blt 0 sz) = true) (hx : ev ρ x = v)
    (hy : ev ρ y = .slice (some a) m c) (hr : Row w a news) (hl : news.length = m * sz) (h1 : news.all (·.oneCell') = true) (hle : (n + m) * by_ ≤ 140737488355328 ∧ n + m ≤ 9223372036854775807)
    (h : ∀ (v' : Value) (w' : World), Sep w0 w' (C.set i (ow e sz v' (n + m) (xs ++ news))) → vcs P L K os (put ρ d v') w') :
    vcs P L K (⟨d, .call { callee := .builtin .append, args := #[x, y], argTypes := #[t, t] }, T, pos, af, none⟩ :: os) ρ w :=
  s_ap E hs hz hb hzs (hS.own i hi) hx hy hr hl h1 hle fun v' w' ho hM hon => h v' w' (hS.upd i hi hM (ow e sz v' (n + m) (xs ++ news)) ho (fun k hk => by
    have hk' : v'.ownBlock = some k := hk
    rcases hon with h2 | ⟨j, h2, h3⟩
    · left; show v.ownBlock = some k; rw [← h2]; exact hk'
    · right; rw [h2] at hk'; cases hk'
      exact ⟨h3, Own.lt ho h2⟩) (Nat.zero_le _))
/-- a slice of the call's own, or one that is full -/
def owF (e : TypeId) (sz : Nat) (v : Value) (n : Nat) (xs : List Value) : Chunk := ⟨fun k => v.ownBlock = some k, 0, fun w => OwnF w e sz v n xs, fun w w' h hp => by
  rcases hp with hp | ⟨h1, a, rfl, h2⟩
  · exact .inl (owns_loc (fun k hk => h k (.inl hk)) hp)
  · refine .inr ⟨h1, a, rfl, fun i x hx => ?_⟩
    have hb : w'.heap[(a.add i).block]? = w.heap[(a.add i).block]? := h _ (.inl (by rw [add_block]; rfl))
    rw [World.cell?_of_block hb]
    exact h2 i x hx⟩
theorem Sep.ownF (h : Sep w0 w C) {e : TypeId} {sz n : Nat} {v : Value} {xs : List Value} (i : Nat) (hi : C[i]? = some (owF e sz v n xs)) : OwnF w e sz v n xs := h.get i hi
/-- append onto such a slice -/
theorem s_apFS (hS : Sep w0 w C) (i : Nat) (E : Env P) {x y : Operand} {t e : TypeId} {sz m c n by_ : Nat} {z v : Value} {a : Addr} {xs news : List Value}
    (hi : C[i]? = some (owF e sz v n xs)) (hs : E.sl t = some (e, sz)) (hz : E.zr e = some z) (hb : E.bt e = some by_) (hzs : (Nat.beq z.cells.size sz && Nat.blt 0 sz) = true) (hx : ev ρ x = v)
    (hy : ev ρ y = .slice (some a) m c) (hr : Row w a news) (hl : news.length = m * sz) (hm : Nat.blt 0 m = true) (h1 : news.all (·.oneCell') = true) (hle : (n + m) * by_ ≤ 140737488355328 ∧ n + m ≤ 9223372036854775807)
    (h : ∀ (v' : Value) (w' : World), Sep w0 w' (C.set i (owF e sz v' (n + m) (xs ++ news))) → vcs P L K os (put ρ d v') w') :
    vcs P L K (⟨d, .call { callee := .builtin .append, args := #[x, y], argTypes := #[t, t] }, T, pos, af, none⟩ :: os) ρ w :=
  s_apF E hs hz hb hzs (hS.ownF i hi) hx hy hr hl hm h1 hle fun v' w' ho hM hon => h v' w' (hS.upd i hi hM (owF e sz v' (n + m) (xs ++ news)) (.inl ho) (fun k hk => by
    have hk' : v'.ownBlock = some k := hk
    rcases hon with h2 | ⟨j, h2, h3⟩
    · left; show v.ownBlock = some k; rw [← h2]; exact hk'
    · right; rw [h2] at hk'; cases hk'
      exact ⟨h3, Own.lt ho h2⟩) (Nat.zero_le _))
/-- an append keeps its block, or leaves all blocks as they were -/
theorem run_apx (w : World) (t ty e : TypeId) (i : TypeInfo) (z : Value) (ht : P.underlying t = some (.slice e)) (hi : P.info? e = some i) (hz : i.zero = some z) (hzs : z.cells.size = i.size) (hsz : 0 < i.size)
    (v : Value) (n : Nat) (xs : List Value) (hown : Own w e i.size v n xs) (a : Addr) (m c : Nat) (hm : 0 < m) (news : List Value) (hl : news.length = m * i.size) (hnews : Row w a news) (h1 : news.all (·.oneCell') = true)
    (hbytes : (n + m) * i.bytes ≤ 140737488355328) (h63 : n + m ≤ maxLen) :
    ∃ v' w', (Builtin.append_ #[t, t] ty #[v, .slice (some a) m c]).run P w = .ok v' w' ∧ Own w' e i.size v' (n + m) (xs ++ news) ∧ Mod (fun k => v.ownBlock = some k) w w' ∧ OldOrNew w v v' ∧ (v'.ownBlock = v.ownBlock ∨ Ext w w') := by
  obtain ⟨v', w', hr, h2, h3, h4⟩ := run_ap (P := P) w t ty e i z ht hi hz hzs hsz v n xs hown a m c news hl hnews h1 hbytes h63
  refine ⟨v', w', hr, h2, h3, h4, ?_⟩
  rcases hown.2 with ⟨rfl, rfl⟩ | ⟨g, cap, cur, rfl, hbg, hg, hnc, hcm, hcs, htake⟩
  · right
    exact h3.ext (fun k hk h => by cases h)
  · by_cases hroom : n + m ≤ cap
    · left
      have hfit : n * i.size + news.length ≤ cur.size := by rw [hl, hcs, ← Nat.add_mul]; exact Nat.mul_le_mul_right _ hroom
      have hr' := run_append_room (P := P) w t ty e i ht hi g n cap cur hg a m c news hl hnews (by simpa using h1) hroom hfit
      rw [hr'] at hr
      cases hr
      rfl
    · right
      have holds : ∀ j u, xs[j]? = some u → w.cell? ((⟨g, 0, none⟩ : Addr).add j) = some u := World.ownsRow.cells hown (g := g) rfl
      have hr' := run_append_grow (P := P) w t ty e i z ht hi hz ⟨g, 0, none⟩ n cap xs hown.1 holds a m c news hl hnews (by omega) (by simp only [maxLen] at h63; omega) (growslice_fits (by omega) hbytes)
      rw [hr'] at hr
      cases hr
      exact ⟨rfl, rfl, rfl, by simp, fun k hk _ => hp_old w.drew _ k hk⟩
/-- append onto a slice that is looked at again: its cells are as they were -/
theorem s_apK (E : Env P) {x y : Operand} {t e : TypeId} {sz m c n by_ : Nat} {z : Value} {p : Option Addr} {cp : Nat} {a : Addr} {xs news : List Value}
    (hs : E.sl t = some (e, sz)) (hz : E.zr e = some z) (hb : E.bt e = some by_) (hzs : (Nat.beq z.cells.size sz && Nat.blt 0 sz) = true) (hown : OwnF w e sz (.slice p n cp) n xs) (hx : ev ρ x = .slice p n cp)
    (hy : ev ρ y = .slice (some a) m c) (hr : Row w a news) (hl : news.length = m * sz) (hm : Nat.blt 0 m = true) (h1 : news.all (·.oneCell') = true) (hle : (n + m) * by_ ≤ 140737488355328 ∧ n + m ≤ 9223372036854775807)
    (h : ∀ v' w', Own w' e sz v' (n + m) (xs ++ news) → Mod (fun k => (Value.slice p n cp).ownBlock = some k) w w' → SlR w' p xs → vcs P L K os (put ρ d v') w') :
    vcs P L K (⟨d, .call { callee := .builtin .append, args := #[x, y], argTypes := #[t, t] }, T, pos, af, none⟩ :: os) ρ w := by
  obtain ⟨hu, i, hi, hn⟩ := E.h_sl _ _ _ hs
  obtain ⟨i', hi', hv⟩ := E.h_zr _ _ hz
  rw [hi] at hi'; cases hi'
  obtain ⟨i', hi', hbb⟩ := E.h_bt _ _ hb
  rw [hi] at hi'; cases hi'
  subst hn; subst hbb
  simp only [Bool.and_eq_true, Nat.beq_eq, Nat.blt_eq] at hzs hm
  have hsl : SlR w p xs := by obtain ⟨p', c', h1, h2, _⟩ := hown.form; cases h1; exact h2
  rcases hown with hown | ⟨hlx, b, hvb, hrow⟩
  · obtain ⟨v', w', hrun, h2, h3, h4, h5⟩ := run_apx (P := P) w t T e i z hu hi hv hzs.1 hzs.2 _ n xs hown a m c hm news hl hr h1 hle.1 (by simp only [maxLen]; omega)
    refine s_val (v := v') (w' := w') ?_ (h v' w' h2 h3 ?_)
    · simp [execOp, resolve, invoke, builtin, hx, hy, hrun]
    · rcases h5 with h5 | h5
      · obtain ⟨p', c', e1, s1, _, k1⟩ := h2.form
        obtain ⟨p2, c2, e2, _, _, k2⟩ := hown.form
        cases e2
        cases p with
        | none => exact hsl
        | some a0 =>
          have hk2 := k2 a0 rfl
          subst e1
          cases p' with
          | none => rw [hk2.1] at h5; cases h5
          | some a1 =>
            have hk1 := k1 a1 rfl
            rw [hk1.1, hk2.1] at h5
            have : a0 = a1 := by rw [hk1.2, hk2.2]; rw [Option.some.inj h5]
            subst this
            have hs1 : Row w' a0 (xs ++ news) := s1
            intro j x hj
            exact hs1 j x (by rw [List.getElem?_append_left (List.getElem?_eq_some_iff.1 hj).1]; exact hj)
      · exact Ext.sl h5 hsl
  · cases hvb
    have hrun := run_append_grow (P := P) w t T e i z hu hi hv b n n xs hlx hrow a m c news hl hr (by omega) (by omega) (growslice_fits (by omega) hle.1)
    refine s_val (v := _) (w' := _) (by simp only [execOp, resolve, invoke, builtin, List.map_toArray, List.map_cons, List.map_nil, hx, hy, Sem.run_bind, Sem.run_pure, Result.andThen_ok, hrun]; rfl) (h _ _ ?_ ?_ ?_)
    · have hge := grownCap_ge w (n + m) n e
      refine ⟨by rw [List.length_append, hlx, hl, Nat.add_mul], .inr ⟨w.heap.size, _, _, rfl, Nat.zero_le _, heap_alloc_new w.drew _, hge, grownCap_le_maxLen w (n + m) n e (by simp only [maxLen]; omega), ?_, ?_⟩⟩
      · simp only [Array.size_append, List.size_toArray, size_zeroCells, hzs.1, hlx, hl, ← Nat.add_mul]
        congr 1
        omega
      · simp only [Array.toList_append, List.append_assoc]
        rw [← List.append_assoc, show (n + m) * i.size = (xs ++ news).length by rw [List.length_append, hlx, hl, Nat.add_mul]]
        exact List.take_left
    · exact ⟨rfl, rfl, rfl, by simp, fun k hk _ => hp_old w.drew _ k hk⟩
    · refine Ext.sl (w := w) ?_ hsl
      exact ⟨rfl, rfl, rfl, by simp, fun k hk _ => hp_old w.drew _ k hk⟩
theorem own_lit {e : TypeId} {sz n g : Nat} {vs : List Value} (hh : w.heap[g]? = some (.cells vs.toArray e (0, 0))) (hl : vs.length = n * sz) (hn : n ≤ 9223372036854775807) : Own w e sz (.slice (some ⟨g, 0, none⟩) n n) n vs :=
  ⟨hl, .inr ⟨g, n, vs.toArray, rfl, Nat.zero_le _, hh, Nat.le_refl _, by simp only [maxLen]; omega, by simpa using hl, by simp [← hl]⟩⟩
/-- append of a slice, nil too, onto a slice of the call's own -/
theorem s_apP (E : Env P) {x y : Operand} {t e : TypeId} {sz m c n by_ : Nat} {z v : Value} {p : Option Addr} {xs news : List Value}
    (hs : E.sl t = some (e, sz)) (hz : E.zr e = some z) (hb : E.bt e = some by_) (hzs : (Nat.beq z.cells.size sz && Nat.blt 0 sz) = true) (hown : Own w e sz v n xs) (hx : ev ρ x = v)
    (hy : ev ρ y = .slice p m c) (hn : p = none → m = 0 ∧ c = 0) (hr : SlR w p news) (hl : news.length = m * sz) (h1 : news.all (·.oneCell') = true) (hle : (n + m) * by_ ≤ 140737488355328 ∧ n + m ≤ 9223372036854775807)
    (h : ∀ v' w', Own w' e sz v' (n + m) (xs ++ news) → Mod (fun k => v.ownBlock = some k) w w' → OldOrNew w v v' → vcs P L K os (put ρ d v') w') :
    vcs P L K (⟨d, .call { callee := .builtin .append, args := #[x, y], argTypes := #[t, t] }, T, pos, af, none⟩ :: os) ρ w := by
  cases p with
  | some a => exact s_ap E hs hz hb hzs hown hx hy hr hl h1 hle h
  | none =>
    obtain ⟨rfl, rfl⟩ := hn rfl
    have hr : news = [] := hr
    subst hr
    exact s_ap0 E hs hown hx hy (h v w (by simpa using hown) Mod.refl (.inl rfl))
/-- append of a slice of one's own that is not empty onto one that is full -/
theorem s_apFO (E : Env P) {x y : Operand} {t e : TypeId} {sz m n by_ : Nat} {z v u : Value} {xs news : List Value}
    (hs : E.sl t = some (e, sz)) (hz : E.zr e = some z) (hb : E.bt e = some by_) (hzs : (Nat.beq z.cells.size sz && Nat.blt 0 sz) = true) (hown : OwnF w e sz v n xs) (hx : ev ρ x = v)
    (hy : ev ρ y = u) (hu : Own w e sz u m news) (hm : 0 < m) (h1 : news.all (·.oneCell') = true) (hle : (n + m) * by_ ≤ 140737488355328 ∧ n + m ≤ 9223372036854775807)
    (h : ∀ v' w', Own w' e sz v' (n + m) (xs ++ news) → Mod (fun k => v.ownBlock = some k) w w' → OldOrNew w v v' → vcs P L K os (put ρ d v') w') :
    vcs P L K (⟨d, .call { callee := .builtin .append, args := #[x, y], argTypes := #[t, t] }, T, pos, af, none⟩ :: os) ρ w := by
  obtain ⟨p, c, rfl, hp, _, _⟩ := hu.form
  have hl := hu.len
  have hsz : 0 < sz := by simp only [Bool.and_eq_true, Nat.blt_eq] at hzs; exact hzs.2
  have hne : news ≠ [] := by
    intro h0; rw [h0] at hl; have := Nat.mul_pos hm hsz; simp at hl; omega
  obtain ⟨a, rfl, hr⟩ := hp.some hne
  exact s_apF E hs hz hb hzs hown hx hy hr hl (by rw [Nat.blt_eq]; exact hm) h1 hle h
theorem r_slc (E : Env P) {x : Operand} {lo hi mx : Option Operand} {t e : TypeId} {sz len cap l h m : Nat} {a : Option Addr} (hs : E.sl t = some (e, sz)) (hx : ev ρ x = .slice a len cap)
    (hb : ∀ w : World, (Instr.sliceBounds true len cap (lo.map (ev ρ)) (hi.map (ev ρ)) (mx.map (ev ρ))).run P w = .ok (l, h, m) w) :
    (execOp (ev ρ) ⟨d, .slice t x lo hi mx, T, pos, af, none⟩).run P w = .ok (.value (.slice (slP a l m sz) (h - l) (m - l))) w := by
  obtain ⟨hu, i, hi', hn⟩ := E.h_sl _ _ _ hs
  have hu' : P.underlying t = some (.slice (P.elem t)) := by rw [elem_of hu]; exact hu
  simp only [execOp, hx, Sem.run_bind, run_sliceAt_slice w t _ _ _ _ hu', run_slice_any w t a len cap hu', hb, Result.andThen_ok, run_sz E hs, Sem.run_pure]
  rfl
/-- a call that leaves all as it was but for new blocks -/
theorem s_callE (hS : Sep w0 w C) {f : Operand} {xs : Array Operand} {ts : Array TypeId} {g : FuncId} {vs cs : Array Value} {args : List Value} {v : Value}
    (hf : ev ρ f = .func (.func g) vs cs) (ha : vs.toList ++ (xs.toList.map (ev ρ) ++ cs.toList) = args) (hR : Ret P g args.toArray w fun v' w' => v' = v ∧ Ext w w')
    (h : ∀ w', Sep w0 w' C → vcs P L K os (put ρ d v) w') : vcs P L K (⟨d, .call { callee := .value f, args := xs, argTypes := ts }, T, pos, af, none⟩ :: os) ρ w :=
  s_callx hf ha hR fun w' hE => h w' (hS.ext_ hE)
/-- a call that writes a chunk whose cells are known -/
theorem s_clx (hS : Sep w0 w C) (i : Nat) {gb : Nat} {bs us : List Value} {ty : TypeId} (hi : C[i]? = some (cl gb bs ty)) {f : Operand} {xs : Array Operand} {ts : Array TypeId} {g : FuncId} {vs cs : Array Value} {args : List Value} {v : Value}
    (hf : ev ρ f = .func (.func g) vs cs) (ha : vs.toList ++ (xs.toList.map (ev ρ) ++ cs.toList) = args) (hR : Ret P g args.toArray w fun v' w' => v' = v ∧ w'.heap[gb]? = some (.cells us.toArray ty (0, 0)) ∧ Mod (fun k => k = gb) w w')
    (h : ∀ w', Sep w0 w' (C.set i (cl gb us ty)) → vcs P L K os (put ρ d v) w') : vcs P L K (⟨d, .call { callee := .value f, args := xs, argTypes := ts }, T, pos, af, none⟩ :: os) ρ w :=
  s_callx hf ha hR fun w' ⟨h1, h2⟩ => h w' (hS.upd i hi h2 (cl gb us ty) h1 (fun k hk => .inl hk) (Nat.zero_le _))
theorem q_callE {Kq : Fr → Prop} {f : Operand} {xs : Array Operand} {ts : Array TypeId} {g : FuncId} {vs cs : Array Value} {args : List Value} {v : Value}
    (hf : ev ρ f = .func (.func g) vs cs) (ha : vs.toList ++ (xs.toList.map (ev ρ) ++ cs.toList) = args) (hR : ∀ w, Ext w0 w → Ret P g args.toArray w fun v' w' => v' = v ∧ Ext w w')
    (h : vq P L (Ext w0) Kq os (put ρ d v)) : vq P L (Ext w0) Kq (⟨d, .call { callee := .value f, args := xs, argTypes := ts }, T, pos, af, none⟩ :: os) ρ :=
  q_call hf ha (hR w0 Mod.refl).1 (fun w hw => (hR w hw).mono fun v' w' hx => ⟨hx.1, hw.trans hx.2⟩) h
end
end Go.Fx
namespace Go.Fx
section
variable {P : Program} {n : Nat} {c : Code} {Q : Post} {ρ : Fr} {w : World}
theorem W_n15 (a0 a1 a2 a3 a4 a5 a6 a7 a8 a9 a10 a11 a12 a13 a14 : Nat) (x0 x1 x2 x3 x4 x5 x6 x7 x8 x9 x10 x11 x12 x13 x14 : Value) (h0 : ρ a0 = x0) (h1 : ρ a1 = x1) (h2 : ρ a2 = x2) (h3 : ρ a3 = x3) (h4 : ρ a4 = x4) (h5 : ρ a5 = x5) (h6 : ρ a6 = x6) (h7 : ρ a7 = x7) (h8 : ρ a8 = x8) (h9 : ρ a9 = x9) (h10 : ρ a10 = x10) (h11 : ρ a11 = x11) (h12 : ρ a12 = x12) (h13 : ρ a13 = x13) (h14 : ρ a14 = x14) (h : ∀ ρ, W P n c Q (upd (upd (upd (upd (upd (upd (upd (upd (upd (upd (upd (upd (upd (upd (upd ρ a0 x0) a1 x1) a2 x2) a3 x3) a4 x4) a5 x5) a6 x6) a7 x7) a8 x8) a9 x9) a10 x10) a11 x11) a12 x12) a13 x13) a14 x14) w) : W P n c Q ρ w := by
  have e : ρ = (upd (upd (upd (upd (upd (upd (upd (upd (upd (upd (upd (upd (upd (upd (upd ρ a0 x0) a1 x1) a2 x2) a3 x3) a4 x4) a5 x5) a6 x6) a7 x7) a8 x8) a9 x9) a10 x10) a11 x11) a12 x12) a13 x13) a14 x14) := by
    have e14 := u14 (ρ := ρ) h0 h1 h2 h3 h4 h5 h6 h7 h8 h9 h10 h11 h12 h13
    have e15 : ρ = (upd (upd (upd (upd (upd (upd (upd (upd (upd (upd (upd (upd (upd (upd (upd ρ a0 x0) a1 x1) a2 x2) a3 x3) a4 x4) a5 x5) a6 x6) a7 x7) a8 x8) a9 x9) a10 x10) a11 x11) a12 x12) a13 x13) a14 x14) := by rw [← e14]; exact u1 h14
    exact e15
  rw [e]; exact h _
theorem W_n16 (a0 a1 a2 a3 a4 a5 a6 a7 a8 a9 a10 a11 a12 a13 a14 a15 : Nat) (x0 x1 x2 x3 x4 x5 x6 x7 x8 x9 x10 x11 x12 x13 x14 x15 : Value) (h0 : ρ a0 = x0) (h1 : ρ a1 = x1) (h2 : ρ a2 = x2) (h3 : ρ a3 = x3) (h4 : ρ a4 = x4) (h5 : ρ a5 = x5) (h6 : ρ a6 = x6) (h7 : ρ a7 = x7) (h8 : ρ a8 = x8) (h9 : ρ a9 = x9) (h10 : ρ a10 = x10) (h11 : ρ a11 = x11) (h12 : ρ a12 = x12) (h13 : ρ a13 = x13) (h14 : ρ a14 = x14) (h15 : ρ a15 = x15) (h : ∀ ρ, W P n c Q (upd (upd (upd (upd (upd (upd (upd (upd (upd (upd (upd (upd (upd (upd (upd (upd ρ a0 x0) a1 x1) a2 x2) a3 x3) a4 x4) a5 x5) a6 x6) a7 x7) a8 x8) a9 x9) a10 x10) a11 x11) a12 x12) a13 x13) a14 x14) a15 x15) w) : W P n c Q ρ w := by
  have e : ρ = (upd (upd (upd (upd (upd (upd (upd (upd (upd (upd (upd (upd (upd (upd (upd (upd ρ a0 x0) a1 x1) a2 x2) a3 x3) a4 x4) a5 x5) a6 x6) a7 x7) a8 x8) a9 x9) a10 x10) a11 x11) a12 x12) a13 x13) a14 x14) a15 x15) := by
    have e14 := u14 (ρ := ρ) h0 h1 h2 h3 h4 h5 h6 h7 h8 h9 h10 h11 h12 h13
    have e15 : ρ = (upd (upd (upd (upd (upd (upd (upd (upd (upd (upd (upd (upd (upd (upd (upd ρ a0 x0) a1 x1) a2 x2) a3 x3) a4 x4) a5 x5) a6 x6) a7 x7) a8 x8) a9 x9) a10 x10) a11 x11) a12 x12) a13 x13) a14 x14) := by rw [← e14]; exact u1 h14
    have e16 : ρ = (upd (upd (upd (upd (upd (upd (upd (upd (upd (upd (upd (upd (upd (upd (upd (upd ρ a0 x0) a1 x1) a2 x2) a3 x3) a4 x4) a5 x5) a6 x6) a7 x7) a8 x8) a9 x9) a10 x10) a11 x11) a12 x12) a13 x13) a14 x14) a15 x15) := by rw [← e15]; exact u1 h15
    exact e16
  rw [e]; exact h _
theorem W_n17 (a0 a1 a2 a3 a4 a5 a6 a7 a8 a9 a10 a11 a12 a13 a14 a15 a16 : Nat) (x0 x1 x2 x3 x4 x5 x6 x7 x8 x9 x10 x11 x12 x13 x14 x15 x16 : Value) (h0 : ρ a0 = x0) (h1 : ρ a1 = x1) (h2 : ρ a2 = x2) (h3 : ρ a3 = x3) (h4 : ρ a4 = x4) (h5 : ρ a5 = x5) (h6 : ρ a6 = x6) (h7 : ρ a7 = x7) (h8 : ρ a8 = x8) (h9 : ρ a9 = x9) (h10 : ρ a10 = x10) (h11 : ρ a11 = x11) (h12 : ρ a12 = x12) (h13 : ρ a13 = x13) (h14 : ρ a14 = x14) (h15 : ρ a15 = x15) (h16 : ρ a16 = x16) (h : ∀ ρ, W P n c Q (upd (upd (upd (upd (upd (upd (upd (upd (upd (upd (upd (upd (upd (upd (upd (upd (upd ρ a0 x0) a1 x1) a2 x2) a3 x3) a4 x4) a5 x5) a6 x6) a7 x7) a8 x8) a9 x9) a10 x10) a11 x11) a12 x12) a13 x13) a14 x14) a15 x15) a16 x16) w) : W P n c Q ρ w := by
  have e : ρ = (upd (upd (upd (upd (upd (upd (upd (upd (upd (upd (upd (upd (upd (upd (upd (upd (upd ρ a0 x0) a1 x1) a2 x2) a3 x3) a4 x4) a5 x5) a6 x6) a7 x7) a8 x8) a9 x9) a10 x10) a11 x11) a12 x12) a13 x13) a14 x14) a15 x15) a16 x16) := by
    have e14 := u14 (ρ := ρ) h0 h1 h2 h3 h4 h5 h6 h7 h8 h9 h10 h11 h12 h13
    have e15 : ρ = (upd (upd (upd (upd (upd (upd (upd (upd (upd (upd (upd (upd (upd (upd (upd ρ a0 x0) a1 x1) a2 x2) a3 x3) a4 x4) a5 x5) a6 x6) a7 x7) a8 x8) a9 x9) a10 x10) a11 x11) a12 x12) a13 x13) a14 x14) := by rw [← e14]; exact u1 h14
    have e16 : ρ = (upd (upd (upd (upd (upd (upd (upd (upd (upd (upd (upd (upd (upd (upd (upd (upd ρ a0 x0) a1 x1) a2 x2) a3 x3) a4 x4) a5 x5) a6 x6) a7 x7) a8 x8) a9 x9) a10 x10) a11 x11) a12 x12) a13 x13) a14 x14) a15 x15) := by rw [← e15]; exact u1 h15
    have e17 : ρ = (upd (upd (upd (upd (upd (upd (upd (upd (upd (upd (upd (upd (upd (upd (upd (upd (upd ρ a0 x0) a1 x1) a2 x2) a3 x3) a4 x4) a5 x5) a6 x6) a7 x7) a8 x8) a9 x9) a10 x10) a11 x11) a12 x12) a13 x13) a14 x14) a15 x15) a16 x16) := by rw [← e16]; exact u1 h16
    exact e17
  rw [e]; exact h _
theorem W_n18 (a0 a1 a2 a3 a4 a5 a6 a7 a8 a9 a10 a11 a12 a13 a14 a15 a16 a17 : Nat) (x0 x1 x2 x3 x4 x5 x6 x7 x8 x9 x10 x11 x12 x13 x14 x15 x16 x17 : Value) (h0 : ρ a0 = x0) (h1 : ρ a1 = x1) (h2 : ρ a2 = x2) (h3 : ρ a3 = x3) (h4 : ρ a4 = x4) (h5 : ρ a5 = x5) (h6 : ρ a6 = x6) (h7 : ρ a7 = x7) (h8 : ρ a8 = x8) (h9 : ρ a9 = x9) (h10 : ρ a10 = x10) (h11 : ρ a11 = x11) (h12 : ρ a12 = x12) (h13 : ρ a13 = x13) (h14 : ρ a14 = x14) (h15 : ρ a15 = x15) (h16 : ρ a16 = x16) (h17 : ρ a17 = x17) (h : ∀ ρ, W P n c Q (upd (upd (upd (upd (upd (upd (upd (upd (upd (upd (upd (upd (upd (upd (upd (upd (upd (upd ρ a0 x0) a1 x1) a2 x2) a3 x3) a4 x4) a5 x5) a6 x6) a7 x7) a8 x8) a9 x9) a10 x10) a11 x11) a12 x12) a13 x13) a14 x14) a15 x15) a16 x16) a17 x17) w) : W P n c Q ρ w := by
  have e : ρ = (upd (upd (upd (upd (upd (upd (upd (upd (upd (upd (upd (upd (upd (upd (upd (upd (upd (upd ρ a0 x0) a1 x1) a2 x2) a3 x3) a4 x4) a5 x5) a6 x6) a7 x7) a8 x8) a9 x9) a10 x10) a11 x11) a12 x12) a13 x13) a14 x14) a15 x15) a16 x16) a17 x17) := by
    have e14 := u14 (ρ := ρ) h0 h1 h2 h3 h4 h5 h6 h7 h8 h9 h10 h11 h12 h13
    have e15 : ρ = (upd (upd (upd (upd (upd (upd (upd (upd (upd (upd (upd (upd (upd (upd (upd ρ a0 x0) a1 x1) a2 x2) a3 x3) a4 x4) a5 x5) a6 x6) a7 x7) a8 x8) a9 x9) a10 x10) a11 x11) a12 x12) a13 x13) a14 x14) := by rw [← e14]; exact u1 h14
    have e16 : ρ = (upd (upd (upd (upd (upd (upd (upd (upd (upd (upd (upd (upd (upd (upd (upd (upd ρ a0 x0) a1 x1) a2 x2) a3 x3) a4 x4) a5 x5) a6 x6) a7 x7) a8 x8) a9 x9) a10 x10) a11 x11) a12 x12) a13 x13) a14 x14) a15 x15) := by rw [← e15]; exact u1 h15
    have e17 : ρ = (upd (upd (upd (upd (upd (upd (upd (upd (upd (upd (upd (upd (upd (upd (upd (upd (upd ρ a0 x0) a1 x1) a2 x2) a3 x3) a4 x4) a5 x5) a6 x6) a7 x7) a8 x8) a9 x9) a10 x10) a11 x11) a12 x12) a13 x13) a14 x14) a15 x15) a16 x16) := by rw [← e16]; exact u1 h16
    have e18 : ρ = (upd (upd (upd (upd (upd (upd (upd (upd (upd (upd (upd (upd (upd (upd (upd (upd (upd (upd ρ a0 x0) a1 x1) a2 x2) a3 x3) a4 x4) a5 x5) a6 x6) a7 x7) a8 x8) a9 x9) a10 x10) a11 x11) a12 x12) a13 x13) a14 x14) a15 x15) a16 x16) a17 x17) := by rw [← e17]; exact u1 h17
    exact e18
  rw [e]; exact h _
theorem W_n19 (a0 a1 a2 a3 a4 a5 a6 a7 a8 a9 a10 a11 a12 a13 a14 a15 a16 a17 a18 : Nat) (x0 x1 x2 x3 x4 x5 x6 x7 x8 x9 x10 x11 x12 x13 x14 x15 x16 x17 x18 : Value) (h0 : ρ a0 = x0) (h1 : ρ a1 = x1) (h2 : ρ a2 = x2) (h3 : ρ a3 = x3) (h4 : ρ a4 = x4) (h5 : ρ a5 = x5) (h6 : ρ a6 = x6) (h7 : ρ a7 = x7) (h8 : ρ a8 = x8) (h9 : ρ a9 = x9) (h10 : ρ a10 = x10) (h11 : ρ a11 = x11) (h12 : ρ a12 = x12) (h13 : ρ a13 = x13) (h14 : ρ a14 = x14) (h15 : ρ a15 = x15) (h16 : ρ a16 = x16) (h17 : ρ a17 = x17) (h18 : ρ a18 = x18) (h : ∀ ρ, W P n c Q (upd (upd (upd (upd (upd (upd (upd (upd (upd (upd (upd (upd (upd (upd (upd (upd (upd (upd (upd ρ a0 x0) a1 x1) a2 x2) a3 x3) a4 x4) a5 x5) a6 x6) a7 x7) a8 x8) a9 x9) a10 x10) a11 x11) a12 x12) a13 x13) a14 x14) a15 x15) a16 x16) a17 x17) a18 x18) w) : W P n c Q ρ w := by
  have e : ρ = (upd (upd (upd (upd (upd (upd (upd (upd (upd (upd (upd (upd (upd (upd (upd (upd (upd (upd (upd ρ a0 x0) a1 x1) a2 x2) a3 x3) a4 x4) a5 x5) a6 x6) a7 x7) a8 x8) a9 x9) a10 x10) a11 x11) a12 x12) a13 x13) a14 x14) a15 x15) a16 x16) a17 x17) a18 x18) := by
    have e14 := u14 (ρ := ρ) h0 h1 h2 h3 h4 h5 h6 h7 h8 h9 h10 h11 h12 h13
    have e15 : ρ = (upd (upd (upd (upd (upd (upd (upd (upd (upd (upd (upd (upd (upd (upd (upd ρ a0 x0) a1 x1) a2 x2) a3 x3) a4 x4) a5 x5) a6 x6) a7 x7) a8 x8) a9 x9) a10 x10) a11 x11) a12 x12) a13 x13) a14 x14) := by rw [← e14]; exact u1 h14
    have e16 : ρ = (upd (upd (upd (upd (upd (upd (upd (upd (upd (upd (upd (upd (upd (upd (upd (upd ρ a0 x0) a1 x1) a2 x2) a3 x3) a4 x4) a5 x5) a6 x6) a7 x7) a8 x8) a9 x9) a10 x10) a11 x11) a12 x12) a13 x13) a14 x14) a15 x15) := by rw [← e15]; exact u1 h15
    have e17 : ρ = (upd (upd (upd (upd (upd (upd (upd (upd (upd (upd (upd (upd (upd (upd (upd (upd (upd ρ a0 x0) a1 x1) a2 x2) a3 x3) a4 x4) a5 x5) a6 x6) a7 x7) a8 x8) a9 x9) a10 x10) a11 x11) a12 x12) a13 x13) a14 x14) a15 x15) a16 x16) := by rw [← e16]; exact u1 h16
    have e18 : ρ = (upd (upd (upd (upd (upd (upd (upd (upd (upd (upd (upd (upd (upd (upd (upd (upd (upd (upd ρ a0 x0) a1 x1) a2 x2) a3 x3) a4 x4) a5 x5) a6 x6) a7 x7) a8 x8) a9 x9) a10 x10) a11 x11) a12 x12) a13 x13) a14 x14) a15 x15) a16 x16) a17 x17) := by rw [← e17]; exact u1 h17
    have e19 : ρ = (upd (upd (upd (upd (upd (upd (upd (upd (upd (upd (upd (upd (upd (upd (upd (upd (upd (upd (upd ρ a0 x0) a1 x1) a2 x2) a3 x3) a4 x4) a5 x5) a6 x6) a7 x7) a8 x8) a9 x9) a10 x10) a11 x11) a12 x12) a13 x13) a14 x14) a15 x15) a16 x16) a17 x17) a18 x18) := by rw [← e18]; exact u1 h18
    exact e19
  rw [e]; exact h _
theorem W_n20 (a0 a1 a2 a3 a4 a5 a6 a7 a8 a9 a10 a11 a12 a13 a14 a15 a16 a17 a18 a19 : Nat) (x0 x1 x2 x3 x4 x5 x6 x7 x8 x9 x10 x11 x12 x13 x14 x15 x16 x17 x18 x19 : Value) (h0 : ρ a0 = x0) (h1 : ρ a1 = x1) (h2 : ρ a2 = x2) (h3 : ρ a3 = x3) (h4 : ρ a4 = x4) (h5 : ρ a5 = x5) (h6 : ρ a6 = x6) (h7 : ρ a7 = x7) (h8 : ρ a8 = x8) (h9 : ρ a9 = x9) (h10 : ρ a10 = x10) (h11 : ρ a11 = x11) (h12 : ρ a12 = x12) (h13 : ρ a13 = x13) (h14 : ρ a14 = x14) (h15 : ρ a15 = x15) (h16 : ρ a16 = x16) (h17 : ρ a17 = x17) (h18 : ρ a18 = x18) (h19 : ρ a19 = x19) (h : ∀ ρ, W P n c Q (upd (upd (upd (upd (upd (upd (upd (upd (upd (upd (upd (upd (upd (upd (upd (upd (upd (upd (upd (upd ρ a0 x0) a1 x1) a2 x2) a3 x3) a4 x4) a5 x5) a6 x6) a7 x7) a8 x8) a9 x9) a10 x10) a11 x11) a12 x12) a13 x13) a14 x14) a15 x15) a16 x16) a17 x17) a18 x18) a19 x19) w) : W P n c Q ρ w := by
  have e : ρ = (upd (upd (upd (upd (upd (upd (upd (upd (upd (upd (upd (upd (upd (upd (upd (upd (upd (upd (upd (upd ρ a0 x0) a1 x1) a2 x2) a3 x3) a4 x4) a5 x5) a6 x6) a7 x7) a8 x8) a9 x9) a10 x10) a11 x11) a12 x12) a13 x13) a14 x14) a15 x15) a16 x16) a17 x17) a18 x18) a19 x19) := by
    have e14 := u14 (ρ := ρ) h0 h1 h2 h3 h4 h5 h6 h7 h8 h9 h10 h11 h12 h13
    have e15 : ρ = (upd (upd (upd (upd (upd (upd (upd (upd (upd (upd (upd (upd (upd (upd (upd ρ a0 x0) a1 x1) a2 x2) a3 x3) a4 x4) a5 x5) a6 x6) a7 x7) a8 x8) a9 x9) a10 x10) a11 x11) a12 x12) a13 x13) a14 x14) := by rw [← e14]; exact u1 h14
    have e16 : ρ = (upd (upd (upd (upd (upd (upd (upd (upd (upd (upd (upd (upd (upd (upd (upd (upd ρ a0 x0) a1 x1) a2 x2) a3 x3) a4 x4) a5 x5) a6 x6) a7 x7) a8 x8) a9 x9) a10 x10) a11 x11) a12 x12) a13 x13) a14 x14) a15 x15) := by rw [← e15]; exact u1 h15
    have e17 : ρ = (upd (upd (upd (upd (upd (upd (upd (upd (upd (upd (upd (upd (upd (upd (upd (upd (upd ρ a0 x0) a1 x1) a2 x2) a3 x3) a4 x4) a5 x5) a6 x6) a7 x7) a8 x8) a9 x9) a10 x10) a11 x11) a12 x12) a13 x13) a14 x14) a15 x15) a16 x16) := by rw [← e16]; exact u1 h16
    have e18 : ρ = (upd (upd (upd (upd (upd (upd (upd (upd (upd (upd (upd (upd (upd (upd (upd (upd (upd (upd ρ a0 x0) a1 x1) a2 x2) a3 x3) a4 x4) a5 x5) a6 x6) a7 x7) a8 x8) a9 x9) a10 x10) a11 x11) a12 x12) a13 x13) a14 x14) a15 x15) a16 x16) a17 x17) := by rw [← e17]; exact u1 h17
    have e19 : ρ = (upd (upd (upd (upd (upd (upd (upd (upd (upd (upd (upd (upd (upd (upd (upd (upd (upd (upd (upd ρ a0 x0) a1 x1) a2 x2) a3 x3) a4 x4) a5 x5) a6 x6) a7 x7) a8 x8) a9 x9) a10 x10) a11 x11) a12 x12) a13 x13) a14 x14) a15 x15) a16 x16) a17 x17) a18 x18) := by rw [← e18]; exact u1 h18
    have e20 : ρ = (upd (upd (upd (upd (upd (upd (upd (upd (upd (upd (upd (upd (upd (upd (upd (upd (upd (upd (upd (upd ρ a0 x0) a1 x1) a2 x2) a3 x3) a4 x4) a5 x5) a6 x6) a7 x7) a8 x8) a9 x9) a10 x10) a11 x11) a12 x12) a13 x13) a14 x14) a15 x15) a16 x16) a17 x17) a18 x18) a19 x19) := by rw [← e19]; exact u1 h19
    exact e20
  rw [e]; exact h _
end
end Go.Fx
namespace Go.Fx
open Go.RowKit
set_option linter.unusedVariables false
set_option linter.unusedSimpArgs false
/-! ## arrays of numbers, compared -/
section
variable {P : Program} {L os : List Oper} {K : Fr → World → Prop} {ρ : Fr} {w : World} {d : Option Tmp} {T : TypeId} {pos : String} {af : Array Edge}
theorem run_eqA3 {dd : Nat} {t e : TypeId} {i : TypeInfo} (heq : ∀ a b : Int, (Op.equalIn dd e (.int .i64 a) (.int .i64 b)).run P w = .ok (a == b) w) (hu : P.underlying t = some (.array 3 e)) (he : P.underlying e = some (.int .i64)) (hi : P.info? e = some i) (hz : i.size = 1) (a0 a1 a2 b0 b1 b2 : Int) :
    (Op.equalIn (dd + 1) t (.agg #[.int .i64 a0, .int .i64 a1, .int .i64 a2]) (.agg #[.int .i64 b0, .int .i64 b1, .int .i64 b2])).run P w = .ok (decide (a0 = b0) && (decide (a1 = b1) && decide (a2 = b2))) w := by
  have hag : (isAgg e).run P w = .ok false w := by unfold isAgg; simp [run_under he]
  have hs : (sizeOf e).run P w = .ok 1 w := by simp [sizeOf, typeInfo, hi, hz]
  have hpart : ∀ (xs : Array Value) (k : Nat) (v : Value), xs[k]? = some v → (part e xs k).run P w = .ok v w := fun xs k v h => by simp [part, hag, h]
  simp only [Op.equalIn, Sem.run_bind, run_under hu, Result.andThen_ok, hs, Std.Legacy.Range.forIn_eq_forIn_range', Std.Legacy.Range.size]
  have p0 : (part e #[.int .i64 a0, .int .i64 a1, .int .i64 a2] 0).run P w = .ok (.int .i64 a0) w := hpart _ 0 _ rfl
  have p1 : (part e #[.int .i64 a0, .int .i64 a1, .int .i64 a2] 1).run P w = .ok (.int .i64 a1) w := hpart _ 1 _ rfl
  have p2 : (part e #[.int .i64 a0, .int .i64 a1, .int .i64 a2] 2).run P w = .ok (.int .i64 a2) w := hpart _ 2 _ rfl
  have q0 : (part e #[.int .i64 b0, .int .i64 b1, .int .i64 b2] 0).run P w = .ok (.int .i64 b0) w := hpart _ 0 _ rfl
  have q1 : (part e #[.int .i64 b0, .int .i64 b1, .int .i64 b2] 1).run P w = .ok (.int .i64 b1) w := hpart _ 1 _ rfl
  have q2 : (part e #[.int .i64 b0, .int .i64 b1, .int .i64 b2] 2).run P w = .ok (.int .i64 b2) w := hpart _ 2 _ rfl
  generalize (#[.int .i64 a0, .int .i64 a1, .int .i64 a2] : Array Value) = xs at *
  generalize (#[.int .i64 b0, .int .i64 b1, .int .i64 b2] : Array Value) = ys at *
  have e1 : ∀ a b : Int, (a == b) = decide (a = b) := fun a b => rfl
  by_cases h0 : a0 = b0 <;> by_cases h1 : a1 = b1 <;> by_cases h2 : a2 = b2 <;>
    simp [List.range', p0, p1, p2, q0, q1, q2, heq, h0, h1, h2]
theorem s_eqA3 (E : Env P) {t yt e : TypeId} {x y : Operand} {a0 a1 a2 b0 b1 b2 : Int} {c : Bool} (ht : E.ar t = some (3, e, 1)) (he : E.kd e = some .i64) (hg : P.eqGuardType P.depth t = false) (hx : ev ρ x = .agg #[.int .i64 a0, .int .i64 a1, .int .i64 a2]) (hy : ev ρ y = .agg #[.int .i64 b0, .int .i64 b1, .int .i64 b2])
    (hc : (decide (a0 = b0) && (decide (a1 = b1) && decide (a2 = b2))) = c) (hk : vcs P L K os (put ρ d (.bool c)) w) : vcs P L K (⟨d, .binOp .eql t x y yt, T, pos, af, none⟩ :: os) ρ w := by
  refine s_val ?_ hk
  obtain ⟨hu, i, hi, hz⟩ := E.h_ar _ _ _ _ ht
  have h2 := run_eqA3 (P := P) (w := w) (dd := 9999) (fun a b => run_equalIn_int (P := P) w 9998 e .i64 .i64 a b (E.h_kd _ _ he)) hu (E.h_kd _ _ he) hi hz a0 a1 a2 b0 b1 b2
  have h1 := run_eqGuard_agg (P := P) (w := w) .eql t x y #[.int .i64 a0, .int .i64 a1, .int .i64 a2] #[.int .i64 b0, .int .i64 b1, .int .i64 b2] hg
  rw [hc] at h2
  simp only [execOp, hx, hy, Sem.run_bind, h1, Result.andThen_ok, Sem.run_pure, run_eql_struct, h2]
theorem s_eqsc {t yt : TypeId} {x y : Operand} {a b : ByteArray} {c : Bool} (hx : ev ρ x = .string a) (hy : ev ρ y = .string b) (hc : (a.toList == b.toList) = c) (hk : vcs P L K os (put ρ d (.bool c)) w) : vcs P L K (⟨d, .binOp .eql t x y yt, T, pos, af, none⟩ :: os) ρ w :=
  s_eqs hx hy (by rw [hc]; exact hk)
end
end Go.Fx
namespace Go.Fx
open Go.RowKit Go.WideShapes Go.ChangeShapes
set_option linter.unusedVariables false
set_option linter.unusedSimpArgs false
section
variable {H : Type} {enc : TypeId × Value → H} {P : Program} {w : World} {base : Nat} {spare : Nat → Bool} {held : Bool}
/-! ## arguments opened down to their cells -/
theorem op_int {t : TypeId} {k : IntKind} {fuel : Nat} {cs : List Value} {x : DataW H × List MemPlace} (ht : P.underlying t = some (.int k)) (h : DataW.trod enc P w base spare held fuel t cs = some x) : ∃ n, cs = [.int k n] ∧ (Lit.int k n).wf = true := by
  obtain ⟨n, h1, _, h2⟩ := DataW.trod_int ht h
  exact ⟨n, h1, h2⟩
/-- a struct's fields: place, type, cells -/
def fieldsOf (P : Program) (t : TypeId) : Option (List (Nat × TypeId × Nat)) := match P.underlying t with
  | some (.struct fs) => some (fs.toList.map fun f => (f.offset, f.type, P.cellsOf f.type))
  | _ => none
theorem op_struct {t : TypeId} {l : List (Nat × TypeId × Nat)} {n : Nat} {fuel : Nat} {cs : List Value} {x : DataW H × List MemPlace} (hf : fieldsOf P t = some l) (hC : P.cellsOf t = n) (h : DataW.trod enc P w base spare held fuel t cs = some x) :
    cs.length = n ∧ ∀ (i o : Nat) (e : TypeId) (s : Nat), l[i]? = some (o, e, s) → ∃ m y, DataW.trod enc P w base spare held m e ((cs.drop o).take s) = some y := by
  unfold fieldsOf at hf
  split at hf
  · next fs ht =>
    obtain ⟨xs, m, _, _, hl, hlen, hg⟩ := DataW.trod_struct ht h
    refine ⟨hl.trans hC, fun i o e s hi => ?_⟩
    cases hf
    rw [List.getElem?_map] at hi
    obtain ⟨f, h1, h2⟩ := Option.map_eq_some_iff.1 hi
    cases h2
    have h3 : fs[i]? = some f := by simpa using h1
    have hi2 : i < xs.length := by
      rw [hlen]; exact (Array.getElem?_eq_some_iff.1 h3).1
    exact ⟨m, xs[i], (hg i f h3).trans (List.getElem?_eq_getElem hi2)⟩
  · cases hf
theorem op_agg {t : TypeId} {l : List (Nat × TypeId × Nat)} {v : Value} {r : Reach} (hf : fieldsOf P t = some l) (h : Value.okWide P w r base t v) : ∃ cs, v = .agg cs := by
  unfold fieldsOf at hf
  split at hf
  · next fs ht =>
    obtain ⟨cs, h1, _⟩ := okWide_struct ht h
    exact ⟨cs, h1⟩
  · cases hf
/-- a struct of four numbers -/
theorem op_int4 {t t0 t1 t2 t3 : TypeId} {fuel : Nat} {cs : List Value} {x : DataW H × List MemPlace} (hf : fieldsOf P t = some [(0, t0, 1), (1, t1, 1), (2, t2, 1), (3, t3, 1)]) (hC : P.cellsOf t = 4)
    (u0 : P.underlying t0 = some (.int .i64)) (u1 : P.underlying t1 = some (.int .i64)) (u2 : P.underlying t2 = some (.int .i64)) (u3 : P.underlying t3 = some (.int .i64))
    (h : DataW.trod enc P w base spare held fuel t cs = some x) : ∃ a b c d, cs = [.int .i64 a, .int .i64 b, .int .i64 c, .int .i64 d] := by
  obtain ⟨hl, hg⟩ := op_struct hf hC h
  match cs, hl with
  | [c0, c1, c2, c3], _ =>
    obtain ⟨_, _, g0⟩ := hg 0 _ _ _ rfl
    obtain ⟨_, _, g1⟩ := hg 1 _ _ _ rfl
    obtain ⟨_, _, g2⟩ := hg 2 _ _ _ rfl
    obtain ⟨_, _, g3⟩ := hg 3 _ _ _ rfl
    obtain ⟨a, ha, _⟩ := op_int u0 (cs := [c0]) g0
    obtain ⟨b, hb, _⟩ := op_int u1 (cs := [c1]) g1
    obtain ⟨c, hc, _⟩ := op_int u2 (cs := [c2]) g2
    obtain ⟨d, hd, _⟩ := op_int u3 (cs := [c3]) g3
    cases ha; cases hb; cases hc; cases hd
    exact ⟨a, b, c, d, rfl⟩
/-- a slice whose elements are opened by 'f' -/
theorem op_slice {α : Type} [Inhabited α] {C : α → List Value} {t e : TypeId} {n : Nat} {fuel : Nat} {cs : List Value} {x : DataW H × List MemPlace} (ht : P.underlying t = some (.slice e)) (hC : P.cellsOf e = n) (hn : ∀ a, (C a).length = n)
    (f : ∀ fuel cs x, DataW.trod enc P w base spare held fuel e cs = some x → ∃ a, cs = C a) (h : DataW.trod enc P w base spare held fuel t cs = some x) :
    ∃ (p : Option Addr) (c : Nat) (l : List α), cs = [.slice p l.length c] ∧ SlR w p (l.flatMap C) ∧ l.length ≤ c ∧ c ≤ maxLen ∧ (p = none → c = 0) := by
  rcases Go.Deep.open_slice ht h with ⟨rfl, _⟩ | ⟨a, len, cap, m, k, D, Pl, rfl, hb, hl, hm, hmm, rfl, hi⟩
  · exact ⟨none, 0, [], rfl, rfl, Nat.le_refl _, Nat.zero_le _, fun _ => rfl⟩
  · have hlm : len ≤ m := by rw [hmm]; split <;> omega
    obtain ⟨g, hg⟩ := Go.Deep.choose_lt (α := α) (n := len) (p := fun i y => ∀ j v, (C y)[j]? = some v → w.cell? (a.add (i * n + j)) = some v) (fun i hil => by
      obtain ⟨cs', h1, h2⟩ := hi i (by omega)
      obtain ⟨y, rfl⟩ := f _ _ _ h2
      rw [hC] at h1
      obtain ⟨_, hcl, hat⟩ := World.cells?_some h1
      refine ⟨y, fun j v hj => ?_⟩
      have hjn : j < n := by rw [← hn y]; exact (List.getElem?_eq_some_iff.1 hj).1
      rw [← Go.Deep.add_add, hat j hjn, hj])
    refine ⟨some a, cap, (List.range len).map g, by simp, ?_, by simpa using hl, hm, fun h => by cases h⟩
    intro i v hv
    have hn0 : 0 < n := by
      have hlt := (List.getElem?_eq_some_iff.1 hv).1
      rw [flat_length C n hn] at hlt
      rcases Nat.eq_zero_or_pos n with h0 | h0
      · rw [h0, Nat.mul_zero] at hlt; omega
      · exact h0
    have hlt := (List.getElem?_eq_some_iff.1 hv).1
    rw [flat_length C n hn, List.length_map, List.length_range] at hlt
    have hq : i / n < len := Nat.div_lt_of_lt_mul (by rw [Nat.mul_comm]; exact hlt)
    have hr : i % n < n := Nat.mod_lt _ hn0
    have hir : i = i / n * n + i % n := by rw [Nat.mul_comm]; exact (Nat.div_add_mod i n).symm
    have hl2 : i / n < ((List.range len).map g).length := by simpa using hq
    have hx : (C (((List.range len).map g)[i / n]))[i % n]? = some ((C (((List.range len).map g)[i / n]))[i % n]'(by rw [hn]; exact hr)) := List.getElem?_eq_getElem _
    have h1 := flat_get C n hn ((List.range len).map g) (i / n) hl2 (i % n) _ hx
    rw [← hir] at h1
    rw [hv] at h1
    have h2 : ((List.range len).map g)[i / n] = g (i / n) := by simp
    rw [hir]
    refine hg (i / n) hq (i % n) v ?_
    rw [← h2, hx]; exact h1.symm
/-! ## the row's end -/
theorem below_of_ext {w w' : World} (h : Ext w w') : Below w.heap.size w w' := h.below
theorem trodAll_stays (hl : laidOutB P = true) {W W' : World} (hb : Below W.heap.size W W') {sp : Nat → Bool} : ∀ {ts : List TypeId} {vs : List Value} {ds : List (DataW H)} {ps : List MemPlace}, (∀ t ∈ ts, P.readableRec t = true ∧ t < P.types.size) →
    DataW.TrodAll enc P W 0 (fun _ => true) true ts vs ds ps → (∀ x ∈ ps, x.block < W.heap.size) → (∀ x ∈ ps, sp x.block = true) → DataW.TrodAll enc P W' 0 sp true ts vs ds ps
  | [], _, _, _, _, h, _, _ => by obtain ⟨rfl, rfl, rfl⟩ := trodAll_nil h; rfl
  | t :: ts, _, _, _, ht, h, hlt, hsp => by
    obtain ⟨v, vs', d, ds', p, q, rfl, rfl, rfl, h1, h2⟩ := trodAll_cons h
    have h3 := trodAll_stays hl hb (fun u hu => ht u (List.mem_cons_of_mem _ hu)) h2 (fun x hx => hlt x (List.mem_append_right _ hx)) (fun x hx => hsp x (List.mem_append_right _ hx))
    have h4 := WideElems.Trod_stays hl (ht t (by simp)).1 (ht t (by simp)).2 h1 (fun x hx => hb.same (hlt x (List.mem_append_left _ hx))) (fun x hx => hsp x (List.mem_append_left _ hx))
    exact ⟨p, q, h4, h3, rfl⟩
theorem post_of_below {f : Func} {s : ChangeSpec} {apart fresh handsOn again : Bool} {W W' : World} {args : Array Value} {v : Value} {ds gs : List (DataW H)} {before pa pv : List MemPlace}
    (hW : DataW.Whole enc P f.params.toList s.vars apart W args.toList ds gs before)
    (hres : ∀ (b : Nat) (sp : Nat → Bool) (hd : Bool), DataW.TrodAll enc P W' b sp hd f.resultTypes.toList (v.resultList f.resultTypes.size) (s.fn H (ds ++ gs)).results [])
    (hargs : ∀ sp : Nat → Bool, (∀ p ∈ before, sp p.block = true) → DataW.TrodAll enc P W' 0 sp true f.params.toList args.toList (s.fn H (ds ++ gs)).args pa)
    (hvars : ∀ sp : Nat → Bool, (∀ p ∈ before, sp p.block = true) → DataW.TrodVars enc P W' sp s.vars (s.fn H (ds ++ gs)).vars pv)
    (hps : before = pa ++ pv) (hb : Below W.heap.size W W')
    (hok : ∀ (j : Nat) (t : TypeId) (r : Value), f.resultTypes[j]? = some t → (v.resultList f.resultTypes.size)[j]? = some r → Value.okWide P W' .any 0 t r) :
    s.post enc P f apart fresh handsOn again W args v W' := by
  have hlt : ∀ p ∈ before, p.block < W.heap.size := fun p hp => hW.lt p hp
  have hold : ∀ p ∈ before, (fun b => decide (b < W.heap.size)) p.block = true := fun p hp => by simpa using hlt p hp
  refine ⟨ds, gs, before, [], pa, pv, hW, hres _ _ _, hargs _ hold, hvars _ hold, World.keptBut_mono (fun p hp => ⟨hp, ?_⟩) (hb.frame (· ∈ before)), fun _ => ?_⟩
  · rw [hps, List.mem_append] at hp
    exact Or.inr hp
  · obtain ⟨_, _, _, _, _, hz, hn⟩ := hW
    refine ⟨hok, _, _, ([] ++ pa) ++ pv, ⟨[] ++ pa, pv, trodAll_append (hargs _ (fun _ _ => rfl)) (hres _ _ _), hvars _ (fun _ _ => rfl), rfl, ?_, ?_⟩, ?_⟩
    · intro b off hp
      have hin : MemPlace.cell b off ∈ before := by rw [hps]; simpa using hp
      rw [hb.frozen (hlt _ hin)]
      exact hz b off hin
    · intro ha
      have := hn ha
      rw [hps] at this
      simpa using this
    · intro p hp _
      rw [hps]
      simpa using hp
/-- the end of a law's row: true, and what came in reads as it did -/
theorem law_post {f : Func} {s : ChangeSpec} {apart fresh handsOn again : Bool} {W W' : World} {args : Array Value} {ds gs : List (DataW H)} {before : List MemPlace} {t : TypeId} (hl : laidOutB P = true)
    (hP : (f.params.toList.all fun u => P.readableRec u && decide (u < P.types.size)) = true) (hr : f.resultTypes = #[t]) (ht : P.underlying t = some .bool) (hsv : s.vars = [])
    (hW : DataW.Whole enc P f.params.toList s.vars apart W args.toList ds gs before) (hfn : s.fn H ds = ⟨[.lit (.bool true)], ds, []⟩) (hb : Below W.heap.size W W') : s.post enc P f apart fresh handsOn again W args (.bool true) W' := by
  have hW' := hW
  obtain ⟨p, q, hA, hV, rfl, hfz, hnd⟩ := hW
  rw [hsv] at hV
  obtain ⟨rfl, rfl⟩ := trodVars_none hV
  have hlt : ∀ x ∈ p, x.block < W.heap.size := fun x hx => hW'.lt x (by simpa using hx)
  have hP' : ∀ u ∈ f.params.toList, P.readableRec u = true ∧ u < P.types.size := fun u hu => by
    have := List.all_eq_true.1 hP u hu
    simpa using this
  refine post_of_below (pa := p) (pv := []) hW' (fun b sp hd => ?_) (fun sp hsp => ?_) (fun sp hsp => ?_) rfl hb (ok_one hr rfl (okWide_bool_mk ht true))
  · rw [List.append_nil, hfn, hr]
    exact trodAll_cons_mk (shut_bool ht _) trodAll_mk0
  · rw [List.append_nil, hfn]
    exact trodAll_stays hl hb hP' hA hlt (fun x hx => hsp x (by simpa using hx))
  · rw [List.append_nil, hfn, hsv]
    rfl
end
end Go.Fx
namespace Go.Proofs.YthfnijlgmjkedaaGreat.Tab
open Go Go.Fx
def tsl : TypeId → Option (TypeId × Nat)
  | 22 => some (50, 4)
  | 23 => some (45, 4)
  | 28 => some (5, 1)
  | 37 => some (42, 5)
  | 48 => some (3, 1)
  | 60 => some (25, 3)
  | 101 => some (100, 1)
  | 114 => some (22, 1)
  | 116 => some (23, 1)
  | _ => none
def tar : TypeId → Option (Nat × TypeId × Nat)
  | 47 => some (3, 3, 1)
  | 73 => some (3, 48, 1)
  | _ => none
def tfl : TypeId → Nat → Option (Nat × TypeId)
  | 8, 0 => some (0, 2)
  | 8, 1 => some (1, 3)
  | 8, 2 => some (2, 4)
  | 8, 3 => some (3, 6)
  | 14, 0 => some (0, 9)
  | 14, 1 => some (1, 12)
  | 19, 0 => some (0, 17)
  | 25, 0 => some (0, 3)
  | 25, 1 => some (1, 22)
  | 25, 2 => some (2, 23)
  | 42, 0 => some (0, 3)
  | 42, 1 => some (1, 3)
  | 42, 2 => some (2, 3)
  | 42, 3 => some (3, 3)
  | 42, 4 => some (4, 40)
  | 45, 0 => some (0, 3)
  | 45, 1 => some (1, 3)
  | 45, 2 => some (2, 43)
  | 45, 3 => some (3, 3)
  | 50, 0 => some (0, 3)
  | 50, 1 => some (1, 3)
  | 50, 2 => some (2, 3)
  | 50, 3 => some (3, 3)
  | 70, 0 => some (0, 28)
  | 70, 1 => some (1, 4)
  | 78, 0 => some (0, 28)
  | 78, 1 => some (1, 3)
  | 78, 2 => some (2, 4)
  | 98, 0 => some (0, 28)
  | _, _ => none
def tld : TypeId → Option (Option Nat)
  | 3 => some none
  | 4 => some none
  | 5 => some none
  | 8 => some (some 4)
  | 9 => some none
  | 10 => some none
  | 11 => some none
  | 14 => some (some 2)
  | 15 => some none
  | 16 => some none
  | 17 => some none
  | 19 => some (some 1)
  | 21 => some none
  | 22 => some none
  | 23 => some none
  | 25 => some (some 3)
  | 28 => some none
  | 29 => some none
  | 37 => some none
  | 42 => some (some 5)
  | 43 => some none
  | 45 => some (some 4)
  | 47 => some (some 3)
  | 48 => some none
  | 50 => some (some 4)
  | 60 => some none
  | 64 => some none
  | 66 => some none
  | 68 => some none
  | 70 => some (some 2)
  | 73 => some (some 3)
  | 76 => some none
  | 78 => some (some 3)
  | 82 => some none
  | 84 => some none
  | 96 => some none
  | 98 => some (some 1)
  | 100 => some none
  | 101 => some none
  | 112 => some none
  | 114 => some none
  | 116 => some none
  | 127 => some none
  | 133 => some none
  | 141 => some none
  | 142 => some none
  | 146 => some none
  | 148 => some none
  | 158 => some none
  | _ => none
def tkd : TypeId → Option IntKind
  | 3 => some .i64
  | 5 => some .u8
  | 21 => some .i32
  | 29 => some .i64
  | 43 => some .i64
  | 112 => some .u64
  | 127 => some .u32
  | 133 => some .i64
  | 141 => some .u64
  | 142 => some .u64
  | 158 => some .u8
  | _ => none
def tzr : TypeId → Option Value
  | 3 => some (.int .i64 0)
  | 4 => some (.bool false)
  | 5 => some (.int .u8 0)
  | 8 => some (.agg #[.int .i64 0, .int .i64 0, .bool false, .int .u8 0])
  | 9 => some (.string ByteArray.empty)
  | 10 => some (.string ByteArray.empty)
  | 11 => some (.string ByteArray.empty)
  | 14 => some (.agg #[.string ByteArray.empty, .int .u64 0])
  | 15 => some (.pointer none)
  | 16 => some (.pointer none)
  | 17 => some (.pointer none)
  | 19 => some (.agg #[.pointer none])
  | 21 => some (.int .i32 0)
  | 22 => some (.slice none 0 0)
  | 23 => some (.slice none 0 0)
  | 25 => some (.agg #[.int .i64 0, .slice none 0 0, .slice none 0 0])
  | 28 => some (.slice none 0 0)
  | 29 => some (.int .i64 0)
  | 37 => some (.slice none 0 0)
  | 42 => some (.agg #[.int .i64 0, .int .i64 0, .int .i64 0, .int .i64 0, .slice none 0 0])
  | 43 => some (.int .i64 0)
  | 45 => some (.agg #[.int .i64 0, .int .i64 0, .int .i64 0, .int .i64 0])
  | 47 => some (.agg #[.int .i64 0, .int .i64 0, .int .i64 0])
  | 48 => some (.slice none 0 0)
  | 50 => some (.agg #[.int .i64 0, .int .i64 0, .int .i64 0, .int .i64 0])
  | 60 => some (.slice none 0 0)
  | 64 => some (.nilFunc)
  | 66 => some (.nilFunc)
  | 68 => some (.pointer none)
  | 70 => some (.agg #[.slice none 0 0, .bool false])
  | 73 => some (.agg #[.slice none 0 0, .slice none 0 0, .slice none 0 0])
  | 76 => some (.pointer none)
  | 78 => some (.agg #[.slice none 0 0, .int .i64 0, .bool false])
  | 82 => some (.nilFunc)
  | 84 => some (.nilFunc)
  | 96 => some (.pointer none)
  | 98 => some (.agg #[.slice none 0 0])
  | 100 => some (.nilFunc)
  | 101 => some (.slice none 0 0)
  | 112 => some (.int .u64 0)
  | 114 => some (.slice none 0 0)
  | 116 => some (.slice none 0 0)
  | 127 => some (.int .u32 0)
  | 133 => some (.int .i64 0)
  | 141 => some (.int .u64 0)
  | 142 => some (.int .u64 0)
  | 146 => some (.pointer none)
  | 148 => some (.pointer none)
  | 158 => some (.int .u8 0)
  | _ => none
def tbt : TypeId → Option Nat
  | 3 => some 8
  | 4 => some 1
  | 5 => some 1
  | 8 => some 24
  | 9 => some 16
  | 10 => some 16
  | 11 => some 16
  | 14 => some 24
  | 15 => some 8
  | 16 => some 8
  | 17 => some 8
  | 19 => some 8
  | 21 => some 4
  | 22 => some 24
  | 23 => some 24
  | 25 => some 56
  | 28 => some 24
  | 29 => some 8
  | 37 => some 24
  | 42 => some 56
  | 43 => some 8
  | 45 => some 32
  | 47 => some 24
  | 48 => some 24
  | 50 => some 32
  | 60 => some 24
  | 64 => some 8
  | 66 => some 8
  | 68 => some 8
  | 70 => some 32
  | 73 => some 72
  | 76 => some 8
  | 78 => some 40
  | 82 => some 8
  | 84 => some 8
  | 96 => some 8
  | 98 => some 24
  | 100 => some 8
  | 101 => some 24
  | 112 => some 8
  | 114 => some 24
  | 116 => some 24
  | 127 => some 4
  | 133 => some 8
  | 141 => some 8
  | 142 => some 8
  | 146 => some 8
  | 148 => some 8
  | 158 => some 1
  | _ => none
theorem h_sl : ∀ t e n, tsl t = some (e, n) → Go.Proofs.Tryz.prog.underlying t = some (.slice e) ∧ ∃ i, Go.Proofs.Tryz.prog.info? e = some i ∧ i.size = n := by
  intro t e n h; unfold tsl at h
  split at h <;> first | (cases h; done) | (cases h; exact slOk_of (by kernel_rfl))
theorem h_ar : ∀ t l e n, tar t = some (l, e, n) → Go.Proofs.Tryz.prog.underlying t = some (.array l e) ∧ ∃ i, Go.Proofs.Tryz.prog.info? e = some i ∧ i.size = n := by
  intro t l e n h; unfold tar at h
  split at h <;> first | (cases h; done) | (cases h; exact arOk_of (by kernel_rfl))
theorem h_fl : ∀ t k o e, tfl t k = some (o, e) → ∃ fs f, Go.Proofs.Tryz.prog.underlying t = some (.struct fs) ∧ fs[k]? = some f ∧ f.offset = o ∧ f.type = e ∧ ∃ i, Go.Proofs.Tryz.prog.info? e = some i ∧ i.size ≠ 0 := by
  intro t k o e h; unfold tfl at h
  split at h <;> first | (cases h; done) | (cases h; exact flOk_of (by kernel_rfl))
theorem h_ld : ∀ t m, tld t = some m → match m with
    | none => ∃ d, Go.Proofs.Tryz.prog.underlying t = some d ∧ (match d with | .struct _ => False | .array _ _ => False | _ => True) ∧ ∃ i, Go.Proofs.Tryz.prog.info? t = some i ∧ i.size = 1
    | some n => ∃ d, Go.Proofs.Tryz.prog.underlying t = some d ∧ (match d with | .struct _ => True | .array _ _ => True | _ => False) ∧ ∃ i, Go.Proofs.Tryz.prog.info? t = some i ∧ i.size = n := by
  intro t m h; unfold tld at h
  split at h <;> first | (cases h; done) | (cases h; exact ld1_of (by kernel_rfl)) | (cases h; exact ldn_of (by kernel_rfl))
theorem h_kd : ∀ t k, tkd t = some k → Go.Proofs.Tryz.prog.underlying t = some (.int k) := by
  intro t k h; unfold tkd at h
  split at h <;> first | (cases h; done) | (cases h; kernel_rfl)
theorem h_zr : ∀ t v, tzr t = some v → ∃ i, Go.Proofs.Tryz.prog.info? t = some i ∧ i.zero = some v := by
  intro t v h; unfold tzr at h
  split at h <;> first | (cases h; done) | (cases h; exact zr_of (by kernel_rfl))
theorem h_bt : ∀ t b, tbt t = some b → ∃ i, Go.Proofs.Tryz.prog.info? t = some i ∧ i.bytes = b := by
  intro t b h; unfold tbt at h
  split at h <;> first | (cases h; done) | (cases h; exact bt_of (by kernel_rfl))
def E : Env Go.Proofs.Tryz.prog := ⟨tsl, tar, tfl, tld, tkd, tzr, tbt, h_sl, h_ar, h_fl, h_ld, h_kd, h_zr, h_bt⟩
end Go.Proofs.YthfnijlgmjkedaaGreat.Tab
namespace Go.Proofs.YthfnijlgmjkedaaGreat
set_option maxRecDepth 100000
set_option linter.unusedVariables false
set_option linter.unusedSimpArgs false
open Go Go.Fx Go.Proofs.YthfnijlgmjkedaaGreat.Tab
theorem orders : Go.Proofs.Tryz.prog.follows .mixedOrders = true := by kernel_rfl

/-! ## the data -/
structure Ch where
  code : Int
  width : Int
  height : Int
  depth : Int
  deriving DecidableEq
structure Ru where
  first : Int
  next : Int
  op : Int
  value : Int
  deriving DecidableEq
structure Me where
  size : Int
  chars : List Ch
  rules : List Ru
  deriving DecidableEq
def chC (c : Ch) : List Value := [.int .i64 c.code, .int .i64 c.width, .int .i64 c.height, .int .i64 c.depth]
abbrev chV (c : Ch) : Value := .agg (chC c).toArray
def ruC (r : Ru) : List Value := [.int .i64 r.first, .int .i64 r.next, .int .i64 r.op, .int .i64 r.value]
abbrev ruV (r : Ru) : Value := .agg (ruC r).toArray
abbrev iV (n : Int) : Value := .int .i64 n
theorem chC_len (c : Ch) : (chC c).length = 4 := rfl
theorem ruC_len (c : Ru) : (ruC c).length = 4 := rfl

/-! ## what the functions compute -/
def coordB (n : Int) : Bool := decide (-268435455 ≤ n) && decide (n ≤ 268435455)
def codeB (n : Int) : Bool := decide (0 ≤ n) && decide (n ≤ 255)
def sizeB (n : Int) : Bool := decide (1 ≤ n) && decide (n ≤ 268435455)
def charB (c : Ch) : Bool := codeB c.code && (coordB c.width && (coordB c.height && coordB c.depth))
def ruleB (r : Ru) : Bool := codeB r.first && (codeB r.next && (decide (0 ≤ r.op) && (decide (r.op ≤ 4) && (if r.op = 0 then coordB r.value else codeB r.value))))
def cmpI (a b : Int) : Int := if a < b then -1 else if b < a then 1 else 0
def codeCmp (a b : Ch) : Int := cmpI a.code b.code
def pairCmp (a b : Ru) : Int := if cmpI a.first b.first ≠ 0 then cmpI a.first b.first else cmpI a.next b.next
def risingB {α : Type} (cmp : α → α → Int) : List α → Bool
  | [] => true
  | [_] => true
  | a :: b :: l => decide (cmp a b < 0) && risingB cmp (b :: l)
theorem risingB_iff {α : Type} (cmp : α → α → Int) (l : List α) : risingB cmp l = true ↔ ∀ i (h : i + 1 < l.length), cmp l[i] l[i+1] < 0 := by
  induction l with
  | nil => simp [risingB]
  | cons a l ih => cases l with
    | nil => simp [risingB]
    | cons b l =>
      simp only [risingB, Bool.and_eq_true, decide_eq_true_eq, ih]
      constructor
      · rintro ⟨h0, h1⟩ i hi
        cases i with
        | zero => exact h0
        | succ i => exact h1 i (by simpa using hi)
      · intro h
        exact ⟨h 0 (by simp), fun i hi => h (i + 1) (by simpa using hi)⟩
end Go.Proofs.YthfnijlgmjkedaaGreat

/- Contracts of functions that the laws of this seat call: what each answers, for every input that its hypotheses name. -/
import Derived.Calls
import Derived.Orders
import Derived.OrdersHeld
import Derived.Below
import Derived.Laws.Sem
import Derived.Laws.Small
import Derived.Laws.Tables
import Derived.Laws.Slices
import Derived.Laws.Rows
import Derived.Laws.Cells
import Derived.Laws.Build
import Derived.Laws.AppendOwn
import Derived.Laws.NewBlocks
import Derived.Deep.Quiet
import Derived.StillTail
namespace Go.Fx
open Go.RowKit

/-! ## frames as functions -/
abbrev Fr := Nat → Value
def upd (ρ : Fr) (d : Nat) (v : Value) (t : Nat) : Value := if t = d then v else ρ t
def und : Fr := fun _ => undef
def ev (ρ : Fr) : Operand → Value
  | .tmp t => ρ t
  | .const v => v
  | .global g => .pointer (some ⟨g, 0, none⟩)
  | .func f => .func (.func f) #[] #[]
def put (ρ : Fr) : Option Nat → Value → Fr
  | none, _ => ρ
  | some d, v => upd ρ d v
structure Rep (n : Nat) (a : Act) (ρ : Fr) : Prop where
  defers : a.defers = []
  size : a.tmps.size = n
  val : ∀ t, a.tmps.getD t undef = ρ t

theorem Rep.eval {n a ρ} (h : Rep n a ρ) : a.eval = ev ρ := by
  funext x
  cases x with
  | tmp t => exact h.val t
  | _ => rfl
theorem Rep.upd {n a ρ} (h : Rep n a ρ) {d : Nat} (hd : d < n) (v : Value) : Rep n (a.put (some d) v) (Fx.upd ρ d v) := by
  refine ⟨h.defers, by simp [Act.put, h.size], fun t => ?_⟩
  simp only [Act.put, Fx.upd, Array.getD_eq_getD_getElem?, Array.getElem?_setIfInBounds]
  have hv := h.val t
  simp only [Array.getD_eq_getD_getElem?] at hv
  by_cases e : t = d
  · subst e; simp [h.size, hd]
  · simp [e, Ne.symm e, hv]
def dstOk (n : Nat) : Option Nat → Bool
  | none => true
  | some d => Nat.blt d n
theorem Rep.put {n a ρ} (h : Rep n a ρ) {d : Option Nat} (hd : dstOk n d = true) (v : Value) : Rep n (a.put d v) (Fx.put ρ d v) := by
  cases d with
  | none => exact h
  | some d => exact h.upd (by simpa [dstOk, Nat.blt_eq] using hd) v

/-! ## a call that returns -/
def Ent (P : Program) (f : FuncId) : Prop := ∃ fn, P.funcs[f]? = some fn ∧ (fn.name == "runtime.NumGoroutine") = false ∧ fn.body.isNone = false
def Ret0 (P : Program) (f : FuncId) (args : Array Value) (w : World) (R : Value → World → Prop) : Prop :=
  Calls P f args w fun e w' => ∃ v, e = .returned v ∧ R v w'
/-- the function returns; what it returns and the world behind it are as R says -/
def Ret (P : Program) (f : FuncId) (args : Array Value) (w : World) (R : Value → World → Prop) : Prop := Ent P f ∧ Ret0 P f args w R
theorem Ret.mono {P f args w} {R R' : Value → World → Prop} (h : Ret P f args w R) (hr : ∀ v w', R v w' → R' v w') : Ret P f args w R' :=
  ⟨h.1, Calls.mono h.2 fun _ _ ⟨v, he, hR⟩ => ⟨v, he, hr _ _ hR⟩⟩

/-! ## the operations of a region -/
def vop (P : Program) (o : Oper) (K : Fr → World → Prop) (ρ : Fr) (w : World) : Prop :=
  match (execOp (ev ρ) o).run P w with
  | .ok (.value v) w' => K (put ρ o.dst v) w'
  | .ok .skip w' => K (put ρ o.dst undef) w'
  | .ok (.enter f args) w' => Ret0 P f args w' fun v w'' => K (put ρ o.dst v) w''
  | _ => False
def slotOf : List Oper → Nat → Option Nat
  | [], _ => none
  | o :: _, 0 => o.dst
  | _ :: os, k + 1 => slotOf os k
def isB : Value → Bool → Bool
  | .bool b, c => b == c
  | _, _ => false
def wantF (L : List Oper) (ρ : Fr) : Option (Nat × Bool) → Bool
  | none => true
  | some (j, b) => match slotOf L j with
    | some t => isB (ρ t) b
    | none => false
/-- the text order -/
def vcs (P : Program) (L : List Oper) (K : Fr → World → Prop) : List Oper → Fr → World → Prop
  | [], ρ, w => K ρ w
  | o :: os, ρ, w => if wantF L ρ o.guard = true then vop P o (vcs P L K os) ρ w else vcs P L K os (put ρ o.dst undef) w

theorem slotOf_eq (L : List Oper) (j : Nat) : slotOf L j = (L[j]?).bind (·.dst) := by
  induction L generalizing j with
  | nil => simp [slotOf]
  | cons o os ih => cases j with
    | zero => simp [slotOf]
    | succ k => simp [slotOf, ih]
theorem wanted_eq {n a ρ} (h : Rep n a ρ) (ops : Array Oper) (o : Oper) (hok : ∀ o ∈ ops.toList, dstOk n o.dst = true) :
    Region.wanted o (yielded ops a.tmps) = wantF ops.toList ρ o.guard := by
  unfold Region.wanted wantF
  cases hg : o.guard with
  | none => rfl
  | some jb =>
    obtain ⟨j, b⟩ := jb
    simp only [yielded, slotOf_eq, Array.getElem?_toList]
    cases hj : ops[j]? with
    | none => simp
    | some oj =>
      simp only [Option.bind_some]
      cases hd : oj.dst with
      | none => simp
      | some t =>
        have ht : t < n := by
          have := hok oj (by simpa using Array.mem_of_getElem? hj)
          rw [hd] at this
          simpa [dstOk, Nat.blt_eq] using this
        have hv := h.val t
        rw [Array.getD_eq_getD_getElem?, Array.getElem?_eq_getElem (by rw [h.size]; exact ht)] at hv
        simp only [Option.getD_some] at hv
        simp only [Option.bind_some, Array.getElem?_eq_getElem (show t < a.tmps.size by rw [h.size]; exact ht), hv]
        cases ρ t <;> simp [isB, BEq.comm]

def NoQ : Exit → Act → World → Prop := fun _ _ _ => False

theorem vop_sound {P n a ρ w} {o : Oper} {K : Fr → World → Prop} {K' : Act → World → Prop} {Q : Exit → Act → World → Prop} (h : Rep n a ρ) (hd : dstOk n o.dst = true)
    (hK : ∀ a ρ w, Rep n a ρ → K ρ w → K' a w) (hv : vop P o K ρ w) : o.wp P a w K' Q := by
  unfold Oper.wp
  rw [h.eval]
  unfold vop at hv
  split at hv
  · rename_i v w' hr; rw [hr]; exact hK _ _ _ (h.put hd v) hv
  · rename_i w' hr; rw [hr]; exact hK _ _ _ (h.put hd undef) hv
  · rename_i f args w' hr
    rw [hr]
    refine Calls.mono hv fun e w'' ⟨v, he, hk⟩ => ?_
    subst he
    exact hK _ _ _ (h.put hd v) hk
  · exact hv.elim

theorem vcs_sound {P n} {ops : Array Oper} {K : Fr → World → Prop} {Q : Exit → Act → World → Prop} (hok : ∀ o ∈ ops.toList, dstOk n o.dst = true)
    (hK : ∀ a ρ w, Rep n a ρ → K ρ w → Q .normal a w) : ∀ (m i : Nat), i + m = ops.size → ∀ a ρ w, Rep n a ρ → vcs P ops.toList K (ops.toList.drop i) ρ w →
      wpOps P ops Q (List.range' i m) a w := by
  intro m
  induction m with
  | zero =>
    intro i him a ρ w h hv
    rw [List.drop_eq_nil_of_le (by simp; omega)] at hv
    exact hK _ _ _ h hv
  | succ m ih =>
    intro i him a ρ w h hv
    have hi : i < ops.size := by omega
    rw [List.drop_eq_getElem_cons (by simpa using hi)] at hv
    have hmem : ops[i] ∈ ops.toList := by simp
    have hd := hok _ hmem
    simp only [List.range', wpOps, Array.getElem?_eq_getElem hi]
    rw [wanted_eq h ops _ hok]
    simp only [vcs, Array.getElem_toList] at hv
    split at hv
    · rename_i hw
      rw [if_pos hw]
      exact .inl (vop_sound h hd (fun a ρ w hr hk => ih (i + 1) (by omega) a ρ w hr hk) hv)
    · rename_i hw
      rw [if_neg hw]
      exact ih (i + 1) (by omega) _ _ _ (h.put hd undef) hv

/-! ## code -/
abbrev Post := Exit → Fr → World → Prop
def lift (n : Nat) (Q : Post) : Exit → Act → World → Prop := fun e a w => ∃ ρ, Rep n a ρ ∧ Q e ρ w
def W (P : Program) (n : Nat) (c : Code) (Q : Post) (ρ : Fr) (w : World) : Prop := ∀ a, Rep n a ρ → c.wp P (lift n Q) a w
section
variable {P : Program} {n : Nat} {Q : Post} {ρ : Fr} {w : World}
theorem W.mono {c : Code} {Q' : Post} (h : W P n c Q ρ w) (hq : ∀ e ρ w, Q e ρ w → Q' e ρ w) : W P n c Q' ρ w :=
  fun a ha => wp_mono (h a ha) fun _ _ _ ⟨ρ, hr, hQ⟩ => ⟨ρ, hr, hq _ _ _ hQ⟩
def Then (K : Fr → World → Prop) (Q : Post) : Post
  | .normal, ρ, w => K ρ w
  | e, ρ, w => Q e ρ w
theorem W_skip (h : Q .normal ρ w) : W P n .skip Q ρ w := fun _ ha => wp_skip ⟨ρ, ha, h⟩
theorem W_ret (h : Q .ret ρ w) : W P n .ret Q ρ w := fun _ ha => wp_ret ⟨ρ, ha, h⟩
theorem W_exit {id : Nat} (h : Q (.exit id) ρ w) : W P n (.exit id) Q ρ w := fun _ ha => wp_exit ⟨ρ, ha, h⟩
theorem W_seq {x y : Code} (h : W P n x (Then (W P n y Q) Q) ρ w) : W P n (.seq x y) Q ρ w := fun a ha =>
  wp_seq (wp_mono (h a ha) fun e a w ⟨ρ, hr, hQ⟩ => by
    cases e with
    | normal => exact hQ a hr
    | _ => exact ⟨ρ, hr, hQ⟩)
theorem W_if {c : Operand} {x y : Code} {b : Bool} (hc : ev ρ c = .bool b) (ht : b = true → W P n x Q ρ w) (hf : b = false → W P n y Q ρ w) : W P n (.cond c x y) Q ρ w := fun a ha =>
  wp_cond_split (t := b) (by rw [ha.eval]; exact hc) (fun h => ht h a ha) (fun h => hf h a ha)
def Blk (id : Nat) (Q : Post) : Post
  | .exit id', ρ, w => if id' = id then Q .normal ρ w else Q (.exit id') ρ w
  | e, ρ, w => Q e ρ w
theorem W_block {id : Nat} {c : Code} (h : W P n c (Blk id Q) ρ w) : W P n (.block id c) Q ρ w := fun a ha =>
  wp_block (wp_mono (h a ha) fun e a w ⟨ρ, hr, hQ⟩ => by
    cases e with
    | exit id' =>
      simp only [Blk, Exit.inBlock] at hQ ⊢
      split <;> rename_i hid
      · rw [if_pos hid] at hQ; exact ⟨ρ, hr, hQ⟩
      · rw [if_neg hid] at hQ; exact ⟨ρ, hr, hQ⟩
    | _ => exact ⟨ρ, hr, hQ⟩)
theorem W_loop {c : Code} (I : Nat → Fr → World → Prop) (m : Nat) (h0 : I m ρ w)
    (round : ∀ m ρ w, I m ρ w → W P n c (Then (fun ρ' w' => ∃ m', m' < m ∧ I m' ρ' w') Q) ρ w) : W P n (.loop c) Q ρ w := by
  intro a ha b k cs
  have key : ∀ m a ρ w, Rep n a ρ → I m ρ w →
      ∃ e a' w', lift n Q e a' w' ∧ Arrives P (lone (b.at a (.code c :: .inLoop c :: k)) cs w) b k cs e a' w' := by
    intro m
    induction m using Nat.strongRecOn with
    | _ m ih =>
      intro a ρ w ha hI
      obtain ⟨e, a₁, w₁, ⟨ρ₁, hr, hq⟩, harr⟩ := round m ρ w hI a ha b (.inLoop c :: k) cs
      cases e with
      | normal =>
        obtain ⟨m', hm, hI'⟩ := hq
        obtain ⟨e₂, a₂, w₂, hq₂, harr₂⟩ := ih m' hm a₁ ρ₁ w₁ hr hI'
        exact ⟨e₂, a₂, w₂, hq₂, .of_steps (Steps.trans harr (.one step_inLoop)) harr₂⟩
      | exit id => exact ⟨_, a₁, w₁, ⟨ρ₁, hr, hq⟩, .pass (x := .inLoop c) rfl (fun _ _ => .inl (by simp)) harr⟩
      | goto l => exact ⟨_, a₁, w₁, ⟨ρ₁, hr, hq⟩, .pass (x := .inLoop c) rfl (fun _ _ => .inl (by simp)) harr⟩
      | ret => exact ⟨_, a₁, w₁, ⟨ρ₁, hr, hq⟩, .pass (x := .inLoop c) rfl (fun _ _ => .inl (by simp)) harr⟩
      | panic ch => exact ⟨_, a₁, w₁, ⟨ρ₁, hr, hq⟩, .pass (x := .inLoop c) rfl (fun _ _ => .inl (by simp)) harr⟩
      | outgrown => exact ⟨_, a₁, w₁, ⟨ρ₁, hr, hq⟩, .pass (x := .inLoop c) rfl (fun _ _ => .inl (by simp)) harr⟩
  obtain ⟨e, a', w', hq, harr⟩ := key m a ρ w ha h0
  exact ⟨e, a', w', hq, .of_steps (.one step_loop) harr⟩
def okOps (n : Nat) (ops : Array Oper) : Bool := ops.toList.all fun o => dstOk n o.dst
theorem W_reg {id : Nat} {ops : Array Oper} (hok : okOps n ops = true) (h : vcs P ops.toList (Q .normal) ops.toList ρ w) : W P n (.region id ops false) Q ρ w := fun a ha =>
  wp_region (by
    rw [List.range_eq_range']
    exact vcs_sound (Q := lift n Q) (by simpa only [okOps, List.all_eq_true] using hok) (fun a ρ w hr hk => ⟨ρ, hr, hk⟩) ops.size 0 (by simp) a ρ w ha (by simpa using h))
/-- a region and what follows, what follows behind a name -/
theorem W_sr {id : Nat} {ops : Array Oper} {y : Code} (hok : okOps n ops = true)
    (h : vcs P ops.toList (W P n y Q) ops.toList ρ w) : W P n (.seq (.region id ops false) y) Q ρ w :=
  W_seq (W_reg hok h)
theorem W_sk {x y : Code} (h : ∀ K : Fr → World → Prop, (∀ ρ w, W P n y Q ρ w → K ρ w) → W P n x (Then K Q) ρ w) : W P n (.seq x y) Q ρ w :=
  W_seq (h _ fun _ _ h => h)
end

/-! ## entering a function -/
def init (args : Array Value) : Fr := fun t => args.getD t undef
def resV (fn : Func) (ρ : Fr) : Option Value :=
  match fn.results.toList with
  | [] => some (.tuple #[])
  | [.tmp t] => some (ρ t)
  | [.tmp t, .tmp u] => some (.tuple #[ρ t, ρ u])
  | [.tmp t, .tmp u, .tmp x] => some (.tuple #[ρ t, ρ u, ρ x])
  | _ => none
theorem resV_run {P : Program} {n a ρ w fn v} (h : Rep n a ρ) (hv : resV fn ρ = some v) : (results fn a.tmps).run P w = .ok v w := by
  have key : fn.results = fn.results.toList.toArray := by simp
  unfold resV at hv
  unfold results
  split at hv
  · rename_i heq; rw [key, heq]; simp at hv; subst hv; simp
  · rename_i t heq; rw [key, heq]; simp at hv; subst hv; simp [← h.val]
  · rename_i t u heq; rw [key, heq]; simp at hv; subst hv; simp [← h.val]
  · rename_i t u x heq; rw [key, heq]; simp at hv; subst hv; simp [← h.val]
  · cases hv
/-- what is asked at the function's end -/
def Fin (fn : Func) (R : Value → World → Prop) : Post
  | .normal, ρ, w | .ret, ρ, w => ∃ v, resV fn ρ = some v ∧ R v w
  | _, _, _ => False
theorem enter {P f fn c args w R} (hf : P.funcs[f]? = some fn) (hb : fn.body = some c) (hm : (fn.name == "runtime.NumGoroutine") = false) (hn : Nat.ble args.size fn.ntmps = true)
    (h : W P fn.ntmps c (Fin fn R) (init args) w) : Ret P f args w R := by
  refine ⟨⟨fn, hf, hm, by rw [hb]; rfl⟩, ?_⟩
  refine calls_of_wp hf hb (wp_mono (h _ ?_) fun e a w ⟨ρ, hr, hQ⟩ => ?_)
  · have hn := Nat.le_of_ble_eq_true hn
    refine ⟨rfl, by simp; omega, fun t => ?_⟩
    simp only [init, Array.getD_eq_getD_getElem?, Array.getElem?_append]
    by_cases hlt : t < args.size
    · rw [if_pos hlt]
    · rw [if_neg hlt, Array.getElem?_replicate, Array.getElem?_eq_none (xs := args) (by omega)]
      split <;> rfl
  · cases e with
    | normal => obtain ⟨v, hv, hR⟩ := hQ; exact ⟨hr.defers, v, resV_run hr hv, v, rfl, hR⟩
    | ret => obtain ⟨v, hv, hR⟩ := hQ; exact ⟨hr.defers, v, resV_run hr hv, v, rfl, hR⟩
    | _ => exact hQ.elim
end Go.Fx
namespace Go.Fx
open Go.RowKit

/-! ## tables of the program's types -/
structure Env (P : Program) where
  sl : TypeId → Option (TypeId × Nat)
  ar : TypeId → Option (Nat × TypeId × Nat)
  fl : TypeId → Nat → Option (Nat × TypeId)
  ld : TypeId → Option (Option Nat)
  kd : TypeId → Option IntKind
  zr : TypeId → Option Value
  bt : TypeId → Option Nat
  h_sl : ∀ t e n, sl t = some (e, n) → P.underlying t = some (.slice e) ∧ ∃ i, P.info? e = some i ∧ i.size = n
  h_ar : ∀ t l e n, ar t = some (l, e, n) → P.underlying t = some (.array l e) ∧ ∃ i, P.info? e = some i ∧ i.size = n
  h_fl : ∀ t k o e, fl t k = some (o, e) → ∃ fs f, P.underlying t = some (.struct fs) ∧ fs[k]? = some f ∧ f.offset = o ∧ f.type = e ∧ ∃ i, P.info? e = some i ∧ i.size ≠ 0
  h_ld : ∀ t m, ld t = some m → match m with
    | none => ∃ d, P.underlying t = some d ∧ (match d with | .struct _ => False | .array _ _ => False | _ => True) ∧ ∃ i, P.info? t = some i ∧ i.size = 1
    | some n => ∃ d, P.underlying t = some d ∧ (match d with | .struct _ => True | .array _ _ => True | _ => False) ∧ ∃ i, P.info? t = some i ∧ i.size = n
  h_kd : ∀ t k, kd t = some k → P.underlying t = some (.int k)
  h_zr : ∀ t v, zr t = some v → ∃ i, P.info? t = some i ∧ i.zero = some v
  h_bt : ∀ t b, bt t = some b → ∃ i, P.info? t = some i ∧ i.bytes = b

section
variable {P : Program}
def slOk (P : Program) (t e n : Nat) : Bool := match P.underlying t with
  | some (.slice e') => e' == e && (match P.info? e with | some i => i.size == n | none => false)
  | _ => false
theorem slOk_of {t e n} (h : slOk P t e n = true) : P.underlying t = some (.slice e) ∧ ∃ i, P.info? e = some i ∧ i.size = n := by
  unfold slOk at h
  split at h
  · rename_i hu
    simp only [Bool.and_eq_true, beq_iff_eq] at h
    obtain ⟨rfl, h⟩ := h
    split at h
    · rename_i i hi; exact ⟨hu, i, hi, by simpa using h⟩
    · cases h
  · cases h
def arOk (P : Program) (t l e n : Nat) : Bool := match P.underlying t with
  | some (.array l' e') => l' == l && e' == e && (match P.info? e with | some i => i.size == n | none => false)
  | _ => false
theorem arOk_of {t l e n} (h : arOk P t l e n = true) : P.underlying t = some (.array l e) ∧ ∃ i, P.info? e = some i ∧ i.size = n := by
  unfold arOk at h
  split at h
  · rename_i hu
    simp only [Bool.and_eq_true, beq_iff_eq] at h
    obtain ⟨⟨rfl, rfl⟩, h⟩ := h
    split at h
    · rename_i i hi; exact ⟨hu, i, hi, by simpa using h⟩
    · cases h
  · cases h
def flOk (P : Program) (t k o e : Nat) : Bool := match P.underlying t with
  | some (.struct fs) => match fs[k]? with
    | some f => f.offset == o && f.type == e && (match P.info? e with | some i => i.size != 0 | none => false)
    | none => false
  | _ => false
theorem flOk_of {t k o e} (h : flOk P t k o e = true) : ∃ fs f, P.underlying t = some (.struct fs) ∧ fs[k]? = some f ∧ f.offset = o ∧ f.type = e ∧ ∃ i, P.info? e = some i ∧ i.size ≠ 0 := by
  unfold flOk at h
  split at h
  · rename_i fs hu
    split at h
    · rename_i f hf
      simp only [Bool.and_eq_true, beq_iff_eq] at h
      obtain ⟨⟨rfl, rfl⟩, h⟩ := h
      split at h
      · rename_i i hi; exact ⟨fs, f, hu, hf, rfl, rfl, i, hi, by simpa using h⟩
      · cases h
    · cases h
  · cases h
def ldOk (P : Program) (t n : Nat) (g : Bool) : Bool := (match P.underlying t with
  | some (.struct _) | some (.array _ _) => g
  | some _ => !g
  | _ => false) && (match P.info? t with | some i => i.size == n | none => false)
theorem ld1_of {t} (h : ldOk P t 1 false = true) : ∃ d, P.underlying t = some d ∧ (match d with | .struct _ => False | .array _ _ => False | _ => True) ∧ ∃ i, P.info? t = some i ∧ i.size = 1 := by
  unfold ldOk at h
  simp only [Bool.and_eq_true] at h
  obtain ⟨h1, h2⟩ := h
  split at h2
  · rename_i i hi
    cases hd : P.underlying t with
    | none => rw [hd] at h1; cases h1
    | some d =>
      refine ⟨d, rfl, ?_, i, hi, by simpa using h2⟩
      rw [hd] at h1
      cases d <;> first | trivial | cases h1
  · cases h2
theorem ldn_of {t n} (h : ldOk P t n true = true) : ∃ d, P.underlying t = some d ∧ (match d with | .struct _ => True | .array _ _ => True | _ => False) ∧ ∃ i, P.info? t = some i ∧ i.size = n := by
  unfold ldOk at h
  simp only [Bool.and_eq_true] at h
  obtain ⟨h1, h2⟩ := h
  split at h2
  · rename_i i hi
    cases hd : P.underlying t with
    | none => rw [hd] at h1; cases h1
    | some d =>
      refine ⟨d, rfl, ?_, i, hi, by simpa using h2⟩
      rw [hd] at h1
      cases d <;> first | trivial | cases h1
  · cases h2
theorem bt_of {t b} (h : (P.info? t).map (·.bytes) = some b) : ∃ i, P.info? t = some i ∧ i.bytes = b := by
  cases hi : P.info? t with
  | none => rw [hi] at h; cases h
  | some i => rw [hi] at h; exact ⟨i, rfl, by simpa using h⟩
theorem zr_of {t v} (h : (P.info? t).map (·.zero) = some (some v)) : ∃ i, P.info? t = some i ∧ i.zero = some v := by
  cases hi : P.info? t with
  | none => rw [hi] at h; cases h
  | some i => rw [hi] at h; exact ⟨i, rfl, by simpa using h⟩
end

/-! ## a quiet region that draws: one value for each operation in every world of a class -/
def vq (P : Program) (L : List Oper) (C : World → Prop) (K : Fr → Prop) : List Oper → Fr → Prop
  | [], ρ => K ρ
  | o :: os, ρ => if wantF L ρ o.guard = true then ∃ v, (∀ w, C w → Oper.quietUpon P C w v ((execOp (ev ρ) o).run P w)) ∧ vq P L C K os (put ρ o.dst v) else vq P L C K os (put ρ o.dst undef)
theorem vq_sound {P n C} {ops : Array Oper} {K : Fr → Prop} {Q : Act → Prop} (hok : ∀ o ∈ ops.toList, dstOk n o.dst = true) (hK : ∀ a ρ, Rep n a ρ → K ρ → Q a) :
    ∀ (l : List Oper) (a : Act) (ρ : Fr), (∀ o ∈ l, o ∈ ops.toList) → Rep n a ρ → vq P ops.toList C K l ρ → wpQuiet P ops C Q l a := by
  intro l
  induction l with
  | nil => intro a ρ _ h hv; exact hK _ _ h hv
  | cons o os ih =>
    intro a ρ hm h hv
    have hd := hok o (hm o (by simp))
    simp only [wpQuiet]
    rw [wanted_eq h ops _ hok]
    simp only [vq] at hv
    split at hv
    · rename_i hw
      rw [if_pos hw]
      obtain ⟨v, h1, h2⟩ := hv
      refine ⟨v, fun w hw => ?_, ih _ _ (fun o ho => hm o (by simp [ho])) (h.put hd v) h2⟩
      unfold Oper.quietAt
      rw [h.eval]; exact h1 w hw
    · rename_i hw
      rw [if_neg hw]
      exact ih _ _ (fun o ho => hm o (by simp [ho])) (h.put hd undef) hv
theorem W_q {P n} {id : Nat} {ops : Array Oper} {Q : Post} {ρ : Fr} {w : World} (C : World → Prop) (hm : P.follows .mixedOrders = true) (hok : okOps n ops = true) (hB : Region.lexB .any ops = true) (hC : C { w with drawn := w.drawn + 1 })
    (h : vq P ops.toList C (fun ρ' => ∀ w', C w' → Q .normal ρ' w') ops.toList ρ) : W P n (.region id ops true) Q ρ w := fun a ha =>
  wp_region_quiet (C := C) hm hB hC (vq_sound (by simpa only [okOps, List.all_eq_true] using hok) (fun _ ρ hr hk w' hw' => ⟨ρ, hr, hk w' hw'⟩) ops.toList a ρ (fun _ h => h) ha h)
theorem W_qr {P n} {id : Nat} {ops : Array Oper} {y : Code} {Q : Post} {ρ : Fr} {w : World} (C : World → Prop) (hm : P.follows .mixedOrders = true) (hok : okOps n ops = true) (hB : Region.lexB .any ops = true) (hC : C { w with drawn := w.drawn + 1 })
    (h : vq P ops.toList C (fun ρ' => ∀ w', C w' → W P n y Q ρ' w') ops.toList ρ) : W P n (.seq (.region id ops true) y) Q ρ w :=
  W_seq (W_q C hm hok hB hC h)

/-! ## steps -/
section
variable {P : Program} {L os : List Oper} {K : Fr → World → Prop} {Kq : Fr → Prop} {C : World → Prop} {ρ : Fr} {w : World} {d : Option Tmp} {T : TypeId} {pos : String} {af : Array Edge}
theorem s_nil (h : K ρ w) : vcs P L K [] ρ w := h
/-- an operation without a guard is carried out -/
theorem s_one {op : Op} (h : vop P ⟨d, op, T, pos, af, none⟩ (vcs P L K os) ρ w) : vcs P L K (⟨d, op, T, pos, af, none⟩ :: os) ρ w := by
  simp only [vcs, wantF, if_true]; exact h
theorem s_g1 {op : Op} {g : Nat × Bool} (hg : wantF L ρ (some g) = true) (h : vcs P L K (⟨d, op, T, pos, af, none⟩ :: os) ρ w) :
    vcs P L K (⟨d, op, T, pos, af, some g⟩ :: os) ρ w := by
  simp only [vcs, wantF, if_true] at h
  simp only [vcs] at hg ⊢
  rw [if_pos hg]; exact h
theorem s_g0 {op : Op} {g : Nat × Bool} (hg : wantF L ρ (some g) = false) (h : vcs P L K os (put ρ d undef) w) :
    vcs P L K (⟨d, op, T, pos, af, some g⟩ :: os) ρ w := by
  simp only [vcs] at hg ⊢
  rw [if_neg (by simp [hg])]; exact h
/-- from a run to a step -/
theorem s_val {op : Op} {v : Value} {w' : World} (hr : (execOp (ev ρ) ⟨d, op, T, pos, af, none⟩).run P w = .ok (.value v) w') (h : vcs P L K os (put ρ d v) w') :
    vcs P L K (⟨d, op, T, pos, af, none⟩ :: os) ρ w := by
  refine s_one ?_; unfold vop; rw [hr]; exact h
theorem s_skp {op : Op} {w' : World} (hr : (execOp (ev ρ) ⟨d, op, T, pos, af, none⟩).run P w = .ok .skip w') (h : vcs P L K os (put ρ d undef) w') :
    vcs P L K (⟨d, op, T, pos, af, none⟩ :: os) ρ w := by
  refine s_one ?_; unfold vop; rw [hr]; exact h

theorem q_nil (h : Kq ρ) : vq P L C Kq [] ρ := h
theorem q_val {op : Op} {v : Value} (hr : ∀ w, C w → (execOp (ev ρ) ⟨d, op, T, pos, af, none⟩).run P w = .ok (.value v) w) (h : vq P L C Kq os (put ρ d v)) :
    vq P L C Kq (⟨d, op, T, pos, af, none⟩ :: os) ρ := by
  simp only [vq, wantF, if_true]
  exact ⟨v, fun w hw => by rw [hr w hw]; exact ⟨rfl, rfl⟩, h⟩
theorem q_g1 {op : Op} {g : Nat × Bool} (hg : wantF L ρ (some g) = true) (h : vq P L C Kq (⟨d, op, T, pos, af, none⟩ :: os) ρ) :
    vq P L C Kq (⟨d, op, T, pos, af, some g⟩ :: os) ρ := by
  simp only [vq, wantF, if_true] at h
  simp only [vq] at hg ⊢
  rw [if_pos hg]; exact h
theorem q_g0 {op : Op} {g : Nat × Bool} (hg : wantF L ρ (some g) = false) (h : vq P L C Kq os (put ρ d undef)) :
    vq P L C Kq (⟨d, op, T, pos, af, some g⟩ :: os) ρ := by
  simp only [vq] at hg ⊢
  rw [if_neg (by simp [hg])]; exact h
theorem r_bin {x y : Operand} {t yt : TypeId} {k : IntKind} {a b : Int} {op : BinOp} {v : Value} (hop : op ≠ .shl ∧ op ≠ .shr) (hx : ev ρ x = .int k a) (hy : ev ρ y = .int k b)
    (hr : (match op with
      | .add | .sub | .mul => Op.intArith op k a b
      | .quo | .rem => Op.intDiv op k a b
      | .and | .or | .xor | .andNot => Op.intBits op k a b
      | _ => Op.intCmp op a b : Sem Value).run P w = .ok v w) :
    (execOp (ev ρ) ⟨d, .binOp op t x y yt, T, pos, af, none⟩).run P w = .ok (.value v) w := by
  have hg : (eqGuard op t x y (.int k a) (.int k b)).run P w = .ok () w := by unfold eqGuard; split <;> rfl
  have hb : (binOp op t (.int k a) (.int k b)).run P w = .ok v w := by
    rw [← hr]; unfold binOp
    cases op <;> simp at hop ⊢
  simp only [execOp, hx, hy, Sem.run_bind, hg, Result.andThen_ok, hb, Sem.run_pure]
theorem wrap64_in {n : Int} (h1 : -9223372036854775808 ≤ n) (h2 : n ≤ 9223372036854775807) : IntKind.i64.wrap n = n := by
  simp only [IntKind.wrap, IntKind.bits, IntKind.signed]
  simp
  omega
theorem run_under {t : TypeId} {dd : TypeDesc} (h : P.underlying t = some dd) : (underlying t).run P w = .ok dd w := by
  simp [underlying, h]
end

section
variable {P : Program} {L os : List Oper} {K : Fr → World → Prop} {Kq : Fr → Prop} {C : World → Prop} {ρ : Fr} {w : World} {d : Option Tmp} {T : TypeId} {pos : String} {af : Array Edge}
theorem r_mv {x : Operand} {v : Value} (hx : ev ρ x = v) :
    (execOp (ev ρ) ⟨d, .move x, T, pos, af, none⟩).run P w = .ok (.value v) w := by subst hx; rfl
theorem s_mv {x : Operand} {v : Value} (hx : ev ρ x = v) (h : vcs P L K os (put ρ d v) w) : vcs P L K (⟨d, .move x, T, pos, af, none⟩ :: os) ρ w := s_val (r_mv hx) h
theorem q_mv {x : Operand} {v : Value} (hx : ev ρ x = v) (h : vq P L C Kq os (put ρ d v)) : vq P L C Kq (⟨d, .move x, T, pos, af, none⟩ :: os) ρ := q_val (fun _ _ => r_mv hx) h
theorem r_as {x : Operand} {v : Value} (hx : ev ρ x = v) :
    (execOp (ev ρ) ⟨d, .assign x, T, pos, af, none⟩).run P w = .ok (.value v) w := by subst hx; rfl
theorem s_as {x : Operand} {v : Value} (hx : ev ρ x = v) (h : vcs P L K os (put ρ d v) w) : vcs P L K (⟨d, .assign x, T, pos, af, none⟩ :: os) ρ w := s_val (r_as hx) h
theorem q_as {x : Operand} {v : Value} (hx : ev ρ x = v) (h : vq P L C Kq os (put ρ d v)) : vq P L C Kq (⟨d, .assign x, T, pos, af, none⟩ :: os) ρ := q_val (fun _ _ => r_as hx) h
theorem r_pk {c x y : Operand} {b : Bool} (hc : ev ρ c = .bool b) :
    (execOp (ev ρ) ⟨d, .pick c x y, T, pos, af, none⟩).run P w = .ok (.value (if b then ev ρ x else ev ρ y)) w := by simp [execOp, hc, asBool]
theorem s_pk {c x y : Operand} {b : Bool} (hc : ev ρ c = .bool b) (h : vcs P L K os (put ρ d (if b then ev ρ x else ev ρ y)) w) : vcs P L K (⟨d, .pick c x y, T, pos, af, none⟩ :: os) ρ w := s_val (r_pk hc) h
theorem q_pk {c x y : Operand} {b : Bool} (hc : ev ρ c = .bool b) (h : vq P L C Kq os (put ρ d (if b then ev ρ x else ev ρ y))) : vq P L C Kq (⟨d, .pick c x y, T, pos, af, none⟩ :: os) ρ := q_val (fun _ _ => r_pk hc) h
theorem r_addw {x y : Operand} {t yt : TypeId} {k : IntKind} {a b : Int} (hx : ev ρ x = .int k a) (hy : ev ρ y = .int k b) :
    (execOp (ev ρ) ⟨d, .binOp .add t x y yt, T, pos, af, none⟩).run P w = .ok (.value (.int k (k.wrap (a + b)))) w := r_bin (by simp) hx hy (rfl)
theorem s_addw {x y : Operand} {t yt : TypeId} {k : IntKind} {a b : Int} (hx : ev ρ x = .int k a) (hy : ev ρ y = .int k b) (h : vcs P L K os (put ρ d (.int k (k.wrap (a + b)))) w) : vcs P L K (⟨d, .binOp .add t x y yt, T, pos, af, none⟩ :: os) ρ w := s_val (r_addw hx hy) h
theorem q_addw {x y : Operand} {t yt : TypeId} {k : IntKind} {a b : Int} (hx : ev ρ x = .int k a) (hy : ev ρ y = .int k b) (h : vq P L C Kq os (put ρ d (.int k (k.wrap (a + b))))) : vq P L C Kq (⟨d, .binOp .add t x y yt, T, pos, af, none⟩ :: os) ρ := q_val (fun _ _ => r_addw hx hy) h
theorem r_subw {x y : Operand} {t yt : TypeId} {k : IntKind} {a b : Int} (hx : ev ρ x = .int k a) (hy : ev ρ y = .int k b) :
    (execOp (ev ρ) ⟨d, .binOp .sub t x y yt, T, pos, af, none⟩).run P w = .ok (.value (.int k (k.wrap (a - b)))) w := r_bin (by simp) hx hy (rfl)
theorem s_subw {x y : Operand} {t yt : TypeId} {k : IntKind} {a b : Int} (hx : ev ρ x = .int k a) (hy : ev ρ y = .int k b) (h : vcs P L K os (put ρ d (.int k (k.wrap (a - b)))) w) : vcs P L K (⟨d, .binOp .sub t x y yt, T, pos, af, none⟩ :: os) ρ w := s_val (r_subw hx hy) h
theorem q_subw {x y : Operand} {t yt : TypeId} {k : IntKind} {a b : Int} (hx : ev ρ x = .int k a) (hy : ev ρ y = .int k b) (h : vq P L C Kq os (put ρ d (.int k (k.wrap (a - b))))) : vq P L C Kq (⟨d, .binOp .sub t x y yt, T, pos, af, none⟩ :: os) ρ := q_val (fun _ _ => r_subw hx hy) h
theorem r_mulw {x y : Operand} {t yt : TypeId} {k : IntKind} {a b : Int} (hx : ev ρ x = .int k a) (hy : ev ρ y = .int k b) :
    (execOp (ev ρ) ⟨d, .binOp .mul t x y yt, T, pos, af, none⟩).run P w = .ok (.value (.int k (k.wrap (a * b)))) w := r_bin (by simp) hx hy (rfl)
theorem s_mulw {x y : Operand} {t yt : TypeId} {k : IntKind} {a b : Int} (hx : ev ρ x = .int k a) (hy : ev ρ y = .int k b) (h : vcs P L K os (put ρ d (.int k (k.wrap (a * b)))) w) : vcs P L K (⟨d, .binOp .mul t x y yt, T, pos, af, none⟩ :: os) ρ w := s_val (r_mulw hx hy) h
theorem q_mulw {x y : Operand} {t yt : TypeId} {k : IntKind} {a b : Int} (hx : ev ρ x = .int k a) (hy : ev ρ y = .int k b) (h : vq P L C Kq os (put ρ d (.int k (k.wrap (a * b))))) : vq P L C Kq (⟨d, .binOp .mul t x y yt, T, pos, af, none⟩ :: os) ρ := q_val (fun _ _ => r_mulw hx hy) h
theorem r_add {x y : Operand} {t yt : TypeId} {a b : Int} (hx : ev ρ x = .int .i64 a) (hy : ev ρ y = .int .i64 b) (h1 : -9223372036854775808 ≤ a + b ∧ a + b ≤ 9223372036854775807) :
    (execOp (ev ρ) ⟨d, .binOp .add t x y yt, T, pos, af, none⟩).run P w = .ok (.value (.int .i64 (a + b))) w := by rw [← wrap64_in h1.1 h1.2]; exact r_addw hx hy
theorem s_add {x y : Operand} {t yt : TypeId} {a b : Int} (hx : ev ρ x = .int .i64 a) (hy : ev ρ y = .int .i64 b) (h1 : -9223372036854775808 ≤ a + b ∧ a + b ≤ 9223372036854775807) (h : vcs P L K os (put ρ d (.int .i64 (a + b))) w) : vcs P L K (⟨d, .binOp .add t x y yt, T, pos, af, none⟩ :: os) ρ w := s_val (r_add hx hy h1) h
theorem q_add {x y : Operand} {t yt : TypeId} {a b : Int} (hx : ev ρ x = .int .i64 a) (hy : ev ρ y = .int .i64 b) (h1 : -9223372036854775808 ≤ a + b ∧ a + b ≤ 9223372036854775807) (h : vq P L C Kq os (put ρ d (.int .i64 (a + b)))) : vq P L C Kq (⟨d, .binOp .add t x y yt, T, pos, af, none⟩ :: os) ρ := q_val (fun _ _ => r_add hx hy h1) h
theorem r_sub {x y : Operand} {t yt : TypeId} {a b : Int} (hx : ev ρ x = .int .i64 a) (hy : ev ρ y = .int .i64 b) (h1 : -9223372036854775808 ≤ a - b ∧ a - b ≤ 9223372036854775807) :
    (execOp (ev ρ) ⟨d, .binOp .sub t x y yt, T, pos, af, none⟩).run P w = .ok (.value (.int .i64 (a - b))) w := by rw [← wrap64_in h1.1 h1.2]; exact r_subw hx hy
theorem s_sub {x y : Operand} {t yt : TypeId} {a b : Int} (hx : ev ρ x = .int .i64 a) (hy : ev ρ y = .int .i64 b) (h1 : -9223372036854775808 ≤ a - b ∧ a - b ≤ 9223372036854775807) (h : vcs P L K os (put ρ d (.int .i64 (a - b))) w) : vcs P L K (⟨d, .binOp .sub t x y yt, T, pos, af, none⟩ :: os) ρ w := s_val (r_sub hx hy h1) h
theorem q_sub {x y : Operand} {t yt : TypeId} {a b : Int} (hx : ev ρ x = .int .i64 a) (hy : ev ρ y = .int .i64 b) (h1 : -9223372036854775808 ≤ a - b ∧ a - b ≤ 9223372036854775807) (h : vq P L C Kq os (put ρ d (.int .i64 (a - b)))) : vq P L C Kq (⟨d, .binOp .sub t x y yt, T, pos, af, none⟩ :: os) ρ := q_val (fun _ _ => r_sub hx hy h1) h
theorem r_mul {x y : Operand} {t yt : TypeId} {a b : Int} (hx : ev ρ x = .int .i64 a) (hy : ev ρ y = .int .i64 b) (h1 : -9223372036854775808 ≤ a * b ∧ a * b ≤ 9223372036854775807) :
    (execOp (ev ρ) ⟨d, .binOp .mul t x y yt, T, pos, af, none⟩).run P w = .ok (.value (.int .i64 (a * b))) w := by rw [← wrap64_in h1.1 h1.2]; exact r_mulw hx hy
theorem s_mul {x y : Operand} {t yt : TypeId} {a b : Int} (hx : ev ρ x = .int .i64 a) (hy : ev ρ y = .int .i64 b) (h1 : -9223372036854775808 ≤ a * b ∧ a * b ≤ 9223372036854775807) (h : vcs P L K os (put ρ d (.int .i64 (a * b))) w) : vcs P L K (⟨d, .binOp .mul t x y yt, T, pos, af, none⟩ :: os) ρ w := s_val (r_mul hx hy h1) h
theorem q_mul {x y : Operand} {t yt : TypeId} {a b : Int} (hx : ev ρ x = .int .i64 a) (hy : ev ρ y = .int .i64 b) (h1 : -9223372036854775808 ≤ a * b ∧ a * b ≤ 9223372036854775807) (h : vq P L C Kq os (put ρ d (.int .i64 (a * b)))) : vq P L C Kq (⟨d, .binOp .mul t x y yt, T, pos, af, none⟩ :: os) ρ := q_val (fun _ _ => r_mul hx hy h1) h
theorem r_quow {x y : Operand} {t yt : TypeId} {k : IntKind} {a b : Int} (hx : ev ρ x = .int k a) (hy : ev ρ y = .int k b) (hb : b ≠ 0) :
    (execOp (ev ρ) ⟨d, .binOp .quo t x y yt, T, pos, af, none⟩).run P w = .ok (.value (.int k (k.wrap (a.tdiv b)))) w := r_bin (by simp) hx hy (by simp [Op.intDiv, hb])
theorem s_quow {x y : Operand} {t yt : TypeId} {k : IntKind} {a b : Int} (hx : ev ρ x = .int k a) (hy : ev ρ y = .int k b) (hb : b ≠ 0) (h : vcs P L K os (put ρ d (.int k (k.wrap (a.tdiv b)))) w) : vcs P L K (⟨d, .binOp .quo t x y yt, T, pos, af, none⟩ :: os) ρ w := s_val (r_quow hx hy hb) h
theorem q_quow {x y : Operand} {t yt : TypeId} {k : IntKind} {a b : Int} (hx : ev ρ x = .int k a) (hy : ev ρ y = .int k b) (hb : b ≠ 0) (h : vq P L C Kq os (put ρ d (.int k (k.wrap (a.tdiv b))))) : vq P L C Kq (⟨d, .binOp .quo t x y yt, T, pos, af, none⟩ :: os) ρ := q_val (fun _ _ => r_quow hx hy hb) h
theorem r_rem {x y : Operand} {t yt : TypeId} {k : IntKind} {a b : Int} (hx : ev ρ x = .int k a) (hy : ev ρ y = .int k b) (hb : b ≠ 0) :
    (execOp (ev ρ) ⟨d, .binOp .rem t x y yt, T, pos, af, none⟩).run P w = .ok (.value (.int k (a.tmod b))) w := r_bin (by simp) hx hy (by simp [Op.intDiv, hb])
theorem s_rem {x y : Operand} {t yt : TypeId} {k : IntKind} {a b : Int} (hx : ev ρ x = .int k a) (hy : ev ρ y = .int k b) (hb : b ≠ 0) (h : vcs P L K os (put ρ d (.int k (a.tmod b))) w) : vcs P L K (⟨d, .binOp .rem t x y yt, T, pos, af, none⟩ :: os) ρ w := s_val (r_rem hx hy hb) h
theorem q_rem {x y : Operand} {t yt : TypeId} {k : IntKind} {a b : Int} (hx : ev ρ x = .int k a) (hy : ev ρ y = .int k b) (hb : b ≠ 0) (h : vq P L C Kq os (put ρ d (.int k (a.tmod b)))) : vq P L C Kq (⟨d, .binOp .rem t x y yt, T, pos, af, none⟩ :: os) ρ := q_val (fun _ _ => r_rem hx hy hb) h
theorem r_and {x y : Operand} {t yt : TypeId} {k : IntKind} {a b : Int} (hx : ev ρ x = .int k a) (hy : ev ρ y = .int k b) :
    (execOp (ev ρ) ⟨d, .binOp .and t x y yt, T, pos, af, none⟩).run P w = .ok (.value (.int k (k.wrap (BitVec.ofInt k.bits a &&& BitVec.ofInt k.bits b).toNat))) w := r_bin (by simp) hx hy (rfl)
theorem s_and {x y : Operand} {t yt : TypeId} {k : IntKind} {a b : Int} (hx : ev ρ x = .int k a) (hy : ev ρ y = .int k b) (h : vcs P L K os (put ρ d (.int k (k.wrap (BitVec.ofInt k.bits a &&& BitVec.ofInt k.bits b).toNat))) w) : vcs P L K (⟨d, .binOp .and t x y yt, T, pos, af, none⟩ :: os) ρ w := s_val (r_and hx hy) h
theorem q_and {x y : Operand} {t yt : TypeId} {k : IntKind} {a b : Int} (hx : ev ρ x = .int k a) (hy : ev ρ y = .int k b) (h : vq P L C Kq os (put ρ d (.int k (k.wrap (BitVec.ofInt k.bits a &&& BitVec.ofInt k.bits b).toNat)))) : vq P L C Kq (⟨d, .binOp .and t x y yt, T, pos, af, none⟩ :: os) ρ := q_val (fun _ _ => r_and hx hy) h
theorem r_or {x y : Operand} {t yt : TypeId} {k : IntKind} {a b : Int} (hx : ev ρ x = .int k a) (hy : ev ρ y = .int k b) :
    (execOp (ev ρ) ⟨d, .binOp .or t x y yt, T, pos, af, none⟩).run P w = .ok (.value (.int k (k.wrap (BitVec.ofInt k.bits a ||| BitVec.ofInt k.bits b).toNat))) w := r_bin (by simp) hx hy (rfl)
theorem s_or {x y : Operand} {t yt : TypeId} {k : IntKind} {a b : Int} (hx : ev ρ x = .int k a) (hy : ev ρ y = .int k b) (h : vcs P L K os (put ρ d (.int k (k.wrap (BitVec.ofInt k.bits a ||| BitVec.ofInt k.bits b).toNat))) w) : vcs P L K (⟨d, .binOp .or t x y yt, T, pos, af, none⟩ :: os) ρ w := s_val (r_or hx hy) h
theorem q_or {x y : Operand} {t yt : TypeId} {k : IntKind} {a b : Int} (hx : ev ρ x = .int k a) (hy : ev ρ y = .int k b) (h : vq P L C Kq os (put ρ d (.int k (k.wrap (BitVec.ofInt k.bits a ||| BitVec.ofInt k.bits b).toNat)))) : vq P L C Kq (⟨d, .binOp .or t x y yt, T, pos, af, none⟩ :: os) ρ := q_val (fun _ _ => r_or hx hy) h
theorem r_xor {x y : Operand} {t yt : TypeId} {k : IntKind} {a b : Int} (hx : ev ρ x = .int k a) (hy : ev ρ y = .int k b) :
    (execOp (ev ρ) ⟨d, .binOp .xor t x y yt, T, pos, af, none⟩).run P w = .ok (.value (.int k (k.wrap (BitVec.ofInt k.bits a ^^^ BitVec.ofInt k.bits b).toNat))) w := r_bin (by simp) hx hy (rfl)
theorem s_xor {x y : Operand} {t yt : TypeId} {k : IntKind} {a b : Int} (hx : ev ρ x = .int k a) (hy : ev ρ y = .int k b) (h : vcs P L K os (put ρ d (.int k (k.wrap (BitVec.ofInt k.bits a ^^^ BitVec.ofInt k.bits b).toNat))) w) : vcs P L K (⟨d, .binOp .xor t x y yt, T, pos, af, none⟩ :: os) ρ w := s_val (r_xor hx hy) h
theorem q_xor {x y : Operand} {t yt : TypeId} {k : IntKind} {a b : Int} (hx : ev ρ x = .int k a) (hy : ev ρ y = .int k b) (h : vq P L C Kq os (put ρ d (.int k (k.wrap (BitVec.ofInt k.bits a ^^^ BitVec.ofInt k.bits b).toNat)))) : vq P L C Kq (⟨d, .binOp .xor t x y yt, T, pos, af, none⟩ :: os) ρ := q_val (fun _ _ => r_xor hx hy) h
theorem r_lss {x y : Operand} {t yt : TypeId} {k : IntKind} {a b : Int} (hx : ev ρ x = .int k a) (hy : ev ρ y = .int k b) :
    (execOp (ev ρ) ⟨d, .binOp .lss t x y yt, T, pos, af, none⟩).run P w = .ok (.value (.bool (decide (a < b)))) w := r_bin (by simp) hx hy (rfl)
theorem s_lss {x y : Operand} {t yt : TypeId} {k : IntKind} {a b : Int} (hx : ev ρ x = .int k a) (hy : ev ρ y = .int k b) (h : vcs P L K os (put ρ d (.bool (decide (a < b)))) w) : vcs P L K (⟨d, .binOp .lss t x y yt, T, pos, af, none⟩ :: os) ρ w := s_val (r_lss hx hy) h
theorem q_lss {x y : Operand} {t yt : TypeId} {k : IntKind} {a b : Int} (hx : ev ρ x = .int k a) (hy : ev ρ y = .int k b) (h : vq P L C Kq os (put ρ d (.bool (decide (a < b))))) : vq P L C Kq (⟨d, .binOp .lss t x y yt, T, pos, af, none⟩ :: os) ρ := q_val (fun _ _ => r_lss hx hy) h
theorem r_leq {x y : Operand} {t yt : TypeId} {k : IntKind} {a b : Int} (hx : ev ρ x = .int k a) (hy : ev ρ y = .int k b) :
    (execOp (ev ρ) ⟨d, .binOp .leq t x y yt, T, pos, af, none⟩).run P w = .ok (.value (.bool (decide (a ≤ b)))) w := r_bin (by simp) hx hy (rfl)
theorem s_leq {x y : Operand} {t yt : TypeId} {k : IntKind} {a b : Int} (hx : ev ρ x = .int k a) (hy : ev ρ y = .int k b) (h : vcs P L K os (put ρ d (.bool (decide (a ≤ b)))) w) : vcs P L K (⟨d, .binOp .leq t x y yt, T, pos, af, none⟩ :: os) ρ w := s_val (r_leq hx hy) h
theorem q_leq {x y : Operand} {t yt : TypeId} {k : IntKind} {a b : Int} (hx : ev ρ x = .int k a) (hy : ev ρ y = .int k b) (h : vq P L C Kq os (put ρ d (.bool (decide (a ≤ b))))) : vq P L C Kq (⟨d, .binOp .leq t x y yt, T, pos, af, none⟩ :: os) ρ := q_val (fun _ _ => r_leq hx hy) h
theorem r_gtr {x y : Operand} {t yt : TypeId} {k : IntKind} {a b : Int} (hx : ev ρ x = .int k a) (hy : ev ρ y = .int k b) :
    (execOp (ev ρ) ⟨d, .binOp .gtr t x y yt, T, pos, af, none⟩).run P w = .ok (.value (.bool (decide (b < a)))) w := r_bin (by simp) hx hy (rfl)
theorem s_gtr {x y : Operand} {t yt : TypeId} {k : IntKind} {a b : Int} (hx : ev ρ x = .int k a) (hy : ev ρ y = .int k b) (h : vcs P L K os (put ρ d (.bool (decide (b < a)))) w) : vcs P L K (⟨d, .binOp .gtr t x y yt, T, pos, af, none⟩ :: os) ρ w := s_val (r_gtr hx hy) h
theorem q_gtr {x y : Operand} {t yt : TypeId} {k : IntKind} {a b : Int} (hx : ev ρ x = .int k a) (hy : ev ρ y = .int k b) (h : vq P L C Kq os (put ρ d (.bool (decide (b < a))))) : vq P L C Kq (⟨d, .binOp .gtr t x y yt, T, pos, af, none⟩ :: os) ρ := q_val (fun _ _ => r_gtr hx hy) h
theorem r_geq {x y : Operand} {t yt : TypeId} {k : IntKind} {a b : Int} (hx : ev ρ x = .int k a) (hy : ev ρ y = .int k b) :
    (execOp (ev ρ) ⟨d, .binOp .geq t x y yt, T, pos, af, none⟩).run P w = .ok (.value (.bool (decide (b ≤ a)))) w := r_bin (by simp) hx hy (rfl)
theorem s_geq {x y : Operand} {t yt : TypeId} {k : IntKind} {a b : Int} (hx : ev ρ x = .int k a) (hy : ev ρ y = .int k b) (h : vcs P L K os (put ρ d (.bool (decide (b ≤ a)))) w) : vcs P L K (⟨d, .binOp .geq t x y yt, T, pos, af, none⟩ :: os) ρ w := s_val (r_geq hx hy) h
theorem q_geq {x y : Operand} {t yt : TypeId} {k : IntKind} {a b : Int} (hx : ev ρ x = .int k a) (hy : ev ρ y = .int k b) (h : vq P L C Kq os (put ρ d (.bool (decide (b ≤ a))))) : vq P L C Kq (⟨d, .binOp .geq t x y yt, T, pos, af, none⟩ :: os) ρ := q_val (fun _ _ => r_geq hx hy) h
theorem r_eql {x y : Operand} {t yt : TypeId} {k : IntKind} {a b : Int} (hx : ev ρ x = .int k a) (hy : ev ρ y = .int k b) :
    (execOp (ev ρ) ⟨d, .binOp .eql t x y yt, T, pos, af, none⟩).run P w = .ok (.value (.bool (decide (a = b)))) w := r_bin (by simp) hx hy (by show (Op.intCmp .eql a b).run P w = _; simp [Op.intCmp]; rfl)
theorem s_eql {x y : Operand} {t yt : TypeId} {k : IntKind} {a b : Int} (hx : ev ρ x = .int k a) (hy : ev ρ y = .int k b) (h : vcs P L K os (put ρ d (.bool (decide (a = b)))) w) : vcs P L K (⟨d, .binOp .eql t x y yt, T, pos, af, none⟩ :: os) ρ w := s_val (r_eql hx hy) h
theorem q_eql {x y : Operand} {t yt : TypeId} {k : IntKind} {a b : Int} (hx : ev ρ x = .int k a) (hy : ev ρ y = .int k b) (h : vq P L C Kq os (put ρ d (.bool (decide (a = b))))) : vq P L C Kq (⟨d, .binOp .eql t x y yt, T, pos, af, none⟩ :: os) ρ := q_val (fun _ _ => r_eql hx hy) h
theorem r_neq {x y : Operand} {t yt : TypeId} {k : IntKind} {a b : Int} (hx : ev ρ x = .int k a) (hy : ev ρ y = .int k b) :
    (execOp (ev ρ) ⟨d, .binOp .neq t x y yt, T, pos, af, none⟩).run P w = .ok (.value (.bool (decide (a ≠ b)))) w := r_bin (by simp) hx hy (by show (Op.intCmp .neq a b).run P w = _; simp [Op.intCmp, bne]; rfl)
theorem s_neq {x y : Operand} {t yt : TypeId} {k : IntKind} {a b : Int} (hx : ev ρ x = .int k a) (hy : ev ρ y = .int k b) (h : vcs P L K os (put ρ d (.bool (decide (a ≠ b)))) w) : vcs P L K (⟨d, .binOp .neq t x y yt, T, pos, af, none⟩ :: os) ρ w := s_val (r_neq hx hy) h
theorem q_neq {x y : Operand} {t yt : TypeId} {k : IntKind} {a b : Int} (hx : ev ρ x = .int k a) (hy : ev ρ y = .int k b) (h : vq P L C Kq os (put ρ d (.bool (decide (a ≠ b))))) : vq P L C Kq (⟨d, .binOp .neq t x y yt, T, pos, af, none⟩ :: os) ρ := q_val (fun _ _ => r_neq hx hy) h
theorem r_cmp {o : BinOp} {c : Bool} {x y : Operand} {t yt : TypeId} {k : IntKind} {a b : Int} (hx : ev ρ x = .int k a) (hy : ev ρ y = .int k b) (hc : (match o with | .lss => decide (a < b) | .leq => decide (a ≤ b) | .gtr => decide (b < a) | .geq => decide (b ≤ a) | .eql => decide (a = b) | .neq => decide (a ≠ b) | _ => !c) = c) :
    (execOp (ev ρ) ⟨d, .binOp o t x y yt, T, pos, af, none⟩).run P w = .ok (.value (.bool c)) w := by
  cases o <;> simp only at hc <;> first
    | (cases c <;> simp at hc; done)
    | (subst hc; first | exact r_lss hx hy | exact r_leq hx hy | exact r_gtr hx hy | exact r_geq hx hy | exact r_eql hx hy | exact r_neq hx hy)
theorem s_cmp {o : BinOp} {c : Bool} {x y : Operand} {t yt : TypeId} {k : IntKind} {a b : Int} (hx : ev ρ x = .int k a) (hy : ev ρ y = .int k b) (hc : (match o with | .lss => decide (a < b) | .leq => decide (a ≤ b) | .gtr => decide (b < a) | .geq => decide (b ≤ a) | .eql => decide (a = b) | .neq => decide (a ≠ b) | _ => !c) = c) (h : vcs P L K os (put ρ d (.bool c)) w) : vcs P L K (⟨d, .binOp o t x y yt, T, pos, af, none⟩ :: os) ρ w := s_val (r_cmp hx hy hc) h
theorem q_cmp {o : BinOp} {c : Bool} {x y : Operand} {t yt : TypeId} {k : IntKind} {a b : Int} (hx : ev ρ x = .int k a) (hy : ev ρ y = .int k b) (hc : (match o with | .lss => decide (a < b) | .leq => decide (a ≤ b) | .gtr => decide (b < a) | .geq => decide (b ≤ a) | .eql => decide (a = b) | .neq => decide (a ≠ b) | _ => !c) = c) (h : vq P L C Kq os (put ρ d (.bool c))) : vq P L C Kq (⟨d, .binOp o t x y yt, T, pos, af, none⟩ :: os) ρ := q_val (fun _ _ => r_cmp hx hy hc) h
theorem r_shr {x y : Operand} {t yt : TypeId} {k k' : IntKind} {a b : Int} (hx : ev ρ x = .int k a) (hy : ev ρ y = .int k' b) (hb : 0 ≤ b) :
    (execOp (ev ρ) ⟨d, .binOp .shr t x y yt, T, pos, af, none⟩).run P w = .ok (.value (.int k (a.fdiv (2 ^ min b.toNat k.bits)))) w := by simp [execOp, eqGuard, binOp, hx, hy, Op.shift, show ¬ b < 0 by omega]
theorem s_shr {x y : Operand} {t yt : TypeId} {k k' : IntKind} {a b : Int} (hx : ev ρ x = .int k a) (hy : ev ρ y = .int k' b) (hb : 0 ≤ b) (h : vcs P L K os (put ρ d (.int k (a.fdiv (2 ^ min b.toNat k.bits)))) w) : vcs P L K (⟨d, .binOp .shr t x y yt, T, pos, af, none⟩ :: os) ρ w := s_val (r_shr hx hy hb) h
theorem q_shr {x y : Operand} {t yt : TypeId} {k k' : IntKind} {a b : Int} (hx : ev ρ x = .int k a) (hy : ev ρ y = .int k' b) (hb : 0 ≤ b) (h : vq P L C Kq os (put ρ d (.int k (a.fdiv (2 ^ min b.toNat k.bits))))) : vq P L C Kq (⟨d, .binOp .shr t x y yt, T, pos, af, none⟩ :: os) ρ := q_val (fun _ _ => r_shr hx hy hb) h
theorem r_shl {x y : Operand} {t yt : TypeId} {k k' : IntKind} {a b : Int} (hx : ev ρ x = .int k a) (hy : ev ρ y = .int k' b) (hb : 0 ≤ b) :
    (execOp (ev ρ) ⟨d, .binOp .shl t x y yt, T, pos, af, none⟩).run P w = .ok (.value (.int k (k.wrap (a * 2 ^ min b.toNat k.bits)))) w := by simp [execOp, eqGuard, binOp, hx, hy, Op.shift, show ¬ b < 0 by omega]
theorem s_shl {x y : Operand} {t yt : TypeId} {k k' : IntKind} {a b : Int} (hx : ev ρ x = .int k a) (hy : ev ρ y = .int k' b) (hb : 0 ≤ b) (h : vcs P L K os (put ρ d (.int k (k.wrap (a * 2 ^ min b.toNat k.bits)))) w) : vcs P L K (⟨d, .binOp .shl t x y yt, T, pos, af, none⟩ :: os) ρ w := s_val (r_shl hx hy hb) h
theorem q_shl {x y : Operand} {t yt : TypeId} {k k' : IntKind} {a b : Int} (hx : ev ρ x = .int k a) (hy : ev ρ y = .int k' b) (hb : 0 ≤ b) (h : vq P L C Kq os (put ρ d (.int k (k.wrap (a * 2 ^ min b.toNat k.bits))))) : vq P L C Kq (⟨d, .binOp .shl t x y yt, T, pos, af, none⟩ :: os) ρ := q_val (fun _ _ => r_shl hx hy hb) h
theorem r_not {x : Operand} {t : TypeId} {b : Bool} (hx : ev ρ x = .bool b) :
    (execOp (ev ρ) ⟨d, .unOp .not t x, T, pos, af, none⟩).run P w = .ok (.value (.bool (!b))) w := by simp [execOp, hx, Op.unary]
theorem s_not {x : Operand} {t : TypeId} {b : Bool} (hx : ev ρ x = .bool b) (h : vcs P L K os (put ρ d (.bool (!b))) w) : vcs P L K (⟨d, .unOp .not t x, T, pos, af, none⟩ :: os) ρ w := s_val (r_not hx) h
theorem q_not {x : Operand} {t : TypeId} {b : Bool} (hx : ev ρ x = .bool b) (h : vq P L C Kq os (put ρ d (.bool (!b)))) : vq P L C Kq (⟨d, .unOp .not t x, T, pos, af, none⟩ :: os) ρ := q_val (fun _ _ => r_not hx) h
theorem r_neg {x : Operand} {t : TypeId} {k : IntKind} {a : Int} (hx : ev ρ x = .int k a) :
    (execOp (ev ρ) ⟨d, .unOp .neg t x, T, pos, af, none⟩).run P w = .ok (.value (.int k (k.wrap (0 - a)))) w := by simp [execOp, hx, Op.unary, Op.intArith]
theorem s_neg {x : Operand} {t : TypeId} {k : IntKind} {a : Int} (hx : ev ρ x = .int k a) (h : vcs P L K os (put ρ d (.int k (k.wrap (0 - a)))) w) : vcs P L K (⟨d, .unOp .neg t x, T, pos, af, none⟩ :: os) ρ w := s_val (r_neg hx) h
theorem q_neg {x : Operand} {t : TypeId} {k : IntKind} {a : Int} (hx : ev ρ x = .int k a) (h : vq P L C Kq os (put ρ d (.int k (k.wrap (0 - a))))) : vq P L C Kq (⟨d, .unOp .neg t x, T, pos, af, none⟩ :: os) ρ := q_val (fun _ _ => r_neg hx) h
theorem r_cv (E : Env P) {x : Operand} {t st : TypeId} {k sk dk : IntKind} {a : Int} (hs : E.kd st = some sk) (hd : E.kd t = some dk) (hx : ev ρ x = .int k a) :
    (execOp (ev ρ) ⟨d, .convert st t x, T, pos, af, none⟩).run P w = .ok (.value (.int dk (dk.wrap a))) w := by simp [execOp, hx, convert, run_under (E.h_kd _ _ hs), run_under (E.h_kd _ _ hd), Conv.intToInt]
theorem s_cv (E : Env P) {x : Operand} {t st : TypeId} {k sk dk : IntKind} {a : Int} (hs : E.kd st = some sk) (hd : E.kd t = some dk) (hx : ev ρ x = .int k a) (h : vcs P L K os (put ρ d (.int dk (dk.wrap a))) w) : vcs P L K (⟨d, .convert st t x, T, pos, af, none⟩ :: os) ρ w := s_val (r_cv E hs hd hx) h
theorem q_cv (E : Env P) {x : Operand} {t st : TypeId} {k sk dk : IntKind} {a : Int} (hs : E.kd st = some sk) (hd : E.kd t = some dk) (hx : ev ρ x = .int k a) (h : vq P L C Kq os (put ρ d (.int dk (dk.wrap a)))) : vq P L C Kq (⟨d, .convert st t x, T, pos, af, none⟩ :: os) ρ := q_val (fun _ _ => r_cv E hs hd hx) h
theorem r_nc {x : Operand} {a : Addr} (hx : ev ρ x = .pointer (some a)) :
    (execOp (ev ρ) ⟨d, .nilCheck x, T, pos, af, none⟩).run P w = .ok (.value (.pointer (some a))) w := by simp [execOp, hx]
theorem s_nc {x : Operand} {a : Addr} (hx : ev ρ x = .pointer (some a)) (h : vcs P L K os (put ρ d (.pointer (some a))) w) : vcs P L K (⟨d, .nilCheck x, T, pos, af, none⟩ :: os) ρ w := s_val (r_nc hx) h
theorem q_nc {x : Operand} {a : Addr} (hx : ev ρ x = .pointer (some a)) (h : vq P L C Kq os (put ρ d (.pointer (some a)))) : vq P L C Kq (⟨d, .nilCheck x, T, pos, af, none⟩ :: os) ρ := q_val (fun _ _ => r_nc hx) h
theorem r_fa (E : Env P) {x : Operand} {t : TypeId} {f o : Nat} {e : TypeId} {a : Addr} (hf : E.fl t f = some (o, e)) (hx : ev ρ x = .pointer (some a)) :
    (execOp (ev ρ) ⟨d, .fieldAddr t x f, T, pos, af, none⟩).run P w = .ok (.value (.pointer (some (a.add o)))) w := by
  obtain ⟨fs, fd, hu, hk, ho, ht, i, hi, hz⟩ := E.h_fl _ _ _ _ hf
  subst ho; subst ht
  simp [execOp, hx, Instr.fieldAt, run_under hu, hk, Instr.sureAddr, fieldPlace, sizeOf, typeInfo, hi, hz]
theorem s_fa (E : Env P) {x : Operand} {t : TypeId} {f o : Nat} {e : TypeId} {a : Addr} (hf : E.fl t f = some (o, e)) (hx : ev ρ x = .pointer (some a)) (h : vcs P L K os (put ρ d (.pointer (some (a.add o)))) w) : vcs P L K (⟨d, .fieldAddr t x f, T, pos, af, none⟩ :: os) ρ w := s_val (r_fa E hf hx) h
theorem q_fa (E : Env P) {x : Operand} {t : TypeId} {f o : Nat} {e : TypeId} {a : Addr} (hf : E.fl t f = some (o, e)) (hx : ev ρ x = .pointer (some a)) (h : vq P L C Kq os (put ρ d (.pointer (some (a.add o))))) : vq P L C Kq (⟨d, .fieldAddr t x f, T, pos, af, none⟩ :: os) ρ := q_val (fun _ _ => r_fa E hf hx) h
theorem r_ia (E : Env P) {x y : Operand} {t : TypeId} {k : IntKind} {e : TypeId} {n i : Nat} {a : Addr} {len cap : Nat} {j : Int} (hs : E.sl t = some (e, n)) (hx : ev ρ x = .slice (some a) len cap) (hy : ev ρ y = .int k j) (hj : j = i) (hi : i < len) :
    (execOp (ev ρ) ⟨d, .indexAddr t x y, T, pos, af, none⟩).run P w = .ok (.value (.pointer (some (a.add (i * n))))) w := by
  subst hj
  obtain ⟨hu, inf, hin, hz⟩ := E.h_sl _ _ _ hs
  subst hz
  simp [execOp, hx, hy, Instr.indexAt, asIntOf, run_under hu, sizeOf, typeInfo, hin, hi]
theorem s_ia (E : Env P) {x y : Operand} {t : TypeId} {k : IntKind} {e : TypeId} {n i : Nat} {a : Addr} {len cap : Nat} {j : Int} (hs : E.sl t = some (e, n)) (hx : ev ρ x = .slice (some a) len cap) (hy : ev ρ y = .int k j) (hj : j = i) (hi : i < len) (h : vcs P L K os (put ρ d (.pointer (some (a.add (i * n))))) w) : vcs P L K (⟨d, .indexAddr t x y, T, pos, af, none⟩ :: os) ρ w := s_val (r_ia E hs hx hy hj hi) h
theorem q_ia (E : Env P) {x y : Operand} {t : TypeId} {k : IntKind} {e : TypeId} {n i : Nat} {a : Addr} {len cap : Nat} {j : Int} (hs : E.sl t = some (e, n)) (hx : ev ρ x = .slice (some a) len cap) (hy : ev ρ y = .int k j) (hj : j = i) (hi : i < len) (h : vq P L C Kq os (put ρ d (.pointer (some (a.add (i * n)))))) : vq P L C Kq (⟨d, .indexAddr t x y, T, pos, af, none⟩ :: os) ρ := q_val (fun _ _ => r_ia E hs hx hy hj hi) h
theorem r_iaA (E : Env P) {x y : Operand} {t : TypeId} {k : IntKind} {e : TypeId} {n i len : Nat} {a : Addr} {j : Int} (hs : E.ar t = some (len, e, n)) (hx : ev ρ x = .pointer (some a)) (hy : ev ρ y = .int k j) (hj : j = i) (hi : i < len) :
    (execOp (ev ρ) ⟨d, .indexAddr t x y, T, pos, af, none⟩).run P w = .ok (.value (.pointer (some (a.add (i * n))))) w := by
  subst hj
  obtain ⟨hu, inf, hin, hz⟩ := E.h_ar _ _ _ _ hs
  subst hz
  simp [execOp, hx, hy, Instr.indexAt, asIntOf, run_under hu, sizeOf, typeInfo, hin, hi, Instr.sureAddr]
theorem s_iaA (E : Env P) {x y : Operand} {t : TypeId} {k : IntKind} {e : TypeId} {n i len : Nat} {a : Addr} {j : Int} (hs : E.ar t = some (len, e, n)) (hx : ev ρ x = .pointer (some a)) (hy : ev ρ y = .int k j) (hj : j = i) (hi : i < len) (h : vcs P L K os (put ρ d (.pointer (some (a.add (i * n))))) w) : vcs P L K (⟨d, .indexAddr t x y, T, pos, af, none⟩ :: os) ρ w := s_val (r_iaA E hs hx hy hj hi) h
theorem q_iaA (E : Env P) {x y : Operand} {t : TypeId} {k : IntKind} {e : TypeId} {n i len : Nat} {a : Addr} {j : Int} (hs : E.ar t = some (len, e, n)) (hx : ev ρ x = .pointer (some a)) (hy : ev ρ y = .int k j) (hj : j = i) (hi : i < len) (h : vq P L C Kq os (put ρ d (.pointer (some (a.add (i * n)))))) : vq P L C Kq (⟨d, .indexAddr t x y, T, pos, af, none⟩ :: os) ρ := q_val (fun _ _ => r_iaA E hs hx hy hj hi) h
theorem r_len (E : Env P) {x : Operand} {t : TypeId} {e : TypeId} {n len cap : Nat} {a : Option Addr} (hs : E.sl t = some (e, n)) (hx : ev ρ x = .slice a len cap) :
    (execOp (ev ρ) ⟨d, .call { callee := .builtin .len, args := #[x], argTypes := #[t] }, T, pos, af, none⟩).run P w = .ok (.value (.int .i64 len)) w := by
  obtain ⟨hu, _⟩ := E.h_sl _ _ _ hs
  simp [execOp, resolve, invoke, builtin, hx, Builtin.len_, run_under hu, goInt]
theorem s_len (E : Env P) {x : Operand} {t : TypeId} {e : TypeId} {n len cap : Nat} {a : Option Addr} (hs : E.sl t = some (e, n)) (hx : ev ρ x = .slice a len cap) (h : vcs P L K os (put ρ d (.int .i64 len)) w) : vcs P L K (⟨d, .call { callee := .builtin .len, args := #[x], argTypes := #[t] }, T, pos, af, none⟩ :: os) ρ w := s_val (r_len E hs hx) h
theorem q_len (E : Env P) {x : Operand} {t : TypeId} {e : TypeId} {n len cap : Nat} {a : Option Addr} (hs : E.sl t = some (e, n)) (hx : ev ρ x = .slice a len cap) (h : vq P L C Kq os (put ρ d (.int .i64 len))) : vq P L C Kq (⟨d, .call { callee := .builtin .len, args := #[x], argTypes := #[t] }, T, pos, af, none⟩ :: os) ρ := q_val (fun _ _ => r_len E hs hx) h
theorem r_cap (E : Env P) {x : Operand} {t : TypeId} {e : TypeId} {n len cap : Nat} {a : Option Addr} (hs : E.sl t = some (e, n)) (hx : ev ρ x = .slice a len cap) :
    (execOp (ev ρ) ⟨d, .call { callee := .builtin .cap, args := #[x], argTypes := #[t] }, T, pos, af, none⟩).run P w = .ok (.value (.int .i64 cap)) w := by
  obtain ⟨hu, _⟩ := E.h_sl _ _ _ hs
  simp [execOp, resolve, invoke, builtin, hx, Builtin.cap_, run_under hu, goInt]
theorem s_cap (E : Env P) {x : Operand} {t : TypeId} {e : TypeId} {n len cap : Nat} {a : Option Addr} (hs : E.sl t = some (e, n)) (hx : ev ρ x = .slice a len cap) (h : vcs P L K os (put ρ d (.int .i64 cap)) w) : vcs P L K (⟨d, .call { callee := .builtin .cap, args := #[x], argTypes := #[t] }, T, pos, af, none⟩ :: os) ρ w := s_val (r_cap E hs hx) h
theorem q_cap (E : Env P) {x : Operand} {t : TypeId} {e : TypeId} {n len cap : Nat} {a : Option Addr} (hs : E.sl t = some (e, n)) (hx : ev ρ x = .slice a len cap) (h : vq P L C Kq os (put ρ d (.int .i64 cap))) : vq P L C Kq (⟨d, .call { callee := .builtin .cap, args := #[x], argTypes := #[t] }, T, pos, af, none⟩ :: os) ρ := q_val (fun _ _ => r_cap E hs hx) h
theorem r_mf {fn : Fn} {xs ys : Array Operand} {vs us : List Value} (hv : xs.toList.map (ev ρ) = vs) (hu : ys.toList.map (ev ρ) = us) :
    (execOp (ev ρ) ⟨d, .makeFunc fn xs ys, T, pos, af, none⟩).run P w = .ok (.value (.func fn vs.toArray us.toArray)) w := by
  have h1 : vs.toArray = xs.map (ev ρ) := by rw [← hv, ← Array.toList_map, Array.toArray_toList]
  have h2 : us.toArray = ys.map (ev ρ) := by rw [← hu, ← Array.toList_map, Array.toArray_toList]
  simp [execOp, Instr.makeFunc, h1, h2]
theorem s_mf {fn : Fn} {xs ys : Array Operand} {vs us : List Value} (hv : xs.toList.map (ev ρ) = vs) (hu : ys.toList.map (ev ρ) = us) (h : vcs P L K os (put ρ d (.func fn vs.toArray us.toArray)) w) : vcs P L K (⟨d, .makeFunc fn xs ys, T, pos, af, none⟩ :: os) ρ w := s_val (r_mf hv hu) h
theorem q_mf {fn : Fn} {xs ys : Array Operand} {vs us : List Value} (hv : xs.toList.map (ev ρ) = vs) (hu : ys.toList.map (ev ρ) = us) (h : vq P L C Kq os (put ρ d (.func fn vs.toArray us.toArray))) : vq P L C Kq (⟨d, .makeFunc fn xs ys, T, pos, af, none⟩ :: os) ρ := q_val (fun _ _ => r_mf hv hu) h
theorem r_bld {t : TypeId} {ps : Array (Nat × Operand)} {qs : List (Nat × Value)} {cells : Array Value} (hq : ps.toList.map (fun p => (p.1, ev ρ p.2)) = qs) (hb : P.built t qs = some cells) :
    (execOp (ev ρ) ⟨d, .build t ps, T, pos, af, none⟩).run P w = .ok (.value (.agg cells)) w := by
  have h1 : (ps.map fun (i, x) => (i, ev ρ x)).toList = qs := by rw [← hq]; simp
  have h2 := run_build (P := P) w t (ps.map fun (i, x) => (i, ev ρ x)) cells (by rw [h1]; exact hb)
  simp only [execOp, Sem.run_bind, h2, Result.andThen_ok, Sem.run_pure]
theorem s_bld {t : TypeId} {ps : Array (Nat × Operand)} {qs : List (Nat × Value)} {cells : Array Value} (hq : ps.toList.map (fun p => (p.1, ev ρ p.2)) = qs) (hb : P.built t qs = some cells) (h : vcs P L K os (put ρ d (.agg cells)) w) : vcs P L K (⟨d, .build t ps, T, pos, af, none⟩ :: os) ρ w := s_val (r_bld hq hb) h
theorem q_bld {t : TypeId} {ps : Array (Nat × Operand)} {qs : List (Nat × Value)} {cells : Array Value} (hq : ps.toList.map (fun p => (p.1, ev ρ p.2)) = qs) (hb : P.built t qs = some cells) (h : vq P L C Kq os (put ρ d (.agg cells))) : vq P L C Kq (⟨d, .build t ps, T, pos, af, none⟩ :: os) ρ := q_val (fun _ _ => r_bld hq hb) h
theorem r_ex {x : Operand} {vs : Array Value} {i : Nat} {v : Value} (hx : ev ρ x = .tuple vs) (hi : vs[i]? = some v) :
    (execOp (ev ρ) ⟨d, .extract x i, T, pos, af, none⟩).run P w = .ok (.value v) w := by simp [execOp, hx, Instr.extract, hi]
theorem s_ex {x : Operand} {vs : Array Value} {i : Nat} {v : Value} (hx : ev ρ x = .tuple vs) (hi : vs[i]? = some v) (h : vcs P L K os (put ρ d v) w) : vcs P L K (⟨d, .extract x i, T, pos, af, none⟩ :: os) ρ w := s_val (r_ex hx hi) h
theorem q_ex {x : Operand} {vs : Array Value} {i : Nat} {v : Value} (hx : ev ρ x = .tuple vs) (hi : vs[i]? = some v) (h : vq P L C Kq os (put ρ d v)) : vq P L C Kq (⟨d, .extract x i, T, pos, af, none⟩ :: os) ρ := q_val (fun _ _ => r_ex hx hi) h
theorem r_max {x y : Operand} {ts : Array TypeId} {k k' : IntKind} {a b : Int} (hx : ev ρ x = .int k a) (hy : ev ρ y = .int k' b) :
    (execOp (ev ρ) ⟨d, .call { callee := .builtin .max, args := #[x, y], argTypes := ts }, T, pos, af, none⟩).run P w = .ok (.value (.int k (if b > a then b else a))) w := by simp [execOp, resolve, invoke, builtin, hx, hy, run_max_int2]
theorem s_max {x y : Operand} {ts : Array TypeId} {k k' : IntKind} {a b : Int} (hx : ev ρ x = .int k a) (hy : ev ρ y = .int k' b) (h : vcs P L K os (put ρ d (.int k (if b > a then b else a))) w) : vcs P L K (⟨d, .call { callee := .builtin .max, args := #[x, y], argTypes := ts }, T, pos, af, none⟩ :: os) ρ w := s_val (r_max hx hy) h
theorem q_max {x y : Operand} {ts : Array TypeId} {k k' : IntKind} {a b : Int} (hx : ev ρ x = .int k a) (hy : ev ρ y = .int k' b) (h : vq P L C Kq os (put ρ d (.int k (if b > a then b else a)))) : vq P L C Kq (⟨d, .call { callee := .builtin .max, args := #[x, y], argTypes := ts }, T, pos, af, none⟩ :: os) ρ := q_val (fun _ _ => r_max hx hy) h
theorem r_min {x y : Operand} {ts : Array TypeId} {k k' : IntKind} {a b : Int} (hx : ev ρ x = .int k a) (hy : ev ρ y = .int k' b) :
    (execOp (ev ρ) ⟨d, .call { callee := .builtin .min, args := #[x, y], argTypes := ts }, T, pos, af, none⟩).run P w = .ok (.value (.int k (if b < a then b else a))) w := by simp [execOp, resolve, invoke, builtin, hx, hy, run_min_int2]
theorem s_min {x y : Operand} {ts : Array TypeId} {k k' : IntKind} {a b : Int} (hx : ev ρ x = .int k a) (hy : ev ρ y = .int k' b) (h : vcs P L K os (put ρ d (.int k (if b < a then b else a))) w) : vcs P L K (⟨d, .call { callee := .builtin .min, args := #[x, y], argTypes := ts }, T, pos, af, none⟩ :: os) ρ w := s_val (r_min hx hy) h
theorem q_min {x y : Operand} {ts : Array TypeId} {k k' : IntKind} {a b : Int} (hx : ev ρ x = .int k a) (hy : ev ρ y = .int k' b) (h : vq P L C Kq os (put ρ d (.int k (if b < a then b else a)))) : vq P L C Kq (⟨d, .call { callee := .builtin .min, args := #[x, y], argTypes := ts }, T, pos, af, none⟩ :: os) ρ := q_val (fun _ _ => r_min hx hy) h
theorem r_eqb {x y : Operand} {t yt : TypeId} {a b : Bool} (ht : P.underlying t = some .bool) (hx : ev ρ x = .bool a) (hy : ev ρ y = .bool b) :
    (execOp (ev ρ) ⟨d, .binOp .eql t x y yt, T, pos, af, none⟩).run P w = .ok (.value (.bool (a == b))) w := by simp [execOp, eqGuard, hx, hy, run_eql_bool w t a b ht]
theorem s_eqb {x y : Operand} {t yt : TypeId} {a b : Bool} (ht : P.underlying t = some .bool) (hx : ev ρ x = .bool a) (hy : ev ρ y = .bool b) (h : vcs P L K os (put ρ d (.bool (a == b))) w) : vcs P L K (⟨d, .binOp .eql t x y yt, T, pos, af, none⟩ :: os) ρ w := s_val (r_eqb ht hx hy) h
theorem q_eqb {x y : Operand} {t yt : TypeId} {a b : Bool} (ht : P.underlying t = some .bool) (hx : ev ρ x = .bool a) (hy : ev ρ y = .bool b) (h : vq P L C Kq os (put ρ d (.bool (a == b)))) : vq P L C Kq (⟨d, .binOp .eql t x y yt, T, pos, af, none⟩ :: os) ρ := q_val (fun _ _ => r_eqb ht hx hy) h
theorem r_eqs {x y : Operand} {t yt : TypeId} {a b : ByteArray} (hx : ev ρ x = .string a) (hy : ev ρ y = .string b) :
    (execOp (ev ρ) ⟨d, .binOp .eql t x y yt, T, pos, af, none⟩).run P w = .ok (.value (.bool (a.toList == b.toList))) w := by simp [execOp, eqGuard, hx, hy, binOp, Op.stringOp]
theorem s_eqs {x y : Operand} {t yt : TypeId} {a b : ByteArray} (hx : ev ρ x = .string a) (hy : ev ρ y = .string b) (h : vcs P L K os (put ρ d (.bool (a.toList == b.toList))) w) : vcs P L K (⟨d, .binOp .eql t x y yt, T, pos, af, none⟩ :: os) ρ w := s_val (r_eqs hx hy) h
theorem q_eqs {x y : Operand} {t yt : TypeId} {a b : ByteArray} (hx : ev ρ x = .string a) (hy : ev ρ y = .string b) (h : vq P L C Kq os (put ρ d (.bool (a.toList == b.toList)))) : vq P L C Kq (⟨d, .binOp .eql t x y yt, T, pos, af, none⟩ :: os) ρ := q_val (fun _ _ => r_eqs hx hy) h
theorem r_nes {x y : Operand} {t yt : TypeId} {a b : ByteArray} (hx : ev ρ x = .string a) (hy : ev ρ y = .string b) :
    (execOp (ev ρ) ⟨d, .binOp .neq t x y yt, T, pos, af, none⟩).run P w = .ok (.value (.bool (!(a.toList == b.toList)))) w := by simp [execOp, eqGuard, hx, hy, binOp, Op.stringOp]
theorem s_nes {x y : Operand} {t yt : TypeId} {a b : ByteArray} (hx : ev ρ x = .string a) (hy : ev ρ y = .string b) (h : vcs P L K os (put ρ d (.bool (!(a.toList == b.toList)))) w) : vcs P L K (⟨d, .binOp .neq t x y yt, T, pos, af, none⟩ :: os) ρ w := s_val (r_nes hx hy) h
theorem q_nes {x y : Operand} {t yt : TypeId} {a b : ByteArray} (hx : ev ρ x = .string a) (hy : ev ρ y = .string b) (h : vq P L C Kq os (put ρ d (.bool (!(a.toList == b.toList))))) : vq P L C Kq (⟨d, .binOp .neq t x y yt, T, pos, af, none⟩ :: os) ρ := q_val (fun _ _ => r_nes hx hy) h
end
section
variable {P : Program} {L os : List Oper} {K : Fr → World → Prop} {Kq : Fr → Prop} {C : World → Prop} {ρ : Fr} {w : World} {d : Option Tmp} {T : TypeId} {pos : String} {af : Array Edge}
section
variable {x y : Operand} {t : TypeId} {k : IntKind}
/-! ### memory -/
/-- the cells from 'a' on hold these values -/
def Row (w : World) (a : Addr) (xs : List Value) : Prop := ∀ i x, xs[i]? = some x → w.cell? (a.add i) = some x
theorem Row.get {w a xs} (h : Row w a xs) (i : Nat) {x : Value} (hx : xs[i]? = some x) : w.cell? (a.add i) = some x := h i x hx
theorem add_zero (a : Addr) : a.add 0 = a := by simp [Addr.add]
theorem add_add (a : Addr) (i j : Nat) : (a.add i).add j = a.add (i + j) := by
  unfold Addr.add
  by_cases hi : i = 0 <;> by_cases hj : j = 0 <;> simp [hi, hj]
  omega
theorem r_ld (E : Env P) {a : Addr} {v : Value} (hl : E.ld t = some none) (hx : ev ρ x = .pointer (some a)) (hc : w.cell? a = some v) :
    (execOp (ev ρ) ⟨d, .load t x, T, pos, af, none⟩).run P w = .ok (.value v) w := by
  obtain ⟨dd, hu, hm, i, hi, hz⟩ := E.h_ld _ _ hl
  have hag : (isAgg t).run P w = .ok false w := by
    unfold isAgg; simp only [Sem.run_bind, run_under hu, Result.andThen_ok]; cases dd <;> simp_all
  simp [execOp, hx, Instr.loadAt, Instr.sureAddr, loadVar, hag, hc]
theorem r_lda (E : Env P) {a : Addr} {n : Nat} {xs : List Value} (hl : E.ld t = some (some n)) (hx : ev ρ x = .pointer (some a)) (hc : Row w a xs) (hn : xs.length = n) :
    (execOp (ev ρ) ⟨d, .load t x, T, pos, af, none⟩).run P w = .ok (.value (.agg xs.toArray)) w := by
  obtain ⟨dd, hu, hm, i, hi, hz⟩ := E.h_ld _ _ hl
  have hag : (isAgg t).run P w = .ok true w := by
    unfold isAgg; simp only [Sem.run_bind, run_under hu, Result.andThen_ok]; cases dd <;> simp_all
  have hrl := run_loadCells_list (P := P) (w := w) a xs (fun j v hj => hc j v hj)
  rw [hn] at hrl
  simp [execOp, hx, Instr.loadAt, Instr.sureAddr, loadVar, hag, sizeOf, typeInfo, hi, hz, hrl]
theorem s_ld (E : Env P) {a : Addr} {v : Value} (hl : E.ld t = some none) (hx : ev ρ x = .pointer (some a)) (hc : w.cell? a = some v) (h : vcs P L K os (put ρ d v) w) :
    vcs P L K (⟨d, .load t x, T, pos, af, none⟩ :: os) ρ w := s_val (r_ld E hl hx hc) h
theorem s_lda (E : Env P) {a : Addr} {n : Nat} {xs : List Value} (hl : E.ld t = some (some n)) (hx : ev ρ x = .pointer (some a)) (hc : Row w a xs) (hn : xs.length = n)
    (h : vcs P L K os (put ρ d (.agg xs.toArray)) w) : vcs P L K (⟨d, .load t x, T, pos, af, none⟩ :: os) ρ w := s_val (r_lda E hl hx hc hn) h
theorem q_ld (E : Env P) {a : Addr} {v : Value} (hl : E.ld t = some none) (hx : ev ρ x = .pointer (some a)) (hc : ∀ w, C w → w.cell? a = some v) (h : vq P L C Kq os (put ρ d v)) :
    vq P L C Kq (⟨d, .load t x, T, pos, af, none⟩ :: os) ρ := q_val (fun w hw => r_ld E hl hx (hc w hw)) h
theorem q_lda (E : Env P) {a : Addr} {n : Nat} {xs : List Value} (hl : E.ld t = some (some n)) (hx : ev ρ x = .pointer (some a)) (hc : ∀ w, C w → Row w a xs) (hn : xs.length = n)
    (h : vq P L C Kq os (put ρ d (.agg xs.toArray))) : vq P L C Kq (⟨d, .load t x, T, pos, af, none⟩ :: os) ρ := q_val (fun w hw => r_lda E hl hx (hc w hw) hn) h
theorem s_bx {e : TypeId} {v : Value} (hx : ev ρ x = v) (h : vcs P L K os (put ρ d (.pointer (some ⟨w.heap.size, 0, none⟩))) (w.alloc (.cells v.cells e))) :
    vcs P L K (⟨d, .box e x, T, pos, af, none⟩ :: os) ρ w := by
  refine s_val ?_ h
  simp [execOp, hx, Instr.box, newVar, newRow]
theorem ad0 (g k : Nat) : (Addr.add ⟨g, 0, none⟩ k) = ⟨g, k, none⟩ := by unfold Addr.add; split <;> simp_all
theorem s_bs (E : Env P) {e : TypeId} {n len : Nat} {z : Value} {ps : Array (Nat × Operand)} {qs : List (Nat × Value)} {cells : Array Value} (hs : E.sl t = some (e, n)) (hz : E.zr e = some z) (hle : Nat.ble (len * n) 16777216 = true) (hne : Nat.blt 0 (len * n) = true)
    (hq : ps.toList.map (fun p => (p.1, ev ρ p.2)) = qs) (hf : Instr.fill (fun i => some (i * n, n)) ((Array.range (len * n)).map (z.cells[· % z.cells.size]!)) qs = some cells)
    (h : vcs P L K os (put ρ d (.slice (some ⟨w.heap.size, 0, none⟩) len len)) (w.alloc (.cells cells e))) :
    vcs P L K (⟨d, .buildSlice t len ps, T, pos, af, none⟩ :: os) ρ w := by
  refine s_val ?_ h
  obtain ⟨hu, i, hi, hn⟩ := E.h_sl _ _ _ hs
  obtain ⟨i', hi', hv⟩ := E.h_zr _ _ hz
  rw [hi] at hi'; cases hi'
  subst hn
  have h1 : (ps.map fun (i, x) => (i, ev ρ x)).toList = qs := by rw [← hq]; simp
  have hle' : ¬ len * i.size > 2 ^ 24 := by have := Nat.le_of_ble_eq_true hle; omega
  have h0 : ¬ len * i.size = 0 := by have h0' : Nat.blt 0 (len * i.size) = true := hne; rw [Nat.blt_eq] at h0'; omega
  simp only [execOp, Instr.buildSlice, Sem.run_bind, run_under hu, Result.andThen_ok, sizeOf, typeInfo, run_program, hi, Sem.run_pure, hle', if_false, h0, zeroValue, hv, h1, hf]
  simp [newRow]
theorem s_bs0 (E : Env P) {e : TypeId} {n : Nat} (hs : E.sl t = some (e, n))
    (h : vcs P L K os (put ρ d (.slice (some ⟨w.heap.size, 0, none⟩) 0 0)) (w.alloc (.cells #[] e))) :
    vcs P L K (⟨d, .buildSlice t 0 #[], T, pos, af, none⟩ :: os) ρ w := by
  refine s_val ?_ h
  obtain ⟨hu, i, hi, hn⟩ := E.h_sl _ _ _ hs
  have he : (Array.map (fun _ => (default : Value)) (Array.range 0)) = #[] := by simp
  simp [execOp, Instr.buildSlice, run_under hu, sizeOf, typeInfo, hi, Instr.fill, newRow, he]
/-- a store into an own block -/
def splice (cs : Array Value) (o : Nat) (vs : List Value) : Array Value := (cs.toList.take o ++ vs ++ cs.toList.drop (o + vs.length)).toArray
theorem s_st (E : Env P) {m : Option Nat} {p : Addr} {g o : Nat} {cs : Array Value} {ty : TypeId} {v : Value} {vs : List Value} (hl : E.ld t = some m) (hx : ev ρ x = .pointer (some p)) (hp : p = ⟨g, o, none⟩)
    (hy : ev ρ y = v) (hb : w.heap[g]? = some (.cells cs ty (0, 0))) (hvs : v.cells.toList = vs) (hm : m.getD 1 = vs.length) (h1 : vs.all (·.oneCell') = true) (hsz : o + vs.length ≤ cs.size)
    (h : vcs P L K os (put ρ d undef) (w.setRow g (splice cs o vs))) :
    vcs P L K (⟨d, .store t x y, T, pos, af, none⟩ :: os) ρ w := by
  refine s_skp ?_ h
  subst hp
  have hsize : ∃ i, P.info? t = some i ∧ i.size = vs.length := by
    have := E.h_ld _ _ hl
    cases m with
    | none => obtain ⟨_, _, _, i, hi, hz⟩ := this; exact ⟨i, hi, by simp at hm; omega⟩
    | some n => obtain ⟨_, _, _, i, hi, hz⟩ := this; exact ⟨i, hi, by simp at hm; omega⟩
  obtain ⟨i, hi, hz⟩ := hsize
  have hst := run_storeCells_at P g o ty vs 0 cs w hb (by simpa using hsz) (by simpa using h1)
  have hcs : v.cells.size = i.size := by rw [hz, ← hvs]; simp
  simp only [Nat.add_zero] at hst
  simp [execOp, hx, hy, Instr.storeAt, Instr.sureAddr, storeVar, sizeOf, typeInfo, hi, hcs, hvs, hst, splice]
theorem s_al (E : Env P) {e : TypeId} {v : Value} (hz : E.zr e = some v) (h : vcs P L K os (put ρ d (.pointer (some ⟨w.heap.size, 0, none⟩))) (w.alloc (.cells v.cells e))) :
    vcs P L K (⟨d, .alloc e, T, pos, af, none⟩ :: os) ρ w := by
  refine s_val ?_ h
  obtain ⟨i, hi, hv⟩ := E.h_zr _ _ hz
  simp [execOp, Instr.alloc, zeroValue, typeInfo, hi, hv, newVar, newRow]
end

/-! ### calls -/
theorem s_call {f : Operand} {xs : Array Operand} {ts : Array TypeId} {g : FuncId} {vs cs : Array Value} {args : List Value} {R : Value → World → Prop}
    (hf : ev ρ f = .func (.func g) vs cs) (ha : vs.toList ++ (xs.toList.map (ev ρ) ++ cs.toList) = args) (hR : Ret P g args.toArray w R)
    (h : ∀ v w', R v w' → vcs P L K os (put ρ d v) w') : vcs P L K (⟨d, .call { callee := .value f, args := xs, argTypes := ts }, T, pos, af, none⟩ :: os) ρ w := by
  refine s_one ?_
  obtain ⟨⟨fn, hfn, hm, hb⟩, hR⟩ := hR
  have hr : (execOp (ev ρ) ⟨d, .call { callee := .value f, args := xs, argTypes := ts }, T, pos, af, none⟩).run P w = .ok (.enter g args.toArray) w := by
    have ha' : args.toArray = vs ++ (xs.map (ev ρ) ++ cs) := by rw [← ha]; simp
    rw [ha']
    have hm' : fn.name ≠ "runtime.NumGoroutine" := by simpa using hm
    have hb' : fn.body ≠ none := by intro h0; rw [h0] at hb; cases hb
    simp [execOp, resolve, hf, Deferred.ofValue, invoke, callFunc, hfn, hm', hb']
  unfold vop
  rw [hr]
  exact Calls.mono hR fun e w' ⟨v, he, hv⟩ => ⟨v, he, h v w' hv⟩
theorem q_call {f : Operand} {xs : Array Operand} {ts : Array TypeId} {g : FuncId} {vs cs : Array Value} {args : List Value} {v : Value}
    (hf : ev ρ f = .func (.func g) vs cs) (ha : vs.toList ++ (xs.toList.map (ev ρ) ++ cs.toList) = args) (hE : Ent P g) (hR : ∀ w, C w → Ret P g args.toArray w fun v' w' => v' = v ∧ C w')
    (h : vq P L C Kq os (put ρ d v)) : vq P L C Kq (⟨d, .call { callee := .value f, args := xs, argTypes := ts }, T, pos, af, none⟩ :: os) ρ := by
  simp only [vq, wantF, if_true]
  refine ⟨v, fun w hw => ?_, h⟩
  obtain ⟨fn, hfn, hm, hb⟩ := hE
  have hr : (execOp (ev ρ) ⟨d, .call { callee := .value f, args := xs, argTypes := ts }, T, pos, af, none⟩).run P w = .ok (.enter g args.toArray) w := by
    have ha' : args.toArray = vs ++ (xs.map (ev ρ) ++ cs) := by rw [← ha]; simp
    rw [ha']
    have hm' : fn.name ≠ "runtime.NumGoroutine" := by simpa using hm
    have hb' : fn.body ≠ none := by intro h0; rw [h0] at hb; cases hb
    simp [execOp, resolve, hf, Deferred.ofValue, invoke, callFunc, hfn, hm', hb']
  rw [hr]
  refine ⟨rfl, Calls.mono (hR w hw).2 fun e w' ⟨v', he, hv, hC⟩ => ⟨by rw [he, hv], hC⟩⟩
end
end Go.Fx
namespace Go.Fx
open Go.RowKit

/-! ## worlds: what may have changed -/
/-- blocks in M may have changed, and new ones may have come; all else is as it was -/
structure Mod (M : Nat → Prop) (w w' : World) : Prop where
  os : w'.os = w.os
  tape : w'.tape = w.tape
  output : w'.output = w.output
  size : w.heap.size ≤ w'.heap.size
  block : ∀ k, k < w.heap.size → ¬ M k → w'.heap[k]? = w.heap[k]?
/-- only new blocks have come -/
abbrev Ext (w w' : World) : Prop := Mod (fun _ => False) w w'
section
variable {M N : Nat → Prop} {a b c w w' : World}
theorem Mod.refl : Mod M w w := ⟨rfl, rfl, rfl, Nat.le_refl _, fun _ _ _ => rfl⟩
theorem Mod.trans (h : Mod M a b) (k : Mod M b c) : Mod M a c :=
  ⟨k.os.trans h.os, k.tape.trans h.tape, k.output.trans h.output, Nat.le_trans h.size k.size, fun i hi hm => (k.block i (Nat.lt_of_lt_of_le hi h.size) hm).trans (h.block i hi hm)⟩
theorem Mod.mono (h : Mod M a b) (hN : ∀ k, k < a.heap.size → M k → N k) : Mod N a b := ⟨h.os, h.tape, h.output, h.size, fun k hk hn => h.block k hk (fun hm => hn (hN k hk hm))⟩
theorem Mod.of_ext (h : Ext a b) : Mod M a b := h.mono (fun _ _ h => h.elim)
theorem Mod.ext (h : Mod M a b) (hM : ∀ k, k < a.heap.size → ¬ M k) : Ext a b := h.mono (fun k hk hm => hM k hk hm)
theorem Ext.thenMod {M : Nat → Prop} {a b c : World} (h : Ext a b) (m : Mod M b c) (hM : ∀ k, k < a.heap.size → ¬ M k) : Ext a c := ((Mod.of_ext h).trans m).ext hM
theorem Mod.drew (h : Mod M a w) : Mod M a { w with drawn := w.drawn + 1 } := ⟨h.os, h.tape, h.output, h.size, h.block⟩
theorem Ext.drew0 : Ext w { w with drawn := w.drawn + 1 } := ⟨rfl, rfl, rfl, Nat.le_refl _, fun _ _ _ => rfl⟩
theorem Mod.alloc (h : Mod M a w) (o : Obj) : Mod M a (w.alloc o) :=
  h.trans ⟨rfl, rfl, rfl, by simp, fun k hk _ => Below.heap_alloc _ _ _ hk⟩
theorem Ext.alloc0 (o : Obj) : Ext w (w.alloc o) := Mod.alloc Mod.refl o
theorem Mod.setCell (h : Mod M a w) {p : Addr} (hp : p.block < a.heap.size → M p.block) (u : Value) : Mod M a (w.setCell p u) :=
  ⟨h.os, h.tape, h.output, by have := h.size; simp [World.setCell]; exact this, fun k hk hm => by
    rw [Below.heap_setCell _ _ _ _ (by intro e; subst e; exact hm (hp hk))]; exact h.block k hk hm⟩
theorem Mod.grown {row : Option Nat} (h : w.grownBy w' row) (hr : ∀ k, row = some k → M k) : Mod M w w' :=
  ⟨h.os, h.tape, h.output, h.size, fun k hk hm => h.block k hk (fun e => hm (hr k e.symm))⟩
theorem Mod.below (h : Ext w w') : Below w.heap.size w w' := ⟨h.os, h.tape, h.output, h.size, fun k hk => h.block k hk (fun h => h)⟩
theorem Ext.heap (h : Ext w w') {k : Nat} {o : Obj} (hk : w.heap[k]? = some o) : w'.heap[k]? = some o := by
  rw [h.block k (Array.getElem?_eq_some_iff.1 hk).1 (fun h => h)]; exact hk
theorem Mod.heap (h : Mod M w w') {k : Nat} {o : Obj} (hk : w.heap[k]? = some o) (hm : ¬ M k) : w'.heap[k]? = some o := by
  rw [h.block k (Array.getElem?_eq_some_iff.1 hk).1 hm]; exact hk
theorem Mod.cell (h : Mod M w w') {p : Addr} {v : Value} (hp : w.cell? p = some v) (hm : ¬ M p.block) : w'.cell? p = some v := by
  rw [World.cell?_of_block (h.block p.block (World.block_lt_of_cell? w p hp) hm)]; exact hp
theorem Ext.cell (h : Ext w w') {p : Addr} {v : Value} (hp : w.cell? p = some v) : w'.cell? p = some v := Mod.cell h hp (fun h => h)
theorem add_block (p : Addr) (i : Nat) : (p.add i).block = p.block := by unfold Addr.add; split <;> rfl
theorem Mod.row (h : Mod M w w') {p : Addr} {xs : List Value} (hp : Row w p xs) (hm : ¬ M p.block) : Row w' p xs :=
  fun i x hx => h.cell (hp i x hx) (by rw [add_block]; exact hm)
theorem Ext.row (h : Ext w w') {p : Addr} {xs : List Value} (hp : Row w p xs) : Row w' p xs := Mod.row h hp (fun h => h)
theorem Mod.owns (h : Mod M w w') {base : Nat} {e : TypeId} {size : Nat} {v : Value} {n : Nat} {xs : List Value} (ho : w.ownsRow base e size v n xs) (hm : ∀ k, v.ownBlock = some k → ¬ M k) : w'.ownsRow base e size v n xs := by
  refine ⟨ho.1, ?_⟩
  rcases ho.2 with hn | ⟨g, cap, cur, rfl, hb, hgg, rest⟩
  · exact .inl hn
  · exact .inr ⟨g, cap, cur, rfl, hb, h.heap hgg (hm g rfl), rest⟩
theorem Ext.owns (h : Ext w w') {base : Nat} {e : TypeId} {size : Nat} {v : Value} {n : Nat} {xs : List Value} (ho : w.ownsRow base e size v n xs) : w'.ownsRow base e size v n xs := Mod.owns h ho (fun _ _ h => h)
end

/-! ## rows of cells -/
theorem Row.nil (w : World) (p : Addr) : Row w p [] := fun i x hx => by simp at hx
theorem Row.mono {w p xs} (h : Row w p xs) {ys : List Value} {k : Nat} (hy : ∀ i x, ys[i]? = some x → xs[k + i]? = some x) : Row w (p.add k) ys := fun i x hx => by
  rw [add_add]; exact h _ _ (hy i x hx)
theorem flat_get {α : Type} (f : α → List Value) (n : Nat) (hf : ∀ x, (f x).length = n) : ∀ (l : List α) (i : Nat) (hi : i < l.length) (j : Nat) (v : Value), (f l[i])[j]? = some v → (l.flatMap f)[i * n + j]? = some v
  | [], _, hi, _, _, _ => absurd hi (by simp)
  | x :: l, 0, _, j, v, h => by
    simp only [List.flatMap_cons, Nat.zero_mul, Nat.zero_add]
    simp at h
    rw [List.getElem?_append_left (List.getElem?_eq_some_iff.1 h).1]; exact h
  | x :: l, i + 1, hi, j, v, h => by
    simp only [List.flatMap_cons]
    rw [List.getElem?_append_right (by rw [hf, Nat.add_mul]; omega), hf, show (i + 1) * n + j - n = i * n + j by rw [Nat.add_mul]; omega]
    exact flat_get f n hf l i (by simpa using hi) j v (by simpa using h)
theorem flat_length {α : Type} (f : α → List Value) (n : Nat) (hf : ∀ x, (f x).length = n) (l : List α) : (l.flatMap f).length = l.length * n := by
  induction l with
  | nil => simp
  | cons x l ih => simp [ih, hf, Nat.add_mul, Nat.add_comm]
theorem Row.at {α : Type} {f : α → List Value} {n : Nat} {w p} {l : List α} (h : Row w p (l.flatMap f)) (hf : ∀ x, (f x).length = n) {i : Nat} (hi : i < l.length) : Row w (p.add (i * n)) (f l[i]) :=
  h.mono fun j v hv => flat_get f n hf l i hi j v hv
theorem Row.get0 {w p x xs} (h : Row w p (x :: xs)) : w.cell? p = some x := by have := h 0 x rfl; rwa [add_zero] at this

/-- a slice's cells -/
def SlR (w : World) (p : Option Addr) (xs : List Value) : Prop := match p with
  | none => xs = []
  | some a => Row w a xs
theorem SlR.some {w p xs} (h : SlR w p xs) (hx : xs ≠ []) : ∃ a, p = some a ∧ Row w a xs := by
  cases p with
  | none => exact absurd h hx
  | some a => exact ⟨a, rfl, h⟩
theorem Ext.sl {w w' p xs} (h : Ext w w') (hp : SlR w p xs) : SlR w' p xs := by
  cases p with
  | none => exact hp
  | some a => exact Ext.row h hp

theorem row_heap {w : World} {g : Nat} {cs : Array Value} {T : TypeId} {f : Nat × Nat} (h : w.heap[g]? = some (.cells cs T f)) : Row w ⟨g, 0, none⟩ cs.toList := fun i x hx => by
  rw [ad0]; unfold World.cell?; simp only [h]; simpa using hx
theorem al_heap {w : World} {o : Obj} : (w.alloc o).heap[w.heap.size]? = some o := by show (w.heap.push o)[w.heap.size]? = some o; simp
/-! ## boxes -/
theorem bc0 {w : World} {c : Array Value} {e : TypeId} {j : Nat} {x : Value} (h : c[j]? = some x) : (w.alloc (.cells c e)).cell? (Addr.add ⟨w.heap.size, 0, none⟩ j) = some x := by
  have h1 : (w.alloc (.cells c e)).heap[w.heap.size]? = some (.cells c e) := by show (w.heap.push _)[w.heap.size]? = _; simp
  have h2 : (Addr.add ⟨w.heap.size, 0, none⟩ j) = ⟨w.heap.size, j, none⟩ := by unfold Addr.add; split <;> simp_all
  rw [h2]; unfold World.cell?; simp only [h1]; simpa using h
theorem bcr {w : World} {c : Array Value} {e : TypeId} : Row (w.alloc (.cells c e)) ⟨w.heap.size, 0, none⟩ c.toList := fun i x h => bc0 (by simpa using h)
theorem bc1 {w : World} {c c' : Array Value} {e e' : TypeId} {j : Nat} {x : Value} (h : c[j]? = some x) : ((w.alloc (.cells c e)).alloc (.cells c' e')).cell? (Addr.add ⟨w.heap.size, 0, none⟩ j) = some x :=
  Ext.cell (Ext.alloc0 _) (bc0 h)
theorem e1 {w : World} {o : Obj} : Ext w (w.alloc o) := Ext.alloc0 _
theorem e2 {w : World} {o o' : Obj} : Ext w ((w.alloc o).alloc o') := Mod.alloc (Ext.alloc0 _) _

theorem vop_mono {P : Program} {o : Oper} {K K' : Fr → World → Prop} {ρ : Fr} {w : World} (hK : ∀ ρ w, K ρ w → K' ρ w) (h : vop P o K ρ w) : vop P o K' ρ w := by
  unfold vop at *
  split at h
  · exact hK _ _ h
  · exact hK _ _ h
  · exact Calls.mono h fun _ _ ⟨v, he, hk⟩ => ⟨v, he, hK _ _ hk⟩
  · exact h.elim
theorem vcs_mono {P : Program} {L : List Oper} {K K' : Fr → World → Prop} (hK : ∀ ρ w, K ρ w → K' ρ w) : ∀ {l : List Oper} {ρ : Fr} {w : World}, vcs P L K l ρ w → vcs P L K' l ρ w
  | [], _, _, h => hK _ _ h
  | o :: os, ρ, w, h => by
    simp only [vcs] at h ⊢
    split
    · rename_i hg; rw [if_pos hg] at h; exact vop_mono (fun _ _ h => vcs_mono hK h) h
    · rename_i hg; rw [if_neg hg] at h; exact vcs_mono hK h
/-! ## calls in a chain of steps -/
theorem Ret.eqv {P f args w} {b c : Value} {R : World → Prop} (h : Ret P f args w fun v w' => v = b ∧ R w') (e : b = c) : Ret P f args w fun v w' => v = c ∧ R w' := e ▸ h
section
variable {P : Program} {L os : List Oper} {K : Fr → World → Prop} {ρ : Fr} {w : World} {d : Option Tmp} {T : TypeId} {pos : String} {af : Array Edge}
theorem s_callp {f : Operand} {xs : Array Operand} {ts : Array TypeId} {g : FuncId} {vs cs : Array Value} {args : List Value} {v : Value}
    (hf : ev ρ f = .func (.func g) vs cs) (ha : vs.toList ++ (xs.toList.map (ev ρ) ++ cs.toList) = args) (hR : Ret P g args.toArray w fun v' w' => v' = v ∧ w' = w)
    (h : vcs P L K os (put ρ d v) w) : vcs P L K (⟨d, .call { callee := .value f, args := xs, argTypes := ts }, T, pos, af, none⟩ :: os) ρ w :=
  s_call hf ha hR (by rintro _ _ ⟨rfl, rfl⟩; exact h)
theorem s_callx {f : Operand} {xs : Array Operand} {ts : Array TypeId} {g : FuncId} {vs cs : Array Value} {args : List Value} {v : Value} {X : World → Prop}
    (hf : ev ρ f = .func (.func g) vs cs) (ha : vs.toList ++ (xs.toList.map (ev ρ) ++ cs.toList) = args) (hR : Ret P g args.toArray w fun v' w' => v' = v ∧ X w')
    (h : ∀ w', X w' → vcs P L K os (put ρ d v) w') : vcs P L K (⟨d, .call { callee := .value f, args := xs, argTypes := ts }, T, pos, af, none⟩ :: os) ρ w :=
  s_call hf ha hR (by rintro _ w' ⟨rfl, hX⟩; exact h w' hX)
/-- a guard whose value is known -/
theorem s_gT {op : Op} {g : Nat} {t : Nat} {c : Bool} (hs : slotOf L g = some t) (hv : ρ t = .bool c) (h : vcs P L K (⟨d, op, T, pos, af, none⟩ :: os) ρ w) : vcs P L K (⟨d, op, T, pos, af, some (g, c)⟩ :: os) ρ w :=
  s_g1 (by simp [wantF, hs, hv, isB]) h
end

/-! ## frames in normal form -/
theorem u1 {ρ : Fr} {a : Nat} {x : Value} (h : ρ a = x) : ρ = upd ρ a x := by
  funext t; unfold upd; by_cases e : t = a
  · rw [if_pos e, e, h]
  · rw [if_neg e]
theorem u2 {ρ : Fr} {a b : Nat} {x y : Value} (h : ρ a = x) (k : ρ b = y) : ρ = upd (upd ρ a x) b y := by rw [← u1 h]; exact u1 k
theorem u3 {ρ : Fr} {a b c : Nat} {x y z : Value} (h : ρ a = x) (k : ρ b = y) (l : ρ c = z) : ρ = upd (upd (upd ρ a x) b y) c z := by rw [← u2 h k]; exact u1 l
theorem u4 {ρ : Fr} {a b c d : Nat} {x y z u : Value} (h : ρ a = x) (k : ρ b = y) (l : ρ c = z) (m : ρ d = u) : ρ = upd (upd (upd (upd ρ a x) b y) c z) d u := by rw [← u3 h k l]; exact u1 m
theorem u5 {ρ : Fr} {a b c d e : Nat} {x y z u v : Value} (h : ρ a = x) (k : ρ b = y) (l : ρ c = z) (m : ρ d = u) (n : ρ e = v) : ρ = upd (upd (upd (upd (upd ρ a x) b y) c z) d u) e v := by rw [← u4 h k l m]; exact u1 n
theorem u6 {ρ : Fr} {a b c d e f : Nat} {x y z u v s : Value} (h : ρ a = x) (k : ρ b = y) (l : ρ c = z) (m : ρ d = u) (n : ρ e = v) (o : ρ f = s) : ρ = upd (upd (upd (upd (upd (upd ρ a x) b y) c z) d u) e v) f s := by rw [← u5 h k l m n]; exact u1 o
theorem u7 {ρ : Fr} {a0 a1 a2 a3 a4 a5 a6 : Nat} {x0 x1 x2 x3 x4 x5 x6 : Value} (h0 : ρ a0 = x0) (h1 : ρ a1 = x1) (h2 : ρ a2 = x2) (h3 : ρ a3 = x3) (h4 : ρ a4 = x4) (h5 : ρ a5 = x5) (h6 : ρ a6 = x6) : ρ = upd (upd (upd (upd (upd (upd (upd ρ a0 x0) a1 x1) a2 x2) a3 x3) a4 x4) a5 x5) a6 x6 := by rw [← u6 h0 h1 h2 h3 h4 h5]; exact u1 h6
theorem u8 {ρ : Fr} {a0 a1 a2 a3 a4 a5 a6 a7 : Nat} {x0 x1 x2 x3 x4 x5 x6 x7 : Value} (h0 : ρ a0 = x0) (h1 : ρ a1 = x1) (h2 : ρ a2 = x2) (h3 : ρ a3 = x3) (h4 : ρ a4 = x4) (h5 : ρ a5 = x5) (h6 : ρ a6 = x6) (h7 : ρ a7 = x7) : ρ = upd (upd (upd (upd (upd (upd (upd (upd ρ a0 x0) a1 x1) a2 x2) a3 x3) a4 x4) a5 x5) a6 x6) a7 x7 := by rw [← u7 h0 h1 h2 h3 h4 h5 h6]; exact u1 h7
theorem u9 {ρ : Fr} {a0 a1 a2 a3 a4 a5 a6 a7 a8 : Nat} {x0 x1 x2 x3 x4 x5 x6 x7 x8 : Value} (h0 : ρ a0 = x0) (h1 : ρ a1 = x1) (h2 : ρ a2 = x2) (h3 : ρ a3 = x3) (h4 : ρ a4 = x4) (h5 : ρ a5 = x5) (h6 : ρ a6 = x6) (h7 : ρ a7 = x7) (h8 : ρ a8 = x8) : ρ = upd (upd (upd (upd (upd (upd (upd (upd (upd ρ a0 x0) a1 x1) a2 x2) a3 x3) a4 x4) a5 x5) a6 x6) a7 x7) a8 x8 := by rw [← u8 h0 h1 h2 h3 h4 h5 h6 h7]; exact u1 h8
theorem u10 {ρ : Fr} {a0 a1 a2 a3 a4 a5 a6 a7 a8 a9 : Nat} {x0 x1 x2 x3 x4 x5 x6 x7 x8 x9 : Value} (h0 : ρ a0 = x0) (h1 : ρ a1 = x1) (h2 : ρ a2 = x2) (h3 : ρ a3 = x3) (h4 : ρ a4 = x4) (h5 : ρ a5 = x5) (h6 : ρ a6 = x6) (h7 : ρ a7 = x7) (h8 : ρ a8 = x8) (h9 : ρ a9 = x9) : ρ = upd (upd (upd (upd (upd (upd (upd (upd (upd (upd ρ a0 x0) a1 x1) a2 x2) a3 x3) a4 x4) a5 x5) a6 x6) a7 x7) a8 x8) a9 x9 := by rw [← u9 h0 h1 h2 h3 h4 h5 h6 h7 h8]; exact u1 h9
theorem u11 {ρ : Fr} {a0 a1 a2 a3 a4 a5 a6 a7 a8 a9 a10 : Nat} {x0 x1 x2 x3 x4 x5 x6 x7 x8 x9 x10 : Value} (h0 : ρ a0 = x0) (h1 : ρ a1 = x1) (h2 : ρ a2 = x2) (h3 : ρ a3 = x3) (h4 : ρ a4 = x4) (h5 : ρ a5 = x5) (h6 : ρ a6 = x6) (h7 : ρ a7 = x7) (h8 : ρ a8 = x8) (h9 : ρ a9 = x9) (h10 : ρ a10 = x10) : ρ = upd (upd (upd (upd (upd (upd (upd (upd (upd (upd (upd ρ a0 x0) a1 x1) a2 x2) a3 x3) a4 x4) a5 x5) a6 x6) a7 x7) a8 x8) a9 x9) a10 x10 := by rw [← u10 h0 h1 h2 h3 h4 h5 h6 h7 h8 h9]; exact u1 h10
theorem u12 {ρ : Fr} {a0 a1 a2 a3 a4 a5 a6 a7 a8 a9 a10 a11 : Nat} {x0 x1 x2 x3 x4 x5 x6 x7 x8 x9 x10 x11 : Value} (h0 : ρ a0 = x0) (h1 : ρ a1 = x1) (h2 : ρ a2 = x2) (h3 : ρ a3 = x3) (h4 : ρ a4 = x4) (h5 : ρ a5 = x5) (h6 : ρ a6 = x6) (h7 : ρ a7 = x7) (h8 : ρ a8 = x8) (h9 : ρ a9 = x9) (h10 : ρ a10 = x10) (h11 : ρ a11 = x11) : ρ = upd (upd (upd (upd (upd (upd (upd (upd (upd (upd (upd (upd ρ a0 x0) a1 x1) a2 x2) a3 x3) a4 x4) a5 x5) a6 x6) a7 x7) a8 x8) a9 x9) a10 x10) a11 x11 := by rw [← u11 h0 h1 h2 h3 h4 h5 h6 h7 h8 h9 h10]; exact u1 h11
theorem u13 {ρ : Fr} {a0 a1 a2 a3 a4 a5 a6 a7 a8 a9 a10 a11 a12 : Nat} {x0 x1 x2 x3 x4 x5 x6 x7 x8 x9 x10 x11 x12 : Value} (h0 : ρ a0 = x0) (h1 : ρ a1 = x1) (h2 : ρ a2 = x2) (h3 : ρ a3 = x3) (h4 : ρ a4 = x4) (h5 : ρ a5 = x5) (h6 : ρ a6 = x6) (h7 : ρ a7 = x7) (h8 : ρ a8 = x8) (h9 : ρ a9 = x9) (h10 : ρ a10 = x10) (h11 : ρ a11 = x11) (h12 : ρ a12 = x12) : ρ = upd (upd (upd (upd (upd (upd (upd (upd (upd (upd (upd (upd (upd ρ a0 x0) a1 x1) a2 x2) a3 x3) a4 x4) a5 x5) a6 x6) a7 x7) a8 x8) a9 x9) a10 x10) a11 x11) a12 x12 := by rw [← u12 h0 h1 h2 h3 h4 h5 h6 h7 h8 h9 h10 h11]; exact u1 h12
theorem u14 {ρ : Fr} {a0 a1 a2 a3 a4 a5 a6 a7 a8 a9 a10 a11 a12 a13 : Nat} {x0 x1 x2 x3 x4 x5 x6 x7 x8 x9 x10 x11 x12 x13 : Value} (h0 : ρ a0 = x0) (h1 : ρ a1 = x1) (h2 : ρ a2 = x2) (h3 : ρ a3 = x3) (h4 : ρ a4 = x4) (h5 : ρ a5 = x5) (h6 : ρ a6 = x6) (h7 : ρ a7 = x7) (h8 : ρ a8 = x8) (h9 : ρ a9 = x9) (h10 : ρ a10 = x10) (h11 : ρ a11 = x11) (h12 : ρ a12 = x12) (h13 : ρ a13 = x13) : ρ = upd (upd (upd (upd (upd (upd (upd (upd (upd (upd (upd (upd (upd (upd ρ a0 x0) a1 x1) a2 x2) a3 x3) a4 x4) a5 x5) a6 x6) a7 x7) a8 x8) a9 x9) a10 x10) a11 x11) a12 x12) a13 x13 := by rw [← u13 h0 h1 h2 h3 h4 h5 h6 h7 h8 h9 h10 h11 h12]; exact u1 h13

/-! ## the frame cut down to the slots that are named -/
section
variable {P : Program} {n : Nat} {c : Code} {Q : Post} {ρ : Fr} {w : World}
theorem W_n1 (a0 : Nat) (x0 : Value) (h0 : ρ a0 = x0) (h : ∀ ρ, W P n c Q (upd ρ a0 x0) w) : W P n c Q ρ w := by rw [u1 h0]; exact h _
theorem W_n2 (a0 a1 : Nat) (x0 x1 : Value) (h0 : ρ a0 = x0) (h1 : ρ a1 = x1) (h : ∀ ρ, W P n c Q (upd (upd ρ a0 x0) a1 x1) w) : W P n c Q ρ w := by rw [u2 h0 h1]; exact h _
theorem W_n3 (a0 a1 a2 : Nat) (x0 x1 x2 : Value) (h0 : ρ a0 = x0) (h1 : ρ a1 = x1) (h2 : ρ a2 = x2) (h : ∀ ρ, W P n c Q (upd (upd (upd ρ a0 x0) a1 x1) a2 x2) w) : W P n c Q ρ w := by rw [u3 h0 h1 h2]; exact h _
theorem W_n4 (a0 a1 a2 a3 : Nat) (x0 x1 x2 x3 : Value) (h0 : ρ a0 = x0) (h1 : ρ a1 = x1) (h2 : ρ a2 = x2) (h3 : ρ a3 = x3) (h : ∀ ρ, W P n c Q (upd (upd (upd (upd ρ a0 x0) a1 x1) a2 x2) a3 x3) w) : W P n c Q ρ w := by rw [u4 h0 h1 h2 h3]; exact h _
theorem W_n5 (a0 a1 a2 a3 a4 : Nat) (x0 x1 x2 x3 x4 : Value) (h0 : ρ a0 = x0) (h1 : ρ a1 = x1) (h2 : ρ a2 = x2) (h3 : ρ a3 = x3) (h4 : ρ a4 = x4) (h : ∀ ρ, W P n c Q (upd (upd (upd (upd (upd ρ a0 x0) a1 x1) a2 x2) a3 x3) a4 x4) w) : W P n c Q ρ w := by rw [u5 h0 h1 h2 h3 h4]; exact h _
theorem W_n6 (a0 a1 a2 a3 a4 a5 : Nat) (x0 x1 x2 x3 x4 x5 : Value) (h0 : ρ a0 = x0) (h1 : ρ a1 = x1) (h2 : ρ a2 = x2) (h3 : ρ a3 = x3) (h4 : ρ a4 = x4) (h5 : ρ a5 = x5) (h : ∀ ρ, W P n c Q (upd (upd (upd (upd (upd (upd ρ a0 x0) a1 x1) a2 x2) a3 x3) a4 x4) a5 x5) w) : W P n c Q ρ w := by rw [u6 h0 h1 h2 h3 h4 h5]; exact h _
theorem W_n7 (a0 a1 a2 a3 a4 a5 a6 : Nat) (x0 x1 x2 x3 x4 x5 x6 : Value) (h0 : ρ a0 = x0) (h1 : ρ a1 = x1) (h2 : ρ a2 = x2) (h3 : ρ a3 = x3) (h4 : ρ a4 = x4) (h5 : ρ a5 = x5) (h6 : ρ a6 = x6) (h : ∀ ρ, W P n c Q (upd (upd (upd (upd (upd (upd (upd ρ a0 x0) a1 x1) a2 x2) a3 x3) a4 x4) a5 x5) a6 x6) w) : W P n c Q ρ w := by rw [u7 h0 h1 h2 h3 h4 h5 h6]; exact h _
theorem W_n8 (a0 a1 a2 a3 a4 a5 a6 a7 : Nat) (x0 x1 x2 x3 x4 x5 x6 x7 : Value) (h0 : ρ a0 = x0) (h1 : ρ a1 = x1) (h2 : ρ a2 = x2) (h3 : ρ a3 = x3) (h4 : ρ a4 = x4) (h5 : ρ a5 = x5) (h6 : ρ a6 = x6) (h7 : ρ a7 = x7) (h : ∀ ρ, W P n c Q (upd (upd (upd (upd (upd (upd (upd (upd ρ a0 x0) a1 x1) a2 x2) a3 x3) a4 x4) a5 x5) a6 x6) a7 x7) w) : W P n c Q ρ w := by rw [u8 h0 h1 h2 h3 h4 h5 h6 h7]; exact h _
theorem W_n9 (a0 a1 a2 a3 a4 a5 a6 a7 a8 : Nat) (x0 x1 x2 x3 x4 x5 x6 x7 x8 : Value) (h0 : ρ a0 = x0) (h1 : ρ a1 = x1) (h2 : ρ a2 = x2) (h3 : ρ a3 = x3) (h4 : ρ a4 = x4) (h5 : ρ a5 = x5) (h6 : ρ a6 = x6) (h7 : ρ a7 = x7) (h8 : ρ a8 = x8) (h : ∀ ρ, W P n c Q (upd (upd (upd (upd (upd (upd (upd (upd (upd ρ a0 x0) a1 x1) a2 x2) a3 x3) a4 x4) a5 x5) a6 x6) a7 x7) a8 x8) w) : W P n c Q ρ w := by rw [u9 h0 h1 h2 h3 h4 h5 h6 h7 h8]; exact h _
theorem W_n10 (a0 a1 a2 a3 a4 a5 a6 a7 a8 a9 : Nat) (x0 x1 x2 x3 x4 x5 x6 x7 x8 x9 : Value) (h0 : ρ a0 = x0) (h1 : ρ a1 = x1) (h2 : ρ a2 = x2) (h3 : ρ a3 = x3) (h4 : ρ a4 = x4) (h5 : ρ a5 = x5) (h6 : ρ a6 = x6) (h7 : ρ a7 = x7) (h8 : ρ a8 = x8) (h9 : ρ a9 = x9) (h : ∀ ρ, W P n c Q (upd (upd (upd (upd (upd (upd (upd (upd (upd (upd ρ a0 x0) a1 x1) a2 x2) a3 x3) a4 x4) a5 x5) a6 x6) a7 x7) a8 x8) a9 x9) w) : W P n c Q ρ w := by rw [u10 h0 h1 h2 h3 h4 h5 h6 h7 h8 h9]; exact h _
theorem W_n11 (a0 a1 a2 a3 a4 a5 a6 a7 a8 a9 a10 : Nat) (x0 x1 x2 x3 x4 x5 x6 x7 x8 x9 x10 : Value) (h0 : ρ a0 = x0) (h1 : ρ a1 = x1) (h2 : ρ a2 = x2) (h3 : ρ a3 = x3) (h4 : ρ a4 = x4) (h5 : ρ a5 = x5) (h6 : ρ a6 = x6) (h7 : ρ a7 = x7) (h8 : ρ a8 = x8) (h9 : ρ a9 = x9) (h10 : ρ a10 = x10) (h : ∀ ρ, W P n c Q (upd (upd (upd (upd (upd (upd (upd (upd (upd (upd (upd ρ a0 x0) a1 x1) a2 x2) a3 x3) a4 x4) a5 x5) a6 x6) a7 x7) a8 x8) a9 x9) a10 x10) w) : W P n c Q ρ w := by rw [u11 h0 h1 h2 h3 h4 h5 h6 h7 h8 h9 h10]; exact h _
theorem W_n12 (a0 a1 a2 a3 a4 a5 a6 a7 a8 a9 a10 a11 : Nat) (x0 x1 x2 x3 x4 x5 x6 x7 x8 x9 x10 x11 : Value) (h0 : ρ a0 = x0) (h1 : ρ a1 = x1) (h2 : ρ a2 = x2) (h3 : ρ a3 = x3) (h4 : ρ a4 = x4) (h5 : ρ a5 = x5) (h6 : ρ a6 = x6) (h7 : ρ a7 = x7) (h8 : ρ a8 = x8) (h9 : ρ a9 = x9) (h10 : ρ a10 = x10) (h11 : ρ a11 = x11) (h : ∀ ρ, W P n c Q (upd (upd (upd (upd (upd (upd (upd (upd (upd (upd (upd (upd ρ a0 x0) a1 x1) a2 x2) a3 x3) a4 x4) a5 x5) a6 x6) a7 x7) a8 x8) a9 x9) a10 x10) a11 x11) w) : W P n c Q ρ w := by rw [u12 h0 h1 h2 h3 h4 h5 h6 h7 h8 h9 h10 h11]; exact h _
theorem W_n13 (a0 a1 a2 a3 a4 a5 a6 a7 a8 a9 a10 a11 a12 : Nat) (x0 x1 x2 x3 x4 x5 x6 x7 x8 x9 x10 x11 x12 : Value) (h0 : ρ a0 = x0) (h1 : ρ a1 = x1) (h2 : ρ a2 = x2) (h3 : ρ a3 = x3) (h4 : ρ a4 = x4) (h5 : ρ a5 = x5) (h6 : ρ a6 = x6) (h7 : ρ a7 = x7) (h8 : ρ a8 = x8) (h9 : ρ a9 = x9) (h10 : ρ a10 = x10) (h11 : ρ a11 = x11) (h12 : ρ a12 = x12) (h : ∀ ρ, W P n c Q (upd (upd (upd (upd (upd (upd (upd (upd (upd (upd (upd (upd (upd ρ a0 x0) a1 x1) a2 x2) a3 x3) a4 x4) a5 x5) a6 x6) a7 x7) a8 x8) a9 x9) a10 x10) a11 x11) a12 x12) w) : W P n c Q ρ w := by rw [u13 h0 h1 h2 h3 h4 h5 h6 h7 h8 h9 h10 h11 h12]; exact h _
theorem W_n14 (a0 a1 a2 a3 a4 a5 a6 a7 a8 a9 a10 a11 a12 a13 : Nat) (x0 x1 x2 x3 x4 x5 x6 x7 x8 x9 x10 x11 x12 x13 : Value) (h0 : ρ a0 = x0) (h1 : ρ a1 = x1) (h2 : ρ a2 = x2) (h3 : ρ a3 = x3) (h4 : ρ a4 = x4) (h5 : ρ a5 = x5) (h6 : ρ a6 = x6) (h7 : ρ a7 = x7) (h8 : ρ a8 = x8) (h9 : ρ a9 = x9) (h10 : ρ a10 = x10) (h11 : ρ a11 = x11) (h12 : ρ a12 = x12) (h13 : ρ a13 = x13) (h : ∀ ρ, W P n c Q (upd (upd (upd (upd (upd (upd (upd (upd (upd (upd (upd (upd (upd (upd ρ a0 x0) a1 x1) a2 x2) a3 x3) a4 x4) a5 x5) a6 x6) a7 x7) a8 x8) a9 x9) a10 x10) a11 x11) a12 x12) a13 x13) w) : W P n c Q ρ w := by rw [u14 h0 h1 h2 h3 h4 h5 h6 h7 h8 h9 h10 h11 h12 h13]; exact h _
end
end Go.Fx
namespace Go.Fx
open Go.RowKit

/-! ## regions that draw and change the world: loads and numbers first, the rest as it comes up -/
def nrm (n : Nat) (K : Fr → World → Prop) : Exit → Act → World → Prop
  | .normal, a, w => ∃ ρ, Rep n a ρ ∧ K ρ w
  | _, _, _ => False
/-- none of M is listed -/
def mfr (M : List Nat) (L : Array Bool) : Bool := M.all fun m => !L.getD m false
/-- as long as no operation of M has been carried out, R holds -/
def Sx (R : World → Prop) (M : List Nat) (L : Array Bool) (w : World) : Prop := mfr M L = true → R w
theorem mfr_set {M : List Nat} {i : Nat} (hi : i ∉ M) (L : Array Bool) : mfr M (L.setIfInBounds i true) = mfr M L := by
  unfold mfr
  rw [Bool.eq_iff_iff]
  simp only [List.all_eq_true]
  refine forall_congr' fun m => forall_congr' fun hm => ?_
  have hne : i ≠ m := fun e => hi (by rw [e]; exact hm)
  simp [Array.getD_eq_getD_getElem?, Array.getElem?_setIfInBounds_ne hne]
section
variable {P : Program} {ops : Array Oper} {Q : Exit → Act → World → Prop} {R : World → Prop} {M : List Nat}
/-- whatever order is picked from here on -/
def wA (P : Program) (ops : Array Oper) (Q : Exit → Act → World → Prop) (R : World → Prop) (M : List Nat) : Nat → Array Bool → Act → World → Prop
  | 0, listed, a, w => Region.ready .any ops listed = [] ∧ Q .normal a w
  | fuel + 1, listed, a, w =>
    (Region.ready .any ops listed = [] → Q .normal a w) ∧
    ∀ i ∈ Region.ready .any ops listed, wpOp P ops Q i (fun a' w' => Sx R M (listed.setIfInBounds i true) w' ∧ wA P ops Q R M fuel (listed.setIfInBounds i true) a' w') a w
theorem wA_any : ∀ (fuel : Nat) (listed : Array Bool) (a : Act) (w : World), wA P ops Q R M fuel listed a w → wpAny P .any ops Q fuel listed a w
  | 0, _, _, _, h => h
  | fuel + 1, _, _, _, h => ⟨h.1, fun i hi => wpOp_mono (fun a' w' h' => wA_any fuel _ a' w' h'.2) (h.2 i hi)⟩
theorem wA_first {i : Nat} {oi : Oper} {v : Value} {C : World → Prop} {Inv : Array Bool → Prop} (hi : ops[i]? = some oi) (hiM : i ∉ M) (hsel : ∀ (j : Nat) (o : Oper) cs b, ops[j]? = some o → o.op ≠ .select cs b)
    (hQ : ∀ c a w, Q (.panic c) (a.put oi.dst v) w → Q (.panic c) a w) (hC : ∀ L w, Inv L → Sx R M L w → C w)
    (hInv : ∀ (L : Array Bool) j oj, Inv L → ops[j]? = some oj → (∀ e ∈ oj.after, Region.binds .any e = true → e.on ≠ i) → Inv (L.setIfInBounds j true)) :
    ∀ (fuel : Nat) (listed : Array Bool) (a : Act) (w : World), Inv listed →
      (∀ j oj, ops[j]? = some oj → j ≠ i → listed.getD j true = false → (∀ e ∈ oj.after, Region.binds .any e = true → e.on ≠ i) → oi.apart ops oj = true) →
      i ∈ Region.ready .any ops listed → YieldsIf P ops C oi v a → Sx R M listed w →
      wA P ops Q R M fuel (listed.setIfInBounds i true) (a.put oi.dst v) w → wA P ops Q R M (fuel + 1) listed a w := by
  intro fuel
  induction fuel with
  | zero =>
    intro listed a w hI _ hr hy hS H
    refine ⟨fun h => (by rw [h] at hr; cases hr), fun j hj => ?_⟩
    by_cases hji : j = i
    · subst hji; exact hy.wpOp hi (hC _ _ hI hS) ⟨fun h => hS (by rwa [mfr_set hiM] at h), H⟩
    · have := ready_mono hj hji
      rw [H.1] at this
      cases this
  | succ fuel ih =>
    intro listed a w hI hfree hr hy hS H
    refine ⟨fun h => (by rw [h] at hr; cases hr), fun j hj => ?_⟩
    by_cases hji : j = i
    · subst hji; exact hy.wpOp hi (hC _ _ hI hS) ⟨fun h => hS (by rwa [mfr_set hiM] at h), H⟩
    · have h1 := H.2 j (ready_mono hj hji)
      obtain ⟨hjun, oj, hoj, hall⟩ := mem_ready.1 hj
      have hnot : ∀ e ∈ oj.after, Region.binds .any e = true → e.on ≠ i := fun e he hb heq => by
        have h1 := hall e he hb
        have h0 := (mem_ready.1 hr).1
        rw [heq] at h1
        rcases Nat.lt_or_ge i listed.size with h' | h'
        · simp [h'] at h0 h1; rw [h0] at h1; cases h1
        · simp [Array.getElem?_eq_none h'] at h1
      have h2 := wpOp_putIf hoj (hfree j oj hoj hji hjun hnot) (fun cs b => hsel i oi cs b hi) (fun cs b => hsel j oj cs b hoj) hQ hy h1
      have hfree' : ∀ k ok, ops[k]? = some ok → k ≠ i → (listed.setIfInBounds j true).getD k true = false →
          (∀ e ∈ ok.after, Region.binds .any e = true → e.on ≠ i) → oi.apart ops ok = true := fun k ok hk hki hun hno => by
        refine hfree k ok hk hki ?_ hno
        by_cases hjk : j = k
        · subst hjk; exact hjun
        · rw [getD_set_ne true hjk] at hun; exact hun
      refine wpOp_mono (fun a' w' h3 => ?_) h2
      have hS' : Sx R M (listed.setIfInBounds j true) w' := fun h => h3.2.1 (by rw [Array.setIfInBounds_comm _ _ (Ne.symm hji), mfr_set hiM]; exact h)
      refine ⟨hS', ih (listed.setIfInBounds j true) a' w' (hInv _ j oj hI hoj hnot) hfree' (ready_mono hr (Ne.symm hji)) h3.1 hS' ?_⟩
      rw [Array.setIfInBounds_comm _ _ hji]
      exact h3.2.2
end
/-- the operations that are listed have been carried out -/
def D (P : Program) (n : Nat) (ops : Array Oper) (R : World → Prop) (M : List Nat) (K : Fr → World → Prop) (fuel : Nat) (listed : Array Bool) (ρ : Fr) (w : World) : Prop :=
  ∀ a, Rep n a ρ → wA P ops (nrm n K) R M fuel listed a w
def tk (ops : Array Oper) (listed : Array Bool) (i : Nat) : Bool :=
  Region.noSelect ops && Region.free .any ops listed i && (Region.ready .any ops listed).contains i
/-- all of M wait for i -/
def waits (ops : Array Oper) (M : List Nat) (i : Nat) : Bool := M.all fun j => ((ops[j]?).map fun o => o.after.any fun e => Region.binds .any e && Nat.beq e.on i).getD false
section
variable {P : Program} {n : Nat} {ops : Array Oper} {R : World → Prop} {M : List Nat} {K : Fr → World → Prop} {fuel : Nat} {listed : Array Bool} {ρ : Fr} {w : World}
theorem waits_inv {i : Nat} (hw : waits ops M i = true) : ∀ (L : Array Bool) j oj, mfr M L = true → ops[j]? = some oj → (∀ e ∈ oj.after, Region.binds .any e = true → e.on ≠ i) → mfr M (L.setIfInBounds j true) = true := by
  intro L j oj hm hj hno
  rw [mfr_set]
  · exact hm
  · intro hmem
    have := (List.all_eq_true.1 hw) j hmem
    simp only [hj, Option.map_some, Option.getD_some, Array.any_eq_true, Bool.and_eq_true, Nat.beq_eq] at this
    obtain ⟨k, hk, hb, he⟩ := this
    exact hno _ (Array.getElem_mem hk) hb he
/-- an operation that yields its value wherever R holds (a load) is taken first; all of M wait for it -/
theorem D_take (i : Nat) {o : Oper} {v : Value} (hok : okOps n ops = true) (hi : ops[i]? = some o) (ht : (tk ops listed i && waits ops M i && !M.contains i && mfr M listed) = true) (hg : wantF ops.toList ρ o.guard = true)
    (hv : ∀ w, R w → (execOp (ev ρ) o).run P w = .ok (.value v) w) (hS : R w) (h : D P n ops R M K fuel (listed.setIfInBounds i true) (put ρ o.dst v) w) : D P n ops R M K (fuel + 1) listed ρ w := by
  intro a ha
  have hok' : ∀ o ∈ ops.toList, dstOk n o.dst = true := by simpa only [okOps, List.all_eq_true] using hok
  simp only [tk, Bool.and_eq_true] at ht
  obtain ⟨⟨⟨⟨⟨hsel, hfr⟩, hrd⟩, hwt⟩, hnM⟩, hmf⟩ := ht
  exact wA_first (C := R) (Inv := fun L => mfr M L = true) hi (by simpa using hnM) (Region.noSelect_spec hsel) (fun c a w h => h) (fun L w hI hs => hs hI) (waits_inv hwt) fuel listed a w hmf (Region.free_spec hi hfr) (by simpa using hrd)
    (.inl ⟨by rw [wanted_eq ha ops o hok']; exact hg, fun w hw => by rw [ha.eval]; exact hv w hw⟩) (fun _ => hS) (h _ (ha.put (hok' o (by simpa using Array.mem_of_getElem? hi)) v))
/-- a number, an address: whatever the world -/
theorem D_pure (i : Nat) {o : Oper} {v : Value} (hok : okOps n ops = true) (hi : ops[i]? = some o) (ht : (tk ops listed i && !M.contains i) = true) (hg : wantF ops.toList ρ o.guard = true)
    (hv : ∀ w, (execOp (ev ρ) o).run P w = .ok (.value v) w) (hS : Sx R M listed w) (h : D P n ops R M K fuel (listed.setIfInBounds i true) (put ρ o.dst v) w) : D P n ops R M K (fuel + 1) listed ρ w := by
  intro a ha
  have hok' : ∀ o ∈ ops.toList, dstOk n o.dst = true := by simpa only [okOps, List.all_eq_true] using hok
  simp only [tk, Bool.and_eq_true] at ht
  obtain ⟨⟨⟨hsel, hfr⟩, hrd⟩, hnM⟩ := ht
  exact wA_first (C := fun _ => True) (Inv := fun _ => True) hi (by simpa using hnM) (Region.noSelect_spec hsel) (fun c a w h => h) (fun _ _ _ _ => trivial) (fun _ _ _ _ _ _ => trivial) fuel listed a w trivial (Region.free_spec hi hfr) (by simpa using hrd)
    (.inl ⟨by rw [wanted_eq ha ops o hok']; exact hg, fun w _ => by rw [ha.eval]; exact hv w⟩) hS (h _ (ha.put (hok' o (by simpa using Array.mem_of_getElem? hi)) v))
theorem D_skip (i : Nat) {o : Oper} (hok : okOps n ops = true) (hi : ops[i]? = some o) (ht : (tk ops listed i && !M.contains i) = true) (hg : wantF ops.toList ρ o.guard = false)
    (hS : Sx R M listed w) (h : D P n ops R M K fuel (listed.setIfInBounds i true) (put ρ o.dst undef) w) : D P n ops R M K (fuel + 1) listed ρ w := by
  intro a ha
  have hok' : ∀ o ∈ ops.toList, dstOk n o.dst = true := by simpa only [okOps, List.all_eq_true] using hok
  simp only [tk, Bool.and_eq_true] at ht
  obtain ⟨⟨⟨hsel, hfr⟩, hrd⟩, hnM⟩ := ht
  exact wA_first (C := fun _ => True) (Inv := fun _ => True) hi (by simpa using hnM) (Region.noSelect_spec hsel) (fun c a w h => h) (fun _ _ _ _ => trivial) (fun _ _ _ _ _ _ => trivial) fuel listed a w trivial (Region.free_spec hi hfr) (by simpa using hrd)
    (.inr ⟨by rw [wanted_eq ha ops o hok']; exact hg, rfl⟩) hS (h _ (ha.put (hok' o (by simpa using Array.mem_of_getElem? hi)) undef))
theorem D_mem (hok : okOps n ops = true) {i : Nat} {o : Oper} (hi : ops[i]? = some o) (h : vcs P ops.toList (fun ρ' w' => Sx R M (listed.setIfInBounds i true) w' ∧ D P n ops R M K fuel (listed.setIfInBounds i true) ρ' w') [o] ρ w) {a : Act} (ha : Rep n a ρ) :
    wpOp P ops (nrm n K) i (fun a' w' => Sx R M (listed.setIfInBounds i true) w' ∧ wA P ops (nrm n K) R M fuel (listed.setIfInBounds i true) a' w') a w := by
  have hok' : ∀ o ∈ ops.toList, dstOk n o.dst = true := by simpa only [okOps, List.all_eq_true] using hok
  have hd := hok' o (by simpa using Array.mem_of_getElem? hi)
  unfold wpOp
  simp only [hi]
  rw [wanted_eq ha ops o hok']
  simp only [vcs] at h
  split at h
  · rename_i hg
    rw [if_pos hg]
    exact .inl (vop_sound ha hd (fun _ ρ w hr ⟨h1, h2⟩ => ⟨h1, h2 _ hr⟩) h)
  · rename_i hg
    rw [if_neg hg]
    exact ⟨h.1, h.2 _ (ha.put hd undef)⟩
/-- one operation alone may come up -/
theorem D_on (i : Nat) {o : Oper} (hok : okOps n ops = true) (hr : Region.ready .any ops listed = [i]) (hi : ops[i]? = some o)
    (h : vcs P ops.toList (fun ρ' w' => Sx R M (listed.setIfInBounds i true) w' ∧ D P n ops R M K fuel (listed.setIfInBounds i true) ρ' w') [o] ρ w) : D P n ops R M K (fuel + 1) listed ρ w := by
  intro a ha
  refine ⟨fun h0 => (by rw [hr] at h0; cases h0), fun j hj => ?_⟩
  rw [hr, List.mem_singleton] at hj
  subst hj
  exact D_mem hok hi h ha
theorem D_on2 (i j : Nat) {o p : Oper} (hok : okOps n ops = true) (hr : Region.ready .any ops listed = [i, j]) (hi : ops[i]? = some o) (hj : ops[j]? = some p)
    (h : vcs P ops.toList (fun ρ' w' => Sx R M (listed.setIfInBounds i true) w' ∧ D P n ops R M K fuel (listed.setIfInBounds i true) ρ' w') [o] ρ w)
    (k : vcs P ops.toList (fun ρ' w' => Sx R M (listed.setIfInBounds j true) w' ∧ D P n ops R M K fuel (listed.setIfInBounds j true) ρ' w') [p] ρ w) : D P n ops R M K (fuel + 1) listed ρ w := by
  intro a ha
  refine ⟨fun h0 => (by rw [hr] at h0; cases h0), fun x hx => ?_⟩
  rw [hr] at hx
  simp only [List.mem_cons, List.not_mem_nil, or_false] at hx
  rcases hx with rfl | rfl
  · exact D_mem hok hi h ha
  · exact D_mem hok hj k ha
theorem D_one (i : Nat) {o : Oper} (hok : okOps n ops = true) (hr : Region.ready .any ops listed = [i]) (hi : ops[i]? = some o)
    (h : vcs P ops.toList (fun ρ' w' => R w' ∧ D P n ops R M K fuel (listed.setIfInBounds i true) ρ' w') [o] ρ w) : D P n ops R M K (fuel + 1) listed ρ w :=
  D_on i hok hr hi (vcs_mono (fun _ _ ⟨h1, h2⟩ => ⟨fun _ => h1, h2⟩) h)
theorem D_two (i j : Nat) {o p : Oper} (hok : okOps n ops = true) (hr : Region.ready .any ops listed = [i, j]) (hi : ops[i]? = some o) (hj : ops[j]? = some p)
    (h : vcs P ops.toList (fun ρ' w' => R w' ∧ D P n ops R M K fuel (listed.setIfInBounds i true) ρ' w') [o] ρ w)
    (k : vcs P ops.toList (fun ρ' w' => R w' ∧ D P n ops R M K fuel (listed.setIfInBounds j true) ρ' w') [p] ρ w) : D P n ops R M K (fuel + 1) listed ρ w :=
  D_on2 i j hok hr hi hj (vcs_mono (fun _ _ ⟨h1, h2⟩ => ⟨fun _ => h1, h2⟩) h) (vcs_mono (fun _ _ ⟨h1, h2⟩ => ⟨fun _ => h1, h2⟩) k)
/-- an operation of M: nothing is asked of the world behind it -/
theorem D_oneM (i : Nat) {o : Oper} (hok : okOps n ops = true) (hr : Region.ready .any ops listed = [i]) (hi : ops[i]? = some o) (hM : mfr M (listed.setIfInBounds i true) = false)
    (h : vcs P ops.toList (fun ρ' w' => D P n ops R M K fuel (listed.setIfInBounds i true) ρ' w') [o] ρ w) : D P n ops R M K (fuel + 1) listed ρ w :=
  D_on i hok hr hi (vcs_mono (fun _ _ h2 => ⟨fun h => (by rw [hM] at h; cases h), h2⟩) h)
theorem D_done (hr : Region.ready .any ops listed = []) (h : K ρ w) : D P n ops R M K fuel listed ρ w := fun a ha => by
  cases fuel with
  | zero => exact ⟨hr, ρ, ha, h⟩
  | succ m => exact ⟨fun _ => ⟨ρ, ha, h⟩, by rw [hr]; simp⟩
theorem W_d {id : Nat} {Q : Post} (R : World → Prop) (M : List Nat) (hm : P.follows .mixedOrders = true) (h : D P n ops R M (Q .normal) ops.size (Array.replicate ops.size false) ρ { w with drawn := w.drawn + 1 }) : W P n (.region id ops true) Q ρ w := fun a ha =>
  wp_mono (wp_region_any hm (wA_any _ _ _ _ (h a ha))) fun e a w hq => by
    cases e with
    | normal => exact hq
    | _ => exact (hq : False).elim
theorem W_dr {id : Nat} {y : Code} {Q : Post} (R : World → Prop) (M : List Nat) (hm : P.follows .mixedOrders = true) (h : D P n ops R M (W P n y Q) ops.size (Array.replicate ops.size false) ρ { w with drawn := w.drawn + 1 }) : W P n (.seq (.region id ops true) y) Q ρ w :=
  W_seq (W_d R M hm h)
/-! ## loads and numbers in whatever order, then a forced tail -/
theorem vcs_list {ops : Array Oper} {K : Fr → World → Prop} {Q : Exit → Act → World → Prop} (hok : ∀ o ∈ ops.toList, dstOk n o.dst = true) (hK : ∀ a ρ w, Rep n a ρ → K ρ w → Q .normal a w) :
    ∀ (l : List Oper) (a : Act) (ρ : Fr) (w : World), (∀ o ∈ l, o ∈ ops.toList) → Rep n a ρ → vcs P ops.toList K l ρ w → wpList P ops Q l a w := by
  intro l
  induction l with
  | nil => intro a ρ w _ h hv; exact hK _ _ _ h hv
  | cons o os ih =>
    intro a ρ w hm h hv
    have hd := hok o (hm o (by simp))
    simp only [wpList]
    rw [wanted_eq h ops _ hok]
    simp only [vcs] at hv
    split at hv
    · rename_i hw
      rw [if_pos hw]
      exact .inl (vop_sound h hd (fun a ρ w hr hk => ih a ρ w (fun o ho => hm o (by simp [ho])) hr hk) hv)
    · rename_i hw
      rw [if_neg hw]
      exact ih _ _ _ (fun o ho => hm o (by simp [ho])) (h.put hd undef) hv
theorem vq_still {ops : Array Oper} {K : Fr → Prop} {Q : Act → Prop} (hok : ∀ o ∈ ops.toList, dstOk n o.dst = true) (hK : ∀ a ρ, Rep n a ρ → K ρ → Q a) :
    ∀ (l : List Oper) (a : Act) (ρ : Fr), (∀ o ∈ l, o ∈ ops.toList) → Rep n a ρ → vq P ops.toList (fun w' => w' = w) K l ρ → wpStill P ops w Q l a := by
  intro l
  induction l with
  | nil => intro a ρ _ h hv; exact hK _ _ h hv
  | cons o os ih =>
    intro a ρ hm h hv
    have hd := hok o (hm o (by simp))
    simp only [wpStill]
    rw [wanted_eq h ops _ hok]
    simp only [vq] at hv
    split at hv
    · rename_i hw
      rw [if_pos hw]
      obtain ⟨v, h1, h2⟩ := hv
      have h3 := ih _ _ (fun o ho => hm o (by simp [ho])) (h.put hd v) h2
      have h1 := h1 w rfl
      unfold Oper.still
      rw [h.eval]
      generalize (execOp (ev ρ) o).run P w = r at *
      cases r with
      | ok nx w' =>
        cases nx <;> simp only [Oper.quietUpon, Oper.stillUpon] at h1 ⊢
        case value u => exact ⟨h1.1, by rw [h1.2]; exact h3⟩
        case skip => exact ⟨h1.1, by rw [← h1.2]; exact h3⟩
        case enter f args => exact ⟨h1.1, v, h1.2, h3⟩
      | halt x w' => simp only [Oper.quietUpon] at h1
    · rename_i hw
      rw [if_neg hw]
      exact ih _ _ (fun o ho => hm o (by simp [ho])) (h.put hd undef) hv
theorem W_st {id : Nat} {Q : Post} (m : Nat) (hm : P.follows .mixedOrders = true) (hok : okOps n ops = true) (hB : Region.lexTailB .any ops m = true)
    (h : vq P ops.toList (fun w' => w' = { w with drawn := w.drawn + 1 }) (fun ρ' => vcs P ops.toList (Q .normal) (ops.toList.drop m) ρ' { w with drawn := w.drawn + 1 }) (ops.toList.take m) ρ) : W P n (.region id ops true) Q ρ w := by
  intro a ha
  have hok' : ∀ o ∈ ops.toList, dstOk n o.dst = true := by simpa only [okOps, List.all_eq_true] using hok
  have key := wp_region_still_tail (P := P) (id := id) (Q := lift n Q) (a := a) (w := w) (l := ops.toList) m hm (by simpa using hB)
  simp only [Array.toArray_toList] at key
  refine key (vq_still hok' (fun a' ρ' hr hk => vcs_list hok' (fun a ρ w hr hk => ⟨ρ, hr, hk⟩) (ops.toList.drop m) a' ρ' _ (fun o ho => List.mem_of_mem_drop ho) hr hk) (ops.toList.take m) a ρ (fun o ho => List.mem_of_mem_take ho) ha h)
theorem W_str {id : Nat} {y : Code} {Q : Post} (m : Nat) (hm : P.follows .mixedOrders = true) (hok : okOps n ops = true) (hB : Region.lexTailB .any ops m = true)
    (h : vq P ops.toList (fun w' => w' = { w with drawn := w.drawn + 1 }) (fun ρ' => vcs P ops.toList (W P n y Q) (ops.toList.drop m) ρ' { w with drawn := w.drawn + 1 }) (ops.toList.take m) ρ) : W P n (.seq (.region id ops true) y) Q ρ w :=
  W_seq (W_st m hm hok hB h)
end
end Go.Fx

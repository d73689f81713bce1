/- Calls that turn rows of the caller's. -/
import Derived.Test.YtniibpihbopehaaS0
namespace Go.Proofs.Ytniibpihbopehaa.M
open Go Go.RowKit
set_option linter.unusedVariables false
set_option linter.unusedSimpArgs false
variable {cx : Cx} {M M' : Mp} {st : St} {a : Act} {w w' : World} {G : Pg} {p : Nat → Path → Bool}
def closedV : V → Bool
  | .lit _ => true
  | .undef => true
  | .own _ _ => true
  | _ => false
def closedB (xs : Row) : Bool := xs.all fun x => x.all closedV
theorem closedB_get {xs : Row} (h : closedB xs = true) {i k : Nat} {v : V} (hc : cellAt xs i k = some v) : closedV v = true := by
  unfold cellAt at hc
  cases hx : xs[i]? with
  | none => rw [hx] at hc; cases hc
  | some x =>
    rw [hx] at hc
    exact List.all_eq_true.1 (List.all_eq_true.1 h x (List.mem_of_getElem? hx)) v (List.mem_of_getElem? hc)
def handIn (B : Bs) : List (Nat × Path) → Nat → (Bl → Prop) → Prop
  | [], _, K => K []
  | (b, p) :: l, j, K => match rowsAt B b p with
    | some (t, s, xs) => chk (!t || closedB xs) (handIn B l (j + 1) fun bs => K ((j, t, s, xs) :: bs))
    | none => False
theorem handIn_ok {B : Bs} : ∀ (l : List (Nat × Path)) (j : Nat) (K : Bl → Prop), handIn B l j K → ∃ bs, K bs ∧ (∀ i b p, l[i]? = some (b, p) → ∃ t s xs, rowsAt B b p = some (t, s, xs) ∧ toB bs (j + i) = some (t, s, xs) ∧ (t = true → closedB xs = true)) ∧ ∀ k x, toB bs k = some x → ∃ i, i < l.length ∧ k = j + i := by
  intro l
  induction l with
  | nil => intro j K h; exact ⟨[], h, fun i b p hi => by simp at hi, fun k x hx => by cases hx⟩
  | cons y l ih =>
    obtain ⟨b0, p0⟩ := y
    intro j K h
    simp only [handIn] at h
    cases hr : rowsAt B b0 p0 with
    | none => rw [hr] at h; exact h.elim
    | some x =>
      obtain ⟨t, s, xs⟩ := x
      rw [hr] at h
      simp only [chk_iff] at h
      obtain ⟨h1, h2⟩ := h
      obtain ⟨bs, g1, g2, g3⟩ := ih _ _ h2
      refine ⟨_, g1, fun i b p hi => ?_, fun k x hx => ?_⟩
      · cases i with
        | zero =>
          simp only [List.getElem?_cons_zero, Option.some.injEq, Prod.mk.injEq] at hi
          obtain ⟨rfl, rfl⟩ := hi
          refine ⟨t, s, xs, hr, by simp [toB, upd], fun e => by subst e; simpa using h1⟩
        | succ i =>
          obtain ⟨t', s', xs', e1, e2, e3⟩ := g2 i b p (by simpa using hi)
          refine ⟨t', s', xs', e1, ?_, e3⟩
          simp only [toB, upd]
          rw [if_neg (by omega), show j + (i + 1) = j + 1 + i by omega]; exact e2
      · simp only [toB, upd] at hx
        split at hx
        · rename_i e; exact ⟨0, by simp, by omega⟩
        · obtain ⟨i, e1, e2⟩ := g3 k x hx
          exact ⟨i + 1, by simp; omega, by omega⟩
def backOk (B : Bs) (bs' : Bl) : List (Nat × Path) → Nat → Prop
  | [], _ => True
  | (b, p) :: l, j => (match rowsAt B b p, toB bs' j with
    | some (t, s, xs), some (t', s', xs') => chk (decide (t' = t)) (chk (decide (s' = s)) (chk (!t || closedB xs') (xs'.length = xs.length)))
    | _, _ => False) ∧ backOk B bs' l (j + 1)
theorem backOk_ok {B : Bs} {bs' : Bl} : ∀ (l : List (Nat × Path)) (j : Nat), backOk B bs' l j → ∀ (i b : Nat) (p : Path), l[i]? = some (b, p) → ∃ t s xs xs', rowsAt B b p = some (t, s, xs) ∧ toB bs' (j + i) = some (t, s, xs') ∧ (t = true → closedB xs' = true) ∧ xs'.length = xs.length := by
  intro l
  induction l with
  | nil => intro j _ i b p h; simp at h
  | cons y l ih =>
    obtain ⟨b0, p0⟩ := y
    intro j h i b p hi
    obtain ⟨h1, h2⟩ := h
    cases i with
    | zero =>
      simp only [List.getElem?_cons_zero, Option.some.injEq, Prod.mk.injEq] at hi
      obtain ⟨rfl, rfl⟩ := hi
      split at h1
      · rename_i t s xs t' s' xs' e1 e2
        simp only [chk_iff, decide_eq_true_eq] at h1
        obtain ⟨rfl, rfl, h3, h4⟩ := h1
        exact ⟨t', s', xs, xs', e1, e2, fun e => by subst e; simpa using h3, h4⟩
      · exact h1.elim
    | succ i =>
      have := ih (j + 1) h2 i b p (by simpa using hi)
      rw [show j + (i + 1) = j + 1 + i by omega]; exact this
def minusB (l : List (Nat × Path)) (B : Bs) : Bs := fun b => match l.any fun x => decide (x.1 = b) with
  | true => none
  | false => B b
def strict (l : List (Nat × Path)) (b : Nat) (q : Path) : Bool := match foc l 0 b q with
  | some (_, _ :: _) => true
  | _ => false
def killF (d : Nat) (l : List (Nat × Path)) (b : Nat) (q : Path) : Bool := isRes d b q || strict l b q
def impF (d : Nat) (l : List (Nat × Path)) (B : Bs) (bs' : Bl) : Bs := fun b => match resId d b with
  | some j => toB bs' j
  | none => setsB l 0 bs' (killB (killF d l) B) b
def retF (st : St) (l : List (Nat × Path)) (o : Option Nat) (r : V) (bs' : Bl) : St := { T := updO (fun t => kill (killF (o.getD 999) l) (st.T t)) o (ren (resName (o.getD 999)) r), B := impF (o.getD 999) l st.B bs' }
/-- A call to which rows are handed that it may turn. -/
def callF (G : Pg) (st : St) (f : Nat) (args : List V) (d : Option Nat) (K : St → Prop) : Prop :=
  ∃ l r bs', apartB l = true ∧ (l.all fun x => (resId (d.getD 999) x.1).isNone) = true ∧ decide (l.length < 500) = true ∧ clean r = true ∧ (bs'.all fun x => match decide (x.1 < 500) with | true => decide (x.1 < l.length) | false => x.2.1 == false) = true ∧
    handIn st.B l 0 (fun bs => views (foc l 0) (minusB l st.B) args fun args' => Fn G f args' bs r bs') ∧ backOk st.B bs' l 0 ∧ K (retF st l d r bs')
theorem rowsAt_append {B : Bs} {b : Nat} {p q : Path} {t : Bool} {s : Nat} {xs : Row} (h : rowsAt B b p = some (t, s, xs)) : rowsAt B b (p ++ q) = (sub s xs q).map fun z => (t && q.isEmpty, z.1, z.2) := by
  unfold rowsAt at h ⊢
  cases hB : B b with
  | none => rw [hB] at h; cases h
  | some y =>
    obtain ⟨t0, s0, xs0⟩ := y
    rw [hB] at h
    simp only at h ⊢
    obtain ⟨⟨s1, y1⟩, h3, h4⟩ := Option.map_eq_some_iff.1 h
    simp only [Prod.mk.injEq] at h4
    obtain ⟨rfl, rfl, rfl⟩ := h4
    rw [sub_append _ _ _ _ _ _ h3]
    congr 1
    funext z
    cases p <;> cases q <;> simp
theorem Rel.fewer (R : Rel cx M st a w) {B' : Bs} (h : ∀ b x, B' b = some x → st.B b = some x) : Rel cx M { T := st.T, B := B' } a w := by
  have hr : ∀ b q x, rowsAt B' b q = some x → rowsAt st.B b q = some x := fun b q x hx => BLe.rows h hx
  exact ⟨R.defers, R.size, R.regs, fun b q top sz xs hx => R.flat b q top sz xs (hr _ _ _ hx), fun b q b' q' h1 h2 => R.inj b q b' q' (by obtain ⟨x, hx⟩ := Option.isSome_iff_exists.1 h1; rw [hr _ _ _ hx]; rfl) (by obtain ⟨x, hx⟩ := Option.isSome_iff_exists.1 h2; rw [hr _ _ _ hx]; rfl), fun b q top sz xs hx => R.away b q top sz xs (hr _ _ _ hx), R.keep, R.root⟩
end Go.Proofs.Ytniibpihbopehaa.M

/- A small machine over plain values: slices, structs and pointers by what they hold; of no program. Values, places, what a change of a place leaves. -/
import Derived.WalkKit
import Derived.Orders
import Derived.Below
namespace Go.Proofs.Ytniibpihbopehaa.M
open Go
set_option linter.unusedVariables false
/-- A value: a literal; a slice that is only read, by what it holds ('imm'); a slice inside a place, by what it holds ('own'); a pointer to cells that are only read ('pro'); a slice of a box's row ('sl'), a pointer into one ('ptr'). -/
inductive V where
  | lit (v : Value)
  | imm (sz : Nat) (xs : List (List V))
  | own (sz : Nat) (xs : List (List V))
  | pro (cs : List V)
  | sl (b : Nat) (q : List (Nat × Nat)) (sz off len : Nat)
  | ptr (b : Nat) (q : List (Nat × Nat)) (sz i k : Nat)
  | agg (cs : List V)
  | tup (vs : List V)
  | fn (f : Nat) (caps : List V)
  | undef
instance : Inhabited V := ⟨.undef⟩
abbrev Row := List (List V)
abbrev Path := List (Nat × Nat)
/-- A test that is reckoned out. -/
def chk (b : Bool) (P : Prop) : Prop := match b with
  | true => P
  | false => False
theorem chk_iff {b : Bool} {P : Prop} : chk b P ↔ b = true ∧ P := by cases b <;> simp [chk]
def V.isOwn : V → Bool
  | .own _ _ => true
  | _ => false
def cellAt (xs : Row) (i k : Nat) : Option V := (xs[i]?).bind (·[k]?)
/-- The row at a path inside a row: (element, cell) by (element, cell). -/
def sub : Nat → Row → Path → Option (Nat × Row)
  | sz, xs, [] => some (sz, xs)
  | _, xs, (i, k) :: r => match cellAt xs i k with
    | some (.own sz' ys) => sub sz' ys r
    | _ => none
def setCell (xs : Row) (i k : Nat) (v : V) : Row := xs.modify i (·.set k v)
/-- The row at a path is turned by g. -/
def modAt : Row → Path → (Row → Row) → Row
  | xs, [], g => g xs
  | xs, (i, k) :: r, g => match cellAt xs i k with
    | some (.own sz' ys) => setCell xs i k (.own sz' (modAt ys r g))
    | _ => xs
/-- Two rows that differ at most in what their slices hold. -/
def likeV : V → V → Prop
  | .own s xs, .own t ys => s = t ∧ xs.length = ys.length
  | .own _ _, _ => False
  | v, u => v = u
def like (xs ys : Row) : Prop := xs.length = ys.length ∧ (∀ i : Nat, (xs[i]?).map (fun x => x.length) = (ys[i]?).map (fun x => x.length)) ∧ ∀ i k v, cellAt ys i k = some v → ∃ u, cellAt xs i k = some u ∧ likeV u v
theorem likeV.refl (v : V) : likeV v v := by cases v <;> simp [likeV]
theorem like.refl (xs : Row) : like xs xs := ⟨rfl, fun _ => rfl, fun _ _ v h => ⟨v, h, likeV.refl v⟩⟩
theorem cellAt_setCell_same (xs : Row) (i k : Nat) (v u : V) (h : cellAt xs i k = some u) : cellAt (setCell xs i k v) i k = some v := by
  unfold cellAt at h ⊢
  unfold setCell
  rw [List.getElem?_modify]
  cases hx : xs[i]? with
  | none => rw [hx] at h; cases h
  | some x =>
    rw [hx] at h
    simp only [Option.bind_some] at h
    have hk : k < x.length := (List.getElem?_eq_some_iff.1 h).1
    simp [hk]
theorem cellAt_setCell_ne (xs : Row) (i k i' k' : Nat) (v : V) (h : ¬ (i' = i ∧ k' = k)) : cellAt (setCell xs i k v) i' k' = cellAt xs i' k' := by
  unfold cellAt setCell
  rw [List.getElem?_modify]
  cases hx : xs[i']? with
  | none => simp
  | some x =>
    by_cases hi : i = i'
    · subst hi
      have hk : k ≠ k' := fun e => h ⟨rfl, e.symm⟩
      simp [List.getElem?_set_ne hk]
    · simp [hi]
theorem lens_setCell (xs : Row) (i k : Nat) (v : V) (j : Nat) : ((setCell xs i k v)[j]?).map (fun x => x.length) = (xs[j]?).map (fun x => x.length) := by
  unfold setCell
  rw [List.getElem?_modify]
  cases hx : xs[j]? with
  | none => simp
  | some x => by_cases hi : i = j <;> simp [hi]
theorem length_setCell (xs : Row) (i k : Nat) (v : V) : (setCell xs i k v).length = xs.length := by unfold setCell; simp
theorem like_setCell (xs : Row) (i k : Nat) (v u : V) (h : cellAt xs i k = some u) (hl : likeV u v) : like xs (setCell xs i k v) := by
  refine ⟨(length_setCell _ _ _ _).symm, fun j => (lens_setCell _ _ _ _ _).symm, fun i' k' v' h' => ?_⟩
  by_cases e : i' = i ∧ k' = k
  · obtain ⟨rfl, rfl⟩ := e
    rw [cellAt_setCell_same _ _ _ _ _ h] at h'
    cases h'
    exact ⟨u, h, hl⟩
  · rw [cellAt_setCell_ne _ _ _ _ _ _ e] at h'
    exact ⟨v', h', likeV.refl _⟩
theorem length_modAt (xs : Row) (q : Path) (g : Row → Row) (hg : ∀ ys, (g ys).length = ys.length) : (modAt xs q g).length = xs.length := by
  cases q with
  | nil => exact hg xs
  | cons p r =>
    obtain ⟨i, k⟩ := p
    simp only [modAt]
    split
    · exact length_setCell _ _ _ _
    · rfl
theorem sub_modAt_same (sz : Nat) (xs : Row) (q r : Path) (g : Row → Row) (s : Nat) (ys : Row) (h : sub sz xs q = some (s, ys)) : sub sz (modAt xs q g) (q ++ r) = sub s (g ys) r := by
  induction q generalizing sz xs with
  | nil => simp only [sub, Option.some.injEq, Prod.mk.injEq] at h; obtain ⟨rfl, rfl⟩ := h; rfl
  | cons p q ih =>
    obtain ⟨i, k⟩ := p
    simp only [sub] at h
    cases hc : cellAt xs i k with
    | none => rw [hc] at h; cases h
    | some v =>
      rw [hc] at h
      cases v with
      | own s' zs =>
        simp only at h
        simp only [modAt, hc, List.cons_append, sub, cellAt_setCell_same _ _ _ _ _ hc]
        exact ih _ _ h
      | _ => cases h
theorem sub_append (sz : Nat) (xs : Row) (q r : Path) (s : Nat) (ys : Row) (h : sub sz xs q = some (s, ys)) : sub sz xs (q ++ r) = sub s ys r := by
  induction q generalizing sz xs with
  | nil => simp only [sub, Option.some.injEq, Prod.mk.injEq] at h; obtain ⟨rfl, rfl⟩ := h; rfl
  | cons p q ih =>
    obtain ⟨i, k⟩ := p
    simp only [sub] at h
    simp only [List.cons_append, sub]
    cases hc : cellAt xs i k with
    | none => rw [hc] at h; cases h
    | some v =>
      rw [hc] at h
      cases v with
      | own s' zs => exact ih _ _ h
      | _ => cases h
/-- A row that does not stand at or behind the path is alike behind the turn. -/
theorem sub_modAt_other (sz : Nat) (xs : Row) (q q' : Path) (g : Row → Row) (hg : ∀ ys, (g ys).length = ys.length) (hq : ¬ ∃ r, q' = q ++ r) (s : Nat) (ys : Row) (h : sub sz (modAt xs q g) q' = some (s, ys)) :
    ∃ zs, sub sz xs q' = some (s, zs) ∧ like zs ys := by
  induction q generalizing sz xs q' with
  | nil => exact absurd ⟨q', rfl⟩ hq
  | cons p q ih =>
    obtain ⟨i, k⟩ := p
    simp only [modAt] at h
    cases hc : cellAt xs i k with
    | none => rw [hc] at h; exact ⟨ys, h, like.refl _⟩
    | some v =>
      rw [hc] at h
      cases v with
      | own s' zs =>
        simp only at h
        cases q' with
        | nil =>
          simp only [sub, Option.some.injEq, Prod.mk.injEq] at h
          obtain ⟨rfl, rfl⟩ := h
          exact ⟨xs, rfl, like_setCell _ _ _ _ _ hc ⟨rfl, (length_modAt _ _ _ hg).symm⟩⟩
        | cons p' q' =>
          obtain ⟨i', k'⟩ := p'
          by_cases e : i' = i ∧ k' = k
          · obtain ⟨rfl, rfl⟩ := e
            simp only [sub, cellAt_setCell_same _ _ _ _ _ hc] at h
            obtain ⟨ws, h1, h2⟩ := ih s' zs q' (fun ⟨r, hr⟩ => hq ⟨r, by rw [hr]; rfl⟩) h
            exact ⟨ws, by simp only [sub, hc]; exact h1, h2⟩
          · simp only [sub, cellAt_setCell_ne _ _ _ _ _ _ e] at h
            exact ⟨ys, by simp only [sub]; exact h, like.refl _⟩
      | _ => exact ⟨ys, h, like.refl _⟩
end Go.Proofs.Ytniibpihbopehaa.M

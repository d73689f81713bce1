/- A cell that is written: with a value that owns nothing, or with a box's row that goes into it. -/
import Derived.Test.YtniibpihbopehaaN1
namespace Go.Proofs.Ytniibpihbopehaa.M
open Go Go.RowKit
set_option linter.unusedVariables false
set_option linter.unusedSimpArgs false
variable {cx : Cx} {M M' : Mp} {st : St} {a : Act} {w w' : World} {G : Pg} {p : Nat → Path → Bool}
/-- The part of a path behind another. -/
def strip : Path → Path → Option Path
  | [], q => some q
  | _ :: _, [] => none
  | x :: r, y :: q => if x = y then strip r q else none
theorem strip_some : ∀ (r q s : Path), strip r q = some s → q = r ++ s := by
  intro r
  induction r with
  | nil => intro q s h; simp [strip] at h; simp [h]
  | cons x r ih =>
    intro q s h
    cases q with
    | nil => simp [strip] at h
    | cons y q =>
      simp only [strip] at h
      split at h
      · rename_i e; subst e; rw [ih q s h]; rfl
      · cases h
theorem strip_append : ∀ (r s : Path), strip r (r ++ s) = some s := by
  intro r
  induction r with
  | nil => intro s; rfl
  | cons x r ih => intro s; simp [strip, ih]
theorem strip_none {r q : Path} (h : strip r q = none) : ∀ s, q ≠ r ++ s := by
  intro s e; rw [e, strip_append] at h; cases h
/-- A place at or below a cell. -/
def under (b : Nat) (q : Path) (i k : Nat) : Nat → Path → Bool := fun b' q' => b' == b && (strip (q ++ [(i, k)]) q').isSome
theorem under_iff {b : Nat} {q : Path} {i k b' : Nat} {q' : Path} : under b q i k b' q' = true ↔ b' = b ∧ ∃ r, q' = q ++ (i, k) :: r := by
  unfold under
  rw [Bool.and_eq_true, Option.isSome_iff_exists]
  constructor
  · rintro ⟨h1, r, h2⟩
    exact ⟨by simpa using h1, r, by rw [strip_some _ _ _ h2]; simp⟩
  · rintro ⟨rfl, r, rfl⟩
    exact ⟨by simp, r, by rw [show q ++ (i, k) :: r = (q ++ [(i, k)]) ++ r by simp, strip_append]⟩
def setB (B : Bs) (b : Nat) (q : Path) (g : Row → Row) : Bs := fun b' => if b' = b then (B b).map (fun | (t, s, xs) => (t, s, modAt xs q g)) else B b'
/-- The rows behind a turn of the row at (b, q) that keeps its length. -/
theorem rowsAt_setB {B : Bs} {b : Nat} {q : Path} {g : Row → Row} (hg : ∀ ys, (g ys).length = ys.length) {top : Bool} {sz : Nat} {xs : Row} (h0 : rowsAt B b q = some (top, sz, xs)) {b' : Nat} {q' : Path} {t : Bool} {s : Nat} {ys : Row} (h : rowsAt (setB B b q g) b' q' = some (t, s, ys)) :
    (b' = b ∧ ∃ r, q' = q ++ r ∧ sub sz (g xs) r = some (s, ys) ∧ t = (top && r.isEmpty)) ∨ (¬ (b' = b ∧ ∃ r, q' = q ++ r) ∧ ∃ zs, rowsAt B b' q' = some (t, s, zs) ∧ like zs ys) := by
  by_cases hb : b' = b
  · subst hb
    unfold rowsAt at h h0
    simp only [setB, if_true] at h
    cases hB : B b' with
    | none => rw [hB] at h0; cases h0
    | some x =>
      obtain ⟨t0, s0, xs0⟩ := x
      rw [hB] at h0 h
      simp only [Option.map_some] at h
      obtain ⟨⟨s1, ys1⟩, h1, h2⟩ := Option.map_eq_some_iff.1 h
      obtain ⟨⟨sz1, xs1⟩, h3, h4⟩ := Option.map_eq_some_iff.1 h0
      simp only [Prod.mk.injEq] at h2 h4
      obtain ⟨rfl, rfl, rfl⟩ := h2
      obtain ⟨rfl, rfl, rfl⟩ := h4
      cases hs : strip q q' with
      | some r =>
        have e := strip_some _ _ _ hs
        subst e
        refine .inl ⟨rfl, r, rfl, ?_, ?_⟩
        · rw [← sub_modAt_same s0 xs0 q r g _ _ h3]; exact h1
        · cases q <;> cases r <;> simp
      | none =>
        have hne := strip_none hs
        refine .inr ⟨fun ⟨_, r, e⟩ => hne r e, ?_⟩
        obtain ⟨zs, h5, h6⟩ := sub_modAt_other s0 xs0 q q' g hg (fun ⟨r, e⟩ => hne r e) _ _ h1
        exact ⟨zs, by unfold rowsAt; rw [hB]; simp only [h5, Option.map_some], h6⟩
  · have e : rowsAt (setB B b q g) b' q' = rowsAt B b' q' := by unfold rowsAt setB; simp only [hb, if_false]
    rw [e] at h
    exact .inr ⟨fun ⟨h, _⟩ => hb h, ys, h, like.refl ys⟩
theorem likeV.cr {wd : World} {Ro : Nat → Prop} {top : Bool} {b : Nat} {q : Path} {i k : Nat} {v v' : V} {u : Value} (hl : likeV v v') (h : CR M wd Ro top b q i k v u) : CR M wd Ro top b q i k v' u := by
  unfold likeV at hl
  split at hl
  · rename_i s xs t ys
    obtain ⟨rfl, e⟩ := hl
    simp only [CR] at h ⊢
    rw [← e]; exact h
  · exact hl.elim
  · subst hl; exact h
theorem Flat.like {wd : World} {Ro : Nat → Prop} {top : Bool} {b : Nat} {q : Path} {sz : Nat} {xs ys : Row} (F : Flat M wd Ro w top b q sz xs) (hl : like xs ys) : Flat M wd Ro w top b q sz ys where
  lens := by
    intro i y hy
    have := hl.2.1 i
    rw [hy] at this
    obtain ⟨x, hx, e⟩ := Option.map_eq_some_iff.1 this
    exact (show y.length = x.length from e.symm) ▸ F.lens i x hx
  none := fun h => by have := F.none h; subst this; exact List.eq_nil_of_length_eq_zero hl.1.symm
  there := fun A n h => by
    obtain ⟨h1, h2, h3, h4⟩ := F.there A n h
    exact ⟨h1, h2, h3, by rw [← hl.1]; exact h4⟩
  cell := fun A n h i k v hv => by
    obtain ⟨x, hx, e⟩ := hl.2.2 i k v hv
    obtain ⟨u, h1, h2, h3⟩ := F.cell A n h i k x hx
    exact ⟨u, h1, h2, e.cr h3⟩
theorem mul_lt_sz {i k i' k' sz : Nat} (hk : k < sz) (hk' : k' < sz) (h : i * sz + k = i' * sz + k') : i = i' ∧ k = k' := by
  have hsz : 0 < sz := by omega
  have e1 : (i * sz + k) / sz = i := by rw [Nat.mul_comm, Nat.mul_add_div hsz, Nat.div_eq_of_lt hk]; omega
  have e2 : (i' * sz + k') / sz = i' := by rw [Nat.mul_comm, Nat.mul_add_div hsz, Nat.div_eq_of_lt hk']; omega
  have : i = i' := by rw [← e1, ← e2, h]
  subst this
  exact ⟨rfl, by omega⟩
theorem cellAt_lt {xs : Row} {i k : Nat} {v : V} (h : cellAt xs i k = some v) : i < xs.length ∧ ∀ x, xs[i]? = some x → k < x.length := by
  unfold cellAt at h
  cases hx : xs[i]? with
  | none => rw [hx] at h; cases h
  | some x =>
    rw [hx] at h
    refine ⟨(List.getElem?_eq_some_iff.1 hx).1, fun y hy => ?_⟩
    cases hy
    exact (List.getElem?_eq_some_iff.1 h).1
theorem Flat.k_lt {wd : World} {Ro : Nat → Prop} {top : Bool} {b : Nat} {q : Path} {sz : Nat} {xs : Row} (F : Flat M wd Ro w top b q sz xs) {i k : Nat} {v : V} (h : cellAt xs i k = some v) : k < sz := by
  obtain ⟨h1, h2⟩ := cellAt_lt h
  have := F.lens i _ (List.getElem?_eq_getElem h1)
  rw [← this]
  exact h2 _ (List.getElem?_eq_getElem h1)
theorem Rel.base (R : Rel cx M st a w) {b : Nat} {q : Path} {top : Bool} {sz : Nat} {xs : Row} (h : rowsAt st.B b q = some (top, sz, xs)) {i k : Nat} {v : V} (hc : cellAt xs i k = some v) : ∃ A n, M b q = some (A, n) := by
  cases hM : M b q with
  | some x => exact ⟨x.1, x.2, rfl⟩
  | none => have := (R.flat b q top sz xs h).none hM; subst this; simp [cellAt] at hc
/-- The row where a cell is written, behind the store. -/
theorem Flat.set {wd : World} {Ro : Nat → Prop} {top : Bool} {b : Nat} {q : Path} {sz : Nat} {xs : Row} (F : Flat M wd Ro w top b q sz xs) {A : Addr} {n : Nat} (hA : M b q = some (A, n)) {i k : Nat} {v0 : V} (hc : cellAt xs i k = some v0) (v : V) (u : Value) (hu : u.oneCell' = true)
    (hM : ∀ b q, p b q = false → M' b q = M b q) (hq : p b q = false) (hown : ∀ i' k' s ys, ¬ (i' = i ∧ k' = k) → cellAt xs i' k' = some (.own s ys) → p b (q ++ [(i', k')]) = false)
    (hv : CR M' wd Ro top b q i k (if top = true then kill p v else v) u) : Flat M' wd Ro (w.setCell ⟨A.block, A.off + i * sz + k, Option.none⟩ u) top b q sz (killRow p top (setCell xs i k v)) := by
  obtain ⟨hsp, ⟨c, e, f, hheap, hsize⟩, hfree, hfit⟩ := F.there A n hA
  have hkl := F.k_lt hc
  refine ⟨?_, ?_, ?_, ?_⟩
  · intro j x hx
    have := killRow_lens p top (setCell xs i k v) j
    rw [hx, lens_setCell] at this
    obtain ⟨y, hy1, hy2⟩ := Option.map_eq_some_iff.1 this.symm
    exact (show x.length = y.length from hy2.symm) ▸ F.lens j y hy1
  · intro h; rw [hM b q hq, hA] at h; cases h
  · intro A' n' h
    rw [hM b q hq, hA] at h; cases h
    refine ⟨hsp, ⟨c.setIfInBounds (A.off + i * sz + k) u, e, f, ?_, by simp [hsize]⟩, fun o ho => by rw [World.frozen?_setCell]; exact hfree o ho, by rw [killRow_length, length_setCell]; exact hfit⟩
    simp [World.setCell, Array.getElem?_modify, hheap]
  · intro A' n' h i' k' x hx
    rw [hM b q hq, hA] at h; cases h
    rw [killRow_cell] at hx
    obtain ⟨x', hx', rfl⟩ := Option.map_eq_some_iff.1 hx
    by_cases e : i' = i ∧ k' = k
    · obtain ⟨rfl, rfl⟩ := e
      rw [cellAt_setCell_same _ _ _ _ _ hc] at hx'
      cases hx'
      obtain ⟨u0, h1, h2, h3⟩ := F.cell A n hA i' k' v0 hc
      refine ⟨u, World.cell?_setCell_same w _ u h1, hu, ?_⟩
      cases top <;> exact hv
    · rw [cellAt_setCell_ne _ _ _ _ _ _ e] at hx'
      obtain ⟨u0, h1, h2, h3⟩ := F.cell A n hA i' k' x' hx'
      refine ⟨u0, ?_, h2, ?_⟩
      · rw [World.cell?_setCell_other w _ _ _ (fun h => by
          simp only [Addr.mk.injEq, and_true, true_and] at h
          have := mul_lt_sz hkl (F.k_lt hx') (by omega : i * sz + k = i' * sz + k')
          exact e ⟨this.1.symm, this.2.symm⟩)]
        exact h1
      · have hq2 : p b (q ++ [(i', k')]) = false ∨ x'.isOwn = false := by
          cases x' <;> first | exact .inr rfl | exact .inl (hown _ _ _ _ e hx')
        cases top with
        | true => simp only [if_true]; exact h3.struck hM hq2
        | false =>
          simp only [Bool.false_eq_true, if_false, id]
          have := h3.struck hM hq2
          cases x' <;> rw [Go.Proofs.Ytniibpihbopehaa.M.kill] at this <;> first | exact this | (exact absurd h3.1 (by simp))
end Go.Proofs.Ytniibpihbopehaa.M

/- Rows that are handed to a call which may turn them. -/
import Derived.Test.YtniibpihbopehaaO8
namespace Go.Proofs.Ytniibpihbopehaa.M
open Go Go.RowKit
set_option linter.unusedVariables false
set_option linter.unusedSimpArgs false
variable {cx : Cx} {M M' : Mp} {st : St} {a : Act} {w w' : World} {G : Pg} {p : Nat → Path → Bool}
theorem sub_modAt_else (sz : Nat) (xs : Row) (q q' : Path) (g : Row → Row) (hg : ∀ ys, (g ys).length = ys.length) (hq : ¬ ∃ r, q' = q ++ r) (s : Nat) (zs : Row) (h : sub sz xs q' = some (s, zs)) (hq2 : ¬ ∃ r, q = q' ++ r) :
    sub sz (modAt xs q g) q' = some (s, zs) := by
  induction q generalizing sz xs q' with
  | nil => exact absurd ⟨q', rfl⟩ hq
  | cons p q ih =>
    obtain ⟨i, k⟩ := p
    simp only [modAt]
    cases hc : cellAt xs i k with
    | none => exact h
    | some v =>
      cases v with
      | own s' ws =>
        simp only
        cases q' with
        | nil => exact absurd ⟨_, rfl⟩ hq2
        | cons p' q' =>
          obtain ⟨i', k'⟩ := p'
          by_cases e : i' = i ∧ k' = k
          · obtain ⟨rfl, rfl⟩ := e
            simp only [sub, hc] at h
            simp only [sub, cellAt_setCell_same _ _ _ _ _ hc]
            exact ih s' ws q' (fun ⟨r, hr⟩ => hq ⟨r, by rw [hr]; rfl⟩) h (fun ⟨r, hr⟩ => hq2 ⟨r, by rw [hr]; rfl⟩)
          · simp only [sub, cellAt_setCell_ne _ _ _ _ _ _ e]
            exact h
      | _ => exact h
theorem likeV.trans {x y z : V} (h1 : likeV x y) (h2 : likeV y z) : likeV x z := by
  by_cases hx : ∃ s xs, x = .own s xs
  · obtain ⟨s, xs, rfl⟩ := hx
    cases y with
    | own s' ys =>
      cases z with
      | own s'' zs => exact ⟨h1.1.trans h2.1, h1.2.trans h2.2⟩
      | _ => exact h2.elim
    | _ => exact h1.elim
  · have e : x = y := by
      unfold likeV at h1
      split at h1
      · exact absurd ⟨_, _, rfl⟩ hx
      · exact h1.elim
      · exact h1
    subst e; exact h2
/-- The first of the places that a row lies at or below. -/
def foc : List (Nat × Path) → Nat → Nat → Path → Option (Nat × Path)
  | [], _, _, _ => none
  | (b0, p) :: l, j, b, q => match decide (b = b0) with
    | true => match strip p q with
      | some r => some (j, r)
      | none => foc l (j + 1) b q
    | false => foc l (j + 1) b q
def apart1 (b : Nat) (p : Path) : List (Nat × Path) → Bool
  | [] => true
  | (b', p') :: l => (!decide (b = b') || ((strip p p').isNone && (strip p' p).isNone)) && apart1 b p l
def apartB : List (Nat × Path) → Bool
  | [] => true
  | (b, p) :: l => apart1 b p l && apartB l
theorem foc_some : ∀ (l : List (Nat × Path)) (j b : Nat) (q : Path) (j' : Nat) (r : Path), foc l j b q = some (j', r) → ∃ i p, j' = j + i ∧ l[i]? = some (b, p) ∧ q = p ++ r := by
  intro l
  induction l with
  | nil => intro j b q j' r h; cases h
  | cons x l ih =>
    obtain ⟨b0, p⟩ := x
    intro j b q j' r h
    have next : foc l (j + 1) b q = some (j', r) → ∃ i p', j' = j + i ∧ ((b0, p) :: l)[i]? = some (b, p') ∧ q = p' ++ r := by
      intro h
      obtain ⟨i, p', h1, h2, h3⟩ := ih _ _ _ _ _ h
      exact ⟨i + 1, p', by omega, by simpa using h2, h3⟩
    simp only [foc] at h
    split at h
    · rename_i e
      split at h
      · rename_i r' hs
        simp only [Option.some.injEq, Prod.mk.injEq] at h
        obtain ⟨rfl, rfl⟩ := h
        have := of_decide_eq_true e
        subst this
        exact ⟨0, p, rfl, rfl, strip_some _ _ _ hs⟩
      · exact next h
    · exact next h
theorem foc_none : ∀ (l : List (Nat × Path)) (j b : Nat) (q : Path), foc l j b q = none → ∀ p, (b, p) ∈ l → ∀ r, q ≠ p ++ r := by
  intro l
  induction l with
  | nil => intro j b q h p hp; simp at hp
  | cons x l ih =>
    obtain ⟨b0, p0⟩ := x
    intro j b q h p hp r
    simp only [foc] at h
    rcases List.mem_cons.1 hp with e | hp
    · cases e
      rw [decide_eq_true rfl] at h
      simp only at h
      split at h
      · cases h
      · rename_i hs; exact strip_none hs r
    · split at h
      · split at h
        · cases h
        · exact ih _ _ _ h p hp r
      · exact ih _ _ _ h p hp r
theorem apart1_get {b : Nat} {p : Path} : ∀ (l : List (Nat × Path)), apart1 b p l = true → ∀ p', (b, p') ∈ l → strip p p' = none ∧ strip p' p = none := by
  intro l
  induction l with
  | nil => intro _ p' h; simp at h
  | cons x l ih =>
    obtain ⟨b0, p0⟩ := x
    intro h p' hm
    simp only [apart1, Bool.and_eq_true] at h
    rcases List.mem_cons.1 hm with e | hm
    · cases e
      have := h.1
      simpa using this
    · exact ih h.2 p' hm
theorem prefix_two : ∀ (p p' r r' : Path), p ++ r = p' ++ r' → strip p p' = none → ∃ s, p = p' ++ s := by
  intro p
  induction p with
  | nil => intro p' r r' _ h; simp [strip] at h
  | cons x p ih =>
    intro p' r r' e h
    cases p' with
    | nil => exact ⟨_, rfl⟩
    | cons y p' =>
      simp only [List.cons_append, List.cons.injEq] at e
      obtain ⟨rfl, e⟩ := e
      simp only [strip, if_true] at h
      obtain ⟨s, rfl⟩ := ih p' r r' e h
      exact ⟨s, rfl⟩
theorem foc_of : ∀ (l : List (Nat × Path)) (j : Nat), apartB l = true → ∀ (i b : Nat) (p : Path), l[i]? = some (b, p) → ∀ r, foc l j b (p ++ r) = some (j + i, r) := by
  intro l
  induction l with
  | nil => intro j _ i b p h; simp at h
  | cons x l ih =>
    obtain ⟨b0, p0⟩ := x
    intro j ha i b p h r
    simp only [apartB, Bool.and_eq_true] at ha
    cases i with
    | zero =>
      simp only [List.getElem?_cons_zero, Option.some.injEq, Prod.mk.injEq] at h
      obtain ⟨rfl, rfl⟩ := h
      simp only [foc, decide_true, strip_append]
      rfl
    | succ i =>
      have hi : l[i]? = some (b, p) := by simpa using h
      have g := ih (j + 1) ha.2 i b p hi r
      simp only [foc]
      split
      · rename_i e
        have := of_decide_eq_true e
        subst this
        obtain ⟨h1, h2⟩ := apart1_get _ ha.1 p (List.mem_of_getElem? hi)
        cases hs : strip p0 (p ++ r) with
        | none => simp only; rw [g, show j + 1 + i = j + (i + 1) by omega]
        | some r' =>
          have e2 := strip_some _ _ _ hs
          obtain ⟨s, rfl⟩ := prefix_two _ _ _ _ e2.symm h1
          rw [strip_append] at h2
          cases h2
      · rw [g, show j + 1 + i = j + (i + 1) by omega]
/-- The rows that come back. -/
def newRow (bs' : Bl) (j : Nat) (ys : Row) : Row := match toB bs' j with
  | some (_, _, xs) => match decide (xs.length = ys.length) with
    | true => xs
    | false => ys
  | none => ys
theorem newRow_length (bs' : Bl) (j : Nat) (ys : Row) : (newRow bs' j ys).length = ys.length := by
  unfold newRow
  split
  · split
    · rename_i h; exact of_decide_eq_true h
    · rfl
  · rfl
def setsB : List (Nat × Path) → Nat → Bl → Bs → Bs
  | [], _, _, B => B
  | (b, p) :: l, j, bs', B => setB (setsB l (j + 1) bs' B) b p (newRow bs' j)
theorem rowsAt_setB_else {B : Bs} {b : Nat} {q : Path} {g : Row → Row} (hg : ∀ ys, (g ys).length = ys.length) {b' : Nat} {q' : Path} (h1 : b' = b → strip q q' = none ∧ strip q' q = none) {x : Bool × Nat × Row} (h : rowsAt B b' q' = some x) : rowsAt (setB B b q g) b' q' = some x := by
  by_cases hb : b' = b
  · subst hb
    obtain ⟨h1, h2⟩ := h1 rfl
    obtain ⟨t, s, ys⟩ := x
    unfold rowsAt setB at *
    simp only [if_true]
    cases hB : B b' with
    | none => rw [hB] at h; cases h
    | some x =>
      obtain ⟨t0, s0, xs0⟩ := x
      rw [hB] at h
      simp only [Option.map_some] at h ⊢
      obtain ⟨⟨s1, ys1⟩, h3, h4⟩ := Option.map_eq_some_iff.1 h
      rw [sub_modAt_else s0 xs0 q q' g hg (fun ⟨r, e⟩ => strip_none h1 r e) _ _ h3 (fun ⟨r, e⟩ => strip_none h2 r e)]
      rw [h3] at h
      exact h
  · have e : rowsAt (setB B b q g) b' q' = rowsAt B b' q' := by unfold rowsAt setB; simp only [hb, if_false]
    rw [e]; exact h
theorem sets_else {b : Nat} {p : Path} {x : Bool × Nat × Row} : ∀ (l : List (Nat × Path)) (j : Nat) (bs' : Bl) (B : Bs), apart1 b p l = true → rowsAt B b p = some x → rowsAt (setsB l j bs' B) b p = some x := by
  intro l
  induction l with
  | nil => intro j bs' B _ h; exact h
  | cons y l ih =>
    obtain ⟨b0, p0⟩ := y
    intro j bs' B ha h
    simp only [apart1, Bool.and_eq_true] at ha
    refine rowsAt_setB_else (newRow_length bs' j) (fun e => ?_) (ih (j + 1) bs' B ha.2 h)
    subst e
    have := ha.1
    simp only [decide_true, Bool.not_true, Bool.false_or, Bool.and_eq_true, Option.isNone_iff_eq_none] at this
    exact ⟨this.2, this.1⟩
theorem rowsAt_toB {bs : Bl} {j : Nat} {t : Bool} {sz : Nat} {xs : Row} (h : toB bs j = some (t, sz, xs)) (r : Path) : rowsAt (toB bs) j r = (sub sz xs r).map fun p => (t && r.isEmpty, p.1, p.2) := by
  unfold rowsAt; rw [h]
/-- What lives when rows have come back. -/
theorem sets_live {bs' : Bl} : ∀ (l : List (Nat × Path)) (j : Nat) (B : Bs), apartB l = true →
    (∀ (i b : Nat) (p : Path), l[i]? = some (b, p) → ∃ t sz xs xs', rowsAt B b p = some (t, sz, xs) ∧ toB bs' (j + i) = some (t, sz, xs') ∧ xs'.length = xs.length) →
    ∀ b q t s ys, rowsAt (setsB l j bs' B) b q = some (t, s, ys) → (∃ i r, foc l j b q = some (j + i, r) ∧ rowsAt (toB bs') (j + i) r = some (t, s, ys)) ∨ (foc l j b q = none ∧ ∃ zs, rowsAt B b q = some (t, s, zs) ∧ like zs ys) := by
  intro l
  induction l with
  | nil => intro j B _ _ b q t s ys h; exact .inr ⟨rfl, ys, h, like.refl _⟩
  | cons x l ih =>
    obtain ⟨b0, p0⟩ := x
    intro j B ha hb b q t s ys h
    simp only [apartB, Bool.and_eq_true] at ha
    obtain ⟨t0, sz0, xs0, xs1, c1, c2, c3⟩ := hb 0 b0 p0 rfl
    have h0 := sets_else l (j + 1) bs' B ha.1 c1
    have hnew : newRow bs' j xs0 = xs1 := by
      unfold newRow
      rw [show toB bs' j = some (t0, sz0, xs1) from c2]
      simp only [c3, decide_true]
    rcases rowsAt_setB (newRow_length bs' j) h0 h with ⟨rfl, r, rfl, h1, rfl⟩ | ⟨h1, zs, h2, h3⟩
    · refine .inl ⟨0, r, ?_, ?_⟩
      · simp only [foc, decide_true, strip_append]; rfl
      · rw [rowsAt_toB c2]
        rw [hnew] at h1
        rw [h1]
        rfl
    · have hf : foc ((b0, p0) :: l) j b q = foc l (j + 1) b q := by
        simp only [foc]
        split
        · rename_i e
          have := of_decide_eq_true e
          subst this
          split
          · rename_i r hs
            exact absurd ⟨rfl, r, strip_some _ _ _ hs⟩ h1
          · rfl
        · rfl
      have hih := ih (j + 1) B ha.2 (fun i b p hi => by
        have := hb (i + 1) b p (by simpa using hi)
        rw [show j + 1 + i = j + (i + 1) by omega]; exact this) b q t s zs h2
      rcases hih with ⟨i, r, g1, g2⟩ | ⟨g1, ws, g2, g3⟩
      · refine .inl ⟨i + 1, r, ?_, ?_⟩
        · rw [hf, g1, show j + 1 + i = j + (i + 1) by omega]
        · -- below another place: untouched by this store
          rw [show j + (i + 1) = j + 1 + i by omega, g2]
          have key : zs = ys := by
            obtain ⟨i', p, e1, e2, e3⟩ := foc_some _ _ _ _ _ _ g1
            by_cases eb : b = b0
            · subst eb
              obtain ⟨a1, a2⟩ := apart1_get _ ha.1 p (List.mem_of_getElem? e2)
              subst e3
              have hs1 : strip p0 (p ++ r) = none := by
                cases hs : strip p0 (p ++ r) with
                | none => rfl
                | some r' => exact absurd ⟨rfl, r', strip_some _ _ _ hs⟩ h1
              have hs2 : strip (p ++ r) p0 = none := by
                cases hs : strip (p ++ r) p0 with
                | none => rfl
                | some r' =>
                  have := strip_some _ _ _ hs
                  rw [this, List.append_assoc, strip_append] at a2
                  cases a2
              have := rowsAt_setB_else (newRow_length bs' j) (b := b) (q := p0) (fun _ => ⟨hs1, hs2⟩) h2
              have h' : rowsAt (setB (setsB l (j + 1) bs' B) b p0 (newRow bs' j)) b (p ++ r) = some (t, s, ys) := h
              rw [this] at h'
              simp only [Option.some.injEq, Prod.mk.injEq, true_and] at h'
              exact h'
            · have h' : rowsAt (setB (setsB l (j + 1) bs' B) b0 p0 (newRow bs' j)) b q = some (t, s, ys) := h
              rw [rowsAt_setB_else (newRow_length bs' j) (fun e => absurd e eb) h2] at h'
              simp only [Option.some.injEq, Prod.mk.injEq, true_and] at h'
              exact h'
          rw [key]
      · refine .inr ⟨by rw [hf]; exact g1, ws, g2, ?_⟩
        refine ⟨g3.1.trans h3.1, fun k => (g3.2.1 k).trans (h3.2.1 k), fun i k v hv => ?_⟩
        obtain ⟨u, e1, e2⟩ := h3.2.2 i k v hv
        obtain ⟨u', e3, e4⟩ := g3.2.2 i k u e1
        exact ⟨u', e3, e4.trans e2⟩
end Go.Proofs.Ytniibpihbopehaa.M

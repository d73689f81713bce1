/- A slice's row goes out of a cell, into a box of its own: nothing is done in memory. -/
import Derived.Test.YtniibpihbopehaaN4
namespace Go.Proofs.Ytniibpihbopehaa.M
open Go Go.RowKit
set_option linter.unusedVariables false
set_option linter.unusedSimpArgs false
variable {cx : Cx} {M M' : Mp} {st : St} {a : Act} {w w' : World} {G : Pg} {p : Nat → Path → Bool}
theorem Rel.release (R : Rel cx M st a w) {b : Nat} {q : Path} {top : Bool} {sz : Nat} {xs : Row} (h0 : rowsAt st.B b q = some (top, sz, xs)) {i k s2 : Nat} {ys0 : Row} (hc : cellAt xs i k = some (.own s2 ys0)) (d : Nat) (hdb : d ≠ b) (h5 : 500 ≤ d)
    (p : Nat → Path → Bool) (hp : p = fun b' q' => b' == d || under b q i k b' q') :
    ∃ M', Rel cx M' { T := fun t => kill p (st.T t), B := upd (killB p (setB st.B b q (fun ys => setCell ys i k .undef))) d (some (false, s2, ys0)) } a w ∧ (∀ r, M' d r = M b (q ++ (i, k) :: r)) ∧ (∀ b' q', p b' q' = false → M' b' q' = M b' q') := by
  obtain ⟨M', hM'⟩ : ∃ M' : Mp, M' = fun b' q' => if b' = d then M b (q ++ (i, k) :: q') else if under b q i k b' q' = true then none else M b' q' := ⟨_, rfl⟩
  have pf : ∀ b' q', p b' q' = false ↔ b' ≠ d ∧ under b q i k b' q' = false := by intro b' q'; rw [hp]; simp
  have hM : ∀ b' q', p b' q' = false → M' b' q' = M b' q' := by
    intro b' q' h
    obtain ⟨h1, h2⟩ := (pf _ _).1 h
    rw [hM']; simp [h1, h2]
  have hD : ∀ r, M' d r = M b (q ++ (i, k) :: r) := by intro r; rw [hM']; simp
  refine ⟨M', ?_, hD, hM⟩
  have F := R.flat b q top sz xs h0
  have inner : ∀ r s zs, sub s2 ys0 r = some (s, zs) → rowsAt st.B b (q ++ (i, k) :: r) = some (false, s, zs) := by
    intro r s zs h
    unfold rowsAt at h0 ⊢
    cases hB : st.B b with
    | none => rw [hB] at h0; cases h0
    | some x =>
      obtain ⟨t0, s0, xs0⟩ := x
      rw [hB] at h0
      simp only at h0 ⊢
      obtain ⟨⟨sz1, xs1⟩, h3, h4⟩ := Option.map_eq_some_iff.1 h0
      simp only [Prod.mk.injEq] at h4
      obtain ⟨rfl, rfl, rfl⟩ := h4
      rw [sub_append _ _ _ _ _ _ h3]
      simp only [sub, hc, h, Option.map_some]
      simp
  have live : ∀ b' q' t s ys, rowsAt (upd (killB p (setB st.B b q (fun ys => setCell ys i k .undef))) d (some (false, s2, ys0))) b' q' = some (t, s, ys) →
      (b' = d ∧ t = false ∧ rowsAt st.B b (q ++ (i, k) :: q') = some (false, s, ys)) ∨ (b' ≠ d ∧ b' = b ∧ q' = q ∧ t = top ∧ s = sz ∧ ys = killRow p top (setCell xs i k .undef)) ∨ (b' ≠ d ∧ ¬ (b' = b ∧ q' = q) ∧ under b q i k b' q' = false ∧ ∃ zs zs', rowsAt st.B b' q' = some (t, s, zs) ∧ like zs zs' ∧ ys = killRow p t zs') := by
    intro b' q' t s ys h
    by_cases hne : b' = d
    · subst hne
      rw [rowsAt_box (upd_same _ _ _)] at h
      obtain ⟨⟨s', zs⟩, h1, h2⟩ := Option.map_eq_some_iff.1 h
      simp only [Bool.false_and, Prod.mk.injEq] at h2
      obtain ⟨rfl, rfl, rfl⟩ := h2
      exact .inl ⟨rfl, rfl, inner _ _ _ h1⟩
    · have e : rowsAt (upd (killB p (setB st.B b q (fun ys => setCell ys i k .undef))) d (some (false, s2, ys0))) b' q' = rowsAt (killB p (setB st.B b q (fun ys => setCell ys i k .undef))) b' q' := by unfold rowsAt; rw [upd_ne _ _ _ _ hne]
      rw [e, rowsAt_killB] at h
      obtain ⟨⟨t', s', zs⟩, h1, h2⟩ := Option.map_eq_some_iff.1 h
      simp only [Prod.mk.injEq] at h2
      obtain ⟨rfl, rfl, rfl⟩ := h2
      rcases set_live h0 hc h1 with ⟨rfl, rfl, rfl, rfl, rfl⟩ | ⟨rfl, rfl, s3, zs3, r, e3, _⟩ | ⟨h3, h4, zs2, h5, h6⟩
      · exact .inr (.inl ⟨hne, rfl, rfl, rfl, rfl, rfl⟩)
      · cases e3
      · exact .inr (.inr ⟨hne, h3, h4, zs2, zs, h5, h6, rfl⟩)
  have hself : p b q = false := (pf _ _).2 ⟨Ne.symm hdb, not_under_self b q i k⟩
  have hroot : ∀ b', b' < 500 → p b' [] = false := fun b' hb' => (pf _ _).2 ⟨by omega, by cases hu : under b q i k b' [] with | false => rfl | true => obtain ⟨_, r, hr⟩ := under_iff.1 hu; simp at hr⟩
  refine R.change p _ hM ?_ ?_ ?_ R.keep hroot
  · intro b' q' t s ys h
    rcases live b' q' t s ys h with ⟨rfl, rfl, h1⟩ | ⟨hne, rfl, rfl, rfl, rfl, rfl⟩ | ⟨hne, h1, h2, zs, zs', h3, h4, rfl⟩
    · exact (R.flat _ _ _ _ _ h1).moved (hD q') (fun i' k' => by rw [hD]; simp) (fun _ _ _ => rfl)
    · refine ⟨?_, ?_, ?_, ?_⟩
      · intro j x hx
        have := killRow_lens p t (setCell xs i k .undef) j
        rw [hx, lens_setCell] at this
        obtain ⟨y, hy1, hy2⟩ := Option.map_eq_some_iff.1 this.symm
        exact (show x.length = y.length from hy2.symm) ▸ F.lens j y hy1
      · intro h; rw [hM _ _ hself] at h; have := F.none h; subst this; simp [cellAt] at hc
      · intro A n h
        rw [hM _ _ hself] at h
        obtain ⟨h1, h2, h3, h4⟩ := F.there A n h
        exact ⟨h1, h2, h3, by rw [killRow_length, length_setCell]; exact h4⟩
      · intro A n hAA i' k' x hx
        rw [hM _ _ hself] at hAA
        rw [killRow_cell] at hx
        obtain ⟨x', hx', rfl⟩ := Option.map_eq_some_iff.1 hx
        by_cases e : i' = i ∧ k' = k
        · obtain ⟨rfl, rfl⟩ := e
          rw [cellAt_setCell_same _ _ _ _ _ hc] at hx'
          cases hx'
          obtain ⟨u0, h1, h2, h3⟩ := F.cell A n hAA i' k' _ hc
          refine ⟨u0, h1, h2, ?_⟩
          have : (if t = true then kill p else id) V.undef = V.undef := by split <;> first | rfl | (rw [kill])
          rw [this]; trivial
        · rw [cellAt_setCell_ne _ _ _ _ _ _ e] at hx'
          obtain ⟨u0, h1, h2, h3⟩ := F.cell A n hAA i' k' x' hx'
          refine ⟨u0, h1, h2, ?_⟩
          have hq2 : p b' (q' ++ [(i', k')]) = false ∨ x'.isOwn = false := .inl ((pf _ _).2 ⟨Ne.symm hdb, not_under_other e⟩)
          cases t with
          | true => simp only [if_true]; exact h3.struck hM hq2
          | false =>
            simp only [Bool.false_eq_true, if_false, id]
            have := h3.struck hM hq2
            cases x' <;> rw [Go.Proofs.Ytniibpihbopehaa.M.kill] at this <;> first | exact this | (exact absurd h3.1 (by simp))
    · exact ((R.flat b' q' t s zs h3).like h4).struck hM ((pf _ _).2 ⟨hne, h2⟩) (fun i' k' s' ys' hx => (pf _ _).2 ⟨hne, killed_away h1 h2⟩) (fun A' n' hA' => rfl)
  · intro b1 q1 b2 q2 hl1 hl2 A1 n1 A2 n2 hA1 hA2 hbl
    obtain ⟨⟨t1, s1, y1⟩, hl1⟩ := Option.isSome_iff_exists.1 hl1
    obtain ⟨⟨t2, s2', y2⟩, hl2⟩ := Option.isSome_iff_exists.1 hl2
    have old : ∀ b' q' t s ys A' n', rowsAt (upd (killB p (setB st.B b q (fun ys => setCell ys i k .undef))) d (some (false, s2, ys0))) b' q' = some (t, s, ys) → M' b' q' = some (A', n') →
        ∃ bo qo, (rowsAt st.B bo qo).isSome = true ∧ M bo qo = some (A', n') ∧ ((under b q i k bo qo = false ∧ b' = bo ∧ q' = qo) ∨ (under b q i k bo qo = true ∧ bo = b ∧ b' = d ∧ qo = q ++ (i, k) :: q')) := by
      intro b' q' t s ys A' n' h hA'
      rcases live b' q' t s ys h with ⟨rfl, rfl, h1⟩ | ⟨hne, rfl, rfl, _⟩ | ⟨hne, h1, h2, zs, zs', h3, _⟩
      · rw [hD] at hA'; exact ⟨_, _, by rw [h1]; rfl, hA', .inr ⟨under_iff.2 ⟨rfl, _, rfl⟩, rfl, rfl, rfl⟩⟩
      · rw [hM _ _ hself] at hA'; exact ⟨_, _, by rw [h0]; rfl, hA', .inl ⟨not_under_self _ _ _ _, rfl, rfl⟩⟩
      · rw [hM _ _ ((pf _ _).2 ⟨hne, h2⟩)] at hA'; exact ⟨_, _, by rw [h3]; rfl, hA', .inl ⟨h2, rfl, rfl⟩⟩
    obtain ⟨bo1, qo1, o1, o2, o3⟩ := old _ _ _ _ _ _ _ hl1 hA1
    obtain ⟨bo2, qo2, o4, o5, o6⟩ := old _ _ _ _ _ _ _ hl2 hA2
    obtain ⟨rfl, rfl⟩ := R.inj _ _ _ _ o1 o4 _ _ _ _ o2 o5 hbl
    rcases o3 with ⟨c1, rfl, rfl⟩ | ⟨c1, e1, rfl, e3⟩ <;> rcases o6 with ⟨c2, rfl, rfl⟩ | ⟨c2, e4, rfl, e6⟩
    · exact ⟨rfl, rfl⟩
    · rw [c1] at c2; cases c2
    · rw [c1] at c2; cases c2
    · rw [e3] at e6; simp at e6; exact ⟨rfl, e6⟩
  · intro b' q' t s ys h A' n' hA'
    rcases live b' q' t s ys h with ⟨rfl, rfl, h1⟩ | ⟨hne, rfl, rfl, rfl, rfl, rfl⟩ | ⟨hne, h1, h2, zs, zs', h3, h4, rfl⟩
    · rw [hD] at hA'
      exact R.away _ _ _ _ _ h1 _ _ hA'
    · rw [hM _ _ hself] at hA'
      rw [killRow_length, length_setCell]
      exact R.away _ _ _ _ _ h0 _ _ hA'
    · rw [hM _ _ ((pf _ _).2 ⟨hne, h2⟩)] at hA'
      rw [killRow_length, ← h4.1]
      exact R.away _ _ _ _ _ h3 _ _ hA'
end Go.Proofs.Ytniibpihbopehaa.M

/- A store of one cell: what lives behind it, and that the state stays one. -/
import Derived.Test.YtniibpihbopehaaN2
namespace Go.Proofs.Ytniibpihbopehaa.M
open Go Go.RowKit
set_option linter.unusedVariables false
set_option linter.unusedSimpArgs false
variable {cx : Cx} {M M' : Mp} {st : St} {a : Act} {w w' : World} {G : Pg} {p : Nat → Path → Bool}
theorem set_live {B : Bs} {b : Nat} {q : Path} {i k : Nat} {v v0 : V} {top : Bool} {sz : Nat} {xs : Row} (h0 : rowsAt B b q = some (top, sz, xs)) (hc : cellAt xs i k = some v0) {b' : Nat} {q' : Path} {t : Bool} {s : Nat} {ys : Row} (h : rowsAt (setB B b q (fun ys => setCell ys i k v)) b' q' = some (t, s, ys)) :
    (b' = b ∧ q' = q ∧ t = top ∧ s = sz ∧ ys = setCell xs i k v) ∨ (b' = b ∧ t = false ∧ ∃ s2 zs r, v = .own s2 zs ∧ q' = q ++ (i, k) :: r ∧ sub s2 zs r = some (s, ys)) ∨
      (¬ (b' = b ∧ q' = q) ∧ under b q i k b' q' = false ∧ ∃ zs, rowsAt B b' q' = some (t, s, zs) ∧ like zs ys) := by
  rcases rowsAt_setB (fun ys => length_setCell ys i k v) h0 h with ⟨rfl, r, rfl, h1, rfl⟩ | ⟨h1, h2⟩
  · cases r with
    | nil =>
      simp only [sub, Option.some.injEq, Prod.mk.injEq] at h1
      exact .inl ⟨rfl, by simp, by simp, h1.1.symm, h1.2.symm⟩
    | cons y r =>
      obtain ⟨i', k'⟩ := y
      by_cases e : i' = i ∧ k' = k
      · obtain ⟨rfl, rfl⟩ := e
        simp only [sub, cellAt_setCell_same _ _ _ _ _ hc] at h1
        cases v <;> simp only [reduceCtorEq] at h1
        case own s2 zs => exact .inr (.inl ⟨rfl, by simp, s2, zs, r, rfl, rfl, h1⟩)
      · refine .inr (.inr ⟨fun ⟨_, h⟩ => by simp at h, ?_, ys, ?_, like.refl _⟩)
        · cases hu : under b' q i k b' (q ++ (i', k') :: r) with
          | false => rfl
          | true =>
            obtain ⟨_, r2, hr⟩ := under_iff.1 hu
            simp at hr
            exact absurd hr.1 (by simpa using e)
        · simp only [sub, cellAt_setCell_ne _ _ _ _ _ _ e] at h1
          unfold rowsAt at h0 ⊢
          cases hB : B b' with
          | none => rw [hB] at h0; cases h0
          | some x =>
            obtain ⟨t0, s0, xs0⟩ := x
            rw [hB] at h0
            simp only at h0 ⊢
            obtain ⟨⟨sz1, xs1⟩, h3, h4⟩ := Option.map_eq_some_iff.1 h0
            simp only [Prod.mk.injEq] at h4
            obtain ⟨rfl, rfl, rfl⟩ := h4
            rw [sub_append _ _ _ _ _ _ h3]
            simp only [sub, h1, Option.map_some]
            simp
  · refine .inr (.inr ⟨fun ⟨e1, e2⟩ => h1 ⟨e1, [], by simp [e2]⟩, ?_, h2⟩)
    cases hu : under b q i k b' q' with
    | false => rfl
    | true =>
      obtain ⟨e1, r2, hr⟩ := under_iff.1 hu
      exact absurd ⟨e1, _, hr⟩ h1
theorem CR.of_CN {wd : World} {Ro : Nat → Prop} {top : Bool} {v : V} {u : Value} (h : CN M wd Ro top v u) (hn : v.isOwn = false) (b : Nat) (q : Path) (i k : Nat) : CR M wd Ro top b q i k v u := by
  cases v <;> first | exact h | cases hn
theorem killed_away {b : Nat} {q : Path} {i k b' : Nat} {q' : Path} {i' k' : Nat} (h1 : ¬ (b' = b ∧ q' = q)) (h2 : under b q i k b' q' = false) : under b q i k b' (q' ++ [(i', k')]) = false := by
  cases hu : under b q i k b' (q' ++ [(i', k')]) with
  | false => rfl
  | true =>
    obtain ⟨rfl, r, hr⟩ := under_iff.1 hu
    exfalso
    rcases List.eq_nil_or_concat r with rfl | ⟨r', x, rfl⟩
    · have : q' = q := by
        have := congrArg List.dropLast hr
        simpa using this
      exact h1 ⟨rfl, this⟩
    · have e : q' = q ++ (i, k) :: r' := by
        have := congrArg List.dropLast hr
        rw [show q ++ (i, k) :: (r'.concat x) = (q ++ (i, k) :: r') ++ [x] by simp, List.dropLast_concat, List.dropLast_concat] at this
        exact this
      rw [under_iff.2 ⟨rfl, r', e⟩] at h2
      cases h2
theorem not_under_self (b : Nat) (q : Path) (i k : Nat) : under b q i k b q = false := by
  cases hu : under b q i k b q with
  | false => rfl
  | true =>
    obtain ⟨_, r, hr⟩ := under_iff.1 hu
    have := congrArg List.length hr
    simp at this
theorem not_under_other {b : Nat} {q : Path} {i k i' k' : Nat} (e : ¬ (i' = i ∧ k' = k)) : under b q i k b (q ++ [(i', k')]) = false := by
  cases hu : under b q i k b (q ++ [(i', k')]) with
  | false => rfl
  | true =>
    obtain ⟨_, r, hr⟩ := under_iff.1 hu
    simp at hr
    exact absurd hr.1 (by simpa using e)
theorem Rel.store (R : Rel cx M st a w) {b : Nat} {q : Path} {top : Bool} {sz : Nat} {xs : Row} (h0 : rowsAt st.B b q = some (top, sz, xs)) {A : Addr} {n : Nat} (hA : M b q = some (A, n)) {i k : Nat} {v0 : V} (hc : cellAt xs i k = some v0) (v : V) (u : Value) (hu : u.oneCell' = true) (hv : CN M cx.w0 cx.Ro top v u)
    (p : Nat → Path → Bool) (hp : p = fun b' q' => (v0.isOwn || v.isOwn) && under b q i k b' q') :
    Rel cx (fun b' q' => if p b' q' = true then none else M b' q') { T := fun t => kill p (st.T t), B := killB p (setB st.B b q (fun ys => setCell ys i k v)) } a (w.setCell ⟨A.block, A.off + i * sz + k, none⟩ u) := by
  generalize hM' : (fun b' q' => if p b' q' = true then none else M b' q' : Mp) = M'
  have hM : ∀ b q, p b q = false → M' b q = M b q := by intro b q h; rw [← hM']; simp [h]
  have hN : ∀ b q, p b q = true → M' b q = none := by intro b q h; rw [← hM']; simp [h]
  have pu : ∀ b' q', under b q i k b' q' = false → p b' q' = false := by intro b' q' h; rw [hp]; simp [h]
  have F := R.flat b q top sz xs h0
  have hn : ∀ s2 zs, v = .own s2 zs → zs = [] := by
    intro s2 zs e
    subst e
    cases zs with
    | nil => rfl
    | cons => exact hv.elim
  have live : ∀ b' q' t s ys, rowsAt (killB p (setB st.B b q (fun ys => setCell ys i k v))) b' q' = some (t, s, ys) →
      (b' = b ∧ q' = q ∧ t = top ∧ s = sz ∧ ys = killRow p top (setCell xs i k v)) ∨ (M' b' q' = none ∧ ys = []) ∨ (¬ (b' = b ∧ q' = q) ∧ under b q i k b' q' = false ∧ ∃ zs zs', rowsAt st.B b' q' = some (t, s, zs) ∧ like zs zs' ∧ ys = killRow p t zs') := by
    intro b' q' t s ys h
    rw [rowsAt_killB] at h
    obtain ⟨⟨t', s', zs⟩, h1, h2⟩ := Option.map_eq_some_iff.1 h
    simp only [Prod.mk.injEq] at h2
    obtain ⟨rfl, rfl, rfl⟩ := h2
    rcases set_live h0 hc h1 with ⟨rfl, rfl, rfl, rfl, rfl⟩ | ⟨rfl, rfl, s2, zs2, r, rfl, rfl, h3⟩ | ⟨h3, h4, zs2, h5, h6⟩
    · exact .inl ⟨rfl, rfl, rfl, rfl, rfl⟩
    · have := hn _ _ rfl
      subst this
      refine .inr (.inl ⟨hN _ _ ?_, ?_⟩)
      · rw [hp]
        simp only [V.isOwn, Bool.or_true, Bool.true_and]
        exact under_iff.2 ⟨rfl, r, rfl⟩
      · cases r with
        | nil => simp [sub] at h3; rw [← h3.2]; rfl
        | cons y r => obtain ⟨i', k'⟩ := y; simp [sub, cellAt] at h3
    · exact .inr (.inr ⟨h3, h4, zs2, zs, h5, h6, rfl⟩)
  have hblk : ∀ b' q' x A' n', ¬ (b' = b ∧ q' = q) → rowsAt st.B b' q' = some x → M b' q' = some (A', n') → A'.block ≠ A.block := by
    intro b' q' x A' n' h1 h2 h3 e
    exact h1 (R.inj b' q' b q (by rw [h2]; rfl) (by rw [h0]; rfl) A' n' A n h3 hA e)
  have hself := not_under_self b q i k
  have hroot : ∀ b', b' < 500 → p b' [] = false := fun b' _ => pu b' [] (by cases hu : under b q i k b' [] with | false => rfl | true => obtain ⟨_, r, hr⟩ := under_iff.1 hu; simp at hr)
  refine R.change p _ hM ?_ ?_ ?_ ?_ hroot
  · intro b' q' t s ys h
    rcases live b' q' t s ys h with ⟨rfl, rfl, rfl, rfl, rfl⟩ | ⟨h1, rfl⟩ | ⟨h1, h2, zs, zs', h3, h4, rfl⟩
    · refine F.set hA hc v u hu hM (pu _ _ hself) (fun i' k' s ys e hx => pu _ _ (not_under_other e)) ?_
      refine hv.struck hM (fun ho => hN _ _ ?_)
      rw [hp]
      simp only [ho, Bool.or_true, Bool.true_and]
      exact under_iff.2 ⟨rfl, [], rfl⟩
    · exact ⟨(fun i x hx => by simp at hx), fun _ => rfl, (fun A n hA => by rw [h1] at hA; cases hA), (fun A n hA => by rw [h1] at hA; cases hA)⟩
    · exact ((R.flat b' q' t s zs h3).like h4).struck hM (pu _ _ h2) (fun i' k' s' ys' hx => pu _ _ (killed_away h1 h2)) (fun A' n' hA' => Below.heap_setCell w _ u _ (hblk b' q' _ A' n' h1 h3 hA'))
  · intro b1 q1 b2 q2 hl1 hl2 A1 n1 A2 n2 hA1 hA2 hbl
    obtain ⟨⟨t1, s1, y1⟩, hl1⟩ := Option.isSome_iff_exists.1 hl1
    obtain ⟨⟨t2, s2, y2⟩, hl2⟩ := Option.isSome_iff_exists.1 hl2
    have old : ∀ b' q' t s ys A' n', rowsAt (killB p (setB st.B b q (fun ys => setCell ys i k v))) b' q' = some (t, s, ys) → M' b' q' = some (A', n') → (rowsAt st.B b' q').isSome = true ∧ M b' q' = some (A', n') := by
      intro b' q' t s ys A' n' h hA'
      rcases live b' q' t s ys h with ⟨rfl, rfl, _⟩ | ⟨h1, _⟩ | ⟨h1, h2, zs, zs', h3, _⟩
      · rw [hM _ _ (pu _ _ hself)] at hA'; exact ⟨by rw [h0]; rfl, hA'⟩
      · rw [h1] at hA'; cases hA'
      · rw [hM _ _ (pu _ _ h2)] at hA'; exact ⟨by rw [h3]; rfl, hA'⟩
    obtain ⟨o1, o2⟩ := old _ _ _ _ _ _ _ hl1 hA1
    obtain ⟨o3, o4⟩ := old _ _ _ _ _ _ _ hl2 hA2
    exact R.inj _ _ _ _ o1 o3 _ _ _ _ o2 o4 hbl
  · intro b' q' t s ys h A' n' hA'
    rcases live b' q' t s ys h with ⟨rfl, rfl, rfl, rfl, rfl⟩ | ⟨h1, _⟩ | ⟨h1, h2, zs, zs', h3, h4, rfl⟩
    · rw [hM _ _ (pu _ _ hself)] at hA'
      rw [killRow_length, length_setCell]
      exact R.away _ _ _ _ _ h0 _ _ hA'
    · rw [h1] at hA'; cases hA'
    · rw [hM _ _ (pu _ _ h2)] at hA'
      rw [killRow_length, ← h4.1]
      exact R.away _ _ _ _ _ h3 _ _ hA'
  · refine R.keep.setCell _ _ _ (fun hb => ?_)
    obtain ⟨_, _, _, hfit⟩ := F.there A n hA
    have hi := (cellAt_lt hc).1
    have hk := F.k_lt hc
    have hle : i * sz + k < xs.length * sz := by
      have : (i + 1) * sz ≤ xs.length * sz := Nat.mul_le_mul_right _ hi
      rw [Nat.add_mul] at this
      omega
    exact ((R.away b q top sz xs h0 A n hA).2 hb).2 _ (by omega) (fun _ => ⟨by omega, by omega⟩)
end Go.Proofs.Ytniibpihbopehaa.M

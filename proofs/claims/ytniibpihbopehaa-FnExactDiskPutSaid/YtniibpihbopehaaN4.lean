/- A box's row goes into a cell; a slice's row goes out of a cell, into a box. -/
import Derived.Test.YtniibpihbopehaaN3
namespace Go.Proofs.Ytniibpihbopehaa.M
open Go Go.RowKit
set_option linter.unusedVariables false
set_option linter.unusedSimpArgs false
variable {cx : Cx} {M M' : Mp} {st : St} {a : Act} {w w' : World} {G : Pg} {p : Nat → Path → Bool}
theorem cellAt_take {xs : Row} {l i k : Nat} {v : V} (h : cellAt (xs.take l) i k = some v) : i < l ∧ cellAt xs i k = some v := by
  unfold cellAt at h ⊢
  rw [List.getElem?_take] at h
  by_cases hi : i < l
  · rw [if_pos hi] at h; exact ⟨hi, h⟩
  · rw [if_neg hi] at h; cases h
theorem Flat.take {wd : World} {Ro : Nat → Prop} {top : Bool} {b : Nat} {q : Path} {sz : Nat} {xs : Row} (F : Flat M wd Ro w top b q sz xs) (l : Nat) : Flat M wd Ro w top b q sz (xs.take l) where
  lens := by
    intro i x hx
    rw [List.getElem?_take] at hx
    by_cases hi : i < l
    · rw [if_pos hi] at hx; exact F.lens i x hx
    · rw [if_neg hi] at hx; cases hx
  none := fun h => by rw [F.none h]; simp
  there := fun A n h => by
    obtain ⟨h1, h2, h3, h4⟩ := F.there A n h
    refine ⟨h1, h2, h3, Nat.le_trans ?_ h4⟩
    exact Nat.add_le_add_left (Nat.mul_le_mul_right _ (by simp; omega)) _
  cell := fun A n h i k v hv => F.cell A n h i k v (cellAt_take hv).2
/-- A row that lies in the same place under another name. -/
theorem Flat.moved {wd : World} {Ro : Nat → Prop} {d : Nat} {r : Path} {s : Nat} {ys : Row} (F : Flat M wd Ro w false d r s ys) {b : Nat} {q : Path} (h0 : M' b q = M d r) (h1 : ∀ i k, M' b (q ++ [(i, k)]) = M d (r ++ [(i, k)])) (hw : ∀ A n, M d r = some (A, n) → w'.heap[A.block]? = w.heap[A.block]?) :
    Flat M' wd Ro w' false b q s ys where
  lens := F.lens
  none := fun h => F.none (by rw [← h0]; exact h)
  there := fun A n h => by
    rw [h0] at h
    obtain ⟨h1, h2, h3, h4⟩ := F.there A n h
    have hb := hw A n h
    refine ⟨h1, by rw [hb]; exact h2, fun o ho => ?_, h4⟩
    have := h3 o ho
    unfold World.frozen? at this ⊢
    simp only [hb]; exact this
  cell := fun A n h i k v hv => by
    rw [h0] at h
    obtain ⟨u, g1, g2, g3⟩ := F.cell A n h i k v hv
    have hb := hw A n h
    refine ⟨u, by unfold World.cell? at g1 ⊢; simp only [hb]; exact g1, g2, ?_⟩
    cases v
    case own s2 zs =>
      simp only [CR] at g3 ⊢
      cases g3 with
      | sl c1 c2 => exact .sl c1 (by rw [h1]; exact c2)
    case lit => exact g3
    case undef => trivial
    all_goals exact absurd g3.1 (by simp)
theorem sub_take {s : Nat} {ys : Row} {l : Nat} {r : Path} {s' : Nat} {zs : Row} (h : sub s (ys.take l) r = some (s', zs)) : (r = [] ∧ s' = s ∧ zs = ys.take l) ∨ (r ≠ [] ∧ sub s ys r = some (s', zs)) := by
  cases r with
  | nil => simp only [sub, Option.some.injEq, Prod.mk.injEq] at h; exact .inl ⟨rfl, h.1.symm, h.2.symm⟩
  | cons y r =>
    obtain ⟨i, k⟩ := y
    refine .inr ⟨by simp, ?_⟩
    simp only [sub] at h ⊢
    cases hc : cellAt (ys.take l) i k with
    | none => rw [hc] at h; cases h
    | some v => rw [hc] at h; rw [(cellAt_take hc).2]; exact h
theorem rowsAt_of {B : Bs} {b : Nat} {t : Bool} {s : Nat} {ys : Row} (h : rowsAt B b [] = some (t, s, ys)) : B b = some (t, s, ys) := by
  unfold rowsAt at h
  cases hB : B b with
  | none => rw [hB] at h; cases h
  | some x =>
    obtain ⟨t0, s0, y0⟩ := x
    rw [hB] at h
    simpa [sub] using h
theorem rowsAt_box {B : Bs} {b : Nat} {t : Bool} {s : Nat} {ys : Row} (h : B b = some (t, s, ys)) (r : Path) : rowsAt B b r = (sub s ys r).map fun x => (t && r.isEmpty, x.1, x.2) := by unfold rowsAt; rw [h]
theorem Rel.absorb (R : Rel cx M st a w) {b : Nat} {q : Path} {top : Bool} {sz : Nat} {xs : Row} (h0 : rowsAt st.B b q = some (top, sz, xs)) {A : Addr} {n : Nat} (hA : M b q = some (A, n)) {i k : Nat} {v0 : V} (hc : cellAt xs i k = some v0)
    {d s2 len : Nat} {ys0 : Row} (hd : st.B d = some (false, s2, ys0)) (hdb : d ≠ b) (h5 : 500 ≤ d) (hlen : len ≤ ys0.length) (u : Value) (hu : VR M cx.w0 cx.Ro (.sl d [] s2 0 len) u) (v : V) (hv : v = .own s2 (ys0.take len))
    (p : Nat → Path → Bool) (hp : p = fun b' q' => b' == d || under b q i k b' q') :
    ∃ M', Rel cx M' { T := fun t => kill p (st.T t), B := killB p (upd (setB st.B b q (fun ys => setCell ys i k v)) d none) } a (w.setCell ⟨A.block, A.off + i * sz + k, none⟩ u) ∧ ∀ b' q', p b' q' = false → M' b' q' = M b' q' := by
  obtain ⟨M', hM'⟩ : ∃ M' : Mp, M' = fun b' q' => if b' = d then none else if b' = b then (match strip (q ++ [(i, k)]) q' with | some r => M d r | none => M b' q') else M b' q' := ⟨_, rfl⟩
  refine ⟨M', (?_ : _ ∧ _)⟩
  have pf : ∀ b' q', p b' q' = false ↔ b' ≠ d ∧ under b q i k b' q' = false := by intro b' q'; rw [hp]; simp
  have hM : ∀ b' q', p b' q' = false → M' b' q' = M b' q' := by
    intro b' q' h
    obtain ⟨h1, h2⟩ := (pf _ _).1 h
    rw [hM']
    simp only [h1, if_false]
    by_cases hb : b' = b
    · subst hb
      simp only [if_true]
      have : strip (q ++ [(i, k)]) q' = none := by
        cases hs : strip (q ++ [(i, k)]) q' with
        | none => rfl
        | some r => simp [under, hs] at h2
      rw [this]
    · simp only [hb, if_false]
  have hD : ∀ r, M' b (q ++ (i, k) :: r) = M d r := by
    intro r
    rw [hM']
    simp only [Ne.symm hdb, if_false, if_true]
    rw [show q ++ (i, k) :: r = (q ++ [(i, k)]) ++ r by simp, strip_append]
  have F := R.flat b q top sz xs h0
  have hone : u.oneCell' = true := by cases hu; rfl
  have hd0 : rowsAt st.B d [] = some (false, s2, ys0) := by rw [rowsAt_box hd]; rfl
  have live : ∀ b' q' t s ys, rowsAt (killB p (upd (setB st.B b q (fun ys => setCell ys i k v)) d none)) b' q' = some (t, s, ys) →
      (b' = b ∧ q' = q ∧ t = top ∧ s = sz ∧ ys = killRow p top (setCell xs i k v)) ∨ (b' = b ∧ t = false ∧ ∃ r zs, q' = q ++ (i, k) :: r ∧ rowsAt st.B d r = some (false, s, zs) ∧ (ys = zs ∨ r = [] ∧ ys = zs.take len)) ∨ (b' ≠ d ∧ ¬ (b' = b ∧ q' = q) ∧ under b q i k b' q' = false ∧ ∃ zs zs', rowsAt st.B b' q' = some (t, s, zs) ∧ like zs zs' ∧ ys = killRow p t zs') := by
    intro b' q' t s ys h
    rw [rowsAt_killB] at h
    obtain ⟨⟨t', s', zs⟩, h1, h2⟩ := Option.map_eq_some_iff.1 h
    simp only [Prod.mk.injEq] at h2
    obtain ⟨rfl, rfl, rfl⟩ := h2
    have hne : b' ≠ d := by
      intro e; subst e
      simp [rowsAt, upd_same] at h1
    have e : rowsAt (upd (setB st.B b q (fun ys => setCell ys i k v)) d none) b' q' = rowsAt (setB st.B b q (fun ys => setCell ys i k v)) b' q' := by unfold rowsAt; rw [upd_ne _ _ _ _ hne]
    rw [e] at h1
    rcases set_live h0 hc h1 with ⟨rfl, rfl, rfl, rfl, rfl⟩ | ⟨rfl, rfl, s3, zs3, r, e3, rfl, h3⟩ | ⟨h3, h4, zs2, h5, h6⟩
    · exact .inl ⟨rfl, rfl, rfl, rfl, rfl⟩
    · rw [hv] at e3
      cases e3
      refine .inr (.inl ⟨rfl, rfl, r, ?_⟩)
      rcases sub_take h3 with ⟨rfl, rfl, rfl⟩ | ⟨hr, h4⟩
      · exact ⟨ys0, rfl, hd0, .inr ⟨rfl, by simp [killRow]⟩⟩
      · exact ⟨zs, rfl, by rw [rowsAt_box hd, h4]; simp, .inl (by simp [killRow])⟩
    · exact .inr (.inr ⟨hne, h3, h4, zs2, zs, h5, h6, rfl⟩)
  have hblk : ∀ b' q' x A' n', ¬ (b' = b ∧ q' = q) → rowsAt st.B b' q' = some x → M b' q' = some (A', n') → A'.block ≠ A.block := by
    intro b' q' x A' n' h1 h2 h3 e
    exact h1 (R.inj b' q' b q (by rw [h2]; rfl) (by rw [h0]; rfl) A' n' A n h3 hA e)
  have hself : p b q = false := (pf _ _).2 ⟨Ne.symm hdb, not_under_self b q i k⟩
  have hroot : ∀ b', b' < 500 → p b' [] = false := fun b' hb' => (pf _ _).2 ⟨by omega, by cases hu : under b q i k b' [] with | false => rfl | true => obtain ⟨_, r, hr⟩ := under_iff.1 hu; simp at hr⟩
  refine ⟨R.change p _ hM ?_ ?_ ?_ ?_ hroot, hM⟩
  · intro b' q' t s ys h
    rcases live b' q' t s ys h with ⟨rfl, rfl, rfl, rfl, rfl⟩ | ⟨rfl, rfl, r, zs, rfl, h1, h2⟩ | ⟨hne, h1, h2, zs, zs', h3, h4, rfl⟩
    · refine F.set hA hc v u hone hM hself (fun i' k' s ys e hx => (pf _ _).2 ⟨Ne.symm hdb, not_under_other e⟩) ?_
      have ek : (if t = true then kill p v else v) = v := by rw [hv]; rw [kill]; split <;> rfl
      rw [ek, hv]
      simp only [CR, List.length_take, Nat.min_eq_left hlen]
      cases hu with
      | sl c1 c2 => exact .sl c1 (by rw [show q' ++ [(i, k)] = q' ++ (i, k) :: [] by rfl, hD]; exact c2)
    · have F2 := R.flat d r false s zs h1
      have mv : Flat M' cx.w0 cx.Ro (w.setCell ⟨A.block, A.off + i * sz + k, none⟩ u) false b' (q ++ (i, k) :: r) s zs := F2.moved (hD r) (fun i' k' => by rw [show q ++ (i, k) :: r ++ [(i', k')] = q ++ (i, k) :: (r ++ [(i', k')]) by simp, hD]) (fun A' n' hA' => Below.heap_setCell w _ u _ (hblk d r _ A' n' (fun ⟨e, _⟩ => hdb e) h1 hA'))
      rcases h2 with rfl | ⟨rfl, rfl⟩
      · exact mv
      · exact mv.take len
    · exact ((R.flat b' q' t s zs h3).like h4).struck hM ((pf _ _).2 ⟨hne, h2⟩) (fun i' k' s' ys' hx => (pf _ _).2 ⟨hne, killed_away h1 h2⟩) (fun A' n' hA' => Below.heap_setCell w _ u _ (hblk b' q' _ A' n' h1 h3 hA'))
  · intro b1 q1 b2 q2 hl1 hl2 A1 n1 A2 n2 hA1 hA2 hbl
    obtain ⟨⟨t1, s1, y1⟩, hl1⟩ := Option.isSome_iff_exists.1 hl1
    obtain ⟨⟨t2, s2', y2⟩, hl2⟩ := Option.isSome_iff_exists.1 hl2
    have old : ∀ b' q' t s ys A' n', rowsAt (killB p (upd (setB st.B b q (fun ys => setCell ys i k v)) d none)) b' q' = some (t, s, ys) → M' b' q' = some (A', n') →
        ∃ bo qo, (rowsAt st.B bo qo).isSome = true ∧ M bo qo = some (A', n') ∧ ((bo ≠ d ∧ b' = bo ∧ q' = qo) ∨ (bo = d ∧ b' = b ∧ q' = q ++ (i, k) :: qo)) := by
      intro b' q' t s ys A' n' h hA'
      rcases live b' q' t s ys h with ⟨rfl, rfl, _⟩ | ⟨rfl, _, r, zs, rfl, h1, _⟩ | ⟨hne, h1, h2, zs, zs', h3, _⟩
      · rw [hM _ _ hself] at hA'; exact ⟨_, _, by rw [h0]; rfl, hA', .inl ⟨Ne.symm hdb, rfl, rfl⟩⟩
      · rw [hD] at hA'; exact ⟨d, r, by rw [h1]; rfl, hA', .inr ⟨rfl, rfl, rfl⟩⟩
      · rw [hM _ _ ((pf _ _).2 ⟨hne, h2⟩)] at hA'; exact ⟨_, _, by rw [h3]; rfl, hA', .inl ⟨hne, rfl, rfl⟩⟩
    obtain ⟨bo1, qo1, o1, o2, o3⟩ := old _ _ _ _ _ _ _ hl1 hA1
    obtain ⟨bo2, qo2, o4, o5, o6⟩ := old _ _ _ _ _ _ _ hl2 hA2
    obtain ⟨rfl, rfl⟩ := R.inj _ _ _ _ o1 o4 _ _ _ _ o2 o5 hbl
    rcases o3 with ⟨c1, rfl, rfl⟩ | ⟨c1, rfl, rfl⟩ <;> rcases o6 with ⟨c2, rfl, rfl⟩ | ⟨c2, rfl, rfl⟩ <;> first | exact ⟨rfl, rfl⟩ | exact absurd c2 c1 | exact absurd c1 c2
  · intro b' q' t s ys h A' n' hA'
    rcases live b' q' t s ys h with ⟨rfl, rfl, rfl, rfl, rfl⟩ | ⟨rfl, rfl, r, zs, rfl, h1, _⟩ | ⟨hne, h1, h2, zs, zs', h3, h4, rfl⟩
    · rw [hM _ _ hself] at hA'
      rw [killRow_length, length_setCell]
      exact R.away _ _ _ _ _ h0 _ _ hA'
    · rw [hD] at hA'
      obtain ⟨c1, c2⟩ := R.away _ _ _ _ _ h1 _ _ hA'
      exact ⟨c1, fun hb => ⟨(c2 hb).1, fun o ho _ => (c2 hb).2 o ho (by simp)⟩⟩
    · rw [hM _ _ ((pf _ _).2 ⟨hne, h2⟩)] at hA'
      rw [killRow_length, ← h4.1]
      exact R.away _ _ _ _ _ h3 _ _ hA'
  · refine R.keep.setCell _ _ _ (fun hb => ?_)
    obtain ⟨_, _, _, hfit⟩ := F.there A n hA
    have hi := (cellAt_lt hc).1
    have hk := F.k_lt hc
    have hle : i * sz + k < xs.length * sz := by
      have : (i + 1) * sz ≤ xs.length * sz := Nat.mul_le_mul_right _ hi
      rw [Nat.add_mul] at this
      omega
    exact ((R.away b q top sz xs h0 A n hA).2 hb).2 _ (by omega) (fun _ => ⟨by omega, by omega⟩)
end Go.Proofs.Ytniibpihbopehaa.M

/- 'append': what was, and what is put behind it; in place or in a new block. -/
import Derived.Test.YtniibpihbopehaaN9
namespace Go.Proofs.Ytniibpihbopehaa.M
open Go Go.RowKit
set_option linter.unusedVariables false
set_option linter.unusedSimpArgs false
variable {cx : Cx} {M M' : Mp} {st : St} {a : Act} {w w' : World} {G : Pg} {p : Nat → Path → Bool}
theorem cellAt_append {xs ys : Row} {i k : Nat} {v : V} (h : cellAt (xs ++ ys) i k = some v) : (i < xs.length ∧ cellAt xs i k = some v) ∨ (xs.length ≤ i ∧ cellAt ys (i - xs.length) k = some v) := by
  unfold cellAt at h ⊢
  by_cases hi : i < xs.length
  · rw [List.getElem?_append_left hi] at h; exact .inl ⟨hi, h⟩
  · rw [List.getElem?_append_right (by omega)] at h; exact .inr ⟨by omega, h⟩
theorem cellAt_cut {xs : Row} {off len i k : Nat} {v : V} (h : cellAt ((xs.drop off).take len) i k = some v) : i < len ∧ cellAt xs (off + i) k = some v := by
  obtain ⟨h1, h2⟩ := cellAt_take h
  refine ⟨h1, ?_⟩
  unfold cellAt at h2 ⊢
  rw [List.getElem?_drop] at h2; exact h2
/-- Where the new row stands: over the old one, or in a new block. -/
structure Apd (w w1 : World) (A1 : Addr) (n1 : Nat) (cells : List Value) : Prop where
  spot : A1.spot = none
  blk : ∃ c e f, w1.heap[A1.block]? = some (.cells c e f) ∧ c.size = n1
  free : ∀ o, o < n1 → w1.frozen? ⟨A1.block, o, none⟩ = false
  cell : ∀ j u, cells[j]? = some u → w1.cell? ⟨A1.block, A1.off + j, none⟩ = some u
  fit : A1.off + cells.length ≤ n1
  rest : ∀ k, k < w.heap.size → k ≠ A1.block → w1.heap[k]? = w.heap[k]?
def dropB (B : Bs) : Option Nat → Bs
  | some e => upd B e none
  | none => B
def oneOf (d : Nat) (eo : Option Nat) : Nat → Path → Bool := fun b _ => b == d || eo == some b
theorem oneOf_low {d : Nat} {eo : Option Nat} (h5 : 500 ≤ d) (h5e : ∀ e, eo = some e → 500 ≤ e) {b : Nat} (hb : b < 500) {q : Path} : oneOf d eo b q = false := by
  unfold oneOf
  rw [Bool.or_eq_false_iff]
  refine ⟨by simp; omega, ?_⟩
  cases eo with
  | none => rfl
  | some e => have := h5e e rfl; simp; omega
theorem Rel.appended (R : Rel cx M st a w) {w1 : World} (d : Nat) (eo : Option Nat) (h5 : 500 ≤ d) (h5e : ∀ e, eo = some e → 500 ≤ e) {sz : Nat} {xs E : Row} {off len : Nat} (hd : st.B d = some (false, sz, xs)) (hlen : off + len ≤ xs.length) (hsz : 0 < sz)
    (olds news : List Value) (ho : olds.length = len * sz) (hn : news.length = E.length * sz) (hold : ∀ i k v, i < len → cellAt xs (off + i) k = some v → ∃ u, olds[i * sz + k]? = some u ∧ u.oneCell' = true ∧ CR M cx.w0 cx.Ro false d [] (off + i) k v u)
    (hE : ∀ (i : Nat) (x : List V), E[i]? = some x → x.length = sz) (e0 : Nat) (he0 : eo = none ∨ eo = some e0) (hnew : ∀ i k v, cellAt E i k = some v → ∃ u, news[i * sz + k]? = some u ∧ u.oneCell' = true ∧ CR M cx.w0 cx.Ro false e0 [] i k v u)
    (hown : ∀ i k s ys, cellAt E i k = some (.own s ys) → eo = some e0 ∧ e0 ≠ d ∧ ∃ E0, st.B e0 = some (false, sz, E0) ∧ cellAt E0 i k = some (.own s ys))
    {A1 : Addr} {n1 : Nat} (hA : Apd w w1 A1 n1 (olds ++ news)) (hk : Kp cx.S cx.w0 w1) (hplace : A1.block = w.heap.size ∨ ∃ A, M d [] = some (A, n1) ∧ A1.block = A.block) :
    ∃ M', Rel cx M' { T := fun t => kill (oneOf d eo) (st.T t), B := upd (killB (oneOf d eo) (dropB st.B eo)) d (some (false, sz, (xs.drop off).take len ++ E)) } a w1 ∧ M' d [] = some (A1, n1) ∧ ∀ b q, oneOf d eo b q = false → M' b q = M b q := by
  obtain ⟨M', hM'⟩ : ∃ M' : Mp, M' = fun b q => if b = d then (match q with | [] => some (A1, n1) | (i, k) :: r => if i < len then M d ((off + i, k) :: r) else M e0 ((i - len, k) :: r)) else M b q := ⟨_, rfl⟩
  have m0 : M' d [] = some (A1, n1) := by rw [hM']; simp
  have m1 : ∀ i k r, i < len → M' d ((i, k) :: r) = M d ((off + i, k) :: r) := by intro i k r h; rw [hM']; simp [h]
  have m2 : ∀ i k r, ¬ i < len → M' d ((i, k) :: r) = M e0 ((i - len, k) :: r) := by intro i k r h; rw [hM']; simp [h]
  have m3 : ∀ b q, b ≠ d → M' b q = M b q := by intro b q h; rw [hM']; simp [h]
  have hM : ∀ b q, oneOf d eo b q = false → M' b q = M b q := by
    intro b q h
    refine m3 b q (fun e => ?_)
    subst e; simp [oneOf] at h
  refine ⟨M', ?_, m0, hM⟩
  have hcl : ((xs.drop off).take len).length = len := by simp; omega
  have lens : ∀ (i : Nat) (x : List V), ((xs.drop off).take len ++ E)[i]? = some x → x.length = sz := by
    intro i x hx
    by_cases hi : i < len
    · rw [List.getElem?_append_left (by omega), List.getElem?_take, if_pos hi, List.getElem?_drop] at hx
      exact (R.flat d [] false sz xs (by rw [rowsAt_box hd]; rfl)).lens _ x hx
    · rw [List.getElem?_append_right (by omega)] at hx
      exact hE _ x hx
  have d0 : rowsAt st.B d [] = some (false, sz, xs) := by rw [rowsAt_box hd]; rfl
  generalize hB' : upd (killB (oneOf d eo) (dropB st.B eo)) d (some (false, sz, (xs.drop off).take len ++ E)) = B'
  -- what lives, and where it lived
  have live : ∀ b q t s ys, rowsAt B' b q = some (t, s, ys) →
      (b = d ∧ q = [] ∧ t = false ∧ s = sz ∧ ys = (xs.drop off).take len ++ E) ∨
      (b = d ∧ t = false ∧ ∃ i k r, q = (i, k) :: r ∧ i < len ∧ rowsAt st.B d ((off + i, k) :: r) = some (false, s, ys)) ∨
      (b = d ∧ t = false ∧ eo = some e0 ∧ e0 ≠ d ∧ ∃ i k r, q = (i, k) :: r ∧ ¬ i < len ∧ rowsAt st.B e0 ((i - len, k) :: r) = some (false, s, ys)) ∨
      (oneOf d eo b q = false ∧ ∃ zs, rowsAt st.B b q = some (t, s, zs) ∧ ys = killRow (oneOf d eo) t zs) := by
    intro b q t s ys h
    rw [← hB'] at h
    by_cases hb : b = d
    · subst hb
      rw [rowsAt_box (upd_same _ _ _)] at h
      obtain ⟨⟨s', zs⟩, h1, h2⟩ := Option.map_eq_some_iff.1 h
      simp only [Bool.false_and, Prod.mk.injEq] at h2
      obtain ⟨rfl, rfl, rfl⟩ := h2
      cases q with
      | nil => simp [sub] at h1; exact .inl ⟨rfl, rfl, rfl, h1.1.symm, h1.2.symm⟩
      | cons y r =>
        obtain ⟨i, k⟩ := y
        simp only [sub] at h1
        cases hc : cellAt ((xs.drop off).take len ++ E) i k with
        | none => rw [hc] at h1; cases h1
        | some v =>
          rw [hc] at h1
          cases v <;> simp only [reduceCtorEq] at h1
          case own s2 ws =>
            rcases cellAt_append hc with ⟨hi, hc2⟩ | ⟨hi, hc2⟩
            · rw [hcl] at hi
              obtain ⟨_, hc3⟩ := cellAt_cut hc2
              exact .inr (.inl ⟨rfl, rfl, i, k, r, rfl, hi, by rw [rowsAt_box hd]; simp [sub, hc3, h1]⟩)
            · rw [hcl] at hi hc2
              obtain ⟨g1, g2, E0, g3, g4⟩ := hown _ _ _ _ hc2
              exact .inr (.inr (.inl ⟨rfl, rfl, g1, g2, i, k, r, rfl, by omega, by rw [rowsAt_box g3]; simp [sub, g4, h1]⟩))
    · rw [rowsAt_upd _ _ hb, rowsAt_killB] at h
      obtain ⟨⟨t', s', zs⟩, h1, h2⟩ := Option.map_eq_some_iff.1 h
      simp only [Prod.mk.injEq] at h2
      obtain ⟨rfl, rfl, rfl⟩ := h2
      refine .inr (.inr (.inr ?_))
      cases eo with
      | none => simp only [dropB] at h1; exact ⟨by simp [oneOf, hb], zs, h1, rfl⟩
      | some e =>
        simp only [dropB] at h1
        have hbe : b ≠ e := by intro h; subst h; simp [rowsAt, upd_same] at h1
        rw [rowsAt_upd _ _ hbe] at h1
        exact ⟨by simp [oneOf, hb, Ne.symm hbe], zs, h1, rfl⟩
  have hblk : ∀ b q x A' n', ¬ (b = d ∧ q = []) → rowsAt st.B b q = some x → M b q = some (A', n') → A'.block ≠ A1.block ∧ A'.block < w.heap.size := by
    intro b q x A' n' h1 h2 h3
    have hlt := R.block_lt h2 h3
    refine ⟨fun e => ?_, hlt⟩
    rcases hplace with h | ⟨A, h, h'⟩
    · omega
    · have := R.inj b q d [] (by rw [h2]; rfl) (by rw [d0]; rfl) A' n' A n1 h3 h (by rw [e, h'])
      exact h1 this
  have keep : ∀ b q x A' n', ¬ (b = d ∧ q = []) → rowsAt st.B b q = some x → M b q = some (A', n') → w1.heap[A'.block]? = w.heap[A'.block]? := by
    intro b q x A' n' h1 h2 h3
    obtain ⟨g1, g2⟩ := hblk b q x A' n' h1 h2 h3
    exact hA.rest _ g2 g1
  have nd : ∀ b q, oneOf d eo b q = false → ¬ (b = d ∧ q = []) := by intro b q h ⟨e, _⟩; subst e; simp [oneOf] at h
  refine R.change (oneOf d eo) _ hM ?_ ?_ ?_ hk (fun b hb => oneOf_low h5 h5e hb)
  · intro b q t s ys h
    rcases live b q t s ys h with ⟨rfl, rfl, rfl, rfl, rfl⟩ | ⟨rfl, rfl, i, k, r, rfl, hi, h1⟩ | ⟨rfl, rfl, g1, g2, i, k, r, rfl, hi, h1⟩ | ⟨h1, zs, h2, rfl⟩
    · refine ⟨lens, (fun h => by rw [m0] at h; cases h), fun A n h => ?_, fun A n h i k v hv => ?_⟩
      · rw [m0] at h; cases h
        refine ⟨hA.spot, hA.blk, hA.free, ?_⟩
        have := hA.fit
        rw [List.length_append, ho, hn] at this
        rw [List.length_append, hcl, Nat.add_mul]; exact this
      · rw [m0] at h; cases h
        have hkl : ∀ x, ((xs.drop off).take len ++ E)[i]? = some x → k < s := fun x hx => by rw [← lens i x hx]; exact (cellAt_lt hv).2 x hx
        have hks : k < s := hkl _ (List.getElem?_eq_getElem (cellAt_lt hv).1)
        rcases cellAt_append hv with ⟨hi, hc2⟩ | ⟨hi, hc2⟩
        · rw [hcl] at hi
          obtain ⟨_, hc3⟩ := cellAt_cut hc2
          obtain ⟨u, c1, c2, c3⟩ := hold i k v hi hc3
          refine ⟨u, ?_, c2, ?_⟩
          · have := hA.cell (i * s + k) u (by rw [List.getElem?_append_left (by have := (List.getElem?_eq_some_iff.1 c1).1; exact this)]; exact c1)
            rw [← Nat.add_assoc] at this; exact this
          · cases v
            case own s2 ws =>
              simp only [CR, List.nil_append] at c3 ⊢
              cases c3 with
              | sl g1 g2 => exact .sl g1 (by rw [m1 _ _ _ hi]; exact g2)
            case lit => exact c3
            case undef => trivial
            all_goals exact absurd c3.1 (by simp)
        · rw [hcl] at hi hc2
          obtain ⟨u, c1, c2, c3⟩ := hnew (i - len) k v hc2
          refine ⟨u, ?_, c2, ?_⟩
          · have hidx : i * s + k = len * s + ((i - len) * s + k) := by
              rw [← Nat.add_assoc, ← Nat.add_mul]; congr 2; omega
            have := hA.cell (i * s + k) u (by rw [List.getElem?_append_right (by rw [ho, hidx]; omega), ho, hidx, Nat.add_sub_cancel_left]; exact c1)
            rw [← Nat.add_assoc] at this; exact this
          · cases v
            case own s2 ws =>
              simp only [CR, List.nil_append] at c3 ⊢
              cases c3 with
              | sl g1 g2 => exact .sl g1 (by rw [m2 _ _ _ (by omega)]; exact g2)
            case lit => exact c3
            case undef => trivial
            all_goals exact absurd c3.1 (by simp)
    · exact (R.flat _ _ _ _ _ h1).moved (m1 i k r hi) (fun i' k' => by rw [List.cons_append, m1 i k _ hi]; rfl) (fun A' n' hA' => keep _ _ _ A' n' (by simp) h1 hA')
    · exact (R.flat _ _ _ _ _ h1).moved (m2 i k r hi) (fun i' k' => by rw [List.cons_append, m2 i k _ hi]; rfl) (fun A' n' hA' => keep _ _ _ A' n' (by simp) h1 hA')
    · exact (R.flat b q t s zs h2).struck hM h1 (fun _ _ _ _ _ => h1) (fun A' n' hA' => keep _ _ _ A' n' (nd b q h1) h2 hA')
  · intro b1 q1 b2 q2 hl1 hl2 A2 n2 A3 n3 hA2 hA3 hbl
    obtain ⟨⟨t1, s1, y1⟩, hl1⟩ := Option.isSome_iff_exists.1 hl1
    obtain ⟨⟨t2, s2, y2⟩, hl2⟩ := Option.isSome_iff_exists.1 hl2
    have old : ∀ b q t s ys A' n', rowsAt B' b q = some (t, s, ys) → M' b q = some (A', n') → (b = d ∧ q = [] ∧ A' = A1) ∨
        ∃ bo qo, (rowsAt st.B bo qo).isSome = true ∧ M bo qo = some (A', n') ∧ ¬ (bo = d ∧ qo = []) ∧ ((∃ i k r, bo = d ∧ qo = (off + i, k) :: r ∧ b = d ∧ q = (i, k) :: r ∧ i < len) ∨ (∃ i k r, bo = e0 ∧ eo = some e0 ∧ e0 ≠ d ∧ qo = (i - len, k) :: r ∧ b = d ∧ q = (i, k) :: r ∧ ¬ i < len) ∨ (oneOf d eo bo qo = false ∧ b = bo ∧ q = qo)) := by
      intro b q t s ys A' n' h hA'
      rcases live b q t s ys h with ⟨rfl, rfl, rfl, rfl, rfl⟩ | ⟨rfl, rfl, i, k, r, rfl, hi, h1⟩ | ⟨rfl, rfl, g1, g2, i, k, r, rfl, hi, h1⟩ | ⟨h1, zs, h2, rfl⟩
      · rw [m0] at hA'; cases hA'; exact .inl ⟨rfl, rfl, rfl⟩
      · rw [m1 _ _ _ hi] at hA'; exact .inr ⟨_, _, by rw [h1]; rfl, hA', by simp, .inl ⟨i, k, r, rfl, rfl, rfl, rfl, hi⟩⟩
      · rw [m2 _ _ _ hi] at hA'; exact .inr ⟨_, _, by rw [h1]; rfl, hA', by simp, .inr (.inl ⟨i, k, r, rfl, g1, g2, rfl, rfl, rfl, hi⟩)⟩
      · rw [hM _ _ h1] at hA'; exact .inr ⟨_, _, by rw [h2]; rfl, hA', nd _ _ h1, .inr (.inr ⟨h1, rfl, rfl⟩)⟩
    rcases old _ _ _ _ _ _ _ hl1 hA2 with ⟨rfl, rfl, rfl⟩ | ⟨bo1, qo1, o1, o2, o3, o4⟩ <;> rcases old _ _ _ _ _ _ _ hl2 hA3 with ⟨rfl, rfl, rfl⟩ | ⟨bo2, qo2, p1, p2, p3, p4⟩
    · exact ⟨rfl, rfl⟩
    · obtain ⟨x, hx⟩ := Option.isSome_iff_exists.1 p1
      exact absurd hbl.symm (hblk _ _ _ _ _ p3 hx p2).1
    · obtain ⟨x, hx⟩ := Option.isSome_iff_exists.1 o1
      exact absurd hbl (hblk _ _ _ _ _ o3 hx o2).1
    · obtain ⟨rfl, rfl⟩ := R.inj _ _ _ _ o1 p1 _ _ _ _ o2 p2 hbl
      rcases o4 with ⟨i, k, r, h1, h2, rfl, rfl, h3⟩ | ⟨i, k, r, h1, h2, h3, h4, rfl, rfl, h5⟩ | ⟨h1, rfl, rfl⟩ <;> rcases p4 with ⟨i', k', r', g1, g2, rfl, rfl, g3⟩ | ⟨i', k', r', g1, g2, g3, g4, rfl, rfl, g5⟩ | ⟨g1, rfl, rfl⟩
      · rw [h2] at g2; simp at g2; exact ⟨rfl, by rw [g2.1.1, g2.1.2, g2.2]⟩
      · exact absurd (g1.symm.trans h1) g3
      · subst h1; simp [oneOf] at g1
      · exact absurd (h1.symm.trans g1) h3
      · rw [h4] at g4; simp at g4; exact ⟨rfl, by rw [show i = i' by omega, g4.1.2, g4.2]⟩
      · subst h1; simp [oneOf, h2] at g1
      · subst g1; simp [oneOf] at h1
      · subst g1; simp [oneOf, g2] at h1
      · exact ⟨rfl, rfl⟩
  · intro b q t s ys h A' n' hA'
    rcases live b q t s ys h with ⟨rfl, rfl, rfl, rfl, rfl⟩ | ⟨rfl, rfl, i, k, r, rfl, hi, h1⟩ | ⟨rfl, rfl, g1, g2, i, k, r, rfl, hi, h1⟩ | ⟨h1, zs, h2, rfl⟩
    · rw [m0] at hA'; cases hA'
      rcases hplace with h | ⟨A, h, h'⟩
      · have := R.keep.size
        exact ⟨fun hr => by have := cx.ro _ hr; omega, fun hlt => by omega⟩
      · obtain ⟨c1, c2⟩ := R.away _ _ _ _ _ d0 _ _ h
        exact ⟨by rw [h']; exact c1, fun hlt => by rw [h'] at hlt ⊢; exact ⟨(c2 hlt).1, fun o ho _ => (c2 hlt).2 o ho (by simp)⟩⟩
    · rw [m1 _ _ _ hi] at hA'; exact R.away _ _ _ _ _ h1 _ _ hA'
    · rw [m2 _ _ _ hi] at hA'; exact R.away _ _ _ _ _ h1 _ _ hA'
    · rw [hM _ _ h1] at hA'
      rw [killRow_length]
      exact R.away _ _ _ _ _ h2 _ _ hA'
end Go.Proofs.Ytniibpihbopehaa.M

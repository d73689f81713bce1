/- Calls that turn rows of the caller's are right. -/
import Derived.Test.YtniibpihbopehaaS1
namespace Go.Proofs.Ytniibpihbopehaa.M
open Go Go.RowKit
set_option linter.unusedVariables false
set_option linter.unusedSimpArgs false
variable {cx : Cx} {M M' : Mp} {st : St} {a : Act} {w w' : World} {G : Pg} {p : Nat → Path → Bool}
/-- A block in which a row lies that is handed in. -/
def FRow (M : Mp) (B : Bs) (l : List (Nat × Path)) (k : Nat) : Prop := ∃ b q x A n, (foc l 0 b q).isSome = true ∧ rowsAt B b q = some x ∧ M b q = some (A, n) ∧ A.block = k
def FCell (M : Mp) (B : Bs) (l : List (Nat × Path)) (k o : Nat) : Prop := ∃ b q t s xs A n, (foc l 0 b q).isSome = true ∧ rowsAt B b q = some (t, s, xs) ∧ M b q = some (A, n) ∧ A.block = k ∧ o < n ∧ (t = true → A.off ≤ o ∧ o < A.off + List.length xs * s)
theorem FCell.row {B : Bs} {l : List (Nat × Path)} {k o : Nat} (h : FCell M B l k o) : FRow M B l k := by
  obtain ⟨b, q, t, s, xs, A, n, h1, h2, h3, h4, _⟩ := h
  exact ⟨b, q, _, A, n, h1, h2, h3, h4⟩
def inM (M : Mp) (l : List (Nat × Path)) : Mp := fun j q => match l[j]? with
  | some (b, p) => M b (p ++ q)
  | none => none
def inCx (M : Mp) (B : Bs) (l : List (Nat × Path)) (w : World) (hg : GlobOk w fun k => k < w.heap.size ∧ ¬ FRow M B l k) : Cx := ⟨w, fun k => k < w.heap.size ∧ ¬ FRow M B l k, FCell M B l, 0, FRow M B l, inM M l, fun k h => h.1, fun k o h hs => h.2 hs.row, hg⟩
theorem Rel.notFRow (R : Rel cx M st a w) {l : List (Nat × Path)} {k : Nat} (hk : cx.Ro k) : ¬ FRow M st.B l k := fun ⟨b, q, ⟨t, s, xs⟩, A, n, f1, f2, f3, f4⟩ => (R.away b q t s xs f2 A n f3).1 (f4 ▸ hk)
theorem Rel.globIn (R : Rel cx M st a w) (l : List (Nat × Path)) : GlobOk w fun k => k < w.heap.size ∧ ¬ FRow M st.B l k := R.globTo fun k hk => ⟨R.roLt hk, R.notFRow hk⟩
theorem Rel.handed (R : Rel cx M st a w) {l : List (Nat × Path)} (hap : apartB l = true) {bs : Bl} (hbs1 : ∀ i b p, l[i]? = some (b, p) → ∃ t s xs, rowsAt st.B b p = some (t, s, xs) ∧ toB bs (0 + i) = some (t, s, xs) ∧ (t = true → closedB xs = true)) (hbs2 : ∀ k x, toB bs k = some x → ∃ i, i < l.length ∧ k = 0 + i) :
    RelB (inCx M st.B l w (R.globIn l)) (inM M l) (toB bs) w := by
  have hb : ∀ j q x, rowsAt (toB bs) j q = some x → ∃ b p, l[j]? = some (b, p) ∧ rowsAt st.B b (p ++ q) = some x ∧ foc l 0 b (p ++ q) = some (j, q) ∧ (x.1 = true → closedB x.2.2 = true) := by
    intro j q x hx
    cases hj : toB bs j with
    | none => unfold rowsAt at hx; rw [hj] at hx; cases hx
    | some y =>
      obtain ⟨i, hi, rfl⟩ := hbs2 j y hj
      have hl : ∃ b p, l[i]? = some (b, p) := ⟨_, _, List.getElem?_eq_getElem hi⟩
      obtain ⟨b, p, hl⟩ := hl
      obtain ⟨t, s, xs, e1, e2, e3⟩ := hbs1 i b p hl
      rw [rowsAt_toB e2] at hx
      refine ⟨b, p, by rw [Nat.zero_add]; exact hl, by rw [rowsAt_append e1]; exact hx, foc_of l 0 hap i b p hl q, fun ht => ?_⟩
      obtain ⟨z, h1, rfl⟩ := Option.map_eq_some_iff.1 hx
      simp only [Bool.and_eq_true] at ht
      have hq : q = [] := by simpa using ht.2
      subst hq
      simp only [sub, Option.some.injEq] at h1
      subst h1
      exact e3 ht.1
  have hM : ∀ j b p q, l[j]? = some (b, p) → inM M l j q = M b (p ++ q) := by intro j b p q h; unfold inM; rw [h]
  refine ⟨rfl, rfl, fun t => .undef _, fun j q t s ys hx => ?_, fun j q j' q' h h' A n A' n' hA hA' hbl => ?_, fun j q t s ys hx A n hA => ?_, Kp.refl _ _, fun b _ => rfl⟩
  · obtain ⟨b, p, h1, h2, h3, h4⟩ := hb j q _ hx
    have F := R.flat b (p ++ q) t s ys h2
    refine ⟨F.lens, fun h => F.none (by rw [← hM j b p q h1]; exact h), fun A n hA => F.there A n (by rw [← hM j b p q h1]; exact hA), fun A n hA i k v hv => ?_⟩
    rw [hM j b p q h1] at hA
    obtain ⟨u, g1, g2, g3⟩ := F.cell A n hA i k v hv
    refine ⟨u, g1, g2, ?_⟩
    have no : t = true → closedV v = true := fun ht => closedB_get (h4 ht) hv
    cases v
    case own s2 zs =>
      simp only [CR] at g3 ⊢
      cases g3 with
      | sl c1 c2 => exact .sl c1 (by rw [hM j b p _ h1, ← List.append_assoc]; exact c2)
    case lit => exact g3
    case undef => trivial
    all_goals (have := no g3.1; cases this)
  · obtain ⟨x, h⟩ := Option.isSome_iff_exists.1 h
    obtain ⟨x', h'⟩ := Option.isSome_iff_exists.1 h'
    obtain ⟨b, p, h1, h2, h3, _⟩ := hb j q _ h
    obtain ⟨b', p', h1', h2', h3', _⟩ := hb j' q' _ h'
    rw [hM _ _ _ _ h1] at hA
    rw [hM _ _ _ _ h1'] at hA'
    obtain ⟨e1, e2⟩ := R.inj _ _ _ _ (by rw [h2]; rfl) (by rw [h2']; rfl) A n A' n' hA hA' hbl
    rw [← e1, ← e2, h3] at h3'
    simp only [Option.some.injEq, Prod.mk.injEq] at h3'
    exact h3'
  · obtain ⟨b, p, h1, h2, h3, _⟩ := hb j q _ hx
    rw [hM _ _ _ _ h1] at hA
    have hF : FRow M st.B l A.block := ⟨b, p ++ q, _, A, n, by rw [h3]; rfl, h2, hA, rfl⟩
    exact ⟨fun h => h.2 hF, fun _ => ⟨hF, fun o ho ht => ⟨b, p ++ q, t, s, ys, A, n, by rw [h3]; rfl, h2, hA, rfl, ho, ht⟩⟩⟩
/-- What lies where, under the caller's names. -/
def idF (d : Nat) (l : List (Nat × Path)) (b : Nat) (q : Path) : Option (Nat × Path) := match resId d b with
  | some j => some (j, q)
  | none => foc l 0 b q
def outM (d : Nat) (l : List (Nat × Path)) (M M2 : Mp) : Mp := fun b q => match idF d l b q with
  | some (j, r) => M2 j r
  | none => M b q
theorem idF_append {d : Nat} {l : List (Nat × Path)} (hap : apartB l = true) {b : Nat} {q : Path} {j : Nat} {r : Path} (h : idF d l b q = some (j, r)) (s : Path) : idF d l b (q ++ s) = some (j, r ++ s) := by
  unfold idF at h ⊢
  cases hr : resId d b with
  | some j' =>
    rw [hr] at h
    simp only [Option.some.injEq, Prod.mk.injEq] at h ⊢
    exact ⟨h.1, by rw [h.2]⟩
  | none =>
    rw [hr] at h
    simp only at h ⊢
    obtain ⟨i, p, e1, e2, e3⟩ := foc_some _ _ _ _ _ _ h
    subst e1 e3
    rw [List.append_assoc]
    exact foc_of l 0 hap i b p e2 _
theorem idF_inj {d : Nat} (hd : d < 1000) {l : List (Nat × Path)} (hl : l.length < 500) {b : Nat} {q : Path} {b' : Nat} {q' : Path} {x : Nat × Path} (h : idF d l b q = some x) (h' : idF d l b' q' = some x) : b = b' ∧ q = q' := by
  obtain ⟨j, r⟩ := x
  have lt : ∀ b q, foc l 0 b q = some (j, r) → j < 500 ∧ ∃ p, l[j]? = some (b, p) ∧ q = p ++ r := by
    intro b q h
    obtain ⟨i, p, e1, e2, e3⟩ := foc_some _ _ _ _ _ _ h
    rw [Nat.zero_add] at e1
    subst e1
    have := (List.getElem?_eq_some_iff.1 e2).1
    exact ⟨by omega, p, e2, e3⟩
  unfold idF at h h'
  split at h <;> split at h'
  · rename_i _ j1 e1 _ j2 e2
    simp only [Option.some.injEq, Prod.mk.injEq] at h h'
    obtain ⟨rfl, rfl⟩ := h
    obtain ⟨rfl, rfl⟩ := h'
    exact ⟨by rw [(resId_some e1).2 hd, (resId_some e2).2 hd], rfl⟩
  · rename_i _ j1 e1 _ e2
    simp only [Option.some.injEq, Prod.mk.injEq] at h
    obtain ⟨rfl, rfl⟩ := h
    have := (lt _ _ h').1
    have := (resId_some e1).1
    omega
  · rename_i _ e1 _ j2 e2
    simp only [Option.some.injEq, Prod.mk.injEq] at h'
    obtain ⟨rfl, rfl⟩ := h'
    have := (lt _ _ h).1
    have := (resId_some e2).1
    omega
  · obtain ⟨_, p, e1, e2⟩ := lt _ _ h
    obtain ⟨_, p', e1', e2'⟩ := lt _ _ h'
    rw [e1] at e1'
    simp only [Option.some.injEq, Prod.mk.injEq] at e1'
    exact ⟨e1'.1, by rw [e2, e2', e1'.2]⟩
theorem Rel.handedBack (R : Rel cx M st a w) {d : Nat} (hd : d < 1000) {l : List (Nat × Path)} (hap : apartB l = true) (hl : l.length < 500) (hres : (l.all fun x => (resId d x.1).isNone) = true) {bs' : Bl} {M2 : Mp} {w1 : World} (R1 : RelB (inCx M st.B l w (R.globIn l)) M2 (toB bs') w1)
    (hall : (bs'.all fun x => match decide (x.1 < 500) with | true => decide (x.1 < l.length) | false => x.2.1 == false) = true) (hback : backOk st.B bs' l 0) :
    Rel cx (outM d l M M2) { T := fun t => kill (killF d l) (st.T t), B := impF d l st.B bs' } a w1 := by
  have bk := backOk_ok l 0 hback
  have m1 : ∀ b q j r, idF d l b q = some (j, r) → outM d l M M2 b q = M2 j r := by intro b q j r h; unfold outM; rw [h]
  have m2 : ∀ b q, idF d l b q = none → outM d l M M2 b q = M b q := by intro b q h; unfold outM; rw [h]
  have foc_lt : ∀ b q j r, foc l 0 b q = some (j, r) → j < l.length ∧ ∃ p, l[j]? = some (b, p) ∧ q = p ++ r := by
    intro b q j r h
    obtain ⟨i, p, e1, e2, e3⟩ := foc_some _ _ _ _ _ _ h
    rw [Nat.zero_add] at e1
    subst e1
    exact ⟨(List.getElem?_eq_some_iff.1 e2).1, p, e2, e3⟩
  have hM : ∀ b q, killF d l b q = false → outM d l M M2 b q = M b q := by
    intro b q h
    unfold killF at h
    rw [Bool.or_eq_false_iff] at h
    have hr : resId d b = none := by simpa [isRes] using h.1
    cases hf : foc l 0 b q with
    | none => exact m2 b q (by unfold idF; rw [hr]; exact hf)
    | some x =>
      obtain ⟨j, r⟩ := x
      rw [m1 b q j r (by unfold idF; rw [hr]; exact hf)]
      obtain ⟨hj, p, e1, e2⟩ := foc_lt _ _ _ _ hf
      cases r with
      | cons y r => have := h.2; unfold strict at this; rw [hf] at this; cases this
      | nil =>
        have := R1.root j (by omega)
        rw [this]
        show inM M l j [] = M b q
        unfold inM
        rw [e1, e2]
  have nokill : ∀ b q, idF d l b q = none → killF d l b q = false := by
    intro b q h
    unfold idF at h
    unfold killF strict isRes
    cases hr : resId d b with
    | some j => rw [hr] at h; cases h
    | none => rw [hr] at h; simp only at h; rw [h]; rfl
  have live : ∀ b q t s ys, rowsAt (impF d l st.B bs') b q = some (t, s, ys) → (∃ j r, idF d l b q = some (j, r) ∧ rowsAt (toB bs') j r = some (t, s, ys)) ∨ (idF d l b q = none ∧ ∃ zs, rowsAt st.B b q = some (t, s, zs) ∧ like (killRow (killF d l) t zs) ys) := by
    intro b q t s ys h
    cases hr : resId d b with
    | some j =>
      refine .inl ⟨j, q, by unfold idF; rw [hr], ?_⟩
      unfold rowsAt impF at h
      unfold rowsAt
      rw [hr] at h; exact h
    | none =>
      have e : rowsAt (impF d l st.B bs') b q = rowsAt (setsB l 0 bs' (killB (killF d l) st.B)) b q := by unfold rowsAt impF; rw [hr]
      rw [e] at h
      rcases sets_live l 0 _ hap (fun i b p hi => by
        obtain ⟨t, s, xs, xs', e1, e2, e3, e4⟩ := bk i b p hi
        exact ⟨t, s, _, xs', by rw [rowsAt_killB, e1]; rfl, e2, by rw [killRow_length]; exact e4⟩) b q t s ys h with ⟨i, r, g1, g2⟩ | ⟨g1, zs, g2, g3⟩
      · exact .inl ⟨0 + i, r, by unfold idF; rw [hr]; exact g1, g2⟩
      · rw [rowsAt_killB] at g2
        obtain ⟨⟨t', s', ws⟩, h1, h2⟩ := Option.map_eq_some_iff.1 g2
        simp only [Prod.mk.injEq] at h2
        obtain ⟨rfl, rfl, rfl⟩ := h2
        exact .inr ⟨by unfold idF; rw [hr]; exact g1, ws, h1, g3⟩
  have hclosed : ∀ b q j r s ys, idF d l b q = some (j, r) → rowsAt (toB bs') j r = some (true, s, ys) → closedB ys = true := by
    intro b q j r s ys hid h
    unfold rowsAt at h
    cases hj : toB bs' j with
    | none => rw [hj] at h; cases h
    | some x =>
      obtain ⟨t0, s0, xs0⟩ := x
      rw [hj] at h
      simp only at h
      obtain ⟨⟨s1, y1⟩, h3, h4⟩ := Option.map_eq_some_iff.1 h
      simp only [Prod.mk.injEq, Bool.and_eq_true] at h4
      obtain ⟨⟨ht, hq⟩, rfl, rfl⟩ := h4
      have hq : r = [] := by simpa using hq
      subst hq ht
      simp only [sub, Option.some.injEq, Prod.mk.injEq] at h3
      obtain ⟨rfl, rfl⟩ := h3
      have ha := List.all_eq_true.1 hall _ (toB_mem hj)
      simp only at ha
      split at ha
      · have hjl := of_decide_eq_true ha
        obtain ⟨t, s, xs, xs', e1, e2, e3, e4⟩ := bk j l[j].1 l[j].2 (List.getElem?_eq_getElem hjl)
        rw [Nat.zero_add, hj] at e2
        simp only [Option.some.injEq, Prod.mk.injEq] at e2
        obtain ⟨rfl, rfl, rfl⟩ := e2
        exact e3 rfl
      · cases ha
  have hS : ∀ k o, FCell M st.B l k o → k < cx.w0.heap.size → cx.S k o := by
    rintro k o ⟨b, q, t, s, xs, A, n, h1, h2, h3, rfl, h5, h6⟩ hk
    exact ((R.away b q t s xs h2 A n h3).2 hk).2 o h5 h6
  have old : ∀ j r x A n, rowsAt (toB bs') j r = some x → M2 j r = some (A, n) → w.heap.size ≤ A.block ∨ (FRow M st.B l A.block ∧ ∀ o, o < n → (x.1 = true → A.off ≤ o ∧ o < A.off + x.2.2.length * x.2.1) → FCell M st.B l A.block o) := by
    intro j r x A n h1 h2
    obtain ⟨t, s, ys⟩ := x
    have := (R1.away j r t s ys h1 A n h2).2
    rcases Nat.lt_or_ge A.block w.heap.size with h | h
    · exact .inr (this h)
    · exact .inl h
  have noF : ∀ b q x A n, idF d l b q = none → rowsAt st.B b q = some x → M b q = some (A, n) → ¬ FRow M st.B l A.block := by
    rintro b q x A n hid h1 h2 ⟨b0, q0, x0, A0, n0, f1, f2, f3, f4⟩
    obtain ⟨rfl, rfl⟩ := R.inj b0 q0 b q (by rw [f2]; rfl) (by rw [h1]; rfl) A0 n0 A n f3 h2 f4
    unfold idF at hid
    cases hr : resId d b0 with
    | some j => rw [hr] at hid; cases hid
    | none => rw [hr] at hid; simp only at hid; rw [hid] at f1; cases f1
  refine R.change (killF d l) _ hM ?_ ?_ ?_ ?_ ?_
  · intro b q t s ys h
    rcases live b q t s ys h with ⟨j, r, hj, h1⟩ | ⟨hj, zs, h1, h2⟩
    · have F := R1.flat j r t s ys h1
      refine ⟨F.lens, fun h => F.none (by rw [← m1 b q j r hj]; exact h), fun A n hA => F.there A n (by rw [← m1 b q j r hj]; exact hA), fun A n hA i k v hv => ?_⟩
      rw [m1 b q j r hj] at hA
      obtain ⟨u, g1, g2, g3⟩ := F.cell A n hA i k v hv
      refine ⟨u, g1, g2, ?_⟩
      have no : t = true → closedV v = true := fun ht => by subst ht; exact closedB_get (hclosed b q j r s ys hj h1) hv
      cases v
      case own s2 zs =>
        simp only [CR] at g3 ⊢
        cases g3 with
        | sl c1 c2 => exact .sl c1 (by rw [m1 b _ j _ (idF_append hap hj _)]; exact c2)
      case lit => exact g3
      case undef => trivial
      all_goals (have := no g3.1; cases this)
    · refine Flat.like ((R.flat b q t s zs h1).struck hM (nokill b q hj) (fun i k s' ys' hx => ?_) (fun A n hA => ?_)) h2
      · cases hk : killF d l b (q ++ [(i, k)]) with
        | false => rfl
        | true =>
          exfalso
          unfold killF at hk
          unfold idF at hj
          cases hr : resId d b with
          | some j => rw [hr] at hj; cases hj
          | none =>
            rw [hr] at hj
            simp only at hj
            simp only [isRes, hr, Option.isSome_none, Bool.false_or] at hk
            unfold strict at hk
            split at hk
            · rename_i j y r hf
              obtain ⟨_, p, e1, e2⟩ := foc_lt _ _ _ _ hf
              have e3 : q = p ++ (y :: r).dropLast := by
                have := congrArg List.dropLast e2
                rw [List.dropLast_concat] at this
                rw [this, List.dropLast_append_of_ne_nil (by simp)]
              exact foc_none l 0 b q hj p (List.mem_of_getElem? e1) _ e3
            · cases hk
      · have k1 : Kp (FCell M st.B l) w w1 := R1.keep
        exact k1.block _ (R.block_lt h1 hA) (fun o hS => noF b q _ A n hj h1 hA hS.row)
  · intro b q b' q' h h' A n A' n' hA hA' hbl
    obtain ⟨⟨t, s, ys⟩, h⟩ := Option.isSome_iff_exists.1 h
    obtain ⟨⟨t', s', ys'⟩, h'⟩ := Option.isSome_iff_exists.1 h'
    rcases live b q t s ys h with ⟨j, r, hj, h1⟩ | ⟨hj, zs, h1, _⟩ <;> rcases live b' q' t' s' ys' h' with ⟨j', r', hj', h1'⟩ | ⟨hj', zs', h1', _⟩
    · rw [m1 _ _ _ _ hj] at hA
      rw [m1 _ _ _ _ hj'] at hA'
      obtain ⟨rfl, rfl⟩ := R1.inj j r j' r' (by show (rowsAt (toB bs') j r).isSome = true; rw [h1]; rfl) (by show (rowsAt (toB bs') j' r').isSome = true; rw [h1']; rfl) A n A' n' hA hA' hbl
      exact idF_inj hd hl hj hj'
    · rw [m1 _ _ _ _ hj] at hA
      rw [m2 _ _ hj'] at hA'
      have := R.block_lt h1' hA'
      rcases old _ _ _ _ _ h1 hA with h | ⟨h, _⟩
      · omega
      · exact absurd (hbl ▸ h) (noF b' q' _ A' n' hj' h1' hA')
    · rw [m2 _ _ hj] at hA
      rw [m1 _ _ _ _ hj'] at hA'
      have := R.block_lt h1 hA
      rcases old _ _ _ _ _ h1' hA' with h | ⟨h, _⟩
      · omega
      · exact absurd (hbl ▸ h) (noF b q _ A n hj h1 hA)
    · rw [m2 _ _ hj] at hA
      rw [m2 _ _ hj'] at hA'
      exact R.inj b q b' q' (by rw [h1]; rfl) (by rw [h1']; rfl) A n A' n' hA hA' hbl
  · intro b q t s ys h A n hA
    rcases live b q t s ys h with ⟨j, r, hj, h1⟩ | ⟨hj, zs, h1, h2⟩
    · rw [m1 _ _ _ _ hj] at hA
      have := R.keep.size
      rcases old _ _ _ _ _ h1 hA with g | ⟨⟨b0, q0, ⟨t0, s0, x0⟩, A0, n0, f1, f2, f3, f4⟩, g⟩
      · exact ⟨fun hr => by have := cx.ro _ hr; omega, fun hlt => by omega⟩
      · have := R.away b0 q0 t0 s0 x0 f2 A0 n0 f3
        rw [f4] at this
        exact ⟨this.1, fun hlt => ⟨(this.2 hlt).1, fun o ho ht => hS _ _ (g o ho ht) hlt⟩⟩
    · rw [m2 _ _ hj] at hA
      have e : ys.length = zs.length := by rw [← h2.1, killRow_length]
      rw [e]
      exact R.away b q t s zs h1 A n hA
  · have k1 : Kp (FCell M st.B l) w w1 := R1.keep
    exact R.keep.trans k1 (fun b o hb hs => hS b o hs hb)
  · intro b hb
    unfold killF
    rw [Bool.or_eq_false_iff]
    refine ⟨by simp [isRes, resId]; omega, ?_⟩
    unfold strict
    split
    · rename_i j y r hf
      obtain ⟨_, p, _, e⟩ := foc_lt _ _ _ _ hf
      have := congrArg List.length e
      simp at this
    · rfl
theorem callF_sound (R : Rel cx M st a w) {f : Nat} {args : List V} {o : Option Nat} {K : St → Prop} {vals : Array Value} (h : callF G st f args o K) (hd : o.getD 999 < 1000) (ho : ∀ d, o = some d → d < cx.N) (hv : VRs M cx.w0 cx.Ro args vals) : (∃ fn, G.P.funcs[f]? = some fn ∧ (fn.name == "runtime.NumGoroutine") = false ∧ fn.body.isSome = true) ∧ Calls G.P f vals w (Back cx a o K) := by
  obtain ⟨l, r, bs', hap, hres, hl, hcl, hall, hin, hback, hK⟩ := h
  have hl := of_decide_eq_true hl
  obtain ⟨bs, hvw, hbs1, hbs2⟩ := handIn_ok l 0 _ hin
  have RB := R.handed hap hbs1 hbs2
  have hmin : ∀ b x, minusB l st.B b = some x → st.B b = some x := by
    intro b x h
    unfold minusB at h
    split at h
    · cases h
    · exact h
  have Rm : Rel cx M { T := st.T, B := minusB l st.B } a w := R.fewer hmin
  obtain ⟨args', hF, hlen, hvs⟩ := views_ok Rm (F := foc l 0) (Ro' := (inCx M st.B l w (R.globIn l)).Ro)
    (fun k hk => ⟨R.roLt hk, fun ⟨b, q, ⟨t, s, xs⟩, A, n, f1, f2, f3, f4⟩ => (R.away b q t s xs f2 A n f3).1 (f4 ▸ hk)⟩)
    (fun b q x A n h1 h2 => by
      have h1' : rowsAt st.B b q = some x := BLe.rows hmin h1
      refine ⟨R.block_lt h1' h2, ?_⟩
      rintro ⟨b0, q0, x0, A0, n0, f1, f2, f3, f4⟩
      obtain ⟨rfl, rfl⟩ := R.inj b0 q0 b q (by rw [f2]; rfl) (by rw [h1']; rfl) A0 n0 A n f3 h2 f4
      obtain ⟨⟨j, r⟩, hf⟩ := Option.isSome_iff_exists.1 f1
      obtain ⟨i, p, _, e2, _⟩ := foc_some _ _ _ _ _ _ hf
      have : (l.any fun x => decide (x.1 = b0)) = true := List.any_eq_true.2 ⟨_, List.mem_of_getElem? e2, by simp⟩
      have hno : minusB l st.B b0 = none := by unfold minusB; rw [this]
      have h1 : rowsAt (minusB l st.B) b0 q0 = some x := h1
      unfold rowsAt at h1
      rw [hno] at h1
      cases h1)
    (inM M l) (fun b q j r hf => by
      obtain ⟨i, p, e1, e2, e3⟩ := foc_some _ _ _ _ _ _ hf
      rw [Nat.zero_add] at e1
      subst e1 e3
      unfold inM; rw [e2]) args vals.toList _ hvw (by rw [Array.length_toList]; exact hv.1) (fun k v u hv' hu => hv.2 k v u hv' (by simpa using hu))
  obtain ⟨hfn, hF⟩ := hF
  refine ⟨hfn, ?_⟩
  have c := hF (inCx M st.B l w (R.globIn l)) (inM M l) vals RB ⟨by rw [← Array.length_toList]; exact hlen, fun k v u hv' hu => hvs k v u hv' (by simpa using hu)⟩
  refine c.mono fun e w' hw => ?_
  obtain ⟨u, M2, rfl, R1, hr⟩ := hw
  have Ri := R.handedBack hd hap hl hres R1 hall hback
  exact back_put Ri ho (hr.cleaned hcl _ (fun b q hb => by
    have : idF (o.getD 999) l (resName (o.getD 999) b) q = some (b, q) := by unfold idF; rw [resId_name hd hb]
    unfold outM; rw [this])) hK
end Go.Proofs.Ytniibpihbopehaa.M

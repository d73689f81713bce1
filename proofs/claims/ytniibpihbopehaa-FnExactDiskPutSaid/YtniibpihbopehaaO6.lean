/- What a call may look at, is read there. -/
import Derived.Test.YtniibpihbopehaaO5
namespace Go.Proofs.Ytniibpihbopehaa.M
open Go Go.RowKit
set_option linter.unusedVariables false
set_option linter.unusedSimpArgs false
variable {cx : Cx} {M M' : Mp} {st : St} {a : Act} {w w' : World} {G : Pg} {p : Nat → Path → Bool}
def oldRo (w : World) : Nat → Prop := fun k => k < w.heap.size
theorem Rel.roLt (R : Rel cx M st a w) {k : Nat} (h : cx.Ro k) : oldRo w k := Nat.lt_of_lt_of_le (cx.ro k h) R.keep.size
theorem Rel.rdMono (R : Rel cx M st a w) {Ro' : Nat → Prop} (g1 : ∀ k, cx.Ro k → Ro' k) {v : V} {u : Value} (h : Rd cx.w0 cx.Ro v u) : Rd w Ro' v u := Rd.mono g1 (fun _ _ hk => R.roCell hk) h
theorem rowsAt_in {B : Bs} {b : Nat} {q : Path} {t : Bool} {sz : Nat} {xs : Row} (h : rowsAt B b q = some (t, sz, xs)) {i k s : Nat} {ys : Row} (hx : cellAt xs i k = some (.own s ys)) : rowsAt B b (q ++ [(i, k)]) = some (false, s, ys) := by
  unfold rowsAt at h ⊢
  cases hB : B b with
  | none => rw [hB] at h; cases h
  | some y =>
    obtain ⟨t0, s0, xs0⟩ := y
    rw [hB] at h
    simp only at h ⊢
    obtain ⟨⟨sz1, xs1⟩, h3, h4⟩ := Option.map_eq_some_iff.1 h
    simp only [Prod.mk.injEq] at h4
    obtain ⟨_, rfl, rfl⟩ := h4
    rw [sub_append _ _ _ _ _ _ h3]
    simp [sub, hx]
theorem Rel.rdSl (R : Rel cx M st a w) {Ro' : Nat → Prop} (g2 : ∀ b q x A n, rowsAt st.B b q = some x → M b q = some (A, n) → Ro' A.block) {b : Nat} {q : Path} {sz : Nat} {xs : Row} (h : rowsAt st.B b q = some (false, sz, xs)) {off len : Nat} {u : Value} (hlen : off + len ≤ xs.length) (hv : VR M cx.w0 cx.Ro (.sl b q sz off len) u) : Rd w Ro' (.imm sz ((xs.drop off).take len)) u := by
  cases hv with
  | @sl _ _ _ _ _ cap ad hle hfit =>
    by_cases h0 : len = 0
    · subst h0
      have : (xs.drop off).take 0 = [] := by simp
      rw [this]
      exact .nil (.inr rfl)
    · obtain ⟨A, n, hM, rfl, hf⟩ := hfit (by omega)
      have F := R.flat _ _ _ _ _ h
      have hsp := (F.there A n hM).1
      have r1 := R.rd (Ro' := Ro') g2 _ b q sz xs (Nat.le_refl _) h A n hM (max xs.length (off + cap)) (Nat.le_max_left _ _) (.imm sz xs) (.inr rfl)
      have r2 := rd_cut r1 (l := off) (h := off + len) (m := off + cap) (by omega) (by omega) (Nat.le_max_right _ _) hlen
      rw [if_neg (by omega), Option.map_some, add_of_spot hsp, show off + len - off = len by omega, show off + cap - off = cap by omega] at r2
      have e : (xs.take (off + len)).drop off = (xs.drop off).take len := by
        rw [List.drop_take, show off + len - off = len by omega]
      rw [e] at r2
      exact r2
theorem Rd.imm_own {wd : World} {Ro : Nat → Prop} {s : Nat} {xs : Row} {u : Value} (h : Rd wd Ro (.own s xs) u) : Rd wd Ro (.imm s xs) u := by
  cases h with
  | nil hn => rcases hn with hn | hn <;> cases hn; exact .nil (.inr rfl)
  | row U hn h1 h2 h3 h4 h5 h6 => rcases hn with hn | hn <;> cases hn; exact .row U (.inr rfl) h1 h2 h3 h4 h5 h6
theorem viewC_ok (R : Rel cx M st a w) {Ro' : Nat → Prop} (g1 : ∀ k, cx.Ro k → Ro' k) (g2 : ∀ b q x A n, rowsAt st.B b q = some x → M b q = some (A, n) → Ro' A.block) {b : Nat} {q : Path} {t : Bool} {sz : Nat} {xs : Row} (hr : rowsAt st.B b q = some (t, sz, xs)) {i k : Nat} {v : V} {u : Value} {K : V → Prop} (h : viewC st.B v K) (hc : cellAt xs i k = some v) (g3 : CR M cx.w0 cx.Ro t b q i k v u) : ∃ v', K v' ∧ Rd w Ro' v' u := by
  unfold viewC at h
  simp only [chk_iff, decide_eq_true_eq] at h
  split at h
  · simp only [CR] at g3; subst g3; exact ⟨_, h, .lit _⟩
  · cases g3.2 with
    | imm hr' => exact ⟨_, h, R.rdMono g1 hr'⟩
  · rename_i s' ys
    simp only [CR] at g3
    have := R.rdSl g2 (rowsAt_in hr hc) (by simp) g3
    simp only [List.drop_zero, List.take_length] at this
    exact ⟨_, h, this⟩
  · rename_i b2 q2 s2 o2 l2
    split at h
    · rename_i s3 ys hr2
      obtain ⟨rfl, h1, h2⟩ := h
      exact ⟨_, h2, R.rdSl g2 hr2 h1 g3.2⟩
    · exact ⟨_, h, .undef _⟩
  · exact ⟨_, h, .undef _⟩
theorem viewCs_ok (R : Rel cx M st a w) {Ro' : Nat → Prop} (g1 : ∀ k, cx.Ro k → Ro' k) (g2 : ∀ b q x A n, rowsAt st.B b q = some x → M b q = some (A, n) → Ro' A.block) {b : Nat} {q : Path} {t : Bool} {sz : Nat} {xs : Row} (hr : rowsAt st.B b q = some (t, sz, xs)) {i A0 o0 : Nat} : ∀ (l : List V) (k : Nat) (K : List V → Prop), viewCs st.B l K →
    (∀ j v, l[j]? = some v → cellAt xs i (k + j) = some v ∧ ∃ u, w.cell? ⟨A0, o0 + (k + j), none⟩ = some u ∧ CR M cx.w0 cx.Ro t b q i (k + j) v u) →
    ∃ l', K l' ∧ ∀ j v, l'[j]? = some v → ∃ u, w.cell? ⟨A0, o0 + (k + j), none⟩ = some u ∧ Rd w Ro' v u := by
  intro l
  induction l with
  | nil => intro k K h _; exact ⟨[], h, fun j v hj => by simp at hj⟩
  | cons c l ih =>
    intro k K h hl
    simp only [viewCs] at h
    obtain ⟨hc, u, hu, hcr⟩ := hl 0 c rfl
    obtain ⟨c', h1, h2⟩ := viewC_ok R g1 g2 hr h hc hcr
    obtain ⟨l', e1, e2⟩ := ih (k + 1) _ h1 (fun j v hj => by
      have := hl (j + 1) v (by simpa using hj)
      rw [show k + 1 + j = k + (j + 1) by omega]; exact this)
    refine ⟨c' :: l', e1, fun j v hj => ?_⟩
    cases j with
    | zero => simp at hj; subst hj; exact ⟨u, hu, h2⟩
    | succ j =>
      have := e2 j v (by simpa using hj)
      rw [show k + (j + 1) = k + 1 + j by omega]; exact this
theorem view1_ok (R : Rel cx M st a w) {Ro' : Nat → Prop} {F : Nat → Path → Option (Nat × Path)} (g1 : ∀ k, cx.Ro k → Ro' k) (g2 : ∀ b q x A n, rowsAt st.B b q = some x → M b q = some (A, n) → Ro' A.block) {v : V} {u : Value} {K : V → Prop} (h : view1 F st.B v K) (hv : VR M cx.w0 cx.Ro v u) (M' : Mp) (hF : ∀ b q j r, F b q = some (j, r) → M' j r = M b q) : ∃ v', K v' ∧ VR M' w Ro' v' u := by
  unfold view1 at h
  simp only [chk_iff, decide_eq_true_eq] at h
  split at h
  · obtain ⟨sz, h⟩ := h
    rw [hv.lit_]; exact ⟨_, h, .imm (.nil (.inr rfl))⟩
  · rw [hv.lit_]; exact ⟨_, h, .lit _⟩
  · cases hv with
    | imm hr => exact ⟨_, h, .imm (R.rdMono g1 hr)⟩
  · cases hv with
    | pro h1 h2 h3 =>
      refine ⟨_, h, .pro h1 (g1 _ h2) (fun k v hk => ?_)⟩
      obtain ⟨u, g0, g3⟩ := h3 k v hk
      exact ⟨u, by rw [R.roCell h2]; exact g0, R.rdMono g1 g3⟩
  · rename_i b q sz off len
    split at h
    · rename_i j r hf
      refine ⟨_, h, ?_⟩
      cases hv with
      | sl c1 c2 => exact .sl c1 (by rw [hF _ _ _ _ hf]; exact c2)
    · split at h
      · rename_i s xs hr
        obtain ⟨rfl, hlen, hK⟩ := h
        exact ⟨_, hK, .imm (R.rdSl g2 hr hlen hv)⟩
      · exact h.elim
  · rename_i b q sz i k
    split at h
    · rename_i j r hf
      refine ⟨_, h, ?_⟩
      cases hv with
      | ptr c1 => exact .ptr (by rw [hF _ _ _ _ hf]; exact c1)
    · split at h
      · rename_i t s xs hr
        obtain ⟨rfl, x0, hx0, hk, hK⟩ := h
        cases hv with
        | @ptr _ _ _ _ _ n A hM =>
          have F := R.flat _ _ _ _ _ hr
          obtain ⟨cs, hK, hcs⟩ := viewCs_ok R g1 g2 hr (i := i) (x0.drop k) k _ hK (fun j v hj => by
            rw [List.getElem?_drop] at hj
            have hc : cellAt xs i (k + j) = some v := by rw [cellAt_of hx0]; exact hj
            obtain ⟨u, e1, e2, g3⟩ := F.cell A n hM i (k + j) v hc
            exact ⟨hc, u, by simp only [Nat.add_assoc] at e1 ⊢; exact e1, g3⟩) (A0 := A.block) (o0 := A.off + i * s)
          refine ⟨_, hK, .pro rfl (show Ro' A.block from g2 _ _ _ _ _ hr hM) (fun j v hj => ?_)⟩
          obtain ⟨u, e1, e2⟩ := hcs j v hj
          exact ⟨u, by simp only [Nat.add_assoc] at e1 ⊢; exact e1, e2⟩
      · exact h.elim
  · exact h.elim
theorem viewL_ok (R : Rel cx M st a w) {Ro' : Nat → Prop} {F : Nat → Path → Option (Nat × Path)} (g1 : ∀ k, cx.Ro k → Ro' k) (g2 : ∀ b q x A n, rowsAt st.B b q = some x → M b q = some (A, n) → Ro' A.block) (M' : Mp) (hF : ∀ b q j r, F b q = some (j, r) → M' j r = M b q) : ∀ (l : List V) (us : List Value) (K : List V → Prop), viewL F st.B l K → us.length = l.length → (∀ (k : Nat) (v : V) (u : Value), l[k]? = some v → us[k]? = some u → VR M cx.w0 cx.Ro v u) →
    ∃ l', K l' ∧ us.length = l'.length ∧ ∀ (k : Nat) (v : V) (u : Value), l'[k]? = some v → us[k]? = some u → VR M' w Ro' v u := by
  intro l
  induction l with
  | nil => intro us K h hl hv; exact ⟨[], h, hl, fun k v u hk => by simp at hk⟩
  | cons v l ih =>
    intro us K h hl hv
    cases us with
    | nil => simp at hl
    | cons u us =>
      simp only [viewL] at h
      obtain ⟨v', h1, h2⟩ := view1_ok R g1 g2 h (hv 0 v u rfl rfl) M' hF
      obtain ⟨l', e1, e2, e3⟩ := ih us _ h1 (by simpa using hl) (fun k v u hk hu => hv (k + 1) v u (by simpa using hk) (by simpa using hu))
      refine ⟨v' :: l', e1, by simp [e2], fun k x y hx hy => ?_⟩
      cases k with
      | zero => simp at hx hy; subst hx; subst hy; exact h2
      | succ k => exact e3 k x y (by simpa using hx) (by simpa using hy)
theorem view_ok (R : Rel cx M st a w) {Ro' : Nat → Prop} {F : Nat → Path → Option (Nat × Path)} (g1 : ∀ k, cx.Ro k → Ro' k) (g2 : ∀ b q x A n, rowsAt st.B b q = some x → M b q = some (A, n) → Ro' A.block) {v : V} {u : Value} {K : V → Prop} (h : view F st.B v K) (hv : VR M cx.w0 cx.Ro v u) (M' : Mp) (hF : ∀ b q j r, F b q = some (j, r) → M' j r = M b q) : ∃ v', K v' ∧ VR M' w Ro' v' u := by
  unfold view at h
  split at h
  · cases hv with
    | @agg _ us h1 h2 =>
      obtain ⟨l', e1, e2, e3⟩ := viewL_ok R g1 g2 M' hF _ us.toList _ h (by rw [Array.length_toList]; exact h1) (fun k v u hv hu => h2 k v u hv (by simpa using hu))
      exact ⟨_, e1, .agg (by rw [← Array.length_toList]; exact e2) (fun k v u hv hu => e3 k v u hv (by simpa using hu))⟩
  · cases hv with
    | @fn _ _ us h1 h2 =>
      obtain ⟨l', e1, e2, e3⟩ := viewL_ok R g1 g2 M' hF _ us.toList _ h (by rw [Array.length_toList]; exact h1) (fun k v u hv hu => h2 k v u hv (by simpa using hu))
      exact ⟨_, e1, .fn (by rw [← Array.length_toList]; exact e2) (fun k v u hv hu => e3 k v u hv (by simpa using hu))⟩
  · exact view1_ok R g1 g2 h hv M' hF
theorem views_ok (R : Rel cx M st a w) {Ro' : Nat → Prop} {F : Nat → Path → Option (Nat × Path)} (g1 : ∀ k, cx.Ro k → Ro' k) (g2 : ∀ b q x A n, rowsAt st.B b q = some x → M b q = some (A, n) → Ro' A.block) (M' : Mp) (hF : ∀ b q j r, F b q = some (j, r) → M' j r = M b q) : ∀ (l : List V) (us : List Value) (K : List V → Prop), views F st.B l K → us.length = l.length → (∀ (k : Nat) (v : V) (u : Value), l[k]? = some v → us[k]? = some u → VR M cx.w0 cx.Ro v u) →
    ∃ l', K l' ∧ us.length = l'.length ∧ ∀ (k : Nat) (v : V) (u : Value), l'[k]? = some v → us[k]? = some u → VR M' w Ro' v u := by
  intro l
  induction l with
  | nil => intro us K h hl hv; exact ⟨[], h, hl, fun k v u hk => by simp at hk⟩
  | cons v l ih =>
    intro us K h hl hv
    cases us with
    | nil => simp at hl
    | cons u us =>
      simp only [views] at h
      obtain ⟨v', h1, h2⟩ := view_ok R g1 g2 h (hv 0 v u rfl rfl) M' hF
      obtain ⟨l', e1, e2, e3⟩ := ih us _ h1 (by simpa using hl) (fun k v u hk hu => hv (k + 1) v u (by simpa using hk) (by simpa using hu))
      refine ⟨v' :: l', e1, by simp [e2], fun k x y hx hy => ?_⟩
      cases k with
      | zero => simp at hx hy; subst hx; subst hy; exact h2
      | succ k => exact e3 k x y (by simpa using hx) (by simpa using hy)
/-- The boxes that a call's results lie in, under names of the caller's. -/
def resId (d : Nat) (b : Nat) : Option Nat := if 1000 ≤ b ∧ b % 1000 = d then some (500 + (b / 1000 - 1)) else none
def resName (d : Nat) (b : Nat) : Nat := if 500 ≤ b then 1000 * (b - 500 + 1) + d else b
def isRes (d : Nat) : Nat → Path → Bool := fun b _ => (resId d b).isSome
def impB (d : Nat) (B : Bs) (bs' : Bl) : Bs := fun b => match resId d b with
  | some j => toB bs' j
  | none => killB (isRes d) B b
theorem resId_name {d j : Nat} (hd : d < 1000) (hj : 500 ≤ j) : resId d (resName d j) = some j := by
  unfold resName resId
  rw [if_pos hj, if_pos (by constructor <;> omega)]
  congr 1; omega
theorem resId_some {d b j : Nat} (h : resId d b = some j) : 500 ≤ j ∧ (d < 1000 → b = resName d j) := by
  unfold resId at h
  split at h
  · rename_i hb
    simp only [Option.some.injEq] at h
    subst h
    refine ⟨by omega, fun hd => ?_⟩
    unfold resName
    rw [if_pos (by omega)]
    omega
  · cases h
/-- A call's boxes are taken over: those that it made. -/
theorem Rel.import (R : Rel cx M st a w) {d : Nat} (hd : d < 1000) {bs' : Bl} {M1 : Mp} {w1 : World} {cx1 : Cx} (R1 : RelB cx1 M1 (toB bs') w1) (hw0 : cx1.w0 = w) (hOwn : ∀ k, ¬ cx1.Own k) (hS : ∀ k o, ¬ cx1.S k o)
    (htop : ∀ j x, toB bs' j = some x → 500 ≤ j → x.1 = true → ∀ i k v u, cellAt x.2.2 i k = some v → VR M1 w cx1.Ro v u → VR (fun b q => match resId d b with | some j => M1 j q | none => M b q) cx.w0 cx.Ro v u) :
    Rel cx (fun b q => match resId d b with | some j => M1 j q | none => M b q) { T := fun t => kill (isRes d) (st.T t), B := impB d st.B bs' } a w1 := by
  generalize hM' : (fun b q => match resId d b with | some j => M1 j q | none => M b q : Mp) = M' at htop ⊢
  have m1 : ∀ b j q, resId d b = some j → M' b q = M1 j q := by intro b j q h; rw [← hM']; simp [h]
  have m2 : ∀ b q, resId d b = none → M' b q = M b q := by intro b q h; rw [← hM']; simp [h]
  have hM : ∀ b q, isRes d b q = false → M' b q = M b q := by intro b q h; exact m2 b q (by simpa [isRes] using h)
  have hblk : ∀ k, k < w.heap.size → w1.heap[k]? = w.heap[k]? := fun k hk => by
    have := R1.keep.block k (by rw [hw0]; exact hk) (fun o => hS k o)
    rw [hw0] at this; exact this
  have new : ∀ j q x A n, rowsAt (toB bs') j q = some x → M1 j q = some (A, n) → w.heap.size ≤ A.block := by
    intro j q x A n h1 h2
    obtain ⟨t, s, ys⟩ := x
    have := (R1.away j q t s ys h1 A n h2).2
    rcases Nat.lt_or_ge A.block w.heap.size with h | h
    · exact absurd (this (by rw [hw0]; exact h)).1 (hOwn _)
    · exact h
  have live : ∀ b q t s ys, rowsAt (impB d st.B bs') b q = some (t, s, ys) → (∃ j, resId d b = some j ∧ rowsAt (toB bs') j q = some (t, s, ys)) ∨ (resId d b = none ∧ ∃ zs, rowsAt st.B b q = some (t, s, zs) ∧ ys = killRow (isRes d) t zs) := by
    intro b q t s ys h
    cases hr : resId d b with
    | some j =>
      refine .inl ⟨j, rfl, ?_⟩
      unfold rowsAt impB at h
      unfold rowsAt
      rw [hr] at h; exact h
    | none =>
      have e : rowsAt (impB d st.B bs') b q = rowsAt (killB (isRes d) st.B) b q := by unfold rowsAt impB; rw [hr]
      rw [e, rowsAt_killB] at h
      obtain ⟨⟨t', s', zs⟩, h1, h2⟩ := Option.map_eq_some_iff.1 h
      simp only [Prod.mk.injEq] at h2
      obtain ⟨rfl, rfl, rfl⟩ := h2
      exact .inr ⟨rfl, zs, h1, rfl⟩
  have nameInj : ∀ b b' j, resId d b = some j → resId d b' = some j → b = b' := by
    intro b b' j h h'
    rw [(resId_some h).2 hd, (resId_some h').2 hd]
  refine R.change (isRes d) _ hM ?_ ?_ ?_ ?_ (fun b hb => by simp [isRes, resId]; omega)
  · intro b q t s ys h
    rcases live b q t s ys h with ⟨j, hj, h1⟩ | ⟨hj, zs, h1, rfl⟩
    · have F := R1.flat j q t s ys h1
      refine ⟨F.lens, fun h => F.none (by rw [← m1 b j q hj]; exact h), fun A n hA => F.there A n (by rw [← m1 b j q hj]; exact hA), fun A n hA i k v hv => ?_⟩
      rw [m1 b j q hj] at hA
      obtain ⟨u, g1, g2, g3⟩ := F.cell A n hA i k v hv
      refine ⟨u, g1, g2, ?_⟩
      have top_ : t = true → ∃ x, toB bs' j = some x ∧ x.1 = true ∧ x.2.2 = ys := by
        intro ht
        unfold rowsAt at h1
        cases hB : toB bs' j with
        | none => rw [hB] at h1; cases h1
        | some x =>
          obtain ⟨t0, s0, xs0⟩ := x
          rw [hB] at h1
          simp only at h1
          obtain ⟨⟨s1, y1⟩, h3, h4⟩ := Option.map_eq_some_iff.1 h1
          simp only [Prod.mk.injEq] at h4
          obtain ⟨h5, h6, h7⟩ := h4
          rw [ht, Bool.and_eq_true] at h5
          have hq : q = [] := by simpa using h5.2
          subst hq
          simp only [sub, Option.some.injEq, Prod.mk.injEq] at h3
          exact ⟨_, rfl, h5.1, by simp only; rw [h3.2, h7]⟩
      have other : t = true ∧ VR M1 cx1.w0 cx1.Ro v u → t = true ∧ VR M' cx.w0 cx.Ro v u := by
        rintro ⟨ht, hv'⟩
        obtain ⟨x, e1, e2, e3⟩ := top_ ht
        have h500 := (resId_some hj).1
        exact ⟨ht, htop j x e1 h500 e2 i k v u (by rw [e3]; exact hv) (by rw [← hw0]; exact hv')⟩
      cases v
      case own s2 zs =>
        simp only [CR] at g3 ⊢
        cases g3 with
        | sl c1 c2 => exact .sl c1 (by rw [m1 b j _ hj]; exact c2)
      case lit => exact g3
      case undef => trivial
      all_goals exact other g3
    · exact (R.flat b q t s zs h1).struck hM (by simp [isRes, hj]) (fun _ _ _ _ _ => by simp [isRes, hj]) (fun A n hA => hblk _ (R.block_lt h1 hA))
  · intro b q b' q' h h' A n A' n' hA hA' hbl
    obtain ⟨⟨t, s, ys⟩, h⟩ := Option.isSome_iff_exists.1 h
    obtain ⟨⟨t', s', ys'⟩, h'⟩ := Option.isSome_iff_exists.1 h'
    rcases live b q t s ys h with ⟨j, hj, h1⟩ | ⟨hj, zs, h1, _⟩ <;> rcases live b' q' t' s' ys' h' with ⟨j', hj', h1'⟩ | ⟨hj', zs', h1', _⟩
    · rw [m1 _ _ _ hj] at hA
      rw [m1 _ _ _ hj'] at hA'
      obtain ⟨rfl, rfl⟩ := R1.inj j q j' q' (by show (rowsAt (toB bs') j q).isSome = true; rw [h1]; rfl) (by show (rowsAt (toB bs') j' q').isSome = true; rw [h1']; rfl) A n A' n' hA hA' hbl
      exact ⟨nameInj _ _ _ hj hj', rfl⟩
    · rw [m1 _ _ _ hj] at hA
      rw [m2 _ _ hj'] at hA'
      have := new _ _ _ _ _ h1 hA
      have := R.block_lt h1' hA'
      omega
    · rw [m2 _ _ hj] at hA
      rw [m1 _ _ _ hj'] at hA'
      have := new _ _ _ _ _ h1' hA'
      have := R.block_lt h1 hA
      omega
    · rw [m2 _ _ hj] at hA
      rw [m2 _ _ hj'] at hA'
      exact R.inj b q b' q' (by rw [h1]; rfl) (by rw [h1']; rfl) A n A' n' hA hA' hbl
  · intro b q t s ys h A n hA
    rcases live b q t s ys h with ⟨j, hj, h1⟩ | ⟨hj, zs, h1, rfl⟩
    · rw [m1 _ _ _ hj] at hA
      have g := new _ _ _ _ _ h1 hA
      have := R.keep.size
      exact ⟨fun hr => by have := cx.ro _ hr; omega, fun hlt => by omega⟩
    · rw [m2 _ _ hj] at hA
      rw [killRow_length]
      exact R.away b q t s zs h1 A n hA
  · have k1 : Kp cx1.S cx1.w0 w1 := R1.keep
    rw [hw0] at k1
    exact R.keep.trans k1 (fun b o _ hs => absurd hs (hS b o))
end Go.Proofs.Ytniibpihbopehaa.M

/- A struct that is stored; a variable that is made. -/
import Derived.Test.YtniibpihbopehaaN6
namespace Go.Proofs.Ytniibpihbopehaa.M
open Go Go.RowKit
set_option linter.unusedVariables false
set_option linter.unusedSimpArgs false
variable {cx : Cx} {M M' : Mp} {st : St} {a : Act} {w w' : World} {G : Pg} {p : Nat → Path → Bool}
def stv (b : Nat) (q : Path) (i : Nat) : List V → St → Nat → List V → (St → Prop) → Prop
  | [], st, _, [], K => K st
  | [], _, _, _ :: _, _ => False
  | _ :: _, _, _, [], _ => False
  | z :: zs, st, k, v :: vs, K => st1 st b q i k z v fun st' p => stv b q i zs st' (k + 1) (killL p vs) K
theorem setCell_same {A : Addr} {u : Value} (h : w.cell? A = some u) : w.setCell A u = w := by
  obtain ⟨heap, tape, drawn, os, output⟩ := w
  unfold World.cell? at h
  simp only at h
  unfold World.setCell
  simp only [World.mk.injEq, and_self, and_true]
  apply Array.ext_getElem?
  intro j
  rw [Array.getElem?_modify]
  by_cases e : A.block = j
  · subst e
    rw [if_pos rfl]
    cases hx : heap[A.block]? with
    | none => rfl
    | some x =>
      rw [hx] at h
      cases x <;> simp only [Option.map_some] at h ⊢
      case cells c e f =>
        by_cases hs : A.spot.isSome = true
        · rw [if_pos hs]
        · rw [if_neg hs] at h ⊢
          congr 2
          apply Array.ext_getElem?
          intro l
          rw [Array.getElem?_setIfInBounds]
          by_cases e2 : A.off = l
          · subst e2
            rw [if_pos rfl]
            have := (Array.getElem?_eq_some_iff.1 h).1
            rw [if_pos this, h]
          · rw [if_neg e2]
  · rw [if_neg e]
theorem VRs.struck {wd : World} {Ro : Nat → Prop} {vs : List V} {us : List Value} (h : us.length = vs.length ∧ ∀ (k : Nat) (v : V) (u : Value), vs[k]? = some v → us[k]? = some u → VR M wd Ro v u) (hM : ∀ b q, p b q = false → M' b q = M b q) :
    us.length = (killL p vs).length ∧ ∀ (k : Nat) (v : V) (u : Value), (killL p vs)[k]? = some v → us[k]? = some u → VR M' wd Ro v u := by
  refine ⟨by rw [killL_length]; exact h.1, fun k v u hv hu => ?_⟩
  rw [killL_get] at hv
  obtain ⟨x, hx, rfl⟩ := Option.map_eq_some_iff.1 hv
  exact (h.2 k x u hx hu).struck hM
/-- Cells that are stored one by one: what the state is behind them; where they stand there already, nothing is done. -/
theorem stv_sound {b : Nat} {q : Path} {sz i : Nat} {A : Addr} {n : Nat} {K : St → Prop} (P : Program) : ∀ (zs : List V) (st : St) (M : Mp) (w : World) (k j : Nat) (vs : List V) (us : List Value), Rel cx M st a w → stv b q i zs st (k + j) vs K → (∀ t s xs, rowsAt st.B b q = some (t, s, xs) → s = sz) → M b q = some (A, n) →
    (us.length = vs.length ∧ ∀ (k : Nat) (v : V) (u : Value), vs[k]? = some v → us[k]? = some u → VR M cx.w0 cx.Ro v u) →
      ∃ w' M' st', (storeCells ⟨A.block, A.off + i * sz + k, none⟩ us j).run P w = .ok () w' ∧ K st' ∧ Rel cx M' st' a w' ∧ M' b q = some (A, n) ∧ (∀ t s xs, rowsAt st'.B b q = some (t, s, xs) → s = sz) ∧ ((∀ l u, us[l]? = some u → w.cell? ⟨A.block, A.off + i * sz + k + j + l, none⟩ = some u) → w' = w) := by
  intro zs
  induction zs with
  | nil =>
    intro st M w k j vs us R h hs hA hv
    cases vs with
    | nil =>
      obtain rfl : us = [] := List.eq_nil_of_length_eq_zero hv.1
      exact ⟨w, M, st, rfl, h, R, hA, hs, fun _ => rfl⟩
    | cons v vs => exact h.elim
  | cons z zs ih =>
    intro st M w k j vs us R h hs hA hv
    cases vs with
    | nil => exact h.elim
    | cons v vs =>
      cases us with
      | nil => simp at hv
      | cons u us =>
        simp only [stv] at h
        have hu := hv.2 0 v u rfl rfl
        obtain ⟨run, M1, st1', p, hk, R1, hM1, hA1, hs1⟩ := st1_sound R h hs hA hu P
        obtain ⟨w', M', st', run', hK, R', hA', hs', hid⟩ := ih st1' M1 _ k (j + 1) (killL p vs) us R1 (by rw [← Nat.add_assoc]; exact hk) hs1 hA1
          (VRs.struck ⟨by simpa using hv.1, fun l v' u' h1 h2 => hv.2 (l + 1) v' u' (by simpa using h1) (by simpa using h2)⟩ hM1)
        refine ⟨w', M', st', ?_, hK, R', hA', hs', fun hsame => ?_⟩
        · simp only [storeCells, Sem.run_bind, add_plain]
          rw [show A.off + i * sz + k + j = A.off + i * sz + (k + j) by omega, run]
          exact run'
        · have h0 := hsame 0 u rfl
          have e := setCell_same h0
          rw [show A.off + i * sz + k + j + 0 = A.off + i * sz + (k + j) by omega] at e
          rw [e] at hid
          exact hid (fun l u' hl => by have := hsame (l + 1) u' (by simpa using hl); rw [show A.off + i * sz + k + (j + 1) + l = A.off + i * sz + k + j + (l + 1) by omega]; exact this)
/-- 'store': the value's cells, the type's zeros beside them. -/
def storew (tt : Nat → Option Ty) (st : St) (t : Nat) (x v : V) (K : St → Prop) : Prop :=
  match tt t, x with
  | some y, .ptr b q sz i k => (match rowsAt st.B b q with | some (_, s, xs) => chk (decide (s = sz)) (i < xs.length ∧ chk (decide ((cellsV v).length = y.size)) (chk ((cellsV v).all oneV) (stv b q i y.zero st k (cellsV v) K))) | none => False)
  | _, _ => False
theorem storew_sound (R : Rel cx M st a w) {t : Nat} {x v : V} {ux uv : Value} {K : St → Prop} (h : storew G.tt st t x v K) (hx : VR M cx.w0 cx.Ro x ux) (hv : VR M cx.w0 cx.Ro v uv) :
    ∃ w' M' st', (Instr.storeAt t ux uv).run G.P w = .ok () w' ∧ K st' ∧ Rel cx M' st' a w' := by
  unfold storew at h
  split at h
  · rename_i y b q sz i k hy
    simp only [chk_iff, decide_eq_true_eq] at h
    cases hr0 : rowsAt st.B b q with
    | none => rw [hr0] at h; exact h.elim
    | some r0 =>
    obtain ⟨t0, s0, xs0⟩ := r0
    rw [hr0] at h
    obtain ⟨h1, h2, h3, h4, h5⟩ := h
    obtain ⟨ii, z, hi, hs, _⟩ := (G.ok t y hy).info
    cases hx with
    | @ptr _ _ _ _ _ n A hM =>
      have hcs := cellsV_ok hv h4
      have hs' : ∀ t s xs, rowsAt st.B b q = some (t, s, xs) → s = sz := by
        intro t s xs hr
        rw [hr0] at hr
        cases hr
        exact h1
      obtain ⟨w', M', st', run, hK, R', _⟩ := stv_sound (K := K) (sz := sz) G.P y.zero st M w k 0 (cellsV v) uv.cells.toList R h5 hs' hM ⟨by rw [Array.length_toList]; exact hcs.1, fun l v u hv hu => hcs.2 l v u hv (by simpa using hu)⟩
      refine ⟨w', M', st', ?_, hK, R'⟩
      have hsz : uv.cells.size = ii.size := by rw [hcs.1, h3, hs]
      simp only [Instr.storeAt, Instr.sureAddr, Sem.run_bind, Sem.run_pure, Result.andThen_ok, storeVar, run_sizeOf' hi, hsz]
      simpa using run
  · exact h.elim
end Go.Proofs.Ytniibpihbopehaa.M

/- A value that is stored, cell by cell. -/
import Derived.Test.YtpojadoklfdfiaaN5
namespace Go.Proofs.Ytpojadoklfdfiaa.M
open Go Go.RowKit
set_option linter.unusedVariables false
set_option linter.unusedSimpArgs false
variable {cx : Cx} {M M' : Mp} {st : St} {a : Act} {w w' : World} {G : Pg} {p : Nat → Path → Bool}
def noPath : Nat → Path → Bool := fun _ _ => false
mutual
theorem kill_no : ∀ v : V, kill noPath v = v
  | .sl b q sz off len => by rw [kill]; rfl
  | .ptr b q sz i k => by rw [kill]; rfl
  | .agg cs => by rw [kill, killL_no cs]
  | .tup vs => by rw [kill, killL_no vs]
  | .fn f cs => by rw [kill, killL_no cs]
  | .lit x => by rw [kill]
  | .imm s xs => by rw [kill]
  | .own s xs => by rw [kill]
  | .pro cs => by rw [kill]
  | .undef => by rw [kill]
theorem killL_no : ∀ l : List V, killL noPath l = l
  | [] => by rw [killL]
  | v :: r => by rw [killL, kill_no v, killL_no r]
end
theorem killB_no (B : Bs) : killB noPath B = B := by
  funext b
  unfold killB
  split
  · rename_i sz xs h
    rw [h]
    have : xs.map (killL noPath) = xs := by
      rw [show killL noPath = id by funext l; exact killL_no l]; simp
    rw [this]
  · rfl
def nilFix : V → V → V
  | .own s [], .lit (.slice none 0 0) => .own s []
  | _, v => v
/-- What a cell takes as it is. -/
def takes (top : Bool) : V → Bool
  | .own _ [] => true
  | .lit x => x.oneCell'
  | .imm _ _ | .sl _ _ _ _ _ | .pro _ | .ptr _ _ _ _ _ | .fn _ _ => top
  | _ => false
def plainSt (st : St) (b : Nat) (q : Path) (i k : Nat) (v0 v : V) (K : St → (Nat → Path → Bool) → Prop) : Prop :=
  if (v0.isOwn || v.isOwn) = true then K { T := fun t => kill (under b q i k) (st.T t), B := killB (under b q i k) (setB st.B b q (fun ys => setCell ys i k v)) } (under b q i k)
  else K { T := st.T, B := setB st.B b q (fun ys => setCell ys i k v) } noPath
def absSt (st : St) (b : Nat) (q : Path) (i k : Nat) (d s len : Nat) (K : St → (Nat → Path → Bool) → Prop) : Prop :=
  match st.B d with
  | some (false, s2, ys) => chk (decide (s2 = s)) (len ≤ ys.length ∧ chk (decide (d ≠ b)) (K { T := fun t => kill (fun b' q' => b' == d || under b q i k b' q') (st.T t), B := killB (fun b' q' => b' == d || under b q i k b' q') (upd (setB st.B b q (fun zs => setCell zs i k (.own s (ys.take len)))) d none) } (fun b' q' => b' == d || under b q i k b' q')))
  | _ => False
def st1 (st : St) (b : Nat) (q : Path) (i k : Nat) (z v : V) (K : St → (Nat → Path → Bool) → Prop) : Prop :=
  match rowsAt st.B b q with
  | none => False
  | some (top, sz, xs) => ∃ v0, cellAt xs i k = some v0 ∧ match v with
      | .sl d [] s 0 len => match top with
        | true => plainSt st b q i k v0 v K
        | false => if 1000 ≤ d then absSt st b q i k d s len K else False
      | _ => chk (takes top (nilFix z v)) (plainSt st b q i k v0 (nilFix z v) K)
theorem nilFix_ok {wd : World} {Ro : Nat → Prop} {top : Bool} {z v : V} {u : Value} (h : VR M wd Ro v u) (ht : takes top (nilFix z v) = true) : CN M wd Ro top (nilFix z v) u ∧ u.oneCell' = true := by
  by_cases hf : nilFix z v = v
  · rw [hf] at ht ⊢
    cases v <;> simp only [takes, Bool.false_eq_true] at ht
    case lit x => have := h.lit_; subst this; exact ⟨rfl, ht⟩
    case own s xs => cases h
    all_goals exact ⟨⟨ht, h⟩, (h.one rfl).2⟩
  · unfold nilFix at hf ht ⊢
    split at hf
    · have := h.lit_; subst this; exact ⟨rfl, rfl⟩
    · exact absurd rfl hf
/-- The store of a cell, in memory. -/
theorem run_cell_store (R : Rel cx M st a w) {b : Nat} {q : Path} {top : Bool} {sz : Nat} {xs : Row} (h0 : rowsAt st.B b q = some (top, sz, xs)) {A : Addr} {n : Nat} (hA : M b q = some (A, n)) {i k : Nat} {v0 : V} (hc : cellAt xs i k = some v0) (u : Value) (hu : u.oneCell' = true) (P : Program) :
    (Go.store ⟨A.block, A.off + i * sz + k, none⟩ u).run P w = .ok () (w.setCell ⟨A.block, A.off + i * sz + k, none⟩ u) := by
  have F := R.flat b q top sz xs h0
  obtain ⟨u0, h1, _, _⟩ := F.cell A n hA i k v0 hc
  obtain ⟨_, _, hfree, hfit⟩ := F.there A n hA
  have hi := (cellAt_lt hc).1
  have hk := F.k_lt hc
  have hle : i * sz + k < xs.length * sz := by
    have : (i + 1) * sz ≤ xs.length * sz := Nat.mul_le_mul_right _ hi
    rw [Nat.add_mul] at this
    omega
  have hf := hfree (A.off + i * sz + k) (by omega)
  rw [run_store P w _ u .plain hu, h1]
  simp only
  rw [hf]; rfl
theorem rowsAt_upd (B : Bs) (x : Option (Bool × Nat × Row)) {b d : Nat} (h : b ≠ d) (q : Path) : rowsAt (upd B d x) b q = rowsAt B b q := by unfold rowsAt; rw [upd_ne _ _ _ _ h]
/-- A cell is written, and the state is one. -/
def Put1 (cx : Cx) (M : Mp) (a : Act) (w : World) (P : Program) (K : St → (Nat → Path → Bool) → Prop) (b : Nat) (q : Path) (A : Addr) (n sz i k : Nat) (u : Value) : Prop :=
  (Go.store ⟨A.block, A.off + i * sz + k, none⟩ u).run P w = .ok () (w.setCell ⟨A.block, A.off + i * sz + k, none⟩ u) ∧ ∃ M' st' p, K st' p ∧ Rel cx M' st' a (w.setCell ⟨A.block, A.off + i * sz + k, none⟩ u) ∧ (∀ b' q', p b' q' = false → M' b' q' = M b' q') ∧ M' b q = some (A, n) ∧ (∀ t s xs, rowsAt st'.B b q = some (t, s, xs) → s = sz)
theorem st1_sound (R : Rel cx M st a w) {b : Nat} {q : Path} {sz i k : Nat} {z v : V} {u : Value} {K : St → (Nat → Path → Bool) → Prop} (h : st1 st b q i k z v K) (hs : ∀ t s xs, rowsAt st.B b q = some (t, s, xs) → s = sz) {A : Addr} {n : Nat} (hA : M b q = some (A, n)) (hu : VR M cx.w0 cx.Ro v u) (P : Program) :
    Put1 cx M a w P K b q A n sz i k u := by
  unfold st1 at h
  simp only [chk_iff] at h
  cases h0 : rowsAt st.B b q with
  | none => rw [h0] at h; exact h.elim
  | some x =>
    obtain ⟨top, sz', xs⟩ := x
    have := hs _ _ _ h0
    subst this
    rw [h0] at h
    simp only at h
    obtain ⟨v0, hc, h⟩ := h
    have key : Put1 cx M a w P K b q A n sz' i k u := by
      have size : ∀ (p : Nat → Path → Bool) v t s ys, rowsAt (killB p (setB st.B b q (fun ys => setCell ys i k v))) b q = some (t, s, ys) → s = sz' := by
        intro p v t s ys h
        rw [rowsAt_killB] at h
        obtain ⟨⟨t', s', zs⟩, h1, h2⟩ := Option.map_eq_some_iff.1 h
        simp only [Prod.mk.injEq] at h2
        obtain ⟨rfl, rfl, rfl⟩ := h2
        rcases set_live h0 hc h1 with ⟨_, _, _, rfl, _⟩ | ⟨_, _, s3, zs3, r, _, hq, _⟩ | ⟨h3, _⟩
        · rfl
        · have := congrArg List.length hq; simp at this
        · exact absurd ⟨rfl, rfl⟩ h3
      have plain : ∀ v', CN M cx.w0 cx.Ro top v' u → u.oneCell' = true → plainSt st b q i k v0 v' K → Put1 cx M a w P K b q A n sz' i k u := by
        intro v' hv hone hk
        have run := run_cell_store R h0 hA hc u hone P
        unfold plainSt at hk
        by_cases ho : (v0.isOwn || v'.isOwn) = true
        · rw [if_pos ho] at hk
          have R' := R.store h0 hA hc v' u hone hv (under b q i k) (by funext b' q'; rw [ho]; simp)
          refine ⟨run, _, _, _, hk, R', ?_, ?_, size _ v'⟩
          · intro b' q' hp; simp [hp]
          · simp [not_under_self, hA]
        · rw [if_neg ho] at hk
          have R' := R.store h0 hA hc v' u hone hv noPath (by funext b' q'; simp only [Bool.not_eq_true] at ho; rw [ho]; rfl)
          have e : (fun t => kill noPath (st.T t)) = st.T := by funext t; exact kill_no _
          rw [killB_no, e] at R'
          refine ⟨run, _, _, _, hk, R', ?_, ?_, by have := size noPath v'; rw [killB_no] at this; exact this⟩
          · intro b' q' hp; simp [noPath]
          · simp [noPath, hA]
      split at h
      · rename_i d s len
        by_cases ht : top = true
        · subst ht
          exact plain (.sl d [] s 0 len) ⟨rfl, hu⟩ (by cases hu; rfl) h
        have ht : top = false := by simpa using ht
        subst ht
        simp only at h
        by_cases hd : 1000 ≤ d
        · rw [if_pos hd] at h
          unfold absSt at h
          simp only [chk_iff, decide_eq_true_eq] at h
          split at h
          · rename_i s2 ys hB
            obtain ⟨rfl, h1, h2, hk⟩ := h
            have hone : u.oneCell' = true := by cases hu; rfl
            obtain ⟨M', R', hM⟩ := R.absorb h0 hA hc hB h2 (by omega) h1 u hu _ rfl _ rfl
            refine ⟨run_cell_store R h0 hA hc u hone P, M', _, _, hk, R', hM, ?_, ?_⟩
            · rw [hM b q (by simp [not_under_self, Ne.symm h2])]; exact hA
            · intro t s ys' hr
              refine size (fun b' q' => b' == d || under b q i k b' q') (.own s2 (ys.take len)) t s ys' ?_
              rw [rowsAt_killB] at hr ⊢
              simp only [rowsAt_upd _ _ (Ne.symm h2)] at hr
              exact hr
          · exact h.elim
        · rw [if_neg hd] at h
          exact h.elim
      · obtain ⟨ht, hk⟩ := h
        obtain ⟨c1, c2⟩ := nilFix_ok hu ht
        exact plain _ c1 c2 hk
    exact key
end Go.Proofs.Ytpojadoklfdfiaa.M

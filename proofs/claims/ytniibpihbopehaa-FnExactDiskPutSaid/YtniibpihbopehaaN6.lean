/- A value that is stored, cell by cell. -/
import Derived.Test.YtniibpihbopehaaN5
namespace Go.Proofs.Ytniibpihbopehaa.M
open Go Go.RowKit
set_option linter.unusedVariables false
set_option linter.unusedSimpArgs false
variable {cx : Cx} {M M' : Mp} {st : St} {a : Act} {w w' : World} {G : Pg} {p : Nat → Path → Bool}
def noPath : Nat → Path → Bool := fun _ _ => false
mutual
theorem kill_no : ∀ v : V, kill noPath v = v
  | .sl b q sz off len => by rw [kill]; rfl
  | .ptr b q sz i k => by rw [kill]; rfl
  | .agg cs => by rw [kill, killL_no cs]
  | .tup vs => by rw [kill, killL_no vs]
  | .fn f cs => by rw [kill, killL_no cs]
  | .lit x => by rw [kill]
  | .imm s xs => by rw [kill]
  | .own s xs => by rw [kill]
  | .pro cs => by rw [kill]
  | .undef => by rw [kill]
theorem killL_no : ∀ l : List V, killL noPath l = l
  | [] => by rw [killL]
  | v :: r => by rw [killL, kill_no v, killL_no r]
end
theorem killB_no (B : Bs) : killB noPath B = B := by
  funext b
  unfold killB
  split
  · rename_i sz xs h
    rw [h]
    have : xs.map (killL noPath) = xs := by
      rw [show killL noPath = id by funext l; exact killL_no l]; simp
    rw [this]
  · rfl
theorem killRow_no (t : Bool) (xs : Row) : killRow noPath t xs = xs := by
  unfold killRow
  split
  · rw [show killL noPath = id by funext l; exact killL_no l]; simp
  · rfl
theorem Flat.world {wd : World} {Ro : Nat → Prop} {top : Bool} {b : Nat} {q : Path} {sz : Nat} {xs : Row} (F : Flat M wd Ro w top b q sz xs) (hw : ∀ A n, M b q = some (A, n) → w'.heap[A.block]? = w.heap[A.block]?) : Flat M wd Ro w' top b q sz xs := by
  have := F.struck (p := noPath) (M' := M) (fun _ _ _ => rfl) rfl (fun _ _ _ _ _ => rfl) hw
  rwa [killRow_no] at this
theorem rowsAt_own {B : Bs} {b : Nat} {q : Path} {t : Bool} {sz : Nat} {xs : Row} (h : rowsAt B b q = some (t, sz, xs)) {i k s : Nat} {ys : Row} (hx : cellAt xs i k = some (.own s ys)) (r : Path) : rowsAt B b (q ++ (i, k) :: r) = (sub s ys r).map fun z => (false, z.1, z.2) := by
  unfold rowsAt at h ⊢
  cases hB : B b with
  | none => rw [hB] at h; cases h
  | some y =>
    obtain ⟨t0, s0, xs0⟩ := y
    rw [hB] at h
    simp only at h ⊢
    obtain ⟨⟨sz1, xs1⟩, h3, h4⟩ := Option.map_eq_some_iff.1 h
    simp only [Prod.mk.injEq] at h4
    obtain ⟨_, rfl, rfl⟩ := h4
    rw [sub_append _ _ _ _ _ _ h3]
    simp only [sub, hx]
    cases sub s ys r with
    | none => rfl
    | some z => simp
/-- A cell that owns its row takes the first of it. -/
theorem Rel.cutSelf (R : Rel cx M st a w) {b : Nat} {q : Path} {sz : Nat} {xs : Row} (h0 : rowsAt st.B b q = some (false, sz, xs)) {A : Addr} {n : Nat} (hA : M b q = some (A, n)) {i k s : Nat} {ys : Row} (hc : cellAt xs i k = some (.own s ys)) {len : Nat} (hl : len ≤ ys.length) (u : Value) (hu : VR M cx.w0 cx.Ro (.sl b (q ++ [(i, k)]) s 0 len) u) :
    Rel cx M { T := st.T, B := setB st.B b q (fun zs => setCell zs i k (.own s (ys.take len))) } a (w.setCell ⟨A.block, A.off + i * sz + k, none⟩ u) := by
  have F := R.flat b q false sz xs h0
  have hone : u.oneCell' = true := by cases hu; rfl
  have hlen : (ys.take len).length = len := by rw [List.length_take]; omega
  have live : ∀ b' q' t s' zs, rowsAt (setB st.B b q (fun zs => setCell zs i k (.own s (ys.take len)))) b' q' = some (t, s', zs) →
      (b' = b ∧ q' = q ∧ t = false ∧ s' = sz ∧ zs = setCell xs i k (.own s (ys.take len))) ∨ (¬ (b' = b ∧ q' = q) ∧ ∃ zs0, rowsAt st.B b' q' = some (t, s', zs0) ∧ (like zs0 zs ∨ (t = false ∧ ∃ m, zs = zs0.take m))) := by
    intro b' q' t s' zs h
    rcases set_live h0 hc h with h1 | ⟨rfl, rfl, s2, zs2, r, hv, rfl, h3⟩ | ⟨h1, h2, zs0, h3, h4⟩
    · exact .inl h1
    · cases hv
      refine .inr ⟨fun e => by have := congrArg List.length e.2; simp at this, ?_⟩
      rw [rowsAt_own h0 hc]
      cases r with
      | nil => simp only [sub, Option.some.injEq, Prod.mk.injEq] at h3; obtain ⟨rfl, rfl⟩ := h3; exact ⟨ys, rfl, .inr ⟨rfl, len, rfl⟩⟩
      | cons y r =>
        obtain ⟨i', k'⟩ := y
        have h5 : sub s ys ((i', k') :: r) = some (s', zs) := by
          simp only [sub] at h3 ⊢
          cases hx : cellAt (ys.take len) i' k' with
          | none => rw [hx] at h3; cases h3
          | some v => rw [hx] at h3; rw [(cellAt_take hx).2]; exact h3
        exact ⟨zs, by rw [h5]; rfl, .inr ⟨rfl, zs.length, by rw [List.take_length]⟩⟩
    · exact .inr ⟨h1, zs0, h3, .inl h4⟩
  have hblk : ∀ b' q' x A' n', ¬ (b' = b ∧ q' = q) → rowsAt st.B b' q' = some x → M b' q' = some (A', n') → A'.block ≠ A.block := by
    intro b' q' x A' n' h1 h2 h3 e
    exact h1 (R.inj b' q' b q (by rw [h2]; rfl) (by rw [h0]; rfl) A' n' A n h3 hA e)
  have key : Rel cx M { T := fun t => kill noPath (st.T t), B := setB st.B b q (fun zs => setCell zs i k (.own s (ys.take len))) } a (w.setCell ⟨A.block, A.off + i * sz + k, none⟩ u) := by
    refine R.change noPath _ (fun _ _ _ => rfl) ?_ ?_ ?_ ?_ (fun _ _ => rfl)
    · intro b' q' t s' zs h
      rcases live b' q' t s' zs h with ⟨rfl, rfl, rfl, rfl, rfl⟩ | ⟨h1, zs0, h3, h4⟩
      · have := F.set (M' := M) (p := noPath) hA hc (.own s (ys.take len)) u hone (fun _ _ _ => rfl) rfl (fun _ _ _ _ _ _ => rfl) (by
          rw [if_neg (by decide)]
          show VR M cx.w0 cx.Ro (.sl b' (q' ++ [(i, k)]) s 0 (ys.take len).length) u
          rw [hlen]; exact hu)
        rwa [killRow_no] at this
      · have F0 : Flat M cx.w0 cx.Ro w t b' q' s' zs := by
          rcases h4 with h4 | ⟨rfl, m, rfl⟩
          · exact (R.flat _ _ _ _ _ h3).like h4
          · exact (R.flat _ _ _ _ _ h3).take m
        exact F0.world (fun A' n' hA' => Below.heap_setCell w _ u _ (hblk b' q' _ A' n' h1 h3 hA'))
    · intro b1 q1 b2 q2 hl1 hl2 A1 n1 A2 n2 hA1 hA2 hbl
      have old : ∀ b' q', (rowsAt (setB st.B b q (fun zs => setCell zs i k (.own s (ys.take len)))) b' q').isSome = true → (rowsAt st.B b' q').isSome = true := by
        intro b' q' h
        obtain ⟨⟨t, s', zs⟩, h⟩ := Option.isSome_iff_exists.1 h
        rcases live b' q' t s' zs h with ⟨rfl, rfl, _⟩ | ⟨_, zs0, h3, _⟩
        · rw [h0]; rfl
        · rw [h3]; rfl
      exact R.inj _ _ _ _ (old _ _ hl1) (old _ _ hl2) _ _ _ _ hA1 hA2 hbl
    · intro b' q' t s' zs h A' n' hA'
      rcases live b' q' t s' zs h with ⟨rfl, rfl, rfl, rfl, rfl⟩ | ⟨h1, zs0, h3, h4⟩
      · rw [length_setCell]
        exact R.away _ _ _ _ _ h0 _ _ hA'
      · rcases h4 with h4 | ⟨rfl, m, rfl⟩
        · rw [← h4.1]
          exact R.away _ _ _ _ _ h3 _ _ hA'
        · obtain ⟨g1, g2⟩ := R.away _ _ _ _ _ h3 _ _ hA'
          exact ⟨g1, fun hb => ⟨(g2 hb).1, fun o ho _ => (g2 hb).2 o ho (fun e => by cases e)⟩⟩
    · refine R.keep.setCell _ _ _ (fun hb => ?_)
      obtain ⟨_, _, _, hfit⟩ := F.there A n hA
      have hi := (cellAt_lt hc).1
      have hk := F.k_lt hc
      have hle : i * sz + k < xs.length * sz := by
        have : (i + 1) * sz ≤ xs.length * sz := Nat.mul_le_mul_right _ hi
        rw [Nat.add_mul] at this
        omega
      exact ((R.away b q false sz xs h0 A n hA).2 hb).2 _ (by omega) (fun _ => ⟨by omega, by omega⟩)
  have e : (fun t => kill noPath (st.T t)) = st.T := by funext t; exact kill_no _
  rwa [e] at key
def nilFix : V → V → V
  | .own s [], .lit (.slice none 0 0) => .own s []
  | _, v => v
/-- What a cell takes as it is. -/
def takes (top : Bool) : V → Bool
  | .own _ [] => true
  | .lit x => x.oneCell'
  | .imm _ _ | .sl _ _ _ _ _ | .pro _ | .ptr _ _ _ _ _ | .fn _ _ => top
  | _ => false
def plainSt (st : St) (b : Nat) (q : Path) (i k : Nat) (v0 v : V) (K : St → (Nat → Path → Bool) → Prop) : Prop :=
  if (v0.isOwn || v.isOwn) = true then K { T := fun t => kill (under b q i k) (st.T t), B := killB (under b q i k) (setB st.B b q (fun ys => setCell ys i k v)) } (under b q i k)
  else K { T := st.T, B := setB st.B b q (fun ys => setCell ys i k v) } noPath
def absSt (st : St) (b : Nat) (q : Path) (i k : Nat) (d s len : Nat) (K : St → (Nat → Path → Bool) → Prop) : Prop :=
  match st.B d with
  | some (false, s2, ys) => chk (decide (s2 = s)) (len ≤ ys.length ∧ chk (decide (d ≠ b)) (K { T := fun t => kill (fun b' q' => b' == d || under b q i k b' q') (st.T t), B := killB (fun b' q' => b' == d || under b q i k b' q') (upd (setB st.B b q (fun zs => setCell zs i k (.own s (ys.take len)))) d none) } (fun b' q' => b' == d || under b q i k b' q')))
  | _ => False
/-- A row that stands in a cell, under a name of its own. -/
def relP (b : Nat) (q : Path) (i k d0 : Nat) : Nat → Path → Bool := fun b' q' => b' == d0 || under b q i k b' q'
def relSt (st : St) (b : Nat) (q : Path) (i k d0 s2 : Nat) (ys : Row) : St := { T := fun t => kill (relP b q i k d0) (st.T t), B := upd (killB (relP b q i k d0) (setB st.B b q (fun ys => setCell ys i k .undef))) d0 (some (false, s2, ys)) }
def lastOf : Path → Option (Path × Nat × Nat)
  | [] => none
  | [(i, k)] => some ([], i, k)
  | p :: r => (lastOf r).map fun x => (p :: x.1, x.2)
theorem lastOf_ok : ∀ (q q' : Path) (i k : Nat), lastOf q = some (q', i, k) → q = q' ++ [(i, k)] := by
  intro q
  induction q with
  | nil => intro q' i k h; cases h
  | cons p r ih =>
    intro q' i k h
    cases r with
    | nil => obtain ⟨i0, k0⟩ := p; simp only [lastOf, Option.some.injEq, Prod.mk.injEq] at h; obtain ⟨rfl, rfl, rfl⟩ := h; rfl
    | cons p2 r2 =>
      simp only [lastOf] at h
      obtain ⟨⟨q2, i2, k2⟩, h1, h2⟩ := Option.map_eq_some_iff.1 h
      simp only [Prod.mk.injEq] at h2
      obtain ⟨rfl, rfl, rfl⟩ := h2
      rw [ih q2 i2 k2 h1]; rfl
/-- A row that stands in a cell of another box is moved here. -/
def moveSt (st : St) (b : Nat) (q : Path) (i k : Nat) (d : Nat) (r : Path) (s len : Nat) (K : St → (Nat → Path → Bool) → Prop) : Prop := match lastOf r with
  | some (q', i', k') => (match rowsAt st.B d q' with
    | some (_, _, xs0) => ∃ ys, cellAt xs0 i' k' = some (.own s ys) ∧ chk (decide (d ≠ b)) (chk (decide (5000 + k ≠ d)) (chk (decide (5000 + k ≠ b)) (absSt (relSt st d q' i' k' (5000 + k) s ys) b q i k (5000 + k) s len fun st' p => K st' fun b q => relP d q' i' k' (5000 + k) b q || p b q)))
    | none => False)
  | none => False
/-- A cell's own row, its first, is put back. -/
def selfSt (st : St) (b : Nat) (q : Path) (i k : Nat) (d : Nat) (r : Path) (s len : Nat) (v0 : V) (K : St → (Nat → Path → Bool) → Prop) : Prop := match v0 with
  | .own s2 ys => chk (decide (d = b)) (chk (decide (s2 = s)) (r = q ++ [(i, k)] ∧ len ≤ ys.length ∧ K { T := st.T, B := setB st.B b q (fun zs => setCell zs i k (.own s (ys.take len))) } noPath))
  | _ => moveSt st b q i k d r s len K
def st1 (st : St) (b : Nat) (q : Path) (i k : Nat) (z v : V) (K : St → (Nat → Path → Bool) → Prop) : Prop :=
  match rowsAt st.B b q with
  | none => False
  | some (top, sz, xs) => ∃ v0, cellAt xs i k = some v0 ∧ match v with
      | .sl d [] s 0 len => match top with
        | true => plainSt st b q i k v0 v K
        | false => if 1000 ≤ d then absSt st b q i k d s len K else False
      | .sl d (p :: r) s 0 len => match top with
        | true => plainSt st b q i k v0 v K
        | false => selfSt st b q i k d (p :: r) s len v0 K
      | _ => chk (takes top (nilFix z v)) (plainSt st b q i k v0 (nilFix z v) K)
theorem nilFix_ok {wd : World} {Ro : Nat → Prop} {top : Bool} {z v : V} {u : Value} (h : VR M wd Ro v u) (ht : takes top (nilFix z v) = true) : CN M wd Ro top (nilFix z v) u ∧ u.oneCell' = true := by
  by_cases hf : nilFix z v = v
  · rw [hf] at ht ⊢
    cases v <;> simp only [takes, Bool.false_eq_true] at ht
    case lit x => have := h.lit_; subst this; exact ⟨rfl, ht⟩
    case own s xs => cases h
    all_goals exact ⟨⟨ht, h⟩, (h.one rfl).2⟩
  · unfold nilFix at hf ht ⊢
    split at hf
    · have := h.lit_; subst this; exact ⟨rfl, rfl⟩
    · exact absurd rfl hf
/-- The store of a cell, in memory. -/
theorem run_cell_store (R : Rel cx M st a w) {b : Nat} {q : Path} {top : Bool} {sz : Nat} {xs : Row} (h0 : rowsAt st.B b q = some (top, sz, xs)) {A : Addr} {n : Nat} (hA : M b q = some (A, n)) {i k : Nat} {v0 : V} (hc : cellAt xs i k = some v0) (u : Value) (hu : u.oneCell' = true) (P : Program) :
    (Go.store ⟨A.block, A.off + i * sz + k, none⟩ u).run P w = .ok () (w.setCell ⟨A.block, A.off + i * sz + k, none⟩ u) := by
  have F := R.flat b q top sz xs h0
  obtain ⟨u0, h1, _, _⟩ := F.cell A n hA i k v0 hc
  obtain ⟨_, _, hfree, hfit⟩ := F.there A n hA
  have hi := (cellAt_lt hc).1
  have hk := F.k_lt hc
  have hle : i * sz + k < xs.length * sz := by
    have : (i + 1) * sz ≤ xs.length * sz := Nat.mul_le_mul_right _ hi
    rw [Nat.add_mul] at this
    omega
  have hf := hfree (A.off + i * sz + k) (by omega)
  rw [run_store P w _ u .plain hu, h1]
  simp only
  rw [hf]; rfl
theorem rowsAt_upd (B : Bs) (x : Option (Bool × Nat × Row)) {b d : Nat} (h : b ≠ d) (q : Path) : rowsAt (upd B d x) b q = rowsAt B b q := by unfold rowsAt; rw [upd_ne _ _ _ _ h]
/-- A cell is written, and the state is one. -/
def Put1 (cx : Cx) (M : Mp) (a : Act) (w : World) (P : Program) (K : St → (Nat → Path → Bool) → Prop) (b : Nat) (q : Path) (A : Addr) (n sz i k : Nat) (u : Value) : Prop :=
  (Go.store ⟨A.block, A.off + i * sz + k, none⟩ u).run P w = .ok () (w.setCell ⟨A.block, A.off + i * sz + k, none⟩ u) ∧ ∃ M' st' p, K st' p ∧ Rel cx M' st' a (w.setCell ⟨A.block, A.off + i * sz + k, none⟩ u) ∧ (∀ b' q', p b' q' = false → M' b' q' = M b' q') ∧ M' b q = some (A, n) ∧ (∀ t s xs, rowsAt st'.B b q = some (t, s, xs) → s = sz)
theorem size_set {b : Nat} {q : Path} {sz' i k : Nat} {top : Bool} {xs : Row} {v0 : V} (h0 : rowsAt st.B b q = some (top, sz', xs)) (hc : cellAt xs i k = some v0) (p : Nat → Path → Bool) (v : V) (t : Bool) (s : Nat) (ys : Row) (h : rowsAt (killB p (setB st.B b q (fun ys => setCell ys i k v))) b q = some (t, s, ys)) : s = sz' := by
  rw [rowsAt_killB] at h
  obtain ⟨⟨t', s', zs⟩, h1, h2⟩ := Option.map_eq_some_iff.1 h
  simp only [Prod.mk.injEq] at h2
  obtain ⟨rfl, rfl, rfl⟩ := h2
  rcases set_live h0 hc h1 with ⟨_, _, _, rfl, _⟩ | ⟨_, _, s3, zs3, r, _, hq, _⟩ | ⟨h3, _⟩
  · rfl
  · have := congrArg List.length hq; simp at this
  · exact absurd ⟨rfl, rfl⟩ h3
theorem abs_put (R : Rel cx M st a w) {b : Nat} {q : Path} {sz' i k d s len : Nat} {xs : Row} {v0 : V} {u : Value} {K : St → (Nat → Path → Bool) → Prop} (h0 : rowsAt st.B b q = some (false, sz', xs)) (hc : cellAt xs i k = some v0) (hd : 1000 ≤ d) (h : absSt st b q i k d s len K) {A : Addr} {n : Nat} (hA : M b q = some (A, n)) (hu : VR M cx.w0 cx.Ro (.sl d [] s 0 len) u) (P : Program) :
    Put1 cx M a w P K b q A n sz' i k u := by
  unfold absSt at h
  simp only [chk_iff, decide_eq_true_eq] at h
  split at h
  · rename_i s2 ys hB
    obtain ⟨rfl, h1, h2, hk⟩ := h
    have hone : u.oneCell' = true := by cases hu; rfl
    obtain ⟨M', R', hM⟩ := R.absorb h0 hA hc hB h2 (by omega) h1 u hu _ rfl _ rfl
    refine ⟨run_cell_store R h0 hA hc u hone P, M', _, _, hk, R', hM, ?_, ?_⟩
    · rw [hM b q (by simp [not_under_self, Ne.symm h2])]; exact hA
    · intro t s ys' hr
      refine size_set h0 hc (fun b' q' => b' == d || under b q i k b' q') (.own s2 (ys.take len)) t s ys' ?_
      rw [rowsAt_killB] at hr ⊢
      simp only [rowsAt_upd _ _ (Ne.symm h2)] at hr
      exact hr
  · exact h.elim
theorem VR.slAt {M M1 : Mp} {wd : World} {Ro : Nat → Prop} {d e sz off len : Nat} {q : Path} {u : Value} (h : VR M wd Ro (.sl d q sz off len) u) (m : M1 e [] = M d q) : VR M1 wd Ro (.sl e [] sz off len) u := by
  cases h with
  | sl c1 c2 => exact .sl c1 (by rw [m]; exact c2)
theorem move_put (R : Rel cx M st a w) {b : Nat} {q : Path} {sz' i k d s len : Nat} {r : Path} {xs : Row} {v0 : V} {u : Value} {K : St → (Nat → Path → Bool) → Prop} (h0 : rowsAt st.B b q = some (false, sz', xs)) (hc : cellAt xs i k = some v0) (h : moveSt st b q i k d r s len K) {A : Addr} {n : Nat} (hA : M b q = some (A, n)) (hu : VR M cx.w0 cx.Ro (.sl d r s 0 len) u) (P : Program) :
    Put1 cx M a w P K b q A n sz' i k u := by
  unfold moveSt at h
  split at h
  · rename_i q' i' k' hl
    have hq := lastOf_ok _ _ _ _ hl
    subst hq
    split at h
    · rename_i t0 s0 xs0 hr
      obtain ⟨ys, hc', h⟩ := h
      simp only [chk_iff, decide_eq_true_eq] at h
      obtain ⟨g1, g2, g3, h⟩ := h
      obtain ⟨M1, R1, m0, m1⟩ := R.release hr hc' (5000 + k) g2 (by omega) (relP d q' i' k' (5000 + k)) rfl
      have hp : ∀ q2, relP d q' i' k' (5000 + k) b q2 = false := fun q2 => by
        unfold relP under
        simp [Ne.symm g3, Ne.symm g1]
      have h0' : rowsAt (relSt st d q' i' k' (5000 + k) s ys).B b q = some (false, sz', xs) := by
        unfold relSt
        have e : rowsAt (setB st.B d q' fun ys => setCell ys i' k' .undef) b q = rowsAt st.B b q := by unfold rowsAt setB; rw [if_neg (Ne.symm g1)]
        rw [rowsAt_upd _ _ (Ne.symm g3), rowsAt_killB, e, h0]
        simp [killRow]
      have hA' : M1 b q = some (A, n) := by rw [m1 b q (hp q)]; exact hA
      obtain ⟨run, M', st', p, hk, R', hM, hA2, hsz⟩ := abs_put R1 h0' hc (by omega) h hA' (hu.slAt (by rw [m0])) P
      refine ⟨run, M', st', _, hk, R', fun b' q' hb => ?_, hA2, hsz⟩
      rw [Bool.or_eq_false_iff] at hb
      rw [hM b' q' hb.2, m1 b' q' hb.1]
    · exact h.elim
  · exact h.elim
theorem st1_sound (R : Rel cx M st a w) {b : Nat} {q : Path} {sz i k : Nat} {z v : V} {u : Value} {K : St → (Nat → Path → Bool) → Prop} (h : st1 st b q i k z v K) (hs : ∀ t s xs, rowsAt st.B b q = some (t, s, xs) → s = sz) {A : Addr} {n : Nat} (hA : M b q = some (A, n)) (hu : VR M cx.w0 cx.Ro v u) (P : Program) :
    Put1 cx M a w P K b q A n sz i k u := by
  unfold st1 at h
  simp only [chk_iff] at h
  cases h0 : rowsAt st.B b q with
  | none => rw [h0] at h; exact h.elim
  | some x =>
    obtain ⟨top, sz', xs⟩ := x
    have := hs _ _ _ h0
    subst this
    rw [h0] at h
    simp only at h
    obtain ⟨v0, hc, h⟩ := h
    have key : Put1 cx M a w P K b q A n sz' i k u := by
      have size : ∀ (p : Nat → Path → Bool) v t s ys, rowsAt (killB p (setB st.B b q (fun ys => setCell ys i k v))) b q = some (t, s, ys) → s = sz' := by
        intro p v t s ys h
        rw [rowsAt_killB] at h
        obtain ⟨⟨t', s', zs⟩, h1, h2⟩ := Option.map_eq_some_iff.1 h
        simp only [Prod.mk.injEq] at h2
        obtain ⟨rfl, rfl, rfl⟩ := h2
        rcases set_live h0 hc h1 with ⟨_, _, _, rfl, _⟩ | ⟨_, _, s3, zs3, r, _, hq, _⟩ | ⟨h3, _⟩
        · rfl
        · have := congrArg List.length hq; simp at this
        · exact absurd ⟨rfl, rfl⟩ h3
      have plain : ∀ v', CN M cx.w0 cx.Ro top v' u → u.oneCell' = true → plainSt st b q i k v0 v' K → Put1 cx M a w P K b q A n sz' i k u := by
        intro v' hv hone hk
        have run := run_cell_store R h0 hA hc u hone P
        unfold plainSt at hk
        by_cases ho : (v0.isOwn || v'.isOwn) = true
        · rw [if_pos ho] at hk
          have R' := R.store h0 hA hc v' u hone hv (under b q i k) (by funext b' q'; rw [ho]; simp)
          refine ⟨run, _, _, _, hk, R', ?_, ?_, size _ v'⟩
          · intro b' q' hp; simp [hp]
          · simp [not_under_self, hA]
        · rw [if_neg ho] at hk
          have R' := R.store h0 hA hc v' u hone hv noPath (by funext b' q'; simp only [Bool.not_eq_true] at ho; rw [ho]; rfl)
          have e : (fun t => kill noPath (st.T t)) = st.T := by funext t; exact kill_no _
          rw [killB_no, e] at R'
          refine ⟨run, _, _, _, hk, R', ?_, ?_, by have := size noPath v'; rw [killB_no] at this; exact this⟩
          · intro b' q' hp; simp [noPath]
          · simp [noPath, hA]
      split at h
      · rename_i d s len
        by_cases ht : top = true
        · subst ht
          exact plain (.sl d [] s 0 len) ⟨rfl, hu⟩ (by cases hu; rfl) h
        have ht : top = false := by simpa using ht
        subst ht
        simp only at h
        by_cases hd : 1000 ≤ d
        · rw [if_pos hd] at h
          unfold absSt at h
          simp only [chk_iff, decide_eq_true_eq] at h
          split at h
          · rename_i s2 ys hB
            obtain ⟨rfl, h1, h2, hk⟩ := h
            have hone : u.oneCell' = true := by cases hu; rfl
            obtain ⟨M', R', hM⟩ := R.absorb h0 hA hc hB h2 (by omega) h1 u hu _ rfl _ rfl
            refine ⟨run_cell_store R h0 hA hc u hone P, M', _, _, hk, R', hM, ?_, ?_⟩
            · rw [hM b q (by simp [not_under_self, Ne.symm h2])]; exact hA
            · intro t s ys' hr
              refine size (fun b' q' => b' == d || under b q i k b' q') (.own s2 (ys.take len)) t s ys' ?_
              rw [rowsAt_killB] at hr ⊢
              simp only [rowsAt_upd _ _ (Ne.symm h2)] at hr
              exact hr
          · exact h.elim
        · rw [if_neg hd] at h
          exact h.elim
      · rename_i d p0 r0 s len
        by_cases ht : top = true
        · subst ht
          exact plain (.sl d (p0 :: r0) s 0 len) ⟨rfl, hu⟩ (by cases hu; rfl) h
        have ht : top = false := by simpa using ht
        subst ht
        simp only at h
        unfold selfSt at h
        split at h
        · rename_i s2 ys
          simp only [chk_iff, decide_eq_true_eq] at h
          obtain ⟨rfl, rfl, hr, hl, hk⟩ := h
          have hone : u.oneCell' = true := by cases hu; rfl
          rw [hr] at hu
          have R' := R.cutSelf h0 hA hc hl u hu
          refine ⟨run_cell_store R h0 hA hc u hone P, M, _, _, hk, R', fun _ _ _ => rfl, hA, ?_⟩
          intro t s3 ys' hr'
          have := size noPath (.own s2 (ys.take len)) t s3 ys'
          rw [killB_no] at this
          exact this hr'
        · exact move_put R h0 hc h hA hu P
      · obtain ⟨ht, hk⟩ := h
        obtain ⟨c1, c2⟩ := nilFix_ok hu ht
        exact plain _ c1 c2 hk
    exact key
end Go.Proofs.Ytniibpihbopehaa.M

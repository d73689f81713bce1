/- A new box; a cell that is written. -/
import Derived.Test.YtniibpihbopehaaN0
namespace Go.Proofs.Ytniibpihbopehaa.M
open Go Go.RowKit
set_option linter.unusedVariables false
set_option linter.unusedSimpArgs false
variable {cx : Cx} {M M' : Mp} {st : St} {a : Act} {w w' : World} {G : Pg} {p : Nat → Path → Bool}
theorem Rel.block_lt (R : Rel cx M st a w) {b : Nat} {q : Path} {x : Bool × Nat × Row} (h : rowsAt st.B b q = some x) {A : Addr} {n : Nat} (hM : M b q = some (A, n)) : A.block < w.heap.size := by
  obtain ⟨top, sz, xs⟩ := x
  obtain ⟨_, ⟨c, e, f, hc, _⟩, _⟩ := (R.flat b q top sz xs h).there A n hM
  exact (Array.getElem?_eq_some_iff.1 hc).1
/-- A state that is turned: what must be shown. -/
theorem Rel.change (R : Rel cx M st a w) (p : Nat → Path → Bool) (B' : Bs) (hM : ∀ b q, p b q = false → M' b q = M b q)
    (hflat : ∀ b q top sz xs, rowsAt B' b q = some (top, sz, xs) → Flat M' cx.w0 cx.Ro w' top b q sz xs)
    (hinj : ∀ b q b' q', (rowsAt B' b q).isSome = true → (rowsAt B' b' q').isSome = true → ∀ A n A' n', M' b q = some (A, n) → M' b' q' = some (A', n') → A.block = A'.block → b = b' ∧ q = q')
    (haway : ∀ b q top sz xs, rowsAt B' b q = some (top, sz, xs) → ∀ A n, M' b q = some (A, n) → ¬ cx.Ro A.block ∧ (A.block < cx.w0.heap.size → cx.Own A.block ∧ ∀ o, o < n → (top = true → A.off ≤ o ∧ o < A.off + xs.length * sz) → cx.S A.block o))
    (hk : Kp cx.S cx.w0 w') (hp : ∀ b, b < 500 → p b [] = false) : Rel cx M' { T := fun t => kill p (st.T t), B := B' } a w' where
  defers := R.defers
  size := R.size
  regs := fun t => (R.regs t).struck hM
  flat := hflat
  inj := hinj
  away := haway
  keep := hk
  root := fun b hb => (hM b [] (hp b hb)).trans (R.root b hb)
/-- A cell that holds no slice's row, or an empty one's. -/
def CN (M : Mp) (w : World) (Ro : Nat → Prop) (top : Bool) : V → Value → Prop
  | .own _ [], u => u = .slice none 0 0
  | .own _ _, _ => False
  | .lit x, u => u = x
  | .undef, _ => True
  | v, u => top = true ∧ VR M w Ro v u
theorem CN.struck {wd : World} {Ro : Nat → Prop} {top : Bool} {b : Nat} {q : Path} {i k : Nat} {v : V} {u : Value} (h : CN M wd Ro top v u) (hM : ∀ b q, p b q = false → M' b q = M b q) (hq : v.isOwn = true → M' b (q ++ [(i, k)]) = none) :
    CR M' wd Ro top b q i k (if top = true then kill p v else v) u := by
  cases v
  case own s ys =>
    cases ys with
    | nil =>
      simp only [CN] at h
      subst h
      have e : (if top = true then kill p (.own s []) else .own s []) = V.own s [] := by rw [Go.Proofs.Ytniibpihbopehaa.M.kill]; split <;> rfl
      rw [e]
      exact .sl ⟨Nat.le_refl _, by decide⟩ (fun h => by omega)
    | cons => exact h.elim
  case lit x =>
    have e : (if top = true then kill p (.lit x) else .lit x) = V.lit x := by rw [Go.Proofs.Ytniibpihbopehaa.M.kill]; split <;> rfl
    rw [e]; exact h
  case undef =>
    have e : (if top = true then kill p .undef else .undef) = V.undef := by rw [Go.Proofs.Ytniibpihbopehaa.M.kill]; split <;> rfl
    rw [e]; trivial
  all_goals
    obtain ⟨rfl, hv⟩ := h
    rw [if_pos rfl]
    have := hv.struck (p := p) (M' := M') hM
    generalize hk : Go.Proofs.Ytniibpihbopehaa.M.kill p _ = z at this ⊢
    cases z
    case own s ys => have := kill_own p _ s ys hk; cases this
    case lit x => exact this.lit_
    case undef => trivial
    all_goals exact ⟨rfl, this⟩
theorem Kp.alloc {S : Nat → Nat → Prop} {w0 w : World} (h : Kp S w0 w) (o : Obj) : Kp S w0 (w.alloc o) := by
  have hb : ∀ k, k < w0.heap.size → (w.alloc o).heap[k]? = w.heap[k]? := fun k hk => Below.heap_alloc w o k (Nat.lt_of_lt_of_le hk h.size)
  refine ⟨h.os, h.tape, h.output, by have := h.size; simp; omega, fun k hk => ?_, fun k o' hk hn => ?_, fun k hk hn => (hb k hk).trans (h.block k hk hn)⟩
  · rw [← h.shape k hk]; unfold World.shape?; rw [hb k hk]
  · rw [← h.cell k o' hk hn]; unfold World.cell?; simp only [hb k hk]
theorem Kp.setCell {S : Nat → Nat → Prop} {w0 w : World} (h : Kp S w0 w) (b o : Nat) (u : Value) (hs : b < w0.heap.size → S b o) : Kp S w0 (w.setCell ⟨b, o, none⟩ u) := by
  have hb : ∀ k, k ≠ b → (w.setCell ⟨b, o, none⟩ u).heap[k]? = w.heap[k]? := fun k hk => Below.heap_setCell w _ u k hk
  refine ⟨h.os, h.tape, h.output, by have := h.size; simp [World.setCell]; omega, fun k hk => ?_, fun k o' hk hn => ?_, fun k hk hn => ?_⟩
  · by_cases e : k = b
    · subst e
      rw [← h.shape k hk]
      simp only [World.shape?, World.setCell, Array.getElem?_modify, if_pos]
      cases hx : w.heap[k]? with
      | none => rfl
      | some x => cases x <;> simp
    · rw [← h.shape k hk]; unfold World.shape?; rw [hb k e]
  · rw [← h.cell k o' hk hn]
    refine World.cell?_setCell_other w _ _ _ (fun e => ?_)
    simp only [Addr.mk.injEq, and_true] at e
    obtain ⟨rfl, rfl⟩ := e
    exact hn (hs hk)
  · rw [← h.block k hk hn]
    by_cases e : k = b
    · subst e; exact absurd (hs hk) (hn o)
    · exact hb k e
def boxIs (d : Nat) : Nat → Path → Bool := fun b _ => b == d
theorem Rel.alloc (R : Rel cx M st a w) (d : Nat) (h5 : 500 ≤ d) (us : Array Value) (e : TypeId) (top : Bool) (sz : Nat) (xs : Row) (hsz : xs.length * sz ≤ us.size) (hl : ∀ (i : Nat) (x : List V), xs[i]? = some x → x.length = sz)
    (hc : ∀ i k v, cellAt xs i k = some v → ∃ u, us[i * sz + k]? = some u ∧ u.oneCell' = true ∧ CN M cx.w0 cx.Ro top v u) :
    Rel cx (fun b q => if b = d then (if q = [] then some (⟨w.heap.size, 0, none⟩, us.size) else none) else M b q) { T := fun t => kill (boxIs d) (st.T t), B := upd (killB (boxIs d) st.B) d (some (top, sz, killRow (boxIs d) top xs)) } a (w.alloc (.cells us e)) := by
  generalize hM' : (fun b q => if b = d then (if q = [] then some ((⟨w.heap.size, 0, none⟩ : Addr), us.size) else none) else M b q : Mp) = M'
  have m1 : ∀ b q, b ≠ d → M' b q = M b q := by intro b q h; rw [← hM']; simp [h]
  have m2 : M' d [] = some (⟨w.heap.size, 0, none⟩, us.size) := by rw [← hM']; simp
  have m3 : ∀ q, q ≠ [] → M' d q = none := by intro q h; rw [← hM']; simp [h]
  have hM : ∀ b q, boxIs d b q = false → M' b q = M b q := by intro b q h; exact m1 b q (by simpa [boxIs] using h)
  have hcell : ∀ i k, cellAt (killRow (boxIs d) top xs) i k = (cellAt xs i k).map (fun v => if top = true then kill (boxIs d) v else v) := by
    intro i k; rw [killRow_cell]; cases top <;> simp <;> rfl
  have hnil : ∀ i k v, cellAt (killRow (boxIs d) top xs) i k = some v → v.isOwn = true → ∃ s, v = .own s [] := by
    intro i k v hv ho
    rw [hcell] at hv
    obtain ⟨x, hx, rfl⟩ := Option.map_eq_some_iff.1 hv
    obtain ⟨u, _, _, h3⟩ := hc i k x hx
    have hxo : ∃ s ys, x = .own s ys := by
      cases top with
      | false => simp only [Bool.false_eq_true, if_false] at ho; cases x <;> first | exact ⟨_, _, rfl⟩ | cases ho
      | true =>
        simp only [if_true] at ho
        generalize hz : kill (boxIs d) x = z at ho
        cases z <;> first | (exact ⟨_, _, kill_own _ _ _ _ hz⟩) | cases ho
    obtain ⟨s, ys, rfl⟩ := hxo
    cases ys with
    | nil => exact ⟨s, by cases top <;> simp [kill]⟩
    | cons => exact h3.elim
  have live : ∀ b q t s ys, rowsAt (upd (killB (boxIs d) st.B) d (some (top, sz, killRow (boxIs d) top xs))) b q = some (t, s, ys) →
      (b = d ∧ q = [] ∧ t = top ∧ s = sz ∧ ys = killRow (boxIs d) top xs) ∨ (b = d ∧ q ≠ [] ∧ ys = []) ∨ (b ≠ d ∧ ∃ zs, rowsAt st.B b q = some (t, s, zs) ∧ ys = killRow (boxIs d) t zs) := by
    intro b q t s ys h
    by_cases hb : b = d
    · subst hb
      simp only [rowsAt, upd_same] at h
      cases q with
      | nil => simp [sub] at h; obtain ⟨rfl, rfl, rfl⟩ := h; exact .inl ⟨rfl, rfl, rfl, rfl, rfl⟩
      | cons y r =>
        obtain ⟨i, k⟩ := y
        refine .inr (.inl ⟨rfl, by simp, ?_⟩)
        simp only [sub] at h
        cases hx : cellAt (killRow (boxIs b) top xs) i k with
        | none => rw [hx] at h; simp at h
        | some v =>
          rw [hx] at h
          cases v <;> simp only [Option.map_none, reduceCtorEq] at h
          case own s' zs =>
            obtain ⟨s2, h2⟩ := hnil i k _ hx rfl
            cases h2
            cases r with
            | nil => simp [sub] at h; exact h.2.2
            | cons y r => obtain ⟨i', k'⟩ := y; simp [sub, cellAt] at h
    · have : rowsAt (upd (killB (boxIs d) st.B) d (some (top, sz, killRow (boxIs d) top xs))) b q = rowsAt (killB (boxIs d) st.B) b q := by unfold rowsAt; rw [upd_ne _ _ _ _ hb]
      rw [this, rowsAt_killB] at h
      obtain ⟨⟨t', s', zs⟩, h1, h2⟩ := Option.map_eq_some_iff.1 h
      simp only [Prod.mk.injEq] at h2
      obtain ⟨rfl, rfl, rfl⟩ := h2
      exact .inr (.inr ⟨hb, zs, h1, rfl⟩)
  refine R.change (boxIs d) _ hM ?_ ?_ ?_ (R.keep.alloc _) (fun b hb => by simp [boxIs]; omega)
  · intro b q t s ys h
    rcases live b q t s ys h with ⟨rfl, rfl, rfl, rfl, rfl⟩ | ⟨rfl, hq, rfl⟩ | ⟨hb, zs, hz, rfl⟩
    · refine ⟨?_, (fun h => by rw [m2] at h; cases h), ?_, ?_⟩
      · intro i x hx
        have := killRow_lens (boxIs b) t xs i
        rw [hx] at this
        obtain ⟨y, hy1, hy2⟩ := Option.map_eq_some_iff.1 this.symm
        exact (show x.length = y.length from hy2.symm) ▸ hl i y hy1
      · intro A n hA
        rw [m2] at hA; cases hA
        refine ⟨rfl, ⟨us, e, (0, 0), heap_alloc_new w _, rfl⟩, fun o ho => World.frozen?_alloc_new w us e o, ?_⟩
        rw [killRow_length]; simpa using hsz
      · intro A n hA i k v hv
        rw [m2] at hA; cases hA
        rw [hcell] at hv
        obtain ⟨x, hx, rfl⟩ := Option.map_eq_some_iff.1 hv
        obtain ⟨u, h1, h2, h3⟩ := hc i k x hx
        refine ⟨u, ?_, h2, h3.struck hM (fun _ => m3 _ (by simp))⟩
        rw [Nat.zero_add, World.cell?_alloc_new]; exact h1
    · exact ⟨(fun i x hx => by simp at hx), fun _ => rfl, (fun A n hA => by rw [m3 q hq] at hA; cases hA), (fun A n hA => by rw [m3 q hq] at hA; cases hA)⟩
    · have F := R.flat b q t s zs hz
      exact F.struck hM (by simp [boxIs, hb]) (fun _ _ _ _ _ => by simp [boxIs, hb]) (fun A n hA => Below.heap_alloc w _ _ (R.block_lt hz hA))
  · intro b q b' q' h h' A n A' n' hA hA' hbl
    obtain ⟨⟨t, s, ys⟩, h⟩ := Option.isSome_iff_exists.1 h
    obtain ⟨⟨t', s', ys'⟩, h'⟩ := Option.isSome_iff_exists.1 h'
    rcases live b q t s ys h with ⟨rfl, rfl, _⟩ | ⟨rfl, hq, _⟩ | ⟨hb, zs, hz, _⟩
    · rw [m2] at hA; cases hA
      rcases live b' q' t' s' ys' h' with ⟨rfl, rfl, _⟩ | ⟨rfl, hq', _⟩ | ⟨hb', zs', hz', _⟩
      · exact ⟨rfl, rfl⟩
      · rw [m3 q' hq'] at hA'; cases hA'
      · rw [m1 _ _ hb'] at hA'; have := R.block_lt hz' hA'; simp only at hbl; omega
    · rw [m3 q hq] at hA; cases hA
    · rw [m1 _ _ hb] at hA
      rcases live b' q' t' s' ys' h' with ⟨rfl, rfl, _⟩ | ⟨rfl, hq', _⟩ | ⟨hb', zs', hz', _⟩
      · rw [m2] at hA'; cases hA'; have := R.block_lt hz hA; simp only at hbl; omega
      · rw [m3 q' hq'] at hA'; cases hA'
      · rw [m1 _ _ hb'] at hA'
        exact R.inj b q b' q' (by rw [hz]; rfl) (by rw [hz']; rfl) A n A' n' hA hA' hbl
  · intro b q t s ys h A n hA
    rcases live b q t s ys h with ⟨rfl, rfl, _⟩ | ⟨rfl, hq, _⟩ | ⟨hb, zs, hz, rfl⟩
    · rw [m2] at hA; cases hA
      have hsz := R.keep.size
      exact ⟨fun h => by have := cx.ro _ h; simp only at this; omega, fun h => by simp only at h; omega⟩
    · rw [m3 q hq] at hA; cases hA
    · rw [m1 _ _ hb] at hA
      rw [killRow_length]
      exact R.away b q t s zs hz A n hA
end Go.Proofs.Ytniibpihbopehaa.M

/- What is struck out where places go; a state that is turned, and what must hold of it. -/
import Derived.Test.YtniibpihbopehaaM9
namespace Go.Proofs.Ytniibpihbopehaa.M
open Go Go.RowKit
set_option linter.unusedVariables false
set_option linter.unusedSimpArgs false
mutual
/-- References to the places of p are struck out. -/
def kill (p : Nat → Path → Bool) : V → V
  | .sl b q sz off len => if p b q = true then .undef else .sl b q sz off len
  | .ptr b q sz i k => if p b q = true then .undef else .ptr b q sz i k
  | .agg cs => .agg (killL p cs)
  | .tup vs => .tup (killL p vs)
  | .fn f cs => .fn f (killL p cs)
  | .lit x => .lit x
  | .imm s xs => .imm s xs
  | .own s xs => .own s xs
  | .pro cs => .pro cs
  | .undef => .undef
def killL (p : Nat → Path → Bool) : List V → List V
  | [] => []
  | v :: r => kill p v :: killL p r
end
theorem killL_length (p : Nat → Path → Bool) (l : List V) : (killL p l).length = l.length := by
  induction l with
  | nil => rw [killL]
  | cons v r ih => rw [killL]; simp [ih]
theorem killL_get (p : Nat → Path → Bool) (l : List V) : ∀ k : Nat, (killL p l)[k]? = (l[k]?).map (kill p) := by
  induction l with
  | nil => intro k; rw [killL]; rfl
  | cons v r ih => intro k; rw [killL]; cases k <;> simp [ih]
/-- In the boxes, too. -/
def killB (p : Nat → Path → Bool) (B : Bs) : Bs := fun b => match B b with
  | some (true, sz, xs) => some (true, sz, xs.map (killL p))
  | x => x
variable {cx : Cx} {M M' : Mp} {st : St} {a : Act} {w w' : World} {G : Pg} {p : Nat → Path → Bool}
theorem VR.struck {wd : World} {Ro : Nat → Prop} {v : V} {u : Value} (h : VR M wd Ro v u) (hM : ∀ b q, p b q = false → M' b q = M b q) : VR M' wd Ro (kill p v) u := by
  induction h with
  | lit x => rw [Go.Proofs.Ytniibpihbopehaa.M.kill]; exact .lit _
  | undef x => rw [Go.Proofs.Ytniibpihbopehaa.M.kill]; exact .undef _
  | imm h => rw [Go.Proofs.Ytniibpihbopehaa.M.kill]; exact .imm h
  | pro h1 h2 h3 => rw [Go.Proofs.Ytniibpihbopehaa.M.kill]; exact .pro h1 h2 h3
  | @sl b q sz off len cap ad h1 h2 =>
    rw [Go.Proofs.Ytniibpihbopehaa.M.kill]
    by_cases hp : p b q = true
    · rw [if_pos hp]; exact .undef _
    · rw [if_neg hp]; exact .sl h1 (by rw [hM b q (by simpa using hp)]; exact h2)
  | @ptr b q sz i k n A h1 =>
    rw [Go.Proofs.Ytniibpihbopehaa.M.kill]
    by_cases hp : p b q = true
    · rw [if_pos hp]; exact .undef _
    · rw [if_neg hp]; exact .ptr (n := n) (by rw [hM b q (by simpa using hp)]; exact h1)
  | agg h1 h2 ih =>
    rw [Go.Proofs.Ytniibpihbopehaa.M.kill]
    refine .agg (by rw [killL_length]; exact h1) (fun k v u hv hu => ?_)
    rw [killL_get] at hv
    obtain ⟨x, hx, rfl⟩ := Option.map_eq_some_iff.1 hv
    exact ih k x u hx hu
  | tup h1 h2 ih =>
    rw [Go.Proofs.Ytniibpihbopehaa.M.kill]
    refine .tup (by rw [killL_length]; exact h1) (fun k v u hv hu => ?_)
    rw [killL_get] at hv
    obtain ⟨x, hx, rfl⟩ := Option.map_eq_some_iff.1 hv
    exact ih k x u hx hu
  | fn h1 h2 ih =>
    rw [Go.Proofs.Ytniibpihbopehaa.M.kill]
    refine .fn (by rw [killL_length]; exact h1) (fun k v u hv hu => ?_)
    rw [killL_get] at hv
    obtain ⟨x, hx, rfl⟩ := Option.map_eq_some_iff.1 hv
    exact ih k x u hx hu
theorem kill_own (p : Nat → Path → Bool) (v : V) (s : Nat) (ys : Row) (h : kill p v = .own s ys) : v = .own s ys := by
  cases v <;> rw [kill] at h <;> first | exact h | (split at h <;> cases h) | cases h
theorem CR.struck {wd : World} {Ro : Nat → Prop} {top : Bool} {b : Nat} {q : Path} {i k : Nat} {v : V} {u : Value} (h : CR M wd Ro top b q i k v u) (hM : ∀ b q, p b q = false → M' b q = M b q) (hq : p b (q ++ [(i, k)]) = false ∨ v.isOwn = false) :
    CR M' wd Ro top b q i k (kill p v) u := by
  cases v
  case own s ys =>
    rw [Go.Proofs.Ytniibpihbopehaa.M.kill]
    simp only [CR] at h ⊢
    cases h with
    | sl h1 h2 =>
      refine .sl h1 ?_
      rcases hq with hq | hq
      · rw [hM _ _ hq]; exact h2
      · cases hq
  case lit x => rw [Go.Proofs.Ytniibpihbopehaa.M.kill]; exact h
  case undef => rw [Go.Proofs.Ytniibpihbopehaa.M.kill]; exact h
  all_goals
    obtain ⟨ht, hv⟩ := h
    have := hv.struck (p := p) (M' := M') hM
    generalize hk : Go.Proofs.Ytniibpihbopehaa.M.kill p _ = z at this ⊢
    cases z
    case own s ys => have := kill_own p _ s ys hk; cases this
    case lit x => exact this.lit_
    case undef => trivial
    all_goals exact ⟨ht, this⟩
theorem cellAt_killL (p : Nat → Path → Bool) (xs : Row) (i k : Nat) : cellAt (xs.map (killL p)) i k = (cellAt xs i k).map (kill p) := by
  unfold cellAt
  rw [List.getElem?_map]
  cases hx : xs[i]? with
  | none => rfl
  | some x => simp [killL_get]
/-- The same rows in the same places: what is struck out is in the boxes' own cells alone. -/
theorem sub_killL (p : Nat → Path → Bool) (sz : Nat) (xs : Row) (q : Path) : sub sz (xs.map (killL p)) q = if q = [] then some (sz, xs.map (killL p)) else sub sz xs q := by
  cases q with
  | nil => rfl
  | cons x r =>
    obtain ⟨i, k⟩ := x
    rw [if_neg (by simp)]
    simp only [sub, cellAt_killL]
    cases hc : cellAt xs i k with
    | none => rfl
    | some v =>
      simp only [Option.map_some]
      cases v <;> rw [kill] <;> first | rfl | skip
      all_goals
        split
        · rename_i h; split at h <;> cases h
        · rfl
def killRow (p : Nat → Path → Bool) (top : Bool) (xs : Row) : Row := if top = true then xs.map (killL p) else xs
theorem rowsAt_killB (p : Nat → Path → Bool) (B : Bs) (b : Nat) (q : Path) : rowsAt (killB p B) b q = (rowsAt B b q).map fun x => (x.1, x.2.1, killRow p x.1 x.2.2) := by
  unfold rowsAt killB
  cases hb : B b with
  | none => rfl
  | some x =>
    obtain ⟨top, sz, xs⟩ := x
    cases top with
    | false => simp only [Bool.false_and]; cases sub sz xs q <;> simp [killRow]
    | true =>
      simp only [sub_killL]
      cases q with
      | nil => simp [sub, killRow]
      | cons y r => simp only [reduceCtorEq, if_false]; cases sub sz xs (y :: r) <;> simp [killRow]
theorem killRow_length (p : Nat → Path → Bool) (top : Bool) (xs : Row) : (killRow p top xs).length = xs.length := by unfold killRow; split <;> simp
theorem killRow_lens (p : Nat → Path → Bool) (top : Bool) (xs : Row) (i : Nat) : ((killRow p top xs)[i]?).map (fun x => x.length) = (xs[i]?).map (fun x => x.length) := by
  unfold killRow; split
  · rw [List.getElem?_map]; cases xs[i]? <;> simp [killL_length]
  · rfl
theorem killRow_cell (p : Nat → Path → Bool) (top : Bool) (xs : Row) (i k : Nat) : cellAt (killRow p top xs) i k = (cellAt xs i k).map (if top = true then kill p else id) := by
  unfold killRow; cases top
  · simp
  · simp [cellAt_killL]
/-- A row that is left alone, in memory, is a row of the turned map. -/
theorem Flat.struck {wd : World} {Ro : Nat → Prop} {top : Bool} {b : Nat} {q : Path} {sz : Nat} {xs : Row} (F : Flat M wd Ro w top b q sz xs) (hM : ∀ b q, p b q = false → M' b q = M b q) (hq : p b q = false)
    (hown : ∀ i k s ys, cellAt xs i k = some (.own s ys) → p b (q ++ [(i, k)]) = false)
    (hw : ∀ A n, M b q = some (A, n) → w'.heap[A.block]? = w.heap[A.block]?) : Flat M' wd Ro w' top b q sz (killRow p top xs) where
  lens := by
    intro i x hx
    have := killRow_lens p top xs i
    rw [hx] at this
    simp only [Option.map_some] at this
    obtain ⟨y, hy1, hy2⟩ := Option.map_eq_some_iff.1 this.symm
    exact (show x.length = y.length from hy2.symm) ▸ F.lens i y hy1
  none := by
    intro h
    rw [hM b q hq] at h
    have := F.none h
    subst this
    unfold killRow; split <;> rfl
  there := by
    intro A n h
    rw [hM b q hq] at h
    obtain ⟨h1, h2, h3, h4⟩ := F.there A n h
    have hb := hw A n h
    refine ⟨h1, by rw [hb]; exact h2, fun o ho => ?_, by rw [killRow_length]; exact h4⟩
    have := h3 o ho
    unfold World.frozen? at this ⊢
    simp only [hb]; exact this
  cell := by
    intro A n h i k v hv
    rw [hM b q hq] at h
    rw [killRow_cell] at hv
    obtain ⟨x, hx, rfl⟩ := Option.map_eq_some_iff.1 hv
    obtain ⟨u, h1, h2, h3⟩ := F.cell A n h i k x hx
    have hb := hw A n h
    refine ⟨u, ?_, h2, ?_⟩
    · unfold World.cell? at h1 ⊢; simp only [hb]; exact h1
    · have hq2 : p b (q ++ [(i, k)]) = false ∨ x.isOwn = false := by
        cases x <;> first | exact .inr rfl | exact .inl (hown _ _ _ _ hx)
      cases top with
      | true => simp only [if_true]; exact h3.struck hM hq2
      | false =>
        simp only [Bool.false_eq_true, if_false, id]
        have := h3.struck hM hq2
        cases x <;> rw [Go.Proofs.Ytniibpihbopehaa.M.kill] at this <;> first | exact this | (exact absurd h3.1 (by simp))
end Go.Proofs.Ytniibpihbopehaa.M

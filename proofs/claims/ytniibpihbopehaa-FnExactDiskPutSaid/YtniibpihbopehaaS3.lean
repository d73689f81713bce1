/- Calls that turn what they are given: names in what is handed in, new names in what comes back. -/
import Derived.Test.YtniibpihbopehaaS2
namespace Go.Proofs.Ytniibpihbopehaa.M
open Go Go.RowKit
set_option linter.unusedVariables false
set_option linter.unusedSimpArgs false
variable {cx : Cx} {M M' : Mp} {st : St} {a : Act} {w w' : World} {G : Pg} {p : Nat → Path → Bool}
/-- A cell's value under the callee's names. -/
def inV (l : List (Nat × Path)) : V → V
  | .sl b q sz off len => match foc l 0 b q with
    | some (j, r) => .sl j r sz off len
    | none => .undef
  | .ptr b q sz i k => match foc l 0 b q with
    | some (j, r) => .ptr j r sz i k
    | none => .undef
  | .lit x => .lit x
  | .imm s xs => .imm s xs
  | .own s xs => .own s xs
  | .pro cs => .pro cs
  | _ => .undef
mutual
/-- A value under the caller's names again. -/
def outV (d : Nat) (l : List (Nat × Path)) : V → V
  | .sl j q sz off len => match decide (j < 500) with
    | true => match l[j]? with
      | some (b, p) => .sl b (p ++ q) sz off len
      | none => .undef
    | false => .sl (resName d j) q sz off len
  | .ptr j q sz i k => match decide (j < 500) with
    | true => match l[j]? with
      | some (b, p) => .ptr b (p ++ q) sz i k
      | none => .undef
    | false => .ptr (resName d j) q sz i k
  | .agg cs => .agg (outVL d l cs)
  | .tup vs => .tup (outVL d l vs)
  | .fn f cs => .fn f (outVL d l cs)
  | .lit x => .lit x
  | .imm s xs => .imm s xs
  | .own s xs => .own s xs
  | .pro cs => .pro cs
  | .undef => .undef
def outVL (d : Nat) (l : List (Nat × Path)) : List V → List V
  | [] => []
  | v :: r => outV d l v :: outVL d l r
end
theorem outVL_length (d : Nat) (l : List (Nat × Path)) (vs : List V) : (outVL d l vs).length = vs.length := by
  induction vs with
  | nil => rw [outVL]
  | cons v r ih => rw [outVL]; simp [ih]
theorem outVL_get (d : Nat) (l : List (Nat × Path)) (vs : List V) : ∀ k : Nat, (outVL d l vs)[k]? = (vs[k]?).map (outV d l) := by
  induction vs with
  | nil => intro k; rw [outVL]; rfl
  | cons v r ih => intro k; rw [outVL]; cases k <;> simp [ih]
mutual
/-- Nothing that is only read. -/
def noRo : V → Bool
  | .imm _ _ => false
  | .pro _ => false
  | .agg cs => noRoL cs
  | .tup vs => noRoL vs
  | .fn _ cs => noRoL cs
  | _ => true
def noRoL : List V → Bool
  | [] => true
  | v :: r => noRo v && noRoL r
end
theorem noRoL_get {l : List V} (h : noRoL l = true) : ∀ (k : Nat) (v : V), l[k]? = some v → noRo v = true := by
  induction l with
  | nil => intro k v hv; simp at hv
  | cons x r ih =>
    rw [noRoL, Bool.and_eq_true] at h
    intro k v hv
    cases k with
    | zero => simp at hv; subst hv; exact h.1
    | succ k => exact ih h.2 k v (by simpa using hv)
def rowIn (l : List (Nat × Path)) (t : Bool) (xs : Row) : Row := match t with
  | true => xs.map fun x => x.map (inV l)
  | false => xs
def rowOut (d : Nat) (l : List (Nat × Path)) (t : Bool) (xs : Row) : Row := match t with
  | true => xs.map (outVL d l)
  | false => xs
def outBl (d : Nat) (l : List (Nat × Path)) : Bl → Bl
  | [] => []
  | (j, t, s, xs) :: r => (j, t, s, rowOut d l t xs) :: outBl d l r
theorem toB_outBl (d : Nat) (l : List (Nat × Path)) (bs : Bl) (j : Nat) : toB (outBl d l bs) j = (toB bs j).map fun x => (x.1, x.2.1, rowOut d l x.1 x.2.2) := by
  induction bs with
  | nil => rfl
  | cons y r ih =>
    obtain ⟨b, t, s, xs⟩ := y
    simp only [outBl, toB, upd]
    split
    · rfl
    · exact ih
theorem rowIn_length (l : List (Nat × Path)) (t : Bool) (xs : Row) : (rowIn l t xs).length = xs.length := by cases t <;> simp [rowIn]
theorem rowOut_length (d : Nat) (l : List (Nat × Path)) (t : Bool) (xs : Row) : (rowOut d l t xs).length = xs.length := by cases t <;> simp [rowOut]
theorem rowIn_cell (l : List (Nat × Path)) (t : Bool) (xs : Row) (i k : Nat) : cellAt (rowIn l t xs) i k = (cellAt xs i k).map (if t = true then inV l else id) := by
  cases t with
  | false => simp [rowIn]
  | true =>
    unfold cellAt rowIn
    simp only [if_true, List.getElem?_map]
    cases xs[i]? with
    | none => rfl
    | some x => simp
theorem rowOut_cell (d : Nat) (l : List (Nat × Path)) (t : Bool) (xs : Row) (i k : Nat) : cellAt (rowOut d l t xs) i k = (cellAt xs i k).map (if t = true then outV d l else id) := by
  cases t with
  | false => simp [rowOut]
  | true =>
    unfold cellAt rowOut
    simp only [if_true, List.getElem?_map]
    cases xs[i]? with
    | none => rfl
    | some x => simp [outVL_get]
theorem rowIn_len (l : List (Nat × Path)) (t : Bool) (xs : Row) (sz : Nat) (h : ∀ (i : Nat) (x : List V), xs[i]? = some x → x.length = sz) : ∀ (i : Nat) (x : List V), (rowIn l t xs)[i]? = some x → x.length = sz := by
  intro i x hx
  cases t with
  | false => exact h i x hx
  | true =>
    simp only [rowIn, List.getElem?_map, Option.map_eq_some_iff] at hx
    obtain ⟨y, hy, rfl⟩ := hx
    rw [List.length_map]; exact h i y hy
theorem rowOut_len (d : Nat) (l : List (Nat × Path)) (t : Bool) (xs : Row) (sz : Nat) (h : ∀ (i : Nat) (x : List V), xs[i]? = some x → x.length = sz) : ∀ (i : Nat) (x : List V), (rowOut d l t xs)[i]? = some x → x.length = sz := by
  intro i x hx
  cases t with
  | false => exact h i x hx
  | true =>
    simp only [rowOut, List.getElem?_map, Option.map_eq_some_iff] at hx
    obtain ⟨y, hy, rfl⟩ := hx
    rw [outVL_length]; exact h i y hy
/-- What a row of the callee's is, told by what its own cells are (a slice that owns has the same row). -/
theorem inV_own (l : List (Nat × Path)) (v : V) (s : Nat) (ys : Row) (h : inV l v = .own s ys) : v = .own s ys := by
  cases v <;> simp only [inV, reduceCtorEq] at h <;> first | exact h | (split at h <;> cases h) | cases h
theorem outV_own (d : Nat) (l : List (Nat × Path)) (v : V) (s : Nat) (ys : Row) (h : outV d l v = .own s ys) : v = .own s ys := by
  cases v <;> rw [outV] at h <;> first | exact h | (split at h <;> first | cases h | (split at h <;> cases h)) | cases h
theorem sub_map (f : Bool → V → V) (hown : ∀ t s ys, f t (.own s ys) = .own s ys) (hno : ∀ t v s ys, f t v = .own s ys → v = .own s ys) (t : Bool) (sz : Nat) (xs ys : Row) (hc : ∀ i k, cellAt ys i k = (cellAt xs i k).map (f t)) (q : Path) (hq : q ≠ []) : sub sz ys q = sub sz xs q := by
  cases q with
  | nil => exact absurd rfl hq
  | cons p r =>
    obtain ⟨i, k⟩ := p
    simp only [sub, hc]
    cases hx : cellAt xs i k with
    | none => rfl
    | some v =>
      simp only [Option.map_some]
      by_cases hv : ∃ s zs, v = .own s zs
      · obtain ⟨s, zs, rfl⟩ := hv
        rw [hown]
      · have h1 : ∀ s zs, f t v ≠ .own s zs := fun s zs e => hv ⟨s, zs, hno t v s zs e⟩
        generalize hg : f t v = g at h1
        cases v <;> first | (exfalso; exact hv ⟨_, _, rfl⟩) | (cases g <;> first | (exfalso; exact h1 _ _ rfl) | rfl)
theorem sub_rowIn (l : List (Nat × Path)) (t : Bool) (sz : Nat) (xs : Row) (q : Path) (hq : q ≠ []) : sub sz (rowIn l t xs) q = sub sz xs q :=
  sub_map (fun t v => if t = true then inV l v else v) (fun t s ys => by cases t <;> rfl) (fun t v s ys h => by
    cases t
    · exact h
    · exact inV_own l v s ys h) t sz xs _ (fun i k => by rw [rowIn_cell]; cases t <;> simp <;> rfl) q hq
theorem sub_rowOut (d : Nat) (l : List (Nat × Path)) (t : Bool) (sz : Nat) (xs : Row) (q : Path) (hq : q ≠ []) : sub sz (rowOut d l t xs) q = sub sz xs q :=
  sub_map (fun t v => if t = true then outV d l v else v) (fun t s ys => by
    cases t
    · rfl
    · show outV d l (.own s ys) = _
      rw [outV]) (fun t v s ys h => by
    cases t
    · exact h
    · exact outV_own d l v s ys h) t sz xs _ (fun i k => by rw [rowOut_cell]; cases t <;> simp <;> rfl) q hq
theorem rowsAt_outBl (d : Nat) (l : List (Nat × Path)) (bs : Bl) (j : Nat) (r : Path) : rowsAt (toB (outBl d l bs)) j r = (rowsAt (toB bs) j r).map fun x => (x.1, x.2.1, rowOut d l x.1 x.2.2) := by
  unfold rowsAt
  rw [toB_outBl]
  cases hb : toB bs j with
  | none => rfl
  | some x =>
    obtain ⟨t, s, xs⟩ := x
    simp only [Option.map_some]
    by_cases hr : r = []
    · subst hr
      simp [sub]
    · rw [sub_rowOut d l t s xs r hr]
      have : r.isEmpty = false := by cases r <;> simp_all
      cases hs : sub s xs r with
      | none => rfl
      | some y => simp [this, rowOut]
def handG (B : Bs) (l0 : List (Nat × Path)) : List (Nat × Path) → Nat → (Bl → Prop) → Prop
  | [], _, K => K []
  | (b, p) :: l, j, K => match rowsAt B b p with
    | some (t, s, xs) => handG B l0 l (j + 1) fun bs => K ((j, t, s, rowIn l0 t xs) :: bs)
    | none => False
theorem handG_ok {B : Bs} {l0 : List (Nat × Path)} : ∀ (l : List (Nat × Path)) (j : Nat) (K : Bl → Prop), handG B l0 l j K → ∃ bs, K bs ∧ (∀ i b p, l[i]? = some (b, p) → ∃ t s xs, rowsAt B b p = some (t, s, xs) ∧ toB bs (j + i) = some (t, s, rowIn l0 t xs)) ∧ ∀ k x, toB bs k = some x → ∃ i, i < l.length ∧ k = j + i := by
  intro l
  induction l with
  | nil => intro j K h; exact ⟨[], h, fun i b p hi => by simp at hi, fun k x hx => by cases hx⟩
  | cons y l ih =>
    obtain ⟨b0, p0⟩ := y
    intro j K h
    simp only [handG] at h
    cases hr : rowsAt B b0 p0 with
    | none => rw [hr] at h; exact h.elim
    | some x =>
      obtain ⟨t, s, xs⟩ := x
      rw [hr] at h
      obtain ⟨bs, g1, g2, g3⟩ := ih _ _ h
      refine ⟨_, g1, fun i b p hi => ?_, fun k x hx => ?_⟩
      · cases i with
        | zero =>
          simp only [List.getElem?_cons_zero, Option.some.injEq, Prod.mk.injEq] at hi
          obtain ⟨rfl, rfl⟩ := hi
          exact ⟨t, s, xs, hr, by simp [toB, upd]⟩
        | succ i =>
          obtain ⟨t', s', xs', e1, e2⟩ := g2 i b p (by simpa using hi)
          refine ⟨t', s', xs', e1, ?_⟩
          simp only [toB, upd]
          rw [if_neg (by omega), show j + (i + 1) = j + 1 + i by omega]; exact e2
      · simp only [toB, upd] at hx
        split at hx
        · rename_i e; exact ⟨0, by simp, by omega⟩
        · obtain ⟨i, e1, e2⟩ := g3 k x hx
          exact ⟨i + 1, by simp; omega, by omega⟩
/-- What comes back: the same place, with a row of the same length; or nothing, of a box of one's own. -/
def backG (B : Bs) (bs' : Bl) : List (Nat × Path) → Nat → Prop
  | [], _ => True
  | (b, p) :: l, j => (match rowsAt B b p, toB bs' j with
    | some (t, s, xs), some (t', s', xs') => chk (decide (t' = t)) (chk (decide (s' = s)) (xs'.length = xs.length))
    | some _, none => chk (decide (500 ≤ b)) (chk p.isEmpty True)
    | none, _ => False) ∧ backG B bs' l (j + 1)
theorem backG_ok {B : Bs} {bs' : Bl} : ∀ (l : List (Nat × Path)) (j : Nat), backG B bs' l j → ∀ (i b : Nat) (p : Path), l[i]? = some (b, p) → ∃ t s xs, rowsAt B b p = some (t, s, xs) ∧ ((∃ xs', toB bs' (j + i) = some (t, s, xs') ∧ xs'.length = xs.length) ∨ (toB bs' (j + i) = none ∧ 500 ≤ b ∧ p = [])) := by
  intro l
  induction l with
  | nil => intro j _ i b p h; simp at h
  | cons y l ih =>
    obtain ⟨b0, p0⟩ := y
    intro j h i b p hi
    obtain ⟨h1, h2⟩ := h
    cases i with
    | zero =>
      simp only [List.getElem?_cons_zero, Option.some.injEq, Prod.mk.injEq] at hi
      obtain ⟨rfl, rfl⟩ := hi
      split at h1
      · rename_i t s xs t' s' xs' e1 e2
        simp only [chk_iff, decide_eq_true_eq] at h1
        obtain ⟨rfl, rfl, h4⟩ := h1
        exact ⟨t', s', xs, e1, .inl ⟨xs', e2, h4⟩⟩
      · rename_i x e1 e2
        simp only [chk_iff, decide_eq_true_eq, List.isEmpty_iff] at h1
        obtain ⟨t, s, xs⟩ := x
        exact ⟨t, s, xs, e1, .inr ⟨e2, h1.1, h1.2.1⟩⟩
      · exact h1.elim
    | succ i =>
      have := ih (j + 1) h2 i b p (by simpa using hi)
      rw [show j + (i + 1) = j + 1 + i by omega]; exact this
/-- A box that is handed in and does not come back. -/
def gone (bs' : Bl) : List (Nat × Path) → Nat → Nat → Bool
  | [], _, _ => false
  | (b, _) :: l, j, x => match toB bs' j with
    | some _ => gone bs' l (j + 1) x
    | none => decide (b = x) || gone bs' l (j + 1) x
theorem gone_iff {bs' : Bl} : ∀ (l : List (Nat × Path)) (j x : Nat), gone bs' l j x = true ↔ ∃ i p, l[i]? = some (x, p) ∧ toB bs' (j + i) = none := by
  intro l
  induction l with
  | nil => intro j x; simp [gone]
  | cons y l ih =>
    obtain ⟨b, p⟩ := y
    intro j x
    simp only [gone]
    cases hb : toB bs' j with
    | some z =>
      rw [ih]
      constructor
      · rintro ⟨i, p', h1, h2⟩
        exact ⟨i + 1, p', by simpa using h1, by rw [← h2]; congr 1; omega⟩
      · rintro ⟨i, p', h1, h2⟩
        cases i with
        | zero => rw [Nat.add_zero, hb] at h2; cases h2
        | succ i => exact ⟨i, p', by simpa using h1, by rw [← h2]; congr 1; omega⟩
    | none =>
      simp only [Bool.or_eq_true, decide_eq_true_eq]
      rw [ih]
      constructor
      · rintro (rfl | ⟨i, p', h1, h2⟩)
        · exact ⟨0, p, rfl, by rw [Nat.add_zero]; exact hb⟩
        · exact ⟨i + 1, p', by simpa using h1, by rw [← h2]; congr 1; omega⟩
      · rintro ⟨i, p', h1, h2⟩
        cases i with
        | zero => simp only [List.getElem?_cons_zero, Option.some.injEq, Prod.mk.injEq] at h1; exact .inl h1.1
        | succ i => exact .inr ⟨i, p', by simpa using h1, by rw [← h2]; congr 1; omega⟩
def killG (d : Nat) (l : List (Nat × Path)) (bs' : Bl) (b : Nat) (q : Path) : Bool := killF d l b q || gone bs' l 0 b
def impG (d : Nat) (l : List (Nat × Path)) (B : Bs) (bs' : Bl) : Bs := fun b => match resId d b with
  | some j => toB (outBl d l bs') j
  | none => match gone bs' l 0 b with
    | true => none
    | false => setsB l 0 (outBl d l bs') (killB (killG d l bs') B) b
def retG (st : St) (l : List (Nat × Path)) (o : Option Nat) (r : V) (bs' : Bl) : St := { T := updO (fun t => kill (killG (o.getD 999) l bs') (st.T t)) o (outV (o.getD 999) l r), B := impG (o.getD 999) l st.B bs' }
theorem sets_live_g {bs' : Bl} : ∀ (l : List (Nat × Path)) (j : Nat) (B : Bs), apartB l = true →
    (∀ (i b : Nat) (p : Path), l[i]? = some (b, p) → ∃ t sz xs, rowsAt B b p = some (t, sz, xs) ∧ ((∃ xs', toB bs' (j + i) = some (t, sz, xs') ∧ xs'.length = xs.length) ∨ toB bs' (j + i) = none)) →
    ∀ b q t s ys, (∀ (i : Nat) (p : Path), l[i]? = some (b, p) → toB bs' (j + i) ≠ none) → rowsAt (setsB l j bs' B) b q = some (t, s, ys) → (∃ i r, foc l j b q = some (j + i, r) ∧ rowsAt (toB bs') (j + i) r = some (t, s, ys)) ∨ (foc l j b q = none ∧ ∃ zs, rowsAt B b q = some (t, s, zs) ∧ like zs ys) := by
  intro l
  induction l with
  | nil => intro j B _ _ b q t s ys _ h; exact .inr ⟨rfl, ys, h, like.refl _⟩
  | cons x l ih =>
    obtain ⟨b0, p0⟩ := x
    intro j B ha hb b q t s ys hno h
    simp only [apartB, Bool.and_eq_true] at ha
    have hih := ih (j + 1) B ha.2 (fun i b p hi => by
      have := hb (i + 1) b p (by simpa using hi)
      rw [show j + 1 + i = j + (i + 1) by omega]; exact this) b q
    have hno' : ∀ (i : Nat) (p : Path), l[i]? = some (b, p) → toB bs' (j + 1 + i) ≠ none := fun i p hi => by
      rw [show j + 1 + i = j + (i + 1) by omega]; exact hno (i + 1) p (by simpa using hi)
    by_cases eb : b = b0
    · subst eb
      obtain ⟨t0, sz0, xs0, c1, c0⟩ := hb 0 b p0 rfl
      have h0 := sets_else l (j + 1) bs' B ha.1 c1
      rcases c0 with ⟨xs1, c2, c3⟩ | c2
      · have hnew : newRow bs' j xs0 = xs1 := by
          unfold newRow
          rw [show toB bs' j = some (t0, sz0, xs1) from c2]
          simp only [c3, decide_true]
        rcases rowsAt_setB (newRow_length bs' j) h0 h with ⟨_, r, rfl, h1, rfl⟩ | ⟨h1, zs, h2, h3⟩
        · refine .inl ⟨0, r, ?_, ?_⟩
          · simp only [foc, decide_true, strip_append]; rfl
          · rw [rowsAt_toB c2]
            rw [hnew] at h1
            rw [h1]
            rfl
        · have hs0 : strip p0 q = none := by
            cases hs : strip p0 q with
            | none => rfl
            | some r => exact absurd ⟨rfl, r, strip_some _ _ _ hs⟩ h1
          have hf : foc ((b, p0) :: l) j b q = foc l (j + 1) b q := by
            simp only [foc, decide_true, hs0]
          rcases hih t s zs hno' h2 with ⟨i, r, g1, g2⟩ | ⟨g1, ws, g2, g3⟩
          · refine .inl ⟨i + 1, r, by rw [hf, g1, show j + 1 + i = j + (i + 1) by omega], ?_⟩
            rw [show j + (i + 1) = j + 1 + i by omega, g2]
            have key : zs = ys := by
              obtain ⟨i', p, e1, e2, e3⟩ := foc_some _ _ _ _ _ _ g1
              obtain ⟨a1, a2⟩ := apart1_get _ ha.1 p (List.mem_of_getElem? e2)
              subst e3
              have hs2 : strip (p ++ r) p0 = none := by
                cases hs : strip (p ++ r) p0 with
                | none => rfl
                | some r' =>
                  have := strip_some _ _ _ hs
                  rw [this, List.append_assoc, strip_append] at a2
                  cases a2
              have := rowsAt_setB_else (newRow_length bs' j) (b := b) (q := p0) (fun _ => ⟨hs0, hs2⟩) h2
              have h' : rowsAt (setB (setsB l (j + 1) bs' B) b p0 (newRow bs' j)) b (p ++ r) = some (t, s, ys) := h
              rw [this] at h'
              simp only [Option.some.injEq, Prod.mk.injEq, true_and] at h'
              exact h'
            rw [key]
          · refine .inr ⟨by rw [hf]; exact g1, ws, g2, ?_⟩
            refine ⟨g3.1.trans h3.1, fun k => (g3.2.1 k).trans (h3.2.1 k), fun i k v hv => ?_⟩
            obtain ⟨u, e1, e2⟩ := h3.2.2 i k v hv
            obtain ⟨u', e3, e4⟩ := g3.2.2 i k u e1
            exact ⟨u', e3, e4.trans e2⟩
      · exact absurd c2 (hno 0 p0 rfl)
    · have h' : rowsAt (setB (setsB l (j + 1) bs' B) b0 p0 (newRow bs' j)) b q = some (t, s, ys) := h
      have e : rowsAt (setB (setsB l (j + 1) bs' B) b0 p0 (newRow bs' j)) b q = rowsAt (setsB l (j + 1) bs' B) b q := by unfold rowsAt setB; simp only [eb, if_false]
      rw [e] at h'
      have hf : foc ((b0, p0) :: l) j b q = foc l (j + 1) b q := by simp only [foc, decide_eq_false eb]
      rw [hf]
      rcases hih t s ys hno' h' with ⟨i, r, g1, g2⟩ | g
      · exact .inl ⟨i + 1, r, by rw [g1, show j + 1 + i = j + (i + 1) by omega], by rw [show j + (i + 1) = j + 1 + i by omega]; exact g2⟩
      · exact .inr g
def noB : Bs := fun _ => none
/-- A call to which rows are handed that it may turn. 'vw': it may look at other rows of the caller's, and tells nothing that is only read. -/
def callG (G : Pg) (st : St) (f : Nat) (args : List V) (d : Option Nat) (K : St → Prop) : Prop :=
  ∃ vw l r bs', apartB l = true ∧ (l.all fun x => (resId (d.getD 999) x.1).isNone) = true ∧ decide (l.length < 500) = true ∧ (!vw || noRo r) = true ∧ (bs'.all fun x => (!decide (x.1 < 500) || decide (x.1 < l.length)) && (!vw || !x.2.1 || x.2.2.2.all noRoL)) = true ∧
    handG st.B l l 0 (fun bs => views (foc l 0) (match vw with | true => minusB l st.B | false => noB) args fun args' => FnB G f args' bs r bs') ∧ backG st.B bs' l 0 ∧ K (retG st l d r bs')
end Go.Proofs.Ytniibpihbopehaa.M

/- What a function's call comes to ('Fn'); how a call is taken in. -/
import Derived.Test.YtniibpihbopehaaO4
namespace Go.Proofs.Ytniibpihbopehaa.M
open Go Go.RowKit
set_option linter.unusedVariables false
set_option linter.unusedSimpArgs false
variable {cx : Cx} {M M' : Mp} {st : St} {a : Act} {w w' : World} {G : Pg} {p : Nat → Path → Bool}
abbrev Bl := List (Nat × Bool × Nat × Row)
def toB : Bl → Bs
  | [] => fun _ => none
  | (b, x) :: r => upd (toB r) b (some x)
def noT : Nat → V := fun _ => .undef
/-- The boxes alone. -/
def RelB (cx : Cx) (M : Mp) (B : Bs) (w : World) : Prop := Rel { cx with N := 0 } M { T := noT, B := B } { tmps := #[], defers := [] } w
theorem Rel.boxes (R : Rel cx M st a w) : RelB cx M st.B w := ⟨rfl, rfl, fun t => .undef _, R.flat, R.inj, R.away, R.keep, R.root⟩
theorem RelB.less {B B' : Bs} (R : RelB cx M B w) (h : ∀ b x, B' b = some x → B b = some x) : RelB cx M B' w := by
  have hr : ∀ b q x, rowsAt B' b q = some x → rowsAt B b q = some x := fun b q x hx => BLe.rows h hx
  exact ⟨rfl, rfl, fun t => .undef _, fun b q top sz xs hx => R.flat b q top sz xs (hr _ _ _ hx), fun b q b' q' h1 h2 => R.inj b q b' q' (by obtain ⟨x, hx⟩ := Option.isSome_iff_exists.1 h1; show (rowsAt B b q).isSome = true; rw [hr _ _ _ hx]; rfl) (by obtain ⟨x, hx⟩ := Option.isSome_iff_exists.1 h2; show (rowsAt B b' q').isSome = true; rw [hr _ _ _ hx]; rfl), fun b q top sz xs hx => R.away b q top sz xs (hr _ _ _ hx), R.keep, R.root⟩
mutual
/-- Boxes under other names. -/
def ren (f : Nat → Nat) : V → V
  | .sl b q sz off len => .sl (f b) q sz off len
  | .ptr b q sz i k => .ptr (f b) q sz i k
  | .agg cs => .agg (renL f cs)
  | .tup vs => .tup (renL f vs)
  | .fn g cs => .fn g (renL f cs)
  | .lit x => .lit x
  | .imm s xs => .imm s xs
  | .own s xs => .own s xs
  | .pro cs => .pro cs
  | .undef => .undef
def renL (f : Nat → Nat) : List V → List V
  | [] => []
  | v :: r => ren f v :: renL f r
end
theorem renL_length (f : Nat → Nat) (l : List V) : (renL f l).length = l.length := by
  induction l with
  | nil => rw [renL]
  | cons v r ih => rw [renL]; simp [ih]
theorem renL_get (f : Nat → Nat) (l : List V) : ∀ k : Nat, (renL f l)[k]? = (l[k]?).map (ren f) := by
  induction l with
  | nil => intro k; rw [renL]; rfl
  | cons v r ih => intro k; rw [renL]; cases k <;> simp [ih]
mutual
/-- All boxes that are named. -/
def names (ok : Nat → Bool) : V → Bool
  | .sl b _ _ _ _ => ok b
  | .ptr b _ _ _ _ => ok b
  | .agg cs => namesL ok cs
  | .tup vs => namesL ok vs
  | .fn _ cs => namesL ok cs
  | _ => true
def namesL (ok : Nat → Bool) : List V → Bool
  | [] => true
  | v :: r => names ok v && namesL ok r
end
theorem namesL_get {ok : Nat → Bool} {l : List V} (h : namesL ok l = true) : ∀ (k : Nat) (v : V), l[k]? = some v → names ok v = true := by
  induction l with
  | nil => intro k v hv; simp at hv
  | cons x r ih =>
    rw [namesL, Bool.and_eq_true] at h
    intro k v hv
    cases k with
    | zero => simp at hv; subst hv; exact h.1
    | succ k => exact ih h.2 k v (by simpa using hv)
theorem VR.renamed {wd wd' : World} {Ro Ro' : Nat → Prop} {v : V} {u : Value} (h : VR M wd Ro v u) {ok : Nat → Bool} (hn : names ok v = true) (f : Nat → Nat) (hM : ∀ b q, ok b = true → M' (f b) q = M b q) (hw : ∀ v u, Rd wd Ro v u → Rd wd' Ro' v u) (hro : ∀ k, Ro k → Ro' k) (hc : ∀ k o, Ro k → wd'.cell? ⟨k, o, none⟩ = wd.cell? ⟨k, o, none⟩) : VR M' wd' Ro' (ren f v) u := by
  induction h with
  | lit x => rw [ren]; exact .lit _
  | undef x => rw [ren]; exact .undef _
  | imm h => rw [ren]; exact .imm (hw _ _ h)
  | pro h1 h2 h3 =>
    rw [ren]
    refine .pro h1 (hro _ h2) (fun k v hv => ?_)
    obtain ⟨u, g1, g2⟩ := h3 k v hv
    exact ⟨u, by rw [hc _ _ h2]; exact g1, hw _ _ g2⟩
  | sl h1 h2 => rw [names] at hn; rw [ren]; exact .sl h1 (by rw [hM _ _ hn]; exact h2)
  | ptr h1 => rw [names] at hn; rw [ren]; exact .ptr (by rw [hM _ _ hn]; exact h1)
  | agg h1 h2 ih =>
    rw [names] at hn; rw [ren]
    refine .agg (by rw [renL_length]; exact h1) (fun k v u hv hu => ?_)
    rw [renL_get] at hv
    obtain ⟨x, hx, rfl⟩ := Option.map_eq_some_iff.1 hv
    exact ih k x u hx hu (namesL_get hn k x hx)
  | tup h1 h2 ih =>
    rw [names] at hn; rw [ren]
    refine .tup (by rw [renL_length]; exact h1) (fun k v u hv hu => ?_)
    rw [renL_get] at hv
    obtain ⟨x, hx, rfl⟩ := Option.map_eq_some_iff.1 hv
    exact ih k x u hx hu (namesL_get hn k x hx)
  | fn h1 h2 ih =>
    rw [names] at hn; rw [ren]
    refine .fn (by rw [renL_length]; exact h1) (fun k v u hv hu => ?_)
    rw [renL_get] at hv
    obtain ⟨x, hx, rfl⟩ := Option.map_eq_some_iff.1 hv
    exact ih k x u hx hu (namesL_get hn k x hx)
/-- 'f' at 'args' over the boxes 'bs' comes to 'r' and the boxes 'bs''. Results' boxes are called 500, 501, .. -/
def Fn (G : Pg) (f : Nat) (args : List V) (bs : Bl) (r : V) (bs' : Bl) : Prop :=
  (∃ fn, G.P.funcs[f]? = some fn ∧ (fn.name == "runtime.NumGoroutine") = false ∧ fn.body.isSome = true) ∧ ∀ (cx : Cx) (M : Mp) (vals : Array Value), RelB cx M (toB bs) cx.w0 → VRs M cx.w0 cx.Ro args vals →
    Calls G.P f vals cx.w0 fun e w' => ∃ u M', e = .returned u ∧ RelB cx M' (toB bs') w' ∧ VR M' cx.w0 cx.Ro r u
/-- A cell, by what it holds. -/
def viewC (B : Bs) (c : V) (K : V → Prop) : Prop :=
  match c with
  | .lit x => K (.lit x)
  | .imm s xs => K (.imm s xs)
  | .own s xs => K (.imm s xs)
  | .sl b q sz off len => match rowsAt B b q with
    | some (false, s, xs) => chk (decide (s = sz)) (off + len ≤ xs.length ∧ K (.imm sz ((xs.drop off).take len)))
    | _ => K .undef
  | _ => K .undef
def viewCs (B : Bs) : List V → (List V → Prop) → Prop
  | [], K => K []
  | c :: r, K => viewC B c fun c' => viewCs B r fun r' => K (c' :: r')
/-- What a call may look at: what is only read, by what it holds. -/
def view1 (F : Nat → Path → Option (Nat × Path)) (B : Bs) (v : V) (K : V → Prop) : Prop :=
  match v with
  | .lit (.slice none 0 0) => ∃ sz, K (.imm sz [])
  | .lit x => K (.lit x)
  | .imm s xs => K (.imm s xs)
  | .pro cs => K (.pro cs)
  | .sl b q sz off len => match F b q with
    | some (j, r) => K (.sl j r sz off len)
    | none => match rowsAt B b q with
      | some (false, s, xs) => chk (decide (s = sz)) (off + len ≤ xs.length ∧ K (.imm sz ((xs.drop off).take len)))
      | _ => False
  | .ptr b q sz i k => match F b q with
   | some (j, r) => K (.ptr j r sz i k)
   | none => match rowsAt B b q with
    | some (_, s, xs) => chk (decide (s = sz)) (∃ x, xs[i]? = some x ∧ chk (decide (k ≤ sz)) (viewCs B (x.drop k) fun cs => K (.pro cs)))
    | none => False
  | _ => False
def viewL (F : Nat → Path → Option (Nat × Path)) (B : Bs) : List V → (List V → Prop) → Prop
  | [], K => K []
  | v :: r, K => view1 F B v fun v' => viewL F B r fun r' => K (v' :: r')
def view (F : Nat → Path → Option (Nat × Path)) (B : Bs) (v : V) (K : V → Prop) : Prop :=
  match v with
  | .agg cs => viewL F B cs fun cs' => K (.agg cs')
  | .fn f cs => viewL F B cs fun cs' => K (.fn f cs')
  | v => view1 F B v K
def views (F : Nat → Path → Option (Nat × Path)) (B : Bs) : List V → (List V → Prop) → Prop
  | [], K => K []
  | v :: r, K => view F B v fun v' => views F B r fun r' => K (v' :: r')
def noF : Nat → Path → Option (Nat × Path) := fun _ _ => none
theorem sizeOf_cell {xs : Row} {i k : Nat} {v : V} (h : cellAt xs i k = some v) : SizeOf.sizeOf v < SizeOf.sizeOf xs := by
  unfold cellAt at h
  cases hx : xs[i]? with
  | none => rw [hx] at h; cases h
  | some x =>
    rw [hx] at h
    have h1 := List.sizeOf_lt_of_mem (List.mem_of_getElem? hx)
    have h2 := List.sizeOf_lt_of_mem (List.mem_of_getElem? h)
    omega
theorem Rd.mono {wd wd' : World} {Ro Ro' : Nat → Prop} (hro : ∀ k, Ro k → Ro' k) (hc : ∀ k o, Ro k → wd'.cell? ⟨k, o, none⟩ = wd.cell? ⟨k, o, none⟩) {v : V} {u : Value} (h : Rd wd Ro v u) : Rd wd' Ro' v u := by
  induction h with
  | lit x => exact .lit x
  | undef x => exact .undef x
  | nil h => exact .nil h
  | row U h1 h2 h3 h4 h5 h6 h7 ih => exact .row U h1 h2 (hro _ h3) h4 h5 (fun i k u hu => by rw [hc _ _ h3]; exact h6 i k u hu) ih
/-- What a box's row holds, as a value that is only read. -/
theorem Rel.rd (R : Rel cx M st a w) {Ro' : Nat → Prop} (hro : ∀ b q x A n, rowsAt st.B b q = some x → M b q = some (A, n) → Ro' A.block) : ∀ (n b : Nat) (q : Path) (sz : Nat) (xs : Row), SizeOf.sizeOf xs ≤ n → rowsAt st.B b q = some (false, sz, xs) → ∀ A m, M b q = some (A, m) → ∀ c, xs.length ≤ c → ∀ v, (v = .own sz xs ∨ v = .imm sz xs) → Rd w Ro' v (.slice (some A) xs.length c) := by
  intro n
  induction n with
  | zero => intro b q sz xs hn; cases xs <;> simp at hn
  | succ n ih =>
    intro b q sz xs hn hr A m hM c hc v hv
    have F := R.flat b q false sz xs hr
    have hex : ∀ i k, ∃ u, ∀ x, cellAt xs i k = some x → w.cell? ⟨A.block, A.off + i * sz + k, none⟩ = some u ∧ Rd w Ro' x u := by
      intro i k
      cases hx : cellAt xs i k with
      | none => exact ⟨.nilIface, fun x h => by cases h⟩
      | some x =>
        obtain ⟨u, g1, g2, g3⟩ := F.cell A m hM i k x hx
        refine ⟨u, fun x' h => ?_⟩
        cases h
        refine ⟨g1, ?_⟩
        cases x
        case lit y => simp only [CR] at g3; subst g3; exact .lit _
        case own s ys =>
          simp only [CR] at g3
          have hrow : rowsAt st.B b (q ++ [(i, k)]) = some (false, s, ys) := by
            unfold rowsAt at hr ⊢
            cases hB : st.B b with
            | none => rw [hB] at hr; cases hr
            | some y =>
              obtain ⟨t0, s0, xs0⟩ := y
              rw [hB] at hr
              simp only at hr ⊢
              obtain ⟨⟨sz1, xs1⟩, h3, h4⟩ := Option.map_eq_some_iff.1 hr
              simp only [Prod.mk.injEq] at h4
              obtain ⟨_, rfl, rfl⟩ := h4
              rw [sub_append _ _ _ _ _ _ h3]
              simp [sub, hx]
          cases g3 with
          | @sl _ _ _ _ _ cap ad h1 h2 =>
            by_cases h0 : ys.length = 0
            · have : ys = [] := List.eq_nil_of_length_eq_zero h0
              subst this
              exact .nil (.inl rfl)
            · obtain ⟨A', m', hM', rfl, _⟩ := h2 (by omega)
              have hsp := ((R.flat _ _ _ _ _ hrow).there A' m' hM').1
              have := ih b (q ++ [(i, k)]) s ys (by have := sizeOf_cell hx; simp at this; omega) hrow A' m' hM' cap h1.1 (.own s ys) (.inl rfl)
              rw [eta_of_spot hsp] at this
              simpa using this
        case undef => exact .undef _
        all_goals exact absurd g3.1 (by simp)
    have hch : ∃ U : Nat → Nat → Value, ∀ i k x, cellAt xs i k = some x → w.cell? ⟨A.block, A.off + i * sz + k, none⟩ = some (U i k) ∧ Rd w Ro' x (U i k) :=
      ⟨fun i k => Classical.choose (hex i k), fun i k x hx => Classical.choose_spec (hex i k) x hx⟩
    obtain ⟨U, hU⟩ := hch
    obtain ⟨hsp, _⟩ := F.there A m hM
    exact .row U hv hsp (hro _ _ _ _ _ hr hM) hc F.lens (fun i k u hu => (hU i k u hu).1) (fun i k u hu => (hU i k u hu).2)
end Go.Proofs.Ytniibpihbopehaa.M

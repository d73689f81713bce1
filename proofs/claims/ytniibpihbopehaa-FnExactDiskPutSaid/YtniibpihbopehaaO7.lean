/- Calls that only look: what the state is behind them. -/
import Derived.Test.YtniibpihbopehaaO6
namespace Go.Proofs.Ytniibpihbopehaa.M
open Go Go.RowKit
set_option linter.unusedVariables false
set_option linter.unusedSimpArgs false
variable {cx : Cx} {M M' : Mp} {st : St} {a : Act} {w w' : World} {G : Pg} {p : Nat → Path → Bool}
mutual
/-- Nothing that came in, and no name but a result's. -/
def clean : V → Bool
  | .lit _ => true
  | .undef => true
  | .sl b _ _ _ _ => decide (500 ≤ b)
  | .ptr b _ _ _ _ => decide (500 ≤ b)
  | .agg cs => cleanL cs
  | .tup vs => cleanL vs
  | .fn _ cs => cleanL cs
  | .imm _ xs => xs.isEmpty
  | _ => false
def cleanL : List V → Bool
  | [] => true
  | v :: r => clean v && cleanL r
end
theorem cleanL_get {l : List V} (h : cleanL l = true) : ∀ (k : Nat) (v : V), l[k]? = some v → clean v = true := by
  induction l with
  | nil => intro k v hv; simp at hv
  | cons x r ih =>
    rw [cleanL, Bool.and_eq_true] at h
    intro k v hv
    cases k with
    | zero => simp at hv; subst hv; exact h.1
    | succ k => exact ih h.2 k v (by simpa using hv)
theorem VR.cleaned {wd wd' : World} {Ro Ro' : Nat → Prop} {v : V} {u : Value} (h : VR M wd Ro v u) (hn : clean v = true) (f : Nat → Nat) (hM : ∀ b q, 500 ≤ b → M' (f b) q = M b q) : VR M' wd' Ro' (ren f v) u := by
  induction h with
  | lit x => rw [ren]; exact .lit _
  | undef x => rw [ren]; exact .undef _
  | @imm sz xs u h =>
    rw [clean, List.isEmpty_iff] at hn
    subst hn
    rw [ren]
    generalize hv : V.imm sz [] = v at h
    cases h with
    | lit => cases hv
    | undef => cases hv
    | nil => subst hv; exact .imm (.nil (.inr rfl))
    | row U h1 h2 h3 h4 h5 h6 h7 =>
      rcases h1 with rfl | rfl <;> cases hv
      exact .imm (.nil (.inr rfl))
  | pro h1 h2 h3 => rw [clean] at hn; cases hn; all_goals intros; contradiction
  | sl h1 h2 => rw [clean] at hn; rw [ren]; exact .sl h1 (by rw [hM _ _ (of_decide_eq_true hn)]; exact h2)
  | ptr h1 => rw [clean] at hn; rw [ren]; exact .ptr (by rw [hM _ _ (of_decide_eq_true hn)]; exact h1)
  | agg h1 h2 ih =>
    rw [clean] at hn; rw [ren]
    refine .agg (by rw [renL_length]; exact h1) (fun k v u hv hu => ?_)
    rw [renL_get] at hv
    obtain ⟨x, hx, rfl⟩ := Option.map_eq_some_iff.1 hv
    exact ih k x u hx hu (cleanL_get hn k x hx)
  | tup h1 h2 ih =>
    rw [clean] at hn; rw [ren]
    refine .tup (by rw [renL_length]; exact h1) (fun k v u hv hu => ?_)
    rw [renL_get] at hv
    obtain ⟨x, hx, rfl⟩ := Option.map_eq_some_iff.1 hv
    exact ih k x u hx hu (cleanL_get hn k x hx)
  | fn h1 h2 ih =>
    rw [clean] at hn; rw [ren]
    refine .fn (by rw [renL_length]; exact h1) (fun k v u hv hu => ?_)
    rw [renL_get] at hv
    obtain ⟨x, hx, rfl⟩ := Option.map_eq_some_iff.1 hv
    exact ih k x u hx hu (cleanL_get hn k x hx)
mutual
/-- What is read alone. -/
def isRo : V → Bool
  | .lit _ => true
  | .imm _ _ => true
  | .pro _ => true
  | .agg cs => isRoL cs
  | .tup vs => isRoL vs
  | .fn _ cs => isRoL cs
  | _ => false
def isRoL : List V → Bool
  | [] => true
  | v :: r => isRo v && isRoL r
end
theorem isRoL_get {l : List V} (h : isRoL l = true) : ∀ (k : Nat) (v : V), l[k]? = some v → isRo v = true := by
  induction l with
  | nil => intro k v hv; simp at hv
  | cons x r ih =>
    rw [isRoL, Bool.and_eq_true] at h
    intro k v hv
    cases k with
    | zero => simp at hv; subst hv; exact h.1
    | succ k => exact ih h.2 k v (by simpa using hv)
theorem VR.roTo {wd wd' : World} {Ro : Nat → Prop} {v : V} {u : Value} (h : VR M wd Ro v u) (hn : isRo v = true) (hc : ∀ k o, Ro k → wd'.cell? ⟨k, o, none⟩ = wd.cell? ⟨k, o, none⟩) : VR M' wd' Ro v u := by
  induction h with
  | lit x => exact .lit _
  | undef x => exact .undef _
  | imm h => exact .imm (Rd.mono (fun _ hk => hk) hc h)
  | pro h1 h2 h3 =>
    refine .pro h1 h2 (fun k v hv => ?_)
    obtain ⟨u, g1, g2⟩ := h3 k v hv
    exact ⟨u, by rw [hc _ _ h2]; exact g1, Rd.mono (fun _ hk => hk) hc g2⟩
  | sl h1 h2 => rw [isRo] at hn; cases hn; all_goals intros; contradiction
  | ptr h1 => rw [isRo] at hn; cases hn; all_goals intros; contradiction
  | agg h1 h2 ih => rw [isRo] at hn; exact .agg h1 (fun k v u hv hu => ih k v u hv hu (isRoL_get hn k v hv))
  | tup h1 h2 ih => rw [isRo] at hn; exact .tup h1 (fun k v u hv hu => ih k v u hv hu (isRoL_get hn k v hv))
  | fn h1 h2 ih => rw [isRo] at hn; exact .fn h1 (fun k v u hv hu => ih k v u hv hu (isRoL_get hn k v hv))
def updO (T : Nat → V) : Option Nat → V → Nat → V
  | some d, v => upd T d v
  | none, _ => T
def retSt (st : St) (o : Option Nat) (r : V) (bs' : Bl) : St := { T := updO (fun t => kill (isRes (o.getD 999)) (st.T t)) o (ren (resName (o.getD 999)) r), B := impB (o.getD 999) st.B bs' }
/-- A function's contract, as a call asks for it: here a walk stops. -/
structure FnB (G : Pg) (f : Nat) (args : List V) (bs : Bl) (r : V) (bs' : Bl) : Prop where
  h : Fn G f args bs r bs'
/-- A call that looks at what it is given: its results are all new. -/
def callV (G : Pg) (st : St) (f : Nat) (args : List V) (d : Option Nat) (K : St → Prop) : Prop :=
  ∃ r bs', views noF st.B args (fun args' => FnB G f args' [] r bs') ∧ clean r = true ∧ (bs'.all fun x => x.2.1 == false) = true ∧ K (retSt st d r bs')
/-- A call of what is only read: its results may show it. -/
def callR (G : Pg) (st : St) (f : Nat) (args : List V) (d : Option Nat) (K : St → Prop) : Prop :=
  ∃ r bs', isRoL args = true ∧ FnB G f args [] r bs' ∧ names (fun b => decide (500 ≤ b)) r = true ∧ (bs'.all fun x => !x.2.1 || x.2.2.2.all fun c => namesL (fun _ => false) c) = true ∧ K (retSt st d r bs')
theorem relB_nil (w : World) (cx : Cx) (h : cx.w0 = w) (M : Mp) (hM : cx.M0 = M) : RelB cx M (toB []) w := by
  refine ⟨rfl, rfl, fun t => .undef _, fun b q top sz xs hx => ?_, fun b q b' q' hx => ?_, fun b q top sz xs hx => ?_, ?_, fun b _ => by show M b [] = cx.M0 b []; rw [hM]⟩
  · simp [rowsAt, toB] at hx
  · simp [rowsAt, toB] at hx
  · simp [rowsAt, toB] at hx
  · show Kp cx.S cx.w0 w
    rw [h]; exact Kp.refl _ _
theorem toB_mem {bs : Bl} {j : Nat} {x : Bool × Nat × Row} (h : toB bs j = some x) : (j, x) ∈ bs := by
  induction bs with
  | nil => cases h
  | cons y r ih =>
    obtain ⟨b, z⟩ := y
    simp only [toB, upd] at h
    split at h
    · rename_i e; subst e; cases h; simp
    · simp [ih h]
mutual
theorem ren_id {f : Nat → Nat} : ∀ v : V, names (fun _ => false) v = true → ren f v = v
  | .sl b q sz off len, h => by rw [names] at h; cases h
  | .ptr b q sz i k, h => by rw [names] at h; cases h
  | .agg cs, h => by rw [names] at h; rw [ren, renL_id cs h]
  | .tup vs, h => by rw [names] at h; rw [ren, renL_id vs h]
  | .fn g cs, h => by rw [names] at h; rw [ren, renL_id cs h]
  | .lit x, _ => by rw [ren]
  | .imm s xs, _ => by rw [ren]
  | .own s xs, _ => by rw [ren]
  | .pro cs, _ => by rw [ren]
  | .undef, _ => by rw [ren]
theorem renL_id {f : Nat → Nat} : ∀ l : List V, namesL (fun _ => false) l = true → renL f l = l
  | [], _ => by rw [renL]
  | v :: r, h => by rw [namesL, Bool.and_eq_true] at h; rw [renL, ren_id v h.1, renL_id r h.2]
end
end Go.Proofs.Ytniibpihbopehaa.M

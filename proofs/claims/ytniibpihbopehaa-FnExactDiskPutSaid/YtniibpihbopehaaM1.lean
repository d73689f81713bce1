/- What it means that a state of the small machine is a state of the model's machine: what is only read, what is owned, what may be turned; what one operation that only reads tells. -/
import Derived.Test.YtniibpihbopehaaM0
namespace Go.Proofs.Ytniibpihbopehaa.M
open Go Go.RowKit
set_option linter.unusedVariables false
set_option linter.unusedSimpArgs false
/-- Where each row of each box lies, and how many cells its block has. -/
abbrev Mp := Nat → Path → Option (Addr × Nat)
/-- A value that is read in a world, in the blocks Ro alone. -/
inductive Rd (w : World) (Ro : Nat → Prop) : V → Value → Prop
  | lit (x : Value) : Rd w Ro (.lit x) x
  | undef (x : Value) : Rd w Ro .undef x
  | nil {v : V} {sz : Nat} {a : Option Addr} {c : Nat} : v = .own sz [] ∨ v = .imm sz [] → Rd w Ro v (.slice a 0 c)
  | row {v : V} {sz : Nat} {xs : Row} {A : Addr} {c : Nat} (U : Nat → Nat → Value) : v = .own sz xs ∨ v = .imm sz xs → A.spot = none → Ro A.block → xs.length ≤ c → (∀ (i : Nat) (x : List V), xs[i]? = some x → x.length = sz) →
      (∀ i k u, cellAt xs i k = some u → w.cell? ⟨A.block, A.off + i * sz + k, none⟩ = some (U i k)) → (∀ i k u, cellAt xs i k = some u → Rd w Ro u (U i k)) → Rd w Ro v (.slice (some A) xs.length c)
/-- A value in a slot. -/
inductive VR (M : Mp) (w : World) (Ro : Nat → Prop) : V → Value → Prop
  | lit (x : Value) : VR M w Ro (.lit x) x
  | undef (x : Value) : VR M w Ro .undef x
  | imm {sz : Nat} {xs : Row} {u : Value} : Rd w Ro (.imm sz xs) u → VR M w Ro (.imm sz xs) u
  | pro {cs : List V} {A : Addr} : A.spot = none → Ro A.block → (∀ (k : Nat) (v : V), cs[k]? = some v → ∃ u, w.cell? ⟨A.block, A.off + k, none⟩ = some u ∧ Rd w Ro v u) → VR M w Ro (.pro cs) (.pointer (some A))
  | sl {b : Nat} {q : Path} {sz off len cap : Nat} {a : Option Addr} : (len ≤ cap ∧ cap ≤ 9223372036854775807) → (0 < cap → ∃ A n, M b q = some (A, n) ∧ a = some ⟨A.block, A.off + off * sz, none⟩ ∧ A.off + (off + cap) * sz ≤ n) → VR M w Ro (.sl b q sz off len) (.slice a len cap)
  | ptr {b : Nat} {q : Path} {sz i k n : Nat} {A : Addr} : M b q = some (A, n) → VR M w Ro (.ptr b q sz i k) (.pointer (some ⟨A.block, A.off + i * sz + k, none⟩))
  | agg {cs : List V} {us : Array Value} : us.size = cs.length → (∀ (k : Nat) (v : V) (u : Value), cs[k]? = some v → us[k]? = some u → VR M w Ro v u) → VR M w Ro (.agg cs) (.agg us)
  | tup {vs : List V} {us : Array Value} : us.size = vs.length → (∀ (k : Nat) (v : V) (u : Value), vs[k]? = some v → us[k]? = some u → VR M w Ro v u) → VR M w Ro (.tup vs) (.tuple us)
  | fn {f : Nat} {cs : List V} {us : Array Value} : us.size = cs.length → (∀ (k : Nat) (v : V) (u : Value), cs[k]? = some v → us[k]? = some u → VR M w Ro v u) → VR M w Ro (.fn f cs) (.func (.func f) #[] us)
/-- A cell of a row: a slice there owns what it holds; other rows' slices stand only in boxes' own cells ('top'). -/
def CR (M : Mp) (w : World) (Ro : Nat → Prop) (top : Bool) (b : Nat) (q : Path) (i k : Nat) : V → Value → Prop
  | .own sz ys, u => VR M w Ro (.sl b (q ++ [(i, k)]) sz 0 ys.length) u
  | .lit x, u => u = x
  | .undef, _ => True
  | v, u => top = true ∧ VR M w Ro v u
/-- A row as it lies in memory. -/
structure Flat (M : Mp) (w0 : World) (Ro : Nat → Prop) (w : World) (top : Bool) (b : Nat) (q : Path) (sz : Nat) (xs : Row) : Prop where
  lens : ∀ (i : Nat) (x : List V), xs[i]? = some x → x.length = sz
  none : M b q = none → xs = []
  there : ∀ A n, M b q = some (A, n) → A.spot = Option.none ∧ (∃ c e f, w.heap[A.block]? = some (.cells c e f) ∧ c.size = n) ∧ (∀ o, o < n → w.frozen? ⟨A.block, o, Option.none⟩ = false) ∧ A.off + xs.length * sz ≤ n
  cell : ∀ A n, M b q = some (A, n) → ∀ i k v, cellAt xs i k = some v → ∃ u, w.cell? ⟨A.block, A.off + i * sz + k, Option.none⟩ = some u ∧ u.oneCell' = true ∧ CR M w0 Ro top b q i k v u
/-- What is kept of a world: all but the cells of S. -/
structure Kp (S : Nat → Nat → Prop) (w0 w : World) : Prop where
  os : w.os = w0.os
  tape : w.tape = w0.tape
  output : w.output = w0.output
  size : w0.heap.size ≤ w.heap.size
  shape : ∀ k, k < w0.heap.size → w.shape? k = w0.shape? k
  cell : ∀ k o, k < w0.heap.size → ¬ S k o → w.cell? ⟨k, o, none⟩ = w0.cell? ⟨k, o, none⟩
  block : ∀ k, k < w0.heap.size → (∀ o, ¬ S k o) → w.heap[k]? = w0.heap[k]?
/-- All that was, is. -/
abbrev Sm (w0 w : World) : Prop := Kp (fun _ _ => False) w0 w
theorem Kp.refl (S : Nat → Nat → Prop) (w : World) : Kp S w w := ⟨rfl, rfl, rfl, Nat.le_refl _, fun _ _ => rfl, fun _ _ _ _ => rfl, fun _ _ _ => rfl⟩
theorem Kp.trans {S S' : Nat → Nat → Prop} {w0 w w' : World} (h : Kp S w0 w) (k : Kp S' w w') (hs : ∀ b o, b < w0.heap.size → S' b o → S b o) : Kp S w0 w' :=
  ⟨k.os.trans h.os, k.tape.trans h.tape, k.output.trans h.output, Nat.le_trans h.size k.size, fun b hb => (k.shape b (Nat.lt_of_lt_of_le hb h.size)).trans (h.shape b hb),
   fun b o hb hn => (k.cell b o (Nat.lt_of_lt_of_le hb h.size) (fun hk => hn (hs b o hb hk))).trans (h.cell b o hb hn), fun b hb hn => (k.block b (Nat.lt_of_lt_of_le hb h.size) (fun o hk => hn o (hs b o hb hk))).trans (h.block b hb hn)⟩
/-- Whether the program has the number that strings.Index reads, as its first variable. -/
def globB : Bool := false
def GlobOk (w : World) (Ro : Nat → Prop) : Prop := globB = true → Ro 0 ∧ ∃ m : Int, w.cell? ⟨0, 0, none⟩ = some (.int .i64 m)
structure Cx where
  w0 : World
  Ro : Nat → Prop
  S : Nat → Nat → Prop
  N : Nat
  Own : Nat → Prop
  M0 : Mp
  ro : ∀ k, Ro k → k < w0.heap.size
  roS : ∀ k o, Ro k → ¬ S k o
  glob : GlobOk w0 Ro
structure St where
  T : Nat → V
  B : Nat → Option (Bool × Nat × Row)
def rowsAt (B : Nat → Option (Bool × Nat × Row)) (b : Nat) (q : Path) : Option (Bool × Nat × Row) := match B b with
  | none => none
  | some (top, sz, xs) => (sub sz xs q).map fun p => (top && q.isEmpty, p.1, p.2)
structure Rel (cx : Cx) (M : Mp) (st : St) (a : Act) (w : World) : Prop where
  defers : a.defers = []
  size : a.tmps.size = cx.N
  regs : ∀ t, VR M cx.w0 cx.Ro (st.T t) (a.tmps.getD t Go.undef)
  flat : ∀ b q top sz xs, rowsAt st.B b q = some (top, sz, xs) → Flat M cx.w0 cx.Ro w top b q sz xs
  inj : ∀ b q b' q', (rowsAt st.B b q).isSome = true → (rowsAt st.B b' q').isSome = true → ∀ A n A' n', M b q = some (A, n) → M b' q' = some (A', n') → A.block = A'.block → b = b' ∧ q = q'
  away : ∀ b q top sz xs, rowsAt st.B b q = some (top, sz, xs) → ∀ A n, M b q = some (A, n) → ¬ cx.Ro A.block ∧ (A.block < cx.w0.heap.size → cx.Own A.block ∧ ∀ o, o < n → (top = true → A.off ≤ o ∧ o < A.off + xs.length * sz) → cx.S A.block o)
  keep : Kp cx.S cx.w0 w
  root : ∀ b, b < 500 → M b [] = cx.M0 b []
/-- Cells behind a row that owns: of no row. -/
def Spare (B : Nat → Option (Bool × Nat × Row)) (M : Mp) (k o : Nat) : Prop := ∃ b q sz xs A n, rowsAt B b q = some (false, sz, xs) ∧ M b q = some (A, n) ∧ A.block = k ∧ A.off + xs.length * sz ≤ o
/-- All that was, is, but what stands behind rows. -/
abbrev Ks (B : Nat → Option (Bool × Nat × Row)) (M : Mp) (w w' : World) : Prop := Kp (Spare B M) w w'
theorem Kp.weak {S : Nat → Nat → Prop} {w w' : World} (h : Sm w w') : Kp S w w' := ⟨h.os, h.tape, h.output, h.size, h.shape, fun k o hk _ => h.cell k o hk (fun x => x), fun k hk _ => h.block k hk (fun _ x => x)⟩
def litV : Value → V
  | .agg cs => .agg (cs.toList.map .lit)
  | v => .lit v
def ev (T : Nat → V) : Operand → V
  | .tmp t => T t
  | .const v => litV v
  | .func f => .lit (.func (.func f) #[] #[])
  | .global _ => .undef
variable {cx : Cx} {M : Mp} {st : St} {a : Act} {w : World} {P : Program}
theorem litV_ok (M : Mp) (w : World) (Ro : Nat → Prop) (v : Value) : VR M w Ro (litV v) v := by
  unfold litV
  split
  · rename_i cs
    refine .agg (by simp) (fun k v u hv hu => ?_)
    simp only [List.getElem?_map, Array.getElem?_toList, hu, Option.map_some, Option.some.injEq] at hv
    subst hv
    exact .lit _
  · exact .lit _
theorem Rel.ev_ (R : Rel cx M st a w) (x : Operand) : VR M cx.w0 cx.Ro (ev st.T x) (a.eval x) := by
  cases x with
  | tmp t => exact R.regs t
  | const v => exact litV_ok _ _ _ v
  | func f => exact .lit _
  | global g => exact .undef _
theorem Rel.roCell (R : Rel cx M st a w) {k o : Nat} (h : cx.Ro k) : w.cell? ⟨k, o, none⟩ = cx.w0.cell? ⟨k, o, none⟩ := R.keep.cell k o (cx.ro k h) (cx.roS k o h)
theorem Rel.globTo (R : Rel cx M st a w) {Ro' : Nat → Prop} (g : ∀ k, cx.Ro k → Ro' k) : GlobOk w Ro' := fun h => by
  obtain ⟨h0, m, hm⟩ := cx.glob h
  exact ⟨g 0 h0, m, by rw [R.roCell h0]; exact hm⟩
/-- A slot is written. -/
def upd {α : Type} (f : Nat → α) (d : Nat) (v : α) : Nat → α := fun t => if t = d then v else f t
theorem upd_same {α : Type} (f : Nat → α) (d : Nat) (v : α) : upd f d v d = v := by simp [upd]
theorem upd_ne {α : Type} (f : Nat → α) (d : Nat) (v : α) (t : Nat) (h : t ≠ d) : upd f d v t = f t := by simp [upd, h]
theorem put_size (a : Act) (d : Option Tmp) (u : Value) : (a.put d u).tmps.size = a.tmps.size := by cases d <;> simp [Act.put]
theorem put_defers (a : Act) (d : Option Tmp) (u : Value) : (a.put d u).defers = a.defers := by cases d <;> rfl
theorem put_get (a : Act) (d t : Tmp) (u : Value) (h : d < a.tmps.size) : (a.put (some d) u).tmps.getD t Go.undef = if t = d then u else a.tmps.getD t Go.undef := by
  simp only [Act.put, Array.getD_eq_getD_getElem?, Array.getElem?_setIfInBounds]
  by_cases e : d = t
  · subst e; simp [h]
  · simp [e, Ne.symm e]
theorem Rel.put {v : V} {u : Value} (R : Rel cx M st a w) (d : Nat) (hd : d < cx.N) (h : VR M cx.w0 cx.Ro v u) : Rel cx M { st with T := upd st.T d v } (a.put (some d) u) w where
  defers := by rw [put_defers]; exact R.defers
  size := by rw [put_size]; exact R.size
  regs := by
    intro t
    rw [put_get _ _ _ _ (by rw [R.size]; exact hd)]
    by_cases e : t = d
    · subst e; simp only [upd, if_true]; exact h
    · simp only [upd, e, if_false]; exact R.regs t
  flat := R.flat
  inj := R.inj
  away := R.away
  keep := R.keep
  root := R.root
theorem Rel.drew (R : Rel cx M st a w) : Rel cx M st a w.drew where
  defers := R.defers
  size := R.size
  regs := R.regs
  flat := fun b q top sz xs h => ⟨(R.flat b q top sz xs h).lens, (R.flat b q top sz xs h).none, (R.flat b q top sz xs h).there, (R.flat b q top sz xs h).cell⟩
  inj := R.inj
  away := R.away
  keep := ⟨R.keep.os, R.keep.tape, R.keep.output, R.keep.size, R.keep.shape, R.keep.cell, R.keep.block⟩
  root := R.root
end Go.Proofs.Ytniibpihbopehaa.M

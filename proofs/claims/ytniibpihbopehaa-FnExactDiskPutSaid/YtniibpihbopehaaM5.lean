/- The operations that only read, as one word: 'qwp' says what must hold ahead and of what is told; it is right ('qwp_sound'), and more boxes do not turn it ('qwp_mono'). -/
import Derived.Test.YtniibpihbopehaaM4
import Derived.Lib.ConvBytes
namespace Go.Proofs.Ytniibpihbopehaa.M
open Go Go.RowKit
set_option linter.unusedVariables false
set_option linter.unusedSimpArgs false
abbrev Bs := Nat → Option (Bool × Nat × Row)
def lenV (K : Int → Prop) : V → Prop
  | .imm _ xs => K xs.length
  | .sl _ _ _ _ len => K len
  | .lit (.slice none 0 0) => K 0
  | _ => False
def cellsV : V → List V
  | .agg cs => cs
  | v => [v]
def oneV : V → Bool
  | .lit x => x.oneCell'
  | .imm _ _ | .sl _ _ _ _ _ | .pro _ | .ptr _ _ _ _ _ | .fn _ _ => true
  | _ => false
def putCells (cs : List V) (o : Nat) (vs : List V) : List V := cs.take o ++ vs ++ cs.drop (o + vs.length)
def isAggT (tt : Nat → Option Ty) (t : Nat) (K : Ty → Prop) : Prop := match tt t with | some y => K y | none => False
/-- Held against nil: what is empty may be. -/
def nilT (op : BinOp) (n : Nat) (K : V → Prop) : Prop := match op with
  | .eql => ∀ b : Bool, (b = true → n = 0) → K (.lit (.bool b))
  | .neq => ∀ b : Bool, (b = false → n = 0) → K (.lit (.bool b))
  | _ => False
def setParts (tt : Nat → Option Ty) (flds : List (Nat × Nat)) : List V → List (Nat × V) → (List V → Prop) → Prop
  | cs, [], K => K cs
  | cs, (i, v) :: r, K => match flds[i]? with
    | none => False
    | some (o, ft) => match tt ft with
      | none => False
      | some y => chk (decide ((cellsV v).length = y.size)) (chk ((cellsV v).all oneV) (chk (decide (o + y.size ≤ cs.length)) (setParts tt flds (putCells cs o (cellsV v)) r K)))
def regZero : V → V
  | .own _ [] => .lit (.slice none 0 0)
  | v => v
/-- What a slice's row reads as, a string's text told of it. -/
def rowV (B : Bs) (K : Nat → Row → Prop) : V → Prop
  | .imm sz xs => K sz xs
  | .sl b q sz off len => match rowsAt B b q with
    | some (_, sz', xs) => chk (decide (sz' = sz)) (off + len ≤ xs.length ∧ K sz ((xs.drop off).take len))
    | none => False
  | _ => False
/-- A number that is brought into its kind's bounds: here a walk stops. -/
inductive WrapB (k : IntKind) (e : Int) (K : Int → Prop) : Prop where
  | mk (h : K (k.wrap e))
theorem WrapB.get {k : IntKind} {e : Int} {K : Int → Prop} (h : WrapB k e K) : K (k.wrap e) := by cases h; assumption
theorem wrapB_i64 {e : Int} {K : Int → Prop} (h1 : -9223372036854775808 ≤ e) (h2 : e ≤ 9223372036854775807) (h : K e) : WrapB .i64 e K := ⟨by rw [show IntKind.i64.wrap e = e by rw [IntKind.wrap_i64]; omega]; exact h⟩
theorem wrapB_u8 {e : Int} {K : Int → Prop} (h1 : 0 ≤ e) (h2 : e ≤ 255) (h : K e) : WrapB .u8 e K := ⟨by rw [show IntKind.u8.wrap e = e by rw [IntKind.wrap_u8]; omega]; exact h⟩
theorem wrapB_u64 {e : Int} {K : Int → Prop} (h1 : 0 ≤ e) (h2 : e ≤ 18446744073709551615) (h : K e) : WrapB .u64 e K := ⟨by rw [show IntKind.u64.wrap e = e by rw [IntKind.wrap_u64]; omega]; exact h⟩
def intK (op : BinOp) (k : IntKind) (n m : Int) (K : Value → Prop) : Prop := match op with
  | .add => WrapB k (n + m) fun r => K (.int k r)
  | .sub => WrapB k (n - m) fun r => K (.int k r)
  | .mul => WrapB k (n * m) fun r => K (.int k r)
  | .quo => match decide (m = 0) with
    | true => False
    | false => WrapB k (n.tdiv m) fun r => K (.int k r)
  | .shr => 0 ≤ m ∧ K (.int k (n.fdiv (2 ^ (min m.toNat k.bits))))
  | .shl => 0 ≤ m ∧ WrapB k (n * 2 ^ (min m.toNat k.bits)) fun r => K (.int k r)
  | op => match intOp op k n m with | some v => K v | none => False
theorem intK_ok {op : BinOp} {k : IntKind} {n m : Int} {K : Value → Prop} (h : intK op k n m K) : ∃ v, intOp op k n m = some v ∧ K v := by
  unfold intK at h
  split at h
  · exact ⟨_, rfl, h.get⟩
  · exact ⟨_, rfl, h.get⟩
  · exact ⟨_, rfl, h.get⟩
  · split at h
    · exact h.elim
    · rename_i hd
      exact ⟨_, by simp only [intOp, if_neg (of_decide_eq_false hd)], h.get⟩
  · exact ⟨_, by simp only [intOp, if_neg (Int.not_lt.2 h.1)], h.2⟩
  · exact ⟨_, by simp only [intOp, if_neg (Int.not_lt.2 h.1)], h.2.get⟩
  · split at h
    · rename_i v hv; exact ⟨v, hv, h⟩
    · exact h.elim
/-- A test: where it is known, one way is gone. -/
def iteB (t : Bool) (A B : Prop) : Prop := match t with
  | true => A
  | false => B
theorem iteB_of {t : Bool} {A B : Prop} (h1 : t = true → A) (h2 : t = false → B) : iteB t A B := by
  cases t
  · exact h2 rfl
  · exact h1 rfl
theorem iteB_dec {c : Prop} [h : Decidable c] {A B : Prop} (h1 : c → A) (h2 : ¬ c → B) : iteB (decide c) A B := iteB_of (fun h => h1 (of_decide_eq_true h)) (fun h => h2 (of_decide_eq_false h))
theorem iteB_not {t : Bool} {A B : Prop} (h : iteB t B A) : iteB (!t) A B := by cases t <;> exact h
theorem iteB_get {t : Bool} {A B : Prop} (h : iteB t A B) : (t = true → A) ∧ (t = false → B) := by cases t <;> simpa [iteB] using h
/-- The row at a path; a path into cells is looked up where the walk says. -/
def pathP (B : Bs) (b : Nat) (q : Path) (F : Bool × Nat × Row → Prop) : Prop := match q with
  | [] => (match rowsAt B b [] with
    | none => False
    | some p => F p)
  | p :: r => ∃ x, rowsAt B b (p :: r) = some x ∧ F x
theorem pathP_ok {B : Bs} {b : Nat} {q : Path} {F : Bool × Nat × Row → Prop} (h : pathP B b q F) : ∃ x, rowsAt B b q = some x ∧ F x := by
  cases q with
  | nil =>
    simp only [pathP] at h
    split at h
    · exact h.elim
    · rename_i p hp; exact ⟨p, hp, h⟩
  | cons p r => exact h
def qwp (tt : Nat → Option Ty) (T : Nat → V) (B : Bs) (op : Op) (K : V → Prop) : Prop :=
  match op with
  | .move x | .assign x => K (ev T x)
  | .pick c x y => match ev T c with
    | .lit (.bool t) => iteB t (K (ev T x)) (K (ev T y))
    | _ => False
  | .nilCheck x => match ev T x with
    | .ptr b q sz i k => K (.ptr b q sz i k)
    | .pro cs => K (.pro cs)
    | .fn f cs => K (.fn f cs)
    | .lit (.func (.func f) p c) => K (.lit (.func (.func f) p c))
    | _ => False
  | .load t x => match tt t with
    | none => False
    | some y => match ev T x with
      | .pro cs => chk (decide (y.size ≤ cs.length)) (K (if y.agg then .agg ((cs.take y.size).map ro) else ro (cs.getD 0 .undef)))
      | .ptr b q sz i k => pathP B b q fun p => match p with
        | (_, sz', xs) => chk (decide (sz' = sz)) (∃ x, xs[i]? = some x ∧ chk (decide (k + y.size ≤ sz)) (K (if y.agg then .agg (lvs b q i k ((x.drop k).take y.size)) else lv b q i k (x.getD k .undef))))
      | _ => False
  | .fieldAddr s x f => match tt s with
    | none => False
    | some y => match y.flds[f]? with
      | none => False
      | some (o, ft) => chk y.agg (chk (tt ft).isSome (match ev T x with
        | .ptr b q sz i k => K (.ptr b q sz i (k + o))
        | .pro cs => K (.pro (cs.drop o))
        | _ => False))
  | .field s x f => match tt s with
    | none => False
    | some y => match y.flds[f]? with
      | none => False
      | some (o, ft) => chk y.agg (match tt ft with
        | none => False
        | some z => match ev T x with
          | .agg cs => chk (decide (o + z.size ≤ cs.length)) (K (if z.agg then .agg ((cs.drop o).take z.size) else cs.getD o .undef))
          | _ => False)
  | .indexAddr t x ix => match tt t, ev T ix with
    | some y, .lit (.int _ n) => match y.sl with
      | none => False
      | some e => match tt e with
        | none => False
        | some z => match ev T x with
          | .sl b q sz off len => chk (decide (z.size = sz)) (0 ≤ n ∧ n < len ∧ K (.ptr b q sz (n.toNat + off) 0))
          | .imm sz xs => chk (decide (z.size = sz)) (0 ≤ n ∧ ∃ x, xs[n.toNat]? = some x ∧ K (.pro x))
          | _ => False
    | _, _ => False
  | .index t x ix => match tt t, ev T x, ev T ix with
    | some y, .lit (.string s), .lit (.int _ n) => chk y.str (0 ≤ n ∧ n < s.size ∧ K (.lit (.int .u8 (byteAt s n))))
    | _, _, _ => False
  | .slice t x lo hi mx => match tt t with
    | none => False
    | some y => match ev T x with
      | .lit (.string s) => chk y.str (chk mx.isNone (bnds (lo.map (ev T)) (hi.map (ev T)) none s.size fun l h => K (.lit (.string (s.extract l.toNat h.toNat)))))
      | .sl b q sz off len => match y.sl with
        | none => False
        | some e => match tt e with
          | none => False
          | some z => chk (decide (z.size = sz)) (bnds (lo.map (ev T)) (hi.map (ev T)) (mx.map (ev T)) len fun l h => K (.sl b q sz (l.toNat + off) (h.toNat - l.toNat)))
      | .imm sz xs => match y.sl with
        | none => False
        | some e => match tt e with
          | none => False
          | some z => chk (decide (z.size = sz)) (bnds (lo.map (ev T)) (hi.map (ev T)) (mx.map (ev T)) xs.length fun l h => K (.imm sz ((xs.take h.toNat).drop l.toNat)))
      | _ => False
  | .binOp op t x y _ => match ev T x, ev T y with
    | .lit (.int k n), .lit (.int k' m) => chk (isShift op || decide (k = k')) (intK op k n m fun v => K (.lit v))
    | .lit (.string s), .lit (.string u) => match op with
      | .add => s.size + u.size ≤ 9223372036854775807 ∧ K (.lit (.string (s ++ u)))
      | _ => match strOp op s u with | some v => K (.lit v) | none => False
    | .lit (.bool p), .lit (.bool q) => match op with
      | .eql => isAggT tt t fun y => chk y.bool (K (.lit (.bool (decide (p = q)))))
      | .neq => isAggT tt t fun y => chk y.bool (K (.lit (.bool (decide (¬ p = q)))))
      | _ => False
    | .imm _ xs, .lit (.slice none 0 0) => isAggT tt t fun y => chk y.sl.isSome (nilT op xs.length K)
    | .sl _ _ _ _ n, .lit (.slice none 0 0) => isAggT tt t fun y => chk y.sl.isSome (nilT op n K)
    | _, _ => False
  | .unOp op t x => match op, ev T x with
    | .not, .lit (.bool p) => K (.lit (.bool (!p)))
    | .neg, .lit (.int k n) => K (.lit (.int k (k.wrap (0 - n))))
    | _, _ => False
  | .convert s d x => match tt s, tt d with
    | some y, some z => match ev T x with
      | .lit (.int _ n) => match z.ik with
        | some k => WrapB k n fun r => K (.lit (.int k r))
        | none => False
      | .lit (.string u) => chk z.str (chk y.str (K (.lit (.string u))))
      | _ => False
    | _, _ => False
  | .makeFunc (.func f) first cap => chk first.isEmpty (K (.fn f (cap.toList.map (ev T))))
  | .extract x i => match ev T x with
    | .tup vs => match vs[i]? with | some v => K v | none => False
    | _ => False
  | .build t parts => match tt t with
    | none => False
    | some y => chk y.agg (chk (y.flds.all fun f => (tt f.2).isSome) (setParts tt y.flds (y.zero.map regZero) (parts.toList.map fun p => (p.1, ev T p.2)) fun cs => K (.agg cs)))
  | .call c => match c.callee with
    | .builtin .len => match c.args.toList, c.argTypes.toList with
      | [x], [t] => match tt t with
        | none => False
        | some y => match ev T x with
          | .lit (.string s) => chk y.str (K (.lit (.int .i64 s.size)))
          | v => chk y.sl.isSome (lenV (fun n => K (.lit (.int .i64 n))) v)
      | _, _ => False
    | .builtin .min => match c.args.toList.map (ev T) with
      | [.lit (.int k n), .lit (.int k' m)] => K (.lit (.int k (if m < n then m else n)))
      | _ => False
    | .builtin .max => match c.args.toList.map (ev T) with
      | [.lit (.int k n), .lit (.int k' m)] => K (.lit (.int k (if n < m then m else n)))
      | _ => False
    | _ => False
  | _ => False
end Go.Proofs.Ytniibpihbopehaa.M

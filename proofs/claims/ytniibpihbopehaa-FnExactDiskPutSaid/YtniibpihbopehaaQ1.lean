/- What is known of types, checked. -/
import Derived.Test.YtniibpihbopehaaQ0
namespace Go.Proofs.Ytniibpihbopehaa.M
open Go Go.RowKit
set_option linter.unusedVariables false
set_option linter.unusedSimpArgs false
def zrB : V → Value → Bool
  | .lit (.int k n), .int k' m => decide (k = k') && decide (n = m)
  | .lit (.bool b), .bool c => b == c
  | .lit (.string s), .string u => decide (s = u)
  | .lit (.pointer none), .pointer none => true
  | .lit .nilFunc, .nilFunc => true
  | .lit .nilIface, .nilIface => true
  | .own _ [], .slice none 0 0 => true
  | _, _ => false
theorem zrB_ok {v : V} {u : Value} (h : zrB v u = true) : ZR v u := by
  unfold zrB at h
  split at h
  · simp only [Bool.and_eq_true, decide_eq_true_eq] at h; obtain ⟨rfl, rfl⟩ := h; exact ⟨rfl, rfl⟩
  · simp only [beq_iff_eq] at h; subst h; exact ⟨rfl, rfl⟩
  · simp only [decide_eq_true_eq] at h; subst h; exact ⟨rfl, rfl⟩
  · exact ⟨rfl, rfl⟩
  · exact ⟨rfl, rfl⟩
  · exact ⟨rfl, rfl⟩
  · rfl
  · cases h
def allZ : List V → List Value → Bool
  | [], [] => true
  | v :: r, u :: s => zrB v u && allZ r s
  | _, _ => false
theorem allZ_ok : ∀ (l : List V) (us : List Value), allZ l us = true → us.length = l.length ∧ ∀ (k : Nat) (v : V) (u : Value), l[k]? = some v → us[k]? = some u → ZR v u := by
  intro l
  induction l with
  | nil => intro us h; cases us <;> simp [allZ] at h ⊢
  | cons v l ih =>
    intro us h
    cases us with
    | nil => simp [allZ] at h
    | cons u us =>
      simp only [allZ, Bool.and_eq_true] at h
      obtain ⟨g1, g2⟩ := ih us h.2
      refine ⟨by simp [g1], fun k x y hx hy => ?_⟩
      cases k with
      | zero => simp at hx hy; subst hx; subst hy; exact zrB_ok h.1
      | succ k => exact g2 k x y (by simpa using hx) (by simpa using hy)
def tokB (P : Program) (t : Nat) (y : Ty) : Bool :=
  match P.info? t, P.underlying t with
  | some i, some d => decide (i.size = y.size) && decide (i.bytes = y.bytes) && (match i.zero with
      | some z => allZ y.zero z.cells.toList && (y.agg || match z with | .agg _ => false | _ => true)
      | none => false) && decide (y.zero.length = y.size) && decide (0 < y.size) && (match d with
      | .struct fs => y.agg && decide (fs.toList.map (fun f => (f.offset, f.type)) = y.flds)
      | .array _ _ => false
      | _ => !y.agg && decide (y.size = 1)) && (match y.sl with
      | none => true
      | some e => match d with | .slice e' => decide (e' = e) | _ => false) && (!y.str || match d with | .string => true | _ => false) && (match y.ik with
      | none => true
      | some k => match d with | .int k' => decide (k' = k) | _ => false) && (!y.bool || match d with | .bool => true | _ => false)
  | _, _ => false
theorem tokB_ok {P : Program} {t : Nat} {y : Ty} (h : tokB P t y = true) : TOk P t y := by
  unfold tokB at h
  cases hi : P.info? t with
  | none => rw [hi] at h; cases h
  | some i =>
    cases hd : P.underlying t with
    | none => rw [hi, hd] at h; cases h
    | some d =>
      rw [hi, hd] at h
      simp only [Bool.and_eq_true, decide_eq_true_eq] at h
      obtain ⟨⟨⟨⟨⟨⟨⟨⟨⟨h1, h2⟩, h3⟩, h4⟩, h5⟩, h6⟩, h7⟩, h8⟩, h9⟩, h10⟩ := h
      cases hz : i.zero with
      | none => rw [hz] at h3; cases h3
      | some z =>
        rw [hz] at h3
        simp only [Bool.and_eq_true] at h3
        obtain ⟨g1, g2⟩ := allZ_ok _ _ h3.1
        refine ⟨⟨i, z, hi, h1, h2, hz, by rw [← g1, Array.length_toList], h4, fun k v u hv hu => g2 k v u hv (by simpa using hu), fun ha => ?_⟩, fun ha => ?_, fun ha => ?_, fun e he => ?_, fun hs => ?_, fun k hk => ?_, fun hb => ?_, h5⟩
        · have := h3.2
          rw [ha] at this
          simp only [Bool.false_or] at this
          refine ⟨z, rfl, ?_⟩
          cases z <;> first | rfl | cases this
        · cases d <;> simp [ha] at h6
          exact ⟨_, hd, by simpa using h6⟩
        · cases d <;> simp [ha] at h6
          all_goals exact ⟨h6, _, hd, (fun _ h => by cases h), (fun _ _ h => by cases h)⟩
        · rw [he] at h7
          cases d <;> simp at h7
          subst h7; exact hd
        · rw [hs] at h8
          cases d <;> simp at h8
          exact hd
        · rw [hk] at h9
          cases d <;> simp at h9
          subst h9; exact hd
        · rw [hb] at h10
          cases d <;> simp at h10
          exact hd
def lookT : List (Nat × Ty) → Nat → Option Ty
  | [], _ => none
  | (t, y) :: r, x => if x = t then some y else lookT r x
theorem lookT_ok {P : Program} {l : List (Nat × Ty)} (h : (l.all fun p => tokB P p.1 p.2) = true) : ∀ t y, lookT l t = some y → TOk P t y := by
  induction l with
  | nil => intro t y ht; cases ht
  | cons p r ih =>
    intro t y ht
    rw [List.all_cons, Bool.and_eq_true] at h
    simp only [lookT] at ht
    split at ht
    · rename_i e; cases ht; subst e; exact tokB_ok h.1
    · exact ih h.2 t y ht
end Go.Proofs.Ytniibpihbopehaa.M

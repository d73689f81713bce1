/- What strings.Contains tells, as a contract of the small machine; and when a name is one of those in a row of names parted by blanks. -/
import Derived.Test.YtpojadoklfdfiaaQ2
import Derived.Test.YtpojadoklfdfiaaL0
import Derived.Test.YtpojadoklfdfiaaShelf
import Derived.Lib.IndexMore
import Derived.Lib.IndexLaws
namespace Go.Proofs.Ytpojadoklfdfiaa.M
open Go Go.RowKit
set_option linter.unusedVariables false
set_option linter.unusedSimpArgs false
set_option maxRecDepth 20000
/-- A call that only looks, of plain values. -/
theorem Fn.ofLook {G : Pg} {f : Nat} {vals : List Value} {r : Value} (hfn : ∃ fn, G.P.funcs[f]? = some fn ∧ (fn.name == "runtime.NumGoroutine") = false ∧ fn.body.isSome = true) (h : ∀ w : World, (globB = true → ∃ m : Int, w.cell? ⟨0, 0, none⟩ = some (.int .i64 m)) → Calls G.P f vals.toArray w fun e w' => e = .returned r ∧ w' = w) : Fn G f (vals.map V.lit) [] (.lit r) [] := by
  refine ⟨hfn, fun cx M vs R hv => ?_⟩
  have e : vs = vals.toArray := by
    apply Array.ext
    · have := hv.1; simpa using this
    · intro i h1 h2
      have h3 : i < vals.length := by simpa using h2
      have := hv.2 i (.lit vals[i]) vs[i] (by rw [List.getElem?_map, List.getElem?_eq_getElem h3]; rfl) (by rw [Array.getElem?_eq_getElem h1])
      have e := this.lit_
      simpa using e
  subst e
  refine (h cx.w0 fun hg => (cx.glob hg).2).mono fun e w' hw => ?_
  obtain ⟨rfl, rfl⟩ := hw
  exact ⟨r, M, rfl, R, .lit _⟩
theorem globOk_of {w : World} (h : ∃ m : Int, w.cell? ⟨0, 0, none⟩ = some (.int .i64 m)) : GlobOk w (oldRo w) := fun _ => by
  refine ⟨?_, h⟩
  obtain ⟨m, hm⟩ := h
  show 0 < w.heap.size
  by_cases hz : 0 < w.heap.size
  · exact hz
  · exfalso
    have e : w.heap.size = 0 := by omega
    have : w.heap[0]? = none := by rw [Array.getElem?_eq_none]; omega
    unfold World.cell? at hm
    simp [this] at hm
theorem F_strings_Contains (a b : ByteArray) (ha : a.size < 4294967281) : Fn pg 135 [.lit (.string a), .lit (.string b)] [] (.lit (.bool (Lib.contains a.data.toList b.data.toList))) [] :=
  Fn.ofLook (vals := [.string a, .string b]) ⟨_, Try.func135, rfl, rfl⟩ fun w hg => by
    obtain ⟨m, hm⟩ := hg rfl
    exact Try.strings_Contains a b m w ha hm
theorem has_cons (b : UInt8) (l sub : List UInt8) : Lib.contains (b :: l) sub = (sub.isPrefixOf (b :: l) || Lib.contains l sub) := by
  unfold Lib.contains
  have hg := Lib.index_ge l sub
  rw [Lib.index]
  by_cases h : sub.isPrefixOf (b :: l) = true
  · simp [h]
  · rw [Bool.not_eq_true] at h
    simp only [h, Bool.false_or]
    by_cases h1 : Lib.index l sub = -1
    · simp [h1]
    · have h3 : (Lib.index l sub == -1) = false := by rw [beq_eq_false_iff_ne]; exact h1
      simp only [h3]
      have : decide (0 ≤ Lib.index l sub + 1) = decide (0 ≤ Lib.index l sub) := by rw [decide_eq_decide]; omega
      simpa using this
theorem has_nil (a : UInt8) (t : List UInt8) : Lib.contains [] (a :: t) = false := rfl
theorem has_one (c : UInt8) : ∀ l : List UInt8, Lib.contains l [c] = decide (c ∈ l)
  | [] => rfl
  | b :: l => by
    rw [has_cons, has_one c l]
    simp [List.isPrefixOf, Bool.decide_or, Bool.beq_eq_decide_eq]
/-- A row of names: a blank ahead of each, and one behind all. -/
def J : List (List UInt8) → List UInt8
  | [] => [32]
  | w :: ws => 32 :: (w ++ J ws)
theorem J_head : ∀ ws, ∃ l, J ws = 32 :: l
  | [] => ⟨[], rfl⟩
  | _ :: _ => ⟨_, rfl⟩
theorem skip (t l : List UInt8) : ∀ w : List UInt8, (32 : UInt8) ∉ w → Lib.contains (w ++ l) (32 :: t) = Lib.contains l (32 :: t)
  | [], _ => rfl
  | c :: w, h => by
    rw [List.cons_append, has_cons, skip t l w (fun hm => h (List.mem_cons_of_mem _ hm))]
    have hc : ((32 : UInt8) == c) = false := by
      rw [beq_eq_false_iff_ne]; intro e; exact h (by rw [e]; exact List.mem_cons_self)
    simp [List.isPrefixOf, hc]
theorem pre (l : List UInt8) : ∀ s w : List UInt8, (32 : UInt8) ∉ s → (32 : UInt8) ∉ w → (s ++ [32]).isPrefixOf (w ++ 32 :: l) = decide (s = w)
  | [], [], _, _ => by simp [List.isPrefixOf]
  | [], c :: w, _, h => by
    have hc : ((32 : UInt8) == c) = false := by
      rw [beq_eq_false_iff_ne]; intro e; exact h (by rw [e]; exact List.mem_cons_self)
    simp [List.isPrefixOf, hc]
  | a :: s, [], h, _ => by
    have hc : (a == (32 : UInt8)) = false := by
      rw [beq_eq_false_iff_ne]; intro e; exact h (by rw [← e]; exact List.mem_cons_self)
    simp [List.isPrefixOf, hc]
  | a :: s, c :: w, h1, h2 => by
    have ih := pre l s w (fun hm => h1 (List.mem_cons_of_mem _ hm)) (fun hm => h2 (List.mem_cons_of_mem _ hm))
    simp only [List.cons_append, List.isPrefixOf, ih]
    simp [Bool.beq_eq_decide_eq, Bool.decide_and]
theorem J_has (s : List UInt8) (hs : (32 : UInt8) ∉ s) : ∀ ws : List (List UInt8), (∀ w ∈ ws, (32 : UInt8) ∉ w) → Lib.contains (J ws) (32 :: (s ++ [32])) = decide (s ∈ ws)
  | [], _ => by
    rw [J, has_cons]
    cases s with
    | nil => simp [List.isPrefixOf, Lib.contains, Lib.index]
    | cons a s => simp [List.isPrefixOf, Lib.contains, Lib.index]
  | w :: ws, h => by
    have ih := J_has s hs ws (fun w' hw => h w' (List.mem_cons_of_mem _ hw))
    have hw := h w List.mem_cons_self
    rw [J, has_cons, skip _ _ w hw, ih]
    obtain ⟨l, hl⟩ := J_head ws
    have hp := pre l s w hs hw
    rw [← hl] at hp
    simp only [List.isPrefixOf, hp]
    simp [Bool.decide_or]
end Go.Proofs.Ytpojadoklfdfiaa.M

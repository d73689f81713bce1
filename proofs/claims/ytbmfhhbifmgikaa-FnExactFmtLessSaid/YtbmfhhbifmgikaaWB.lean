/- Walks of the program's functions, by the small machine. -/
import Derived.Test.YtbmfhhbifmgikaaWA
namespace Go.Proofs.Ytbmfhhbifmgikaa.M
open Go
set_option maxHeartbeats 1000000
set_option maxRecDepth 20000
set_option linter.unusedVariables false
set_option linter.unusedSimpArgs false
def ne_ (v x : Int) : Bool := !decide (x = v)
-- FN spec.l6Less
theorem F_s_l6Less (xs : List Int) (v : Int) (hx : xs.length * 8 ≤ 140737488351232) : Fn pg 58 [.imm 1 (rowI xs), .lit (.int .i64 v)] [] (.sl 500 [] 1 0 (xs.filter (ne_ v)).length) [(500, false, 1, rowI (xs.filter (ne_ v)))] := by
  refine Fn.ofN [0,1,4,5,6,11,19] [1004,1007,1025,1026] Try.func58 (by rfl) rfl (by show 2 ≤ 28; decide) (by rfl) ?_
  repeat' ((conv => whnf); first
    | (refine iteB_dec (fun h => ?_) (fun h => ?_) <;> (try simp (disch := (first | omega | (simp <;> omega))) only [List.length_map, List.length_append, List.length_set, List.length_replicate, len_marks, len_markL] at h))
    | (refine iteB_not ?_)
    | (refine iteB_of (fun h => ?_) (fun h => ?_))
    | (refine Exists.intro _ (And.intro rfl ?_))
    | (refine And.intro (by first | exact True.intro | exact Nat.le_refl _ | decide +kernel | omega | (simp (disch := (first | omega | (simp <;> omega))) only [List.length_map, List.length_append, List.length_set, List.length_replicate, len_marks, len_markL] <;> omega) | ((first | show ((_ : Nat) + 1) * 8 ≤ _ | show ((_ : Nat) + 1) * 16 ≤ _ | show ((_ : Nat) + 1) * 24 ≤ _ | show ((_ : Nat) + 1) * 96 ≤ _ | show ((_ : Nat) + 1) * 1 ≤ _ | show ((_ : Nat) + 1) ≤ _); omega) | (apply litOne <;> rfl) | (apply litTwo <;> rfl) | (apply litI <;> rfl) | (apply litU <;> rfl) | (apply litS <;> rfl)) ?_)
    | (refine Exists.intro _ (And.intro (rowGet _ _ _ (by omega)) ?_))
    | (refine Exists.intro _ (And.intro (rowGetI _ _ _ (by omega) (by omega)) ?_))
    | (intro b hb; cases b <;> simp only [reduceCtorEq, forall_const, false_implies, List.length_map] at hb))
  refine ⟨Nat, fun i => i ≤ xs.length, fun i => [(0, .imm 1 (rowI xs)), (1, .lit (.int .i64 v)), (5, .sl 1007 [] 1 0 ((xs.take i).filter (ne_ v)).length), (6, .lit (.int .i64 i))], fun i => [(1007, false, 1, rowI ((xs.take i).filter (ne_ v)))], fun i => xs.length - i, ⟨[], 0, by omega, ⟨rfl, rfl⟩, ⟨by first | rfl | (exact slEq (by first | omega | (simp; done) | (simp; omega))) | (show V.lit (Value.int _ _) = V.lit (Value.int _ _); first | (congr 2; done) | (congr 2; first | omega | (simp only [List.length_map]; done) | (simp only [IntKind.wrap_i64, List.length_map]; omega))), by first | rfl | (exact slEq (by first | omega | (simp; done) | (simp; omega))) | (show V.lit (Value.int _ _) = V.lit (Value.int _ _); first | (congr 2; done) | (congr 2; first | omega | (simp only [List.length_map]; done) | (simp only [IntKind.wrap_i64, List.length_map]; omega))), by first | rfl | (exact slEq (by first | omega | (simp; done) | (simp; omega))) | (show V.lit (Value.int _ _) = V.lit (Value.int _ _); first | (congr 2; done) | (congr 2; first | omega | (simp only [List.length_map]; done) | (simp only [IntKind.wrap_i64, List.length_map]; omega))), by first | rfl | (exact slEq (by first | omega | (simp; done) | (simp; omega))) | (show V.lit (Value.int _ _) = V.lit (Value.int _ _); first | (congr 2; done) | (congr 2; first | omega | (simp only [List.length_map]; done) | (simp only [IntKind.wrap_i64, List.length_map]; omega))), trivial⟩, ⟨rfl, trivial⟩⟩, ?_⟩
  intro i hi
  have hl := filter_le (ne_ v) xs i hi
  repeat' ((conv => whnf); first
    | (refine iteB_dec (fun h => ?_) (fun h => ?_) <;> (try simp (disch := (first | omega | (simp <;> omega))) only [List.length_map, List.length_append, List.length_set, List.length_replicate, len_marks, len_markL] at h))
    | (refine iteB_not ?_)
    | (refine iteB_of (fun h => ?_) (fun h => ?_))
    | (refine Exists.intro _ (And.intro rfl ?_))
    | (refine And.intro (by first | exact True.intro | exact Nat.le_refl _ | decide +kernel | omega | (simp (disch := (first | omega | (simp <;> omega))) only [List.length_map, List.length_append, List.length_set, List.length_replicate, len_marks, len_markL] <;> omega) | ((first | show ((_ : Nat) + 1) * 8 ≤ _ | show ((_ : Nat) + 1) * 16 ≤ _ | show ((_ : Nat) + 1) * 24 ≤ _ | show ((_ : Nat) + 1) * 96 ≤ _ | show ((_ : Nat) + 1) * 1 ≤ _ | show ((_ : Nat) + 1) ≤ _); omega) | (apply litOne <;> rfl) | (apply litTwo <;> rfl) | (apply litI <;> rfl) | (apply litU <;> rfl) | (apply litS <;> rfl)) ?_)
    | (refine Exists.intro _ (And.intro (rowGet _ _ _ (by omega)) ?_))
    | (refine Exists.intro _ (And.intro (rowGetI _ _ _ (by omega) (by omega)) ?_))
    | (intro b hb; cases b <;> simp only [reduceCtorEq, forall_const, false_implies, List.length_map] at hb))
  · have hr : _ = rowI ((xs.take (i + 1)).filter (ne_ v)) := (app_one (eInt .i64) ((xs.take i).filter (ne_ v)) xs[i] rfl rfl).trans (by rw [filter_keep _ _ _ (by omega) (by simp_all [ne_])])
    exact ⟨[], i + 1, by omega, ⟨⟨rfl, rfl⟩, ⟨by first | rfl | (exact slEq (by first | omega | (simp; done) | (simp; omega))) | (show V.lit (Value.int _ _) = V.lit (Value.int _ _); first | (congr 2; done) | (congr 2; first | omega | (simp only [List.length_map]; done) | (simp only [IntKind.wrap_i64, List.length_map]; omega))), by first | rfl | (exact slEq (by first | omega | (simp; done) | (simp; omega))) | (show V.lit (Value.int _ _) = V.lit (Value.int _ _); first | (congr 2; done) | (congr 2; first | omega | (simp only [List.length_map]; done) | (simp only [IntKind.wrap_i64, List.length_map]; omega))), slEq ((congrArg List.length hr).trans (List.length_map _)), by first | rfl | (exact slEq (by first | omega | (simp; done) | (simp; omega))) | (show V.lit (Value.int _ _) = V.lit (Value.int _ _); first | (congr 2; done) | (congr 2; first | omega | (simp only [List.length_map]; done) | (simp only [IntKind.wrap_i64, List.length_map]; omega))), trivial⟩, ⟨boxEq hr, trivial⟩⟩, by first | omega | (dsimp only; omega)⟩
  · have hr := filter_drop (ne_ v) xs i (by omega) (by simp_all [ne_])
    exact ⟨[], i + 1, by omega, ⟨⟨rfl, rfl⟩, ⟨by first | rfl | (exact slEq (by first | omega | (simp; done) | (simp; omega))) | (show V.lit (Value.int _ _) = V.lit (Value.int _ _); first | (congr 2; done) | (congr 2; first | omega | (simp only [List.length_map]; done) | (simp only [IntKind.wrap_i64, List.length_map]; omega))), by first | rfl | (exact slEq (by first | omega | (simp; done) | (simp; omega))) | (show V.lit (Value.int _ _) = V.lit (Value.int _ _); first | (congr 2; done) | (congr 2; first | omega | (simp only [List.length_map]; done) | (simp only [IntKind.wrap_i64, List.length_map]; omega))), slEq (by rw [hr]), by first | rfl | (exact slEq (by first | omega | (simp; done) | (simp; omega))) | (show V.lit (Value.int _ _) = V.lit (Value.int _ _); first | (congr 2; done) | (congr 2; first | omega | (simp only [List.length_map]; done) | (simp only [IntKind.wrap_i64, List.length_map]; omega))), trivial⟩, ⟨boxEq (congrArg rowI hr.symm), trivial⟩⟩, by first | omega | (dsimp only; omega)⟩
  · have hi' : i = xs.length := by omega
    subst hi'
    rw [List.take_length]
    refine .mk ⟨trivial, [1007], ⟨rfl, ?_⟩, by simp, rfl, ?_⟩
    · rfl
    exact ⟨outOk_new (d := 1007) (by decide) rfl rfl, trivial⟩

def idxF {α : Type} (p : α → Bool) : List α → Int → Int
  | [], _ => -1
  | x :: r, k => if p x = true then k else idxF p r (k + 1)
theorem idxF_spec {α : Type} (p : α → Bool) : ∀ (xs : List α) (k : Nat), (idxF p xs k = -1 ∧ xs.filter (fun x => !p x) = xs) ∨ ∃ i, ∃ h : i < xs.length, idxF p xs k = ((k + i : Nat) : Int) ∧ p xs[i] = true ∧ (xs.take i).filter (fun x => !p x) = xs.take i := by
  intro xs
  induction xs with
  | nil => intro k; exact .inl ⟨rfl, rfl⟩
  | cons x r ih =>
    intro k
    by_cases hp : p x = true
    · exact .inr ⟨0, by simp, by simp [idxF, hp], by simpa using hp, by simp⟩
    · have hp' : p x = false := by simpa using hp
      rcases ih (k + 1) with ⟨h1, h2⟩ | ⟨i, hi, h1, h2, h3⟩
      · exact .inl ⟨by simp only [idxF, if_neg hp]; rw [show ((k : Int) + 1) = ((k + 1 : Nat) : Int) by omega]; exact h1, by simp [List.filter_cons, hp', h2]⟩
      · refine .inr ⟨i + 1, by simpa using hi, ?_, by simpa using h2, by simp [List.filter_cons, hp', h3]⟩
        simp only [idxF, if_neg hp]; rw [show ((k : Int) + 1) = ((k + 1 : Nat) : Int) by omega, h1]; omega
/-- A row whose first j are sifted in place. -/
def dele {α : Type} (q : α → Bool) (xs : List α) (j : Nat) : List α := (xs.take j).filter q ++ xs.drop ((xs.take j).filter q).length
theorem len_dele {α : Type} (q : α → Bool) (xs : List α) (j : Nat) (h : j ≤ xs.length) : (dele q xs j).length = xs.length := by
  have := filter_le q xs j h
  simp [dele]; omega
theorem dele_get0 {α : Type} (q : α → Bool) (xs : List α) (j : Nat) (h : j < xs.length) : (dele q xs j)[j]? = some xs[j] := by
  have := filter_le q xs j (by omega)
  unfold dele
  rw [List.getElem?_append_right this, List.getElem?_drop, show ((xs.take j).filter q).length + (j - ((xs.take j).filter q).length) = j by omega, List.getElem?_eq_getElem h]
theorem get_dele (q : Int → Bool) (xs : List Int) (j : Nat) (h : j < xs.length) : (rowI (dele q xs j))[((j : Nat) : Int).toNat + 0]? = some (eInt .i64 xs[j]) := by
  rw [List.getElem?_map, Int.toNat_natCast, Nat.add_zero, dele_get0 _ _ _ h]; rfl
theorem get_deleC (q : Int → Bool) (xs : List Int) (j n : Nat) (h : j ≤ xs.length) (h2 : n < xs.length) : cellAt (rowI (dele q xs j)) ((n : Nat) : Int).toNat 0 = some (.lit (.int .i64 ((dele q xs j)[n]'(by rw [len_dele _ _ _ h]; exact h2)))) := by
  rw [Int.toNat_natCast, cellGet _ _ _ _ (by rw [len_dele _ _ _ h]; exact h2)]; rfl
theorem len_clrRow (xs : Row) (off len : Nat) (z : List V) (h : off + len ≤ xs.length) : (clrRow xs off len z).length = xs.length := clrRow_length xs off len z h
theorem dele_keep {α : Type} (q : α → Bool) (xs : List α) (j : Nat) (h : j < xs.length) (hp : q xs[j] = true) : (dele q xs j).set ((xs.take j).filter q).length xs[j] = dele q xs (j + 1) := by
  have := filter_le q xs j (by omega)
  unfold dele
  rw [filter_keep _ _ _ h hp, List.set_append_right _ _ (Nat.le_refl _), Nat.sub_self, drop_cons _ _ (by omega), List.set_cons_zero]
  simp
theorem dele_drop {α : Type} (q : α → Bool) (xs : List α) (j : Nat) (h : j < xs.length) (hp : q xs[j] = false) : dele q xs (j + 1) = dele q xs j := by
  unfold dele; rw [filter_drop _ _ _ h hp]
-- FN slices.IndexFunc[[]int,int]
theorem F_slices_IndexFunc_int_int (xs : List Int) (p : Int → Bool) (f : Nat) (c : Value) (hx : xs.length ≤ 140737488351232) (hf : ∀ x, Fn pg f [.lit (.int .i64 x), .pro [.lit c]] [] (.lit (.bool (p x))) []) : Fn pg 87 [.imm 1 (rowI xs), .fn f [.pro [.lit c]]] [] (.lit (.int .i64 (idxF p xs 0))) [] := by
  refine Fn.ofN [0,1,4,5,7,8,9,16] [] Try.func87 (by rfl) rfl (by show 2 ≤ 19; decide) (by rfl) ?_
  repeat' ((conv => whnf); first
    | (refine iteB_dec (fun h => ?_) (fun h => ?_) <;> (try simp (disch := (first | omega | (simp <;> omega))) only [List.length_map, List.length_append, List.length_set, List.length_replicate, len_marks, len_markL, len_dele, len_clrRow] at h))
    | (refine iteB_not ?_)
    | (refine iteB_of (fun h => ?_) (fun h => ?_))
    | (refine Exists.intro _ (And.intro rfl ?_))
    | (refine And.intro (by first | exact True.intro | exact Nat.le_refl _ | decide +kernel | omega | (simp (disch := (first | omega | (simp <;> omega))) only [List.length_map, List.length_append, List.length_set, List.length_replicate, len_marks, len_markL, len_dele, len_clrRow] <;> omega) | ((first | show ((_ : Nat) + 1) * 8 ≤ _ | show ((_ : Nat) + 1) * 16 ≤ _ | show ((_ : Nat) + 1) * 24 ≤ _ | show ((_ : Nat) + 1) * 96 ≤ _ | show ((_ : Nat) + 1) * 1 ≤ _ | show ((_ : Nat) + 1) ≤ _); omega) | (apply litOne <;> rfl) | (apply litTwo <;> rfl) | (apply litI <;> rfl) | (apply litU <;> rfl) | (apply litS <;> rfl)) ?_)
    | (refine Exists.intro _ (And.intro (rowGet _ _ _ (by omega)) ?_))
    | (refine Exists.intro _ (And.intro (rowGetI _ _ _ (by omega) (by omega)) ?_))
    | (intro b hb; cases b <;> simp only [reduceCtorEq, forall_const, false_implies, List.length_map] at hb)
    | (refine Exists.intro _ (And.intro (get_dele _ _ _ (by first | omega | assumption | (simp; omega) | (simp_all; done))) ?_))
    | (refine Exists.intro _ (And.intro (get_deleC _ _ _ _ (by first | omega | assumption | (simp; omega) | (simp_all; done)) (by first | omega | assumption | (simp; omega) | (simp_all; done))) ?_)))
  refine ⟨Nat, fun i => i ≤ xs.length ∧ idxF p xs 0 = idxF p (xs.drop i) i, fun i => [(0, .imm 1 (rowI xs)), (1, .fn f [.pro [.lit c]]), (7, .lit (.int .i64 xs.length)), (8, .lit (.int .i64 i))], fun _ => [], fun i => xs.length - i, ⟨[], 0, by simp, ⟨rfl, rfl⟩, ⟨by first | rfl | (exact slEq (by first | omega | (simp; done) | (simp; omega))) | (show V.lit (Value.int _ _) = V.lit (Value.int _ _); first | (congr 2; done) | (congr 2; first | omega | (simp only [List.length_map]; done) | (simp only [IntKind.wrap_i64, List.length_map]; omega))), by first | rfl | (exact slEq (by first | omega | (simp; done) | (simp; omega))) | (show V.lit (Value.int _ _) = V.lit (Value.int _ _); first | (congr 2; done) | (congr 2; first | omega | (simp only [List.length_map]; done) | (simp only [IntKind.wrap_i64, List.length_map]; omega))), by first | rfl | (exact slEq (by first | omega | (simp; done) | (simp; omega))) | (show V.lit (Value.int _ _) = V.lit (Value.int _ _); first | (congr 2; done) | (congr 2; first | omega | (simp only [List.length_map]; done) | (simp only [IntKind.wrap_i64, List.length_map]; omega))), by first | rfl | (exact slEq (by first | omega | (simp; done) | (simp; omega))) | (show V.lit (Value.int _ _) = V.lit (Value.int _ _); first | (congr 2; done) | (congr 2; first | omega | (simp only [List.length_map]; done) | (simp only [IntKind.wrap_i64, List.length_map]; omega))), trivial⟩, trivial⟩, ?_⟩
  intro i ⟨hi, hh⟩
  repeat' ((conv => whnf); first
    | (refine iteB_dec (fun h => ?_) (fun h => ?_) <;> (try simp (disch := (first | omega | (simp <;> omega))) only [List.length_map, List.length_append, List.length_set, List.length_replicate, len_marks, len_markL, len_dele, len_clrRow] at h))
    | (refine iteB_not ?_)
    | (refine iteB_of (fun h => ?_) (fun h => ?_))
    | (refine Exists.intro _ (And.intro rfl ?_))
    | (refine And.intro (by first | exact True.intro | exact Nat.le_refl _ | decide +kernel | omega | (simp (disch := (first | omega | (simp <;> omega))) only [List.length_map, List.length_append, List.length_set, List.length_replicate, len_marks, len_markL, len_dele, len_clrRow] <;> omega) | ((first | show ((_ : Nat) + 1) * 8 ≤ _ | show ((_ : Nat) + 1) * 16 ≤ _ | show ((_ : Nat) + 1) * 24 ≤ _ | show ((_ : Nat) + 1) * 96 ≤ _ | show ((_ : Nat) + 1) * 1 ≤ _ | show ((_ : Nat) + 1) ≤ _); omega) | (apply litOne <;> rfl) | (apply litTwo <;> rfl) | (apply litI <;> rfl) | (apply litU <;> rfl) | (apply litS <;> rfl)) ?_)
    | (refine Exists.intro _ (And.intro (rowGet _ _ _ (by omega)) ?_))
    | (refine Exists.intro _ (And.intro (rowGetI _ _ _ (by omega) (by omega)) ?_))
    | (intro b hb; cases b <;> simp only [reduceCtorEq, forall_const, false_implies, List.length_map] at hb)
    | (refine Exists.intro _ (And.intro (get_dele _ _ _ (by first | omega | assumption | (simp; omega) | (simp_all; done))) ?_))
    | (refine Exists.intro _ (And.intro (get_deleC _ _ _ _ (by first | omega | assumption | (simp; omega) | (simp_all; done)) (by first | omega | assumption | (simp; omega) | (simp_all; done))) ?_))
    | (refine Or.inl ?_; apply callV_i; (repeat ((conv => whnf); first | refine And.intro (by first | exact Nat.le_refl _ | omega | (simp (disch := (first | omega | (simp <;> omega))) only [List.length_map, List.length_append, List.length_set, List.length_replicate, len_marks, len_markL, len_dele, len_clrRow] <;> omega)) ?_ | refine Exists.intro _ (And.intro rfl ?_) | refine Exists.intro _ (And.intro (rowGet _ _ _ (by omega)) ?_))); ((conv => whnf); first | exact (hf _) | (simp (disch := (first | omega | (simp <;> omega))) only [takeAll, takeAll2, take_marks, take_app, take_app2]; first | exact (hf _))); refine ⟨rfl, rfl, ?_⟩)
    | (refine Or.inr (Or.inr (callA_ok ?_)); (conv => whnf); apply Exists.intro; apply Exists.intro; apply And.intro; (repeat ((conv => whnf); first | refine And.intro (by first | exact Nat.le_refl _ | omega | (simp (disch := (first | omega | (simp <;> omega))) only [List.length_map, List.length_append, List.length_set, List.length_replicate, len_marks, len_markL, len_dele, len_clrRow] <;> omega)) ?_ | refine Exists.intro _ (And.intro rfl ?_) | refine Exists.intro _ (And.intro (rowGet _ _ _ (by omega)) ?_))); ((conv => whnf); first | exact (hf _) | (simp (disch := (first | omega | (simp <;> omega))) only [takeAll, takeAll2, take_marks, take_app, take_app2]; first | exact (hf _))); refine ⟨rfl, ?_⟩)
    | (refine Or.inr (Or.inl ?_); apply callR_i; (first | exact (hf _)); refine ⟨rfl, rfl, rfl, ?_⟩))
  · rw [drop_cons _ _ (by omega)] at hh
    (refine .mk ⟨trivial, [], ⟨rfl, ?_⟩, List.nodup_nil, rfl, trivial⟩; show V.lit _ = V.lit _)
    simp_all [idxF]
  · rw [drop_cons _ _ (by omega)] at hh
    refine ⟨[], i + 1, ⟨by omega, by simp_all [idxF]⟩, ⟨⟨rfl, rfl⟩, ⟨by first | rfl | (exact slEq (by first | omega | (simp; done) | (simp; omega))) | (show V.lit (Value.int _ _) = V.lit (Value.int _ _); first | (congr 2; done) | (congr 2; first | omega | (simp only [List.length_map]; done) | (simp only [IntKind.wrap_i64, List.length_map]; omega))), by first | rfl | (exact slEq (by first | omega | (simp; done) | (simp; omega))) | (show V.lit (Value.int _ _) = V.lit (Value.int _ _); first | (congr 2; done) | (congr 2; first | omega | (simp only [List.length_map]; done) | (simp only [IntKind.wrap_i64, List.length_map]; omega))), by first | rfl | (exact slEq (by first | omega | (simp; done) | (simp; omega))) | (show V.lit (Value.int _ _) = V.lit (Value.int _ _); first | (congr 2; done) | (congr 2; first | omega | (simp only [List.length_map]; done) | (simp only [IntKind.wrap_i64, List.length_map]; omega))), by first | rfl | (exact slEq (by first | omega | (simp; done) | (simp; omega))) | (show V.lit (Value.int _ _) = V.lit (Value.int _ _); first | (congr 2; done) | (congr 2; first | omega | (simp only [List.length_map]; done) | (simp only [IntKind.wrap_i64, List.length_map]; omega))), trivial⟩, trivial⟩, by first | omega | (dsimp only; omega)⟩
  · rw [List.drop_of_length_le (by omega)] at hh
    (refine .mk ⟨trivial, [], ⟨rfl, ?_⟩, List.nodup_nil, rfl, trivial⟩; show V.lit _ = V.lit _)
    simp_all [idxF]
-- FN impl.FmtLess$1
theorem F_i_FmtLess_1 (x a : Int) : Fn pg 60 [.lit (.int .i64 x), .pro [.lit (.int .i64 a)]] [] (.lit (.bool (decide (x = a)))) [] := by
  refine Fn.ofN [0,1,3] [] Try.func60 (by rfl) rfl (by show 2 ≤ 7; decide) (by rfl) ?_
  repeat' ((conv => whnf); first
    | (refine iteB_dec (fun h => ?_) (fun h => ?_) <;> (try simp (disch := (first | omega | (simp <;> omega))) only [List.length_map, List.length_append, List.length_set, List.length_replicate, len_marks, len_markL, len_dele, len_clrRow] at h))
    | (refine iteB_not ?_)
    | (refine iteB_of (fun h => ?_) (fun h => ?_))
    | (refine Exists.intro _ (And.intro rfl ?_))
    | (refine And.intro (by first | exact True.intro | exact Nat.le_refl _ | decide +kernel | omega | (simp (disch := (first | omega | (simp <;> omega))) only [List.length_map, List.length_append, List.length_set, List.length_replicate, len_marks, len_markL, len_dele, len_clrRow] <;> omega) | ((first | show ((_ : Nat) + 1) * 8 ≤ _ | show ((_ : Nat) + 1) * 16 ≤ _ | show ((_ : Nat) + 1) * 24 ≤ _ | show ((_ : Nat) + 1) * 96 ≤ _ | show ((_ : Nat) + 1) * 1 ≤ _ | show ((_ : Nat) + 1) ≤ _); omega) | (apply litOne <;> rfl) | (apply litTwo <;> rfl) | (apply litI <;> rfl) | (apply litU <;> rfl) | (apply litS <;> rfl)) ?_)
    | (refine Exists.intro _ (And.intro (rowGet _ _ _ (by omega)) ?_))
    | (refine Exists.intro _ (And.intro (rowGetI _ _ _ (by omega) (by omega)) ?_))
    | (intro b hb; cases b <;> simp only [reduceCtorEq, forall_const, false_implies, List.length_map] at hb)
    | (refine Exists.intro _ (And.intro (get_dele _ _ _ (by first | omega | assumption | (simp; omega) | (simp_all; done))) ?_))
    | (refine Exists.intro _ (And.intro (get_deleC _ _ _ _ (by first | omega | assumption | (simp; omega) | (simp_all; done)) (by first | omega | assumption | (simp; omega) | (simp_all; done))) ?_)))
  all_goals ((refine .mk ⟨trivial, [], ⟨rfl, ?_⟩, List.nodup_nil, rfl, trivial⟩; show V.lit _ = V.lit _); first | (simp_all []; done) | (simp_all []; omega) | (simp only [V.lit.injEq, Value.bool.injEq, Value.int.injEq]; grind []))
-- FN slices.DeleteFunc[[]int,int]
theorem F_slices_DeleteFunc_int_int (xs : List Int) (p : Int → Bool) (f : Nat) (c : Value) (hx : xs.length * 8 ≤ 140737488351232) (hf : ∀ x, Fn pg f [.lit (.int .i64 x), .pro [.lit c]] [] (.lit (.bool (p x))) []) :
    Fn pg 59 [.sl 0 [] 1 0 xs.length, .fn f [.ptr 1 [] 1 0 0]] [(0, false, 1, rowI xs), (1, true, 1, [[.lit c]])] (.sl 0 [] 1 0 (xs.filter fun x => !p x).length) [(0, false, 1, rowI ((xs.filter fun x => !p x) ++ List.replicate (xs.length - (xs.filter fun x => !p x).length) 0)), (1, true, 1, [[.lit c]])] := by
  rcases idxF_spec p xs 0 with ⟨h1, h2⟩ | ⟨i, hi, h1, hp, hq⟩
  · have hF := F_slices_IndexFunc_int_int xs p f c (by omega) hf
    rw [show idxF p xs 0 = -1 from h1] at hF
    rw [h2]
    refine Fn.ofN [0,1,4,5,6,7,12,19,29] [0,1,1004,1038,1041] Try.func59 (by rfl) rfl (by show 2 ≤ 42; decide) (by rfl) ?_
    repeat' ((conv => whnf); first
      | (refine iteB_dec (fun h => ?_) (fun h => ?_) <;> (try simp (disch := (first | omega | (simp <;> omega))) only [List.length_map, List.length_append, List.length_set, List.length_replicate, len_marks, len_markL, len_dele, len_clrRow] at h))
      | (refine iteB_not ?_)
      | (refine iteB_of (fun h => ?_) (fun h => ?_))
      | (refine Exists.intro _ (And.intro rfl ?_))
      | (refine And.intro (by first | exact True.intro | exact Nat.le_refl _ | decide +kernel | omega | (simp (disch := (first | omega | (simp <;> omega))) only [List.length_map, List.length_append, List.length_set, List.length_replicate, len_marks, len_markL, len_dele, len_clrRow] <;> omega) | ((first | show ((_ : Nat) + 1) * 8 ≤ _ | show ((_ : Nat) + 1) * 16 ≤ _ | show ((_ : Nat) + 1) * 24 ≤ _ | show ((_ : Nat) + 1) * 96 ≤ _ | show ((_ : Nat) + 1) * 1 ≤ _ | show ((_ : Nat) + 1) ≤ _); omega) | (apply litOne <;> rfl) | (apply litTwo <;> rfl) | (apply litI <;> rfl) | (apply litU <;> rfl) | (apply litS <;> rfl)) ?_)
      | (refine Exists.intro _ (And.intro (rowGet _ _ _ (by omega)) ?_))
      | (refine Exists.intro _ (And.intro (rowGetI _ _ _ (by omega) (by omega)) ?_))
      | (intro b hb; cases b <;> simp only [reduceCtorEq, forall_const, false_implies, List.length_map] at hb)
      | (refine Exists.intro _ (And.intro (get_dele _ _ _ (by first | omega | assumption | (simp; omega) | (simp_all; done))) ?_))
      | (refine Exists.intro _ (And.intro (get_deleC _ _ _ _ (by first | omega | assumption | (simp; omega) | (simp_all; done)) (by first | omega | assumption | (simp; omega) | (simp_all; done))) ?_))
      | (refine Or.inl ?_; apply callV_i; (repeat ((conv => whnf); first | refine And.intro (by first | exact Nat.le_refl _ | omega | (simp (disch := (first | omega | (simp <;> omega))) only [List.length_map, List.length_append, List.length_set, List.length_replicate, len_marks, len_markL, len_dele, len_clrRow] <;> omega)) ?_ | refine Exists.intro _ (And.intro rfl ?_) | refine Exists.intro _ (And.intro (rowGet _ _ _ (by omega)) ?_))); ((conv => whnf); first | exact hF | exact F_slices_IndexFunc_int_int _ _ _ _ (by first | omega | assumption | (simp; omega) | (simp_all; done)) (by first | omega | assumption | (simp; omega) | (simp_all; done)) | (simp (disch := (first | omega | (simp <;> omega))) only [takeAll, takeAll2, take_marks, take_app, take_app2]; first | exact hF | exact F_slices_IndexFunc_int_int _ _ _ _ (by first | omega | assumption | (simp; omega) | (simp_all; done)) (by first | omega | assumption | (simp; omega) | (simp_all; done)))); refine ⟨rfl, rfl, ?_⟩)
      | (refine Or.inr (Or.inr (callA_ok ?_)); (conv => whnf); apply Exists.intro; apply Exists.intro; apply And.intro; (repeat ((conv => whnf); first | refine And.intro (by first | exact Nat.le_refl _ | omega | (simp (disch := (first | omega | (simp <;> omega))) only [List.length_map, List.length_append, List.length_set, List.length_replicate, len_marks, len_markL, len_dele, len_clrRow] <;> omega)) ?_ | refine Exists.intro _ (And.intro rfl ?_) | refine Exists.intro _ (And.intro (rowGet _ _ _ (by omega)) ?_))); ((conv => whnf); first | exact hF | exact F_slices_IndexFunc_int_int _ _ _ _ (by first | omega | assumption | (simp; omega) | (simp_all; done)) (by first | omega | assumption | (simp; omega) | (simp_all; done)) | (simp (disch := (first | omega | (simp <;> omega))) only [takeAll, takeAll2, take_marks, take_app, take_app2]; first | exact hF | exact F_slices_IndexFunc_int_int _ _ _ _ (by first | omega | assumption | (simp; omega) | (simp_all; done)) (by first | omega | assumption | (simp; omega) | (simp_all; done)))); refine ⟨rfl, ?_⟩)
      | (refine Or.inr (Or.inl ?_); apply callR_i; (first | exact hF | exact F_slices_IndexFunc_int_int _ _ _ _ (by first | omega | assumption | (simp; omega) | (simp_all; done)) (by first | omega | assumption | (simp; omega) | (simp_all; done))); refine ⟨rfl, rfl, rfl, ?_⟩))
    · refine .mk ⟨trivial, [], ⟨rfl, ?_⟩, List.nodup_nil, rfl, ?_⟩
      · rfl
      refine ⟨outOk_old (b := 0) (by decide) ?_, outOk_top (b := 1) (by decide) rfl rfl rfl, trivial⟩
      show some (false, 1, rowI xs) = some (false, 1, _)
      simp
  · have hF := F_slices_IndexFunc_int_int xs p f c (by omega) hf
    rw [show idxF p xs 0 = (i : Int) from h1.trans (by simp)] at hF
    refine Fn.ofN [0,1,4,5,6,7,12,19,29] [0,1,1004,1038,1041] Try.func59 (by rfl) rfl (by show 2 ≤ 42; decide) (by rfl) ?_
    repeat' ((conv => whnf); first
      | (refine iteB_dec (fun h => ?_) (fun h => ?_) <;> (try simp (disch := (first | omega | (simp <;> omega))) only [List.length_map, List.length_append, List.length_set, List.length_replicate, len_marks, len_markL, len_dele, len_clrRow] at h))
      | (refine iteB_not ?_)
      | (refine iteB_of (fun h => ?_) (fun h => ?_))
      | (refine Exists.intro _ (And.intro rfl ?_))
      | (refine And.intro (by first | exact True.intro | exact Nat.le_refl _ | decide +kernel | omega | (simp (disch := (first | omega | (simp <;> omega))) only [List.length_map, List.length_append, List.length_set, List.length_replicate, len_marks, len_markL, len_dele, len_clrRow] <;> omega) | ((first | show ((_ : Nat) + 1) * 8 ≤ _ | show ((_ : Nat) + 1) * 16 ≤ _ | show ((_ : Nat) + 1) * 24 ≤ _ | show ((_ : Nat) + 1) * 96 ≤ _ | show ((_ : Nat) + 1) * 1 ≤ _ | show ((_ : Nat) + 1) ≤ _); omega) | (apply litOne <;> rfl) | (apply litTwo <;> rfl) | (apply litI <;> rfl) | (apply litU <;> rfl) | (apply litS <;> rfl)) ?_)
      | (refine Exists.intro _ (And.intro (rowGet _ _ _ (by omega)) ?_))
      | (refine Exists.intro _ (And.intro (rowGetI _ _ _ (by omega) (by omega)) ?_))
      | (intro b hb; cases b <;> simp only [reduceCtorEq, forall_const, false_implies, List.length_map] at hb)
      | (refine Exists.intro _ (And.intro (get_dele _ _ _ (by first | omega | assumption | (simp; omega) | (simp_all; done))) ?_))
      | (refine Exists.intro _ (And.intro (get_deleC _ _ _ _ (by first | omega | assumption | (simp; omega) | (simp_all; done)) (by first | omega | assumption | (simp; omega) | (simp_all; done))) ?_))
      | (refine Or.inl ?_; apply callV_i; (repeat ((conv => whnf); first | refine And.intro (by first | exact Nat.le_refl _ | omega | (simp (disch := (first | omega | (simp <;> omega))) only [List.length_map, List.length_append, List.length_set, List.length_replicate, len_marks, len_markL, len_dele, len_clrRow] <;> omega)) ?_ | refine Exists.intro _ (And.intro rfl ?_) | refine Exists.intro _ (And.intro (rowGet _ _ _ (by omega)) ?_))); ((conv => whnf); first | exact hF | exact F_slices_IndexFunc_int_int _ _ _ _ (by first | omega | assumption | (simp; omega) | (simp_all; done)) (by first | omega | assumption | (simp; omega) | (simp_all; done)) | (simp (disch := (first | omega | (simp <;> omega))) only [takeAll, takeAll2, take_marks, take_app, take_app2]; first | exact hF | exact F_slices_IndexFunc_int_int _ _ _ _ (by first | omega | assumption | (simp; omega) | (simp_all; done)) (by first | omega | assumption | (simp; omega) | (simp_all; done)))); refine ⟨rfl, rfl, ?_⟩)
      | (refine Or.inr (Or.inr (callA_ok ?_)); (conv => whnf); apply Exists.intro; apply Exists.intro; apply And.intro; (repeat ((conv => whnf); first | refine And.intro (by first | exact Nat.le_refl _ | omega | (simp (disch := (first | omega | (simp <;> omega))) only [List.length_map, List.length_append, List.length_set, List.length_replicate, len_marks, len_markL, len_dele, len_clrRow] <;> omega)) ?_ | refine Exists.intro _ (And.intro rfl ?_) | refine Exists.intro _ (And.intro (rowGet _ _ _ (by omega)) ?_))); ((conv => whnf); first | exact hF | exact F_slices_IndexFunc_int_int _ _ _ _ (by first | omega | assumption | (simp; omega) | (simp_all; done)) (by first | omega | assumption | (simp; omega) | (simp_all; done)) | (simp (disch := (first | omega | (simp <;> omega))) only [takeAll, takeAll2, take_marks, take_app, take_app2]; first | exact hF | exact F_slices_IndexFunc_int_int _ _ _ _ (by first | omega | assumption | (simp; omega) | (simp_all; done)) (by first | omega | assumption | (simp; omega) | (simp_all; done)))); refine ⟨rfl, ?_⟩)
      | (refine Or.inr (Or.inl ?_); apply callR_i; (first | exact hF | exact F_slices_IndexFunc_int_int _ _ _ _ (by first | omega | assumption | (simp; omega) | (simp_all; done)) (by first | omega | assumption | (simp; omega) | (simp_all; done))); refine ⟨rfl, rfl, rfl, ?_⟩))
    let q : Int → Bool := fun x => !p x
    refine ⟨Nat, fun j => i < j ∧ j ≤ xs.length, fun j => [(0, .sl 0 [] 1 0 xs.length), (1, .fn f [.ptr 1 [] 1 0 0]), (5, .lit (.int .i64 ((xs.take j).filter q).length)), (6, .lit (.int .i64 j))], fun j => [(0, false, 1, rowI (dele q xs j)), (1, true, 1, [[.lit c]])], fun j => xs.length - j, ⟨[], i + 1, by omega, ⟨rfl, rfl⟩, ⟨by first | rfl | (exact slEq (by first | omega | (simp; done) | (simp; omega))) | (show V.lit (Value.int _ _) = V.lit (Value.int _ _); first | (congr 2; done) | (congr 2; first | omega | (simp only [List.length_map]; done) | (simp only [IntKind.wrap_i64, List.length_map]; omega))), by first | rfl | (exact slEq (by first | omega | (simp; done) | (simp; omega))) | (show V.lit (Value.int _ _) = V.lit (Value.int _ _); first | (congr 2; done) | (congr 2; first | omega | (simp only [List.length_map]; done) | (simp only [IntKind.wrap_i64, List.length_map]; omega))), ?_, by first | rfl | (exact slEq (by first | omega | (simp; done) | (simp; omega))) | (show V.lit (Value.int _ _) = V.lit (Value.int _ _); first | (congr 2; done) | (congr 2; first | omega | (simp only [List.length_map]; done) | (simp only [IntKind.wrap_i64, List.length_map]; omega))), trivial⟩, ⟨?_, rfl, trivial⟩⟩, ?_⟩
    · rw [filter_drop _ _ _ hi (by simp [q, hp]), hq, List.length_take, Nat.min_eq_left (by omega)]; rfl
    · refine boxEq (congrArg rowI ?_)
      rw [dele, filter_drop _ _ _ hi (by simp [q, hp]), hq, List.length_take, Nat.min_eq_left (by omega), List.take_append_drop]
    intro j ⟨hj, hj2⟩
    have hl := filter_le q xs j hj2
    repeat' ((conv => whnf); first
      | (refine iteB_dec (fun h => ?_) (fun h => ?_) <;> (try simp (disch := (first | omega | (simp <;> omega))) only [List.length_map, List.length_append, List.length_set, List.length_replicate, len_marks, len_markL, len_dele, len_clrRow] at h))
      | (refine iteB_not ?_)
      | (refine iteB_of (fun h => ?_) (fun h => ?_))
      | (refine Exists.intro _ (And.intro rfl ?_))
      | (refine And.intro (by first | exact True.intro | exact Nat.le_refl _ | decide +kernel | omega | (simp (disch := (first | omega | (simp <;> omega))) only [List.length_map, List.length_append, List.length_set, List.length_replicate, len_marks, len_markL, len_dele, len_clrRow] <;> omega) | ((first | show ((_ : Nat) + 1) * 8 ≤ _ | show ((_ : Nat) + 1) * 16 ≤ _ | show ((_ : Nat) + 1) * 24 ≤ _ | show ((_ : Nat) + 1) * 96 ≤ _ | show ((_ : Nat) + 1) * 1 ≤ _ | show ((_ : Nat) + 1) ≤ _); omega) | (apply litOne <;> rfl) | (apply litTwo <;> rfl) | (apply litI <;> rfl) | (apply litU <;> rfl) | (apply litS <;> rfl)) ?_)
      | (refine Exists.intro _ (And.intro (rowGet _ _ _ (by omega)) ?_))
      | (refine Exists.intro _ (And.intro (rowGetI _ _ _ (by omega) (by omega)) ?_))
      | (intro b hb; cases b <;> simp only [reduceCtorEq, forall_const, false_implies, List.length_map] at hb)
      | (refine Exists.intro _ (And.intro (get_dele _ _ _ (by first | omega | assumption | (simp; omega) | (simp_all; done))) ?_))
      | (refine Exists.intro _ (And.intro (get_deleC _ _ _ _ (by first | omega | assumption | (simp; omega) | (simp_all; done)) (by first | omega | assumption | (simp; omega) | (simp_all; done))) ?_))
      | (refine Or.inl ?_; apply callV_i; (repeat ((conv => whnf); first | refine And.intro (by first | exact Nat.le_refl _ | omega | (simp (disch := (first | omega | (simp <;> omega))) only [List.length_map, List.length_append, List.length_set, List.length_replicate, len_marks, len_markL, len_dele, len_clrRow] <;> omega)) ?_ | refine Exists.intro _ (And.intro rfl ?_) | refine Exists.intro _ (And.intro (rowGet _ _ _ (by omega)) ?_))); ((conv => whnf); first | exact (hf _) | exact F_slices_IndexFunc_int_int _ _ _ _ (by first | omega | assumption | (simp; omega) | (simp_all; done)) (by first | omega | assumption | (simp; omega) | (simp_all; done)) | (simp (disch := (first | omega | (simp <;> omega))) only [takeAll, takeAll2, take_marks, take_app, take_app2]; first | exact (hf _) | exact F_slices_IndexFunc_int_int _ _ _ _ (by first | omega | assumption | (simp; omega) | (simp_all; done)) (by first | omega | assumption | (simp; omega) | (simp_all; done)))); refine ⟨rfl, rfl, ?_⟩)
      | (refine Or.inr (Or.inr (callA_ok ?_)); (conv => whnf); apply Exists.intro; apply Exists.intro; apply And.intro; (repeat ((conv => whnf); first | refine And.intro (by first | exact Nat.le_refl _ | omega | (simp (disch := (first | omega | (simp <;> omega))) only [List.length_map, List.length_append, List.length_set, List.length_replicate, len_marks, len_markL, len_dele, len_clrRow] <;> omega)) ?_ | refine Exists.intro _ (And.intro rfl ?_) | refine Exists.intro _ (And.intro (rowGet _ _ _ (by omega)) ?_))); ((conv => whnf); first | exact (hf _) | exact F_slices_IndexFunc_int_int _ _ _ _ (by first | omega | assumption | (simp; omega) | (simp_all; done)) (by first | omega | assumption | (simp; omega) | (simp_all; done)) | (simp (disch := (first | omega | (simp <;> omega))) only [takeAll, takeAll2, take_marks, take_app, take_app2]; first | exact (hf _) | exact F_slices_IndexFunc_int_int _ _ _ _ (by first | omega | assumption | (simp; omega) | (simp_all; done)) (by first | omega | assumption | (simp; omega) | (simp_all; done)))); refine ⟨rfl, ?_⟩)
      | (refine Or.inr (Or.inl ?_); apply callR_i; (first | exact (hf _) | exact F_slices_IndexFunc_int_int _ _ _ _ (by first | omega | assumption | (simp; omega) | (simp_all; done)) (by first | omega | assumption | (simp; omega) | (simp_all; done))); refine ⟨rfl, rfl, rfl, ?_⟩))
    · have hd := dele_drop q xs j (by omega) (by simp_all [q])
      have hk := filter_drop q xs j (by omega) (by simp_all [q])
      exact ⟨[], j + 1, ⟨by omega, by omega⟩, ⟨⟨rfl, rfl⟩, ⟨by first | rfl | (exact slEq (by first | omega | (simp; done) | (simp; omega))) | (show V.lit (Value.int _ _) = V.lit (Value.int _ _); first | (congr 2; done) | (congr 2; first | omega | (simp only [List.length_map]; done) | (simp only [IntKind.wrap_i64, List.length_map]; omega))), by first | rfl | (exact slEq (by first | omega | (simp; done) | (simp; omega))) | (show V.lit (Value.int _ _) = V.lit (Value.int _ _); first | (congr 2; done) | (congr 2; first | omega | (simp only [List.length_map]; done) | (simp only [IntKind.wrap_i64, List.length_map]; omega))), by rw [hk]; rfl, by first | rfl | (exact slEq (by first | omega | (simp; done) | (simp; omega))) | (show V.lit (Value.int _ _) = V.lit (Value.int _ _); first | (congr 2; done) | (congr 2; first | omega | (simp only [List.length_map]; done) | (simp only [IntKind.wrap_i64, List.length_map]; omega))), trivial⟩, ⟨boxEq (congrArg rowI hd.symm), rfl, trivial⟩⟩, by first | omega | (dsimp only; omega)⟩
    · have hd := dele_keep q xs j (by omega) (by simp_all [q])
      have hk := filter_keep q xs j (by omega) (by simp_all [q])
      have hk2 : ((xs.take (j + 1)).filter q).length = ((xs.take j).filter q).length + 1 := by rw [hk]; simp
      refine ⟨[], j + 1, ⟨by omega, by omega⟩, ⟨⟨rfl, rfl⟩, ⟨by first | rfl | (exact slEq (by first | omega | (simp; done) | (simp; omega))) | (show V.lit (Value.int _ _) = V.lit (Value.int _ _); first | (congr 2; done) | (congr 2; first | omega | (simp only [List.length_map]; done) | (simp only [IntKind.wrap_i64, List.length_map]; omega))), by first | rfl | (exact slEq (by first | omega | (simp; done) | (simp; omega))) | (show V.lit (Value.int _ _) = V.lit (Value.int _ _); first | (congr 2; done) | (congr 2; first | omega | (simp only [List.length_map]; done) | (simp only [IntKind.wrap_i64, List.length_map]; omega))), by first | rfl | (exact slEq (by first | omega | (simp; done) | (simp; omega))) | (show V.lit (Value.int _ _) = V.lit (Value.int _ _); first | (congr 2; done) | (congr 2; first | omega | (simp only [List.length_map]; done) | (simp only [IntKind.wrap_i64, List.length_map]; omega))), by first | rfl | (exact slEq (by first | omega | (simp; done) | (simp; omega))) | (show V.lit (Value.int _ _) = V.lit (Value.int _ _); first | (congr 2; done) | (congr 2; first | omega | (simp only [List.length_map]; done) | (simp only [IntKind.wrap_i64, List.length_map]; omega))), trivial⟩, ⟨boxEq (setCellM (eInt .i64) (dele q xs j) _ (.lit (.int .i64 xs[j])) xs[j] rfl (by rw [len_dele _ _ _ (by omega)]; omega) rfl rfl hd), rfl, trivial⟩⟩, by first | omega | (dsimp only; omega)⟩
    · obtain rfl : j = xs.length := by omega
      rw [List.take_length] at hl
      refine .mk ⟨trivial, [], ⟨rfl, ?_⟩, List.nodup_nil, rfl, ?_⟩
      · refine slEq ?_
        show Int.toNat ((_ : Nat) : Int) - 0 = _
        rw [Int.toNat_natCast, List.take_length]; rfl
      refine ⟨outOk_old (b := 0) (by decide) (boxEq ?_), outOk_top (b := 1) (by decide) rfl rfl rfl, trivial⟩
      show clrRow (rowI (dele q xs xs.length)) (Int.toNat ((_ : Nat) : Int) + 0) (Int.toNat ((_ : Nat) : Int) - Int.toNat ((_ : Nat) : Int)) [V.lit (.int .i64 0)] = _
      rw [Int.toNat_natCast, Int.toNat_natCast, List.take_length]
      unfold clrRow dele
      rw [List.take_length]
      simp [q, eInt]

end Go.Proofs.Ytbmfhhbifmgikaa.M

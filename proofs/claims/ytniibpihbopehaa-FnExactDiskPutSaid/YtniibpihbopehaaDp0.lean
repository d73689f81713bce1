/- Walks of the program's functions, by the small machine: what one law's proof needs. -/
import Derived.Test.YtniibpihbopehaaQ2
import Derived.Test.YtniibpihbopehaaL0
namespace Go.Proofs.Ytniibpihbopehaa.M
open Go
set_option maxHeartbeats 1000000
set_option maxRecDepth 20000
set_option linter.unusedVariables false
set_option linter.unusedSimpArgs false
theorem tzI {st : St} {v : V} {p : Prop} (h : tailz st v) (h' : p) : tailz st v ∧ p := ⟨h, h'⟩
theorem rowGet {α : Type} (E : α → List V) (xs : List α) (i : Nat) (h : i < xs.length) : (xs.map E)[Int.toNat (i : Int)]? = some (E xs[i]) := by simp [h]
theorem cellGet {α : Type} (E : α → List V) (xs : List α) (i k : Nat) (h : i < xs.length) : cellAt (xs.map E) i k = (E xs[i])[k]? := by simp [cellAt, h]
abbrev rowS (a : List ByteArray) : Row := a.map eStr
theorem setCell_map {α : Type} (E : α → List V) (xs : List α) (i k : Nat) (v : V) (y : α) (h : i < xs.length) (hy : (E xs[i]).set k v = E y) : setCell (xs.map E) i k v = (xs.set i y).map E := by
  unfold setCell
  refine List.ext_getElem? fun j => ?_
  rw [List.getElem?_modify, List.getElem?_map, List.getElem?_map, List.getElem?_set]
  by_cases hj : i = j
  · subst hj; simp [h, hy]
  · simp [hj]
theorem drop_cons {α : Type} (xs : List α) (i : Nat) (h : i < xs.length) : xs.drop i = xs[i] :: xs.drop (i + 1) := List.drop_eq_getElem_cons h
instance : Inhabited ByteArray := ⟨.empty⟩
theorem takeAll {α : Type} (E : α → List V) (xs : List α) : List.take xs.length (List.drop 0 (xs.map E)) = xs.map E := by rw [List.drop_zero, ← List.length_map (f := E), List.take_length]
theorem takeAll2 {α : Type} (E : α → List V) (xs : List α) : List.take (xs.map E).length (List.drop 0 (xs.map E)) = xs.map E := by rw [List.drop_zero, List.take_length]
theorem boxEq {t : Bool} {s : Nat} {xs ys : Row} (h : xs = ys) : some (t, s, xs) = some (t, s, ys) := by rw [h]
theorem setCellM {α : Type} (E : α → List V) (xs ys : List α) {i i' k : Nat} {v : V} (w : V) (y : α) (hi : i = i') (h : i' < xs.length) (hv : v = w) (hy : (E xs[i']).set k w = E y) (he : xs.set i' y = ys) : setCell (xs.map E) i k v = ys.map E := by
  subst hi hv he; exact setCell_map E xs i k v y h hy
theorem take_app {α : Type} (E : α → List V) (xs : List α) (R : Row) : List.take xs.length (List.drop 0 (xs.map E ++ R)) = xs.map E := by rw [List.drop_zero, List.take_append_of_le_length (by simp), ← List.length_map (f := E), List.take_length]
theorem take_app2 {α : Type} (E : α → List V) (xs ys : List α) : List.take xs.length (List.drop 0 (List.map E (xs ++ ys))) = xs.map E := by rw [List.map_append]; exact take_app E xs _

theorem F_i_inRange (n a b : Int) : Fn pg 40 [.lit (.int .i64 n), .lit (.int .i64 a), .lit (.int .i64 b)] [] (.lit (.bool (decide (a ≤ n) && decide (n ≤ b)))) [] := by
  refine Fn.ofN [0,1,2,6] [] Try.func40 (by rfl) rfl (by show 3 ≤ 15; decide) (by rfl) ?_
  repeat' ((conv => whnf); first | (refine iteB_dec (fun h => ?_) (fun h => ?_) <;> (try simp (disch := (first | omega | fail)) only [modAt, List.nil_append, List.length_take, List.length_drop, List.length_map, List.length_append, List.length_set, List.length_replicate] at h)) | fail)
  all_goals ((refine .mk ⟨trivial, [], ⟨rfl, ?_⟩, List.nodup_nil, rfl, trivial⟩; show V.lit _ = V.lit _); first | (simp_all []; done) | (simp_all []; omega) | fail)
theorem F_s_l1In (n a b : Int) : Fn pg 43 [.lit (.int .i64 n), .lit (.int .i64 a), .lit (.int .i64 b)] [] (.lit (.bool (decide (a ≤ n) && decide (n ≤ b)))) [] := by
  refine Fn.ofN [0,1,2,6] [] Try.func43 (by rfl) rfl (by show 3 ≤ 15; decide) (by rfl) ?_
  repeat' ((conv => whnf); first | (refine iteB_dec (fun h => ?_) (fun h => ?_) <;> (try simp (disch := (first | omega | fail)) only [modAt, List.nil_append, List.length_take, List.length_drop, List.length_map, List.length_append, List.length_set, List.length_replicate] at h)) | fail)
  all_goals ((refine .mk ⟨trivial, [], ⟨rfl, ?_⟩, List.nodup_nil, rfl, trivial⟩; show V.lit _ = V.lit _); first | (simp_all []; done) | (simp_all []; omega) | fail)
/-- The first i of a list, then what stands for none. -/
def rowsPart {α : Type} (E : α → List V) (z : List V) (xs : List α) (i : Nat) : Row := (xs.take i).map E ++ List.replicate (xs.length - i) z
theorem rowsPart_get {α : Type} (E : α → List V) (z : List V) (xs : List α) (i j : Nat) : (rowsPart E z xs i)[j]? = if j < i then (xs[j]?).map E else if j < xs.length then some z else none := by
  unfold rowsPart
  by_cases h : j < i
  · rw [if_pos h]
    by_cases h2 : j < xs.length
    · rw [List.getElem?_append_left (by simp; omega), List.getElem?_map, List.getElem?_take, if_pos h]
    · rw [List.getElem?_eq_none (by simp; omega), List.getElem?_eq_none (by omega)]; rfl
  · rw [if_neg h]
    by_cases h2 : i ≤ xs.length
    · rw [List.getElem?_append_right (by simp; omega), List.getElem?_replicate, List.length_map, List.length_take, show min i xs.length = i by omega]
      by_cases h3 : j < xs.length
      · rw [if_pos h3, if_pos (by omega)]
      · rw [if_neg h3, if_neg (by omega)]
    · rw [List.getElem?_eq_none (by simp; omega), if_neg (by omega)]
theorem len_rowsPart {α : Type} (E : α → List V) (z : List V) (xs : List α) (i : Nat) (h : i ≤ xs.length) : (rowsPart E z xs i).length = xs.length := by simp [rowsPart]; omega
theorem rowsPart_succ {α : Type} (E : α → List V) (z : List V) (xs : List α) (i : Nat) (h : i < xs.length) : (rowsPart E z xs i).set i (E xs[i]) = rowsPart E z xs (i + 1) := by
  refine List.ext_getElem? fun j => ?_
  rw [List.getElem?_set, rowsPart_get, rowsPart_get, len_rowsPart E z xs i (by omega)]
  by_cases hj : i = j
  · subst hj
    rw [if_pos rfl, if_pos h, if_pos (by omega), List.getElem?_eq_getElem h]; rfl
  · rw [if_neg hj]
    by_cases h1 : j < i
    · rw [if_pos h1, if_pos (by omega)]
    · rw [if_neg h1]
      by_cases h2 : j < xs.length
      · rw [if_neg (by omega : ¬ j < i + 1)]
      · rw [if_neg (by omega : ¬ j < i + 1)]
theorem rowsPart_all {α : Type} (E : α → List V) (z : List V) (xs : List α) : rowsPart E z xs xs.length = xs.map E := by simp [rowsPart]
theorem rowsPart_zero {α : Type} (E : α → List V) (z : List V) (xs : List α) : rowsPart E z xs 0 = List.replicate xs.length z := by simp [rowsPart]
theorem rowsPart_z {α : Type} (E : α → List V) (z : List V) (xs : List α) (i : Nat) (h : i < xs.length) : (rowsPart E z xs i)[i]? = some z := by rw [rowsPart_get, if_neg (by omega), if_pos h]
theorem setCell_at {xs : Row} {i : Nat} {r : List V} (h : xs[i]? = some r) (k : Nat) (v : V) : setCell xs i k v = xs.set i (r.set k v) := by
  unfold setCell
  refine List.ext_getElem? fun j => ?_
  rw [List.getElem?_modify, List.getElem?_set]
  have hlt := (List.getElem?_eq_some_iff.1 h).1
  by_cases hj : i = j
  · subst hj; rw [h]; simp [hlt]
  · simp [hj]
theorem rowGet_set {xs : Row} {i : Nat} {r : List V} (h : i < xs.length) : (xs.set i r)[i]? = some r := by simp [h]
theorem outOk_new {ds : List Nat} {B : Bs} {b s d : Nat} {xs : Row} (hb : (decide (b < 500)) = false) (hd : ds[b - 500]? = some d) (hB : B d = some (false, s, xs)) : outOk ds B (b, false, s, xs) := by
  unfold outOk outId
  rw [if_neg (of_decide_eq_false hb)]
  simp only [hd, Option.bind_some, hB]
  exact ⟨rfl, fun h => by cases h⟩
theorem outOk_top {ds : List Nat} {B : Bs} {b s : Nat} {xs : Row} (hb : (decide (b < 500)) = true) (hB : B b = some (true, s, xs)) (hx : xs.map (renL (outName ds)) = xs) (hk : (xs.all fun c => namesL (knows ds) c) = true) : outOk ds B (b, true, s, xs) := by
  unfold outOk outId
  rw [if_pos (of_decide_eq_true hb)]
  simp only [Option.bind_some, hB]
  exact ⟨by rw [renBx, hx]; rfl, fun _ => hk⟩
theorem outOk_old {ds : List Nat} {B : Bs} {b s : Nat} {xs : Row} (hb : (decide (b < 500)) = true) (hB : B b = some (false, s, xs)) : outOk ds B (b, false, s, xs) := by
  unfold outOk outId
  rw [if_pos (of_decide_eq_true hb)]
  simp only [Option.bind_some, hB]
  exact ⟨rfl, fun h => by cases h⟩
theorem cell_part {α : Type} (E : α → List V) (z : List V) (xs : List α) (i k : Nat) (v : V) (h : i < xs.length) (hz : z[k]? = some v) : cellAt (rowsPart E z xs i) i k = some v := by
  rw [cellAt_of (rowsPart_z E z xs i h), hz]
theorem get_setC {R : Row} {i k k' : Nat} {v w : V} (hk : (decide (k = k')) = false) (h : cellAt R i k' = some w) : cellAt (setCell R i k v) i k' = some w := by
  unfold cellAt setCell at *
  rw [List.getElem?_modify]
  cases hR : R[i]? with
  | none => rw [hR] at h; cases h
  | some r =>
    rw [hR] at h
    simp only [Option.bind_some, Option.map_some, Option.map_eq_map, if_true] at *
    rw [List.getElem?_set, if_neg (of_decide_eq_false hk)]; exact h
theorem len_setCell (xs : Row) (i k : Nat) (v : V) : (setCell xs i k v).length = xs.length := by unfold setCell; simp
theorem setCell_set {xs : Row} {i k : Nat} {r : List V} {v : V} (h : i < xs.length) : setCell (xs.set i r) i k v = xs.set i (r.set k v) := by
  rw [setCell_at (rowGet_set h), List.set_set]
def setCs (R : Row) (i : Nat) : List (Nat × V) → Row
  | [] => R
  | (k, v) :: r => setCs (setCell R i k v) i r
def setVs (r : List V) : List (Nat × V) → List V
  | [] => r
  | (k, v) :: u => setVs (r.set k v) u
theorem setCs_set {R : Row} {i : Nat} : ∀ {u : List (Nat × V)} {r : List V}, R[i]? = some r → setCs R i u = R.set i (setVs r u)
  | [], r, h => by
    unfold setCs setVs
    refine List.ext_getElem? fun j => ?_
    rw [List.getElem?_set]
    by_cases hj : i = j
    · subst hj; rw [h]; simp [(List.getElem?_eq_some_iff.1 h).1]
    · rw [if_neg hj]
  | (k, v) :: u, r, h => by
    simp only [setCs, setVs]
    rw [setCell_at h, setCs_set (rowGet_set (List.getElem?_eq_some_iff.1 h).1), List.set_set]
theorem setCs_map {α : Type} (E : α → List V) (L ys : List α) {i i' : Nat} {u : List (Nat × V)} (y : α) (hi : i = i') (h : i' < L.length) (hy : setVs (E L[i']) u = E y) (he : L.set i' y = ys) : setCs (L.map E) i u = ys.map E := by
  subst hi he
  rw [setCs_set (r := E L[i]) (by simp [h]), hy, List.map_set]
theorem get_mapIC {α : Type} (E : α → List V) (L : List α) (n : Int) (k : Nat) (v : V) (h : n.toNat < L.length) (hv : (E L[n.toNat])[k]? = some v) : cellAt (L.map E) (n.toNat + 0) k = some v := by
  rw [Nat.add_zero, cellGet _ _ _ _ h, hv]
theorem get_partC {α : Type} (E : α → List V) (z : List V) (xs : List α) (i k : Nat) (v : V) (h : i < xs.length) (hz : z[k]? = some v) : cellAt (rowsPart E z xs i) (((i : Nat) : Int).toNat + 0) k = some v := by
  rw [Int.toNat_natCast, Nat.add_zero]; exact cell_part E z xs i k v h hz
theorem F_l_toStringS (xs : List ByteArray) (hx : xs.length * 16 ≤ 140737488351232) : Fn pg 48 [.imm 1 (rowS xs)] [] (.sl 500 [] 1 0 xs.length) [(500, false, 1, rowS xs)] := by
  refine Fn.ofN [0,2,3,4,11] [1002,1007] Try.func48 (by rfl) rfl (by show 1 ≤ 22; decide) (by rfl) ?_
  repeat' ((conv => whnf); first | (refine And.intro (by first | exact True.intro | omega | (simp (disch := (first | omega | fail)) only [List.length_cons, List.length_nil, modAt, List.nil_append, List.length_take, List.length_drop, List.length_map, List.length_append, List.length_set, List.length_replicate, len_rowsPart, len_setCell]; first | omega | fail) | fail) ?_) | fail)
  refine ⟨Nat, fun i => i ≤ xs.length, fun i => [(0, .imm 1 (rowS xs)), (3, .sl 1007 [] 1 0 xs.length), (4, .lit (.int .i64 i))], fun i => [(1007, false, 1, rowsPart eStr [.lit (.string .empty)] xs i)], fun i => xs.length - i, ⟨[], 0, by omega, ⟨rfl, rfl⟩, ⟨by first | rfl | fail, ?_, by first | rfl | fail, trivial⟩, ?_, trivial⟩, ?_⟩
  · show V.sl 1007 [] 1 0 _ = V.sl 1007 [] 1 0 _
    rw [Int.toNat_natCast, List.length_map]
  · show some (false, 1, _) = some (false, 1, rowsPart eStr [.lit (.string .empty)] xs 0)
    rw [Int.toNat_natCast, List.length_map, rowsPart_zero]
  intro i hi
  repeat' ((conv => whnf); first | (refine iteB_dec (fun h => ?_) (fun h => ?_) <;> (try simp (disch := (first | omega | fail)) only [modAt, List.nil_append, List.length_take, List.length_drop, List.length_map, List.length_append, List.length_set, List.length_replicate, len_rowsPart, len_setCell] at h)) | (refine wrapB_i64 (by first | omega | fail) (by first | omega | fail) ?_) | (refine And.intro (by first | exact True.intro | omega | (simp (disch := (first | omega | fail)) only [List.length_cons, List.length_nil, modAt, List.nil_append, List.length_take, List.length_drop, List.length_map, List.length_append, List.length_set, List.length_replicate, len_rowsPart, len_setCell]; first | omega | fail) | fail) ?_) | (refine Exists.intro _ (And.intro (rowGet _ _ _ (by omega)) ?_)) | (refine Exists.intro _ (And.intro (by first | exact (get_partC _ _ _ _ _ _ (by first | omega | fail) (by exact rfl)) | fail) ?_)) | fail)
  · refine ⟨[], i + 1, by omega, ⟨⟨rfl, rfl⟩, ⟨by first | rfl | fail, by first | rfl | fail, by first | rfl | fail, trivial⟩, ?_, trivial⟩, by first | (dsimp only; omega) | fail⟩
    show some (false, 1, setCell (rowsPart eStr [.lit (.string .empty)] xs i) i 0 _) = some (false, 1, rowsPart eStr [.lit (.string .empty)] xs (i + 1))
    rw [setCell_at (rowsPart_z _ _ _ _ (by omega)), ← rowsPart_succ _ _ _ _ (by omega)]; rfl
  · have hi' : i = xs.length := by omega
    subst hi'
    refine .mk ⟨trivial, [1007], ⟨rfl, ?_⟩, by simp, rfl, ?_⟩
    · rfl
    refine ⟨?_, trivial⟩
    refine outOk_new (d := 1007) (by decide) rfl ?_
    show some (false, 1, rowsPart _ _ xs xs.length) = some (false, 1, rowS xs)
    rw [rowsPart_all]

theorem eq_step {α : Type} {a b : List α} {i : Nat} (h1 : i < a.length) (h2 : i < b.length) (he : a[i] = b[i]) (ht : a.take i = b.take i) : a.take (i + 1) = b.take (i + 1) := by
  rw [List.take_succ_eq_append_getElem h1, List.take_succ_eq_append_getElem h2, ht, he]
theorem eq_all {α : Type} {a b : List α} {i : Nat} (h1 : a.length ≤ i) (h : a.length = b.length) (ht : a.take i = b.take i) : a = b := by
  rw [List.take_of_length_le h1, List.take_of_length_le (by omega)] at ht; exact ht
theorem ne_at {α : Type} {a b : List α} {i : Nat} (h1 : i < a.length) (h2 : i < b.length) (he : a[i] ≠ b[i]) : a ≠ b := fun e => by subst e; exact he rfl
theorem F_l_eqStringS (a b : List ByteArray) (ha : a.length ≤ 140737488351232) (hb : b.length ≤ 140737488351232) : Fn pg 50 [.imm 1 (rowS a), .imm 1 (rowS b)] [] (.lit (.bool (decide (a = b)))) [] := by
  refine Fn.ofN [0,1,4,5,10,14,25] [] Try.func50 (by rfl) rfl (by show 2 ≤ 26; decide) (by rfl) ?_
  repeat' ((conv => whnf); first | (refine iteB_dec (fun h => ?_) (fun h => ?_) <;> (try simp (disch := (first | omega | fail)) only [modAt, List.nil_append, List.length_take, List.length_drop, List.length_map, List.length_append, List.length_set, List.length_replicate, len_rowsPart, len_setCell] at h)) | fail)
  · (refine .mk ⟨trivial, [], ⟨rfl, ?_⟩, List.nodup_nil, rfl, trivial⟩; show V.lit _ = V.lit _)
    have : a ≠ b := fun e => by subst e; omega
    simp [this]
  refine ⟨Nat, fun i => i ≤ a.length ∧ a.take i = b.take i, fun i => [(0, .imm 1 (rowS a)), (1, .imm 1 (rowS b)), (5, .lit (.int .i64 i))], fun i => [], fun i => a.length - i, ⟨[], 0, by simp, ⟨rfl, rfl⟩, ⟨by first | rfl | fail, by first | rfl | fail, by first | rfl | fail, trivial⟩, trivial⟩, ?_⟩
  intro i ⟨hi, ht⟩
  repeat' ((conv => whnf); first | (refine iteB_dec (fun h => ?_) (fun h => ?_) <;> (try simp (disch := (first | omega | fail)) only [modAt, List.nil_append, List.length_take, List.length_drop, List.length_map, List.length_append, List.length_set, List.length_replicate, len_rowsPart, len_setCell] at h)) | (refine wrapB_i64 (by first | omega | fail) (by first | omega | fail) ?_) | (refine And.intro (by first | exact True.intro | omega | fail) ?_) | (refine Exists.intro _ (And.intro (rowGet _ _ _ (by omega)) ?_)) | (refine Or.inl (And.intro (by decide +kernel) ?_)) | fail)
  · (refine .mk ⟨trivial, [], ⟨rfl, ?_⟩, List.nodup_nil, rfl, trivial⟩; show V.lit _ = V.lit _)
    simp only [V.lit.injEq, Value.bool.injEq]
    rw [decide_eq_false (ne_at (i := i) (by omega) (by omega) (by assumption))]
  · exact ⟨[], i + 1, ⟨by omega, eq_step (by omega) (by omega) (by simp_all) ht⟩, ⟨⟨rfl, rfl⟩, ⟨by first | rfl | fail, by first | rfl | fail, by first | rfl | fail, trivial⟩, trivial⟩, by first | (dsimp only; omega) | fail⟩
  · (refine .mk ⟨trivial, [], ⟨rfl, ?_⟩, List.nodup_nil, rfl, trivial⟩; show V.lit _ = V.lit _)
    have : a = b := eq_all (by omega) (by omega) ht
    simp [this]
/-- A list whose first i are marked. -/
def marks {α : Type} (f : Int → α) (k : Int) (a : List α) (i : Nat) : List α := (List.range i).map (fun (j : Nat) => f (k + (j : Int))) ++ a.drop i
theorem len_marks {α : Type} (f : Int → α) (k : Int) (a : List α) (i : Nat) (h : i ≤ a.length) : (marks f k a i).length = a.length := by simp [marks]; omega
theorem marks_succ {α : Type} (f : Int → α) (k : Int) (a : List α) (i : Nat) (h : i < a.length) : (marks f k a i).set i (f (k + (i : Int))) = marks f k a (i + 1) := by
  unfold marks
  refine List.ext_getElem? fun j => ?_
  rw [List.getElem?_set]
  by_cases hj : i = j
  · subst hj
    simp [List.range_succ]; omega
  · rcases Nat.lt_or_ge j i with h1 | h1
    · simp [hj, List.getElem?_append_left, h1, show j < i + 1 by omega]
    · rw [List.getElem?_append_right (by simp; omega), List.getElem?_append_right (by simp; omega)]
      simp [hj]
      congr 1; omega
theorem marks_zero {α : Type} (f : Int → α) (k : Int) (a : List α) : marks f k a 0 = a := by simp [marks]
def markL {α : Type} (f : Int → α) (k : Int) (n : Nat) : List α := (List.range n).map fun (j : Nat) => f (k + (j : Int))
theorem len_markL {α : Type} (f : Int → α) (k : Int) (n : Nat) : (markL f k n).length = n := by simp [markL]
theorem take_marks {α : Type} (E : α → List V) (f : Int → α) (k : Int) (a : List α) (n : Nat) : List.take n (List.drop 0 (List.map E (marks f k a n))) = List.map E (markL f k n) := by
  rw [List.drop_zero, marks, List.map_append, List.take_append_of_le_length (by simp), List.take_of_length_le (by simp)]; rfl
def heldL {α : Type} [DecidableEq α] (f : Int → α) (k : Int) : List α → Int
  | [] => k
  | x :: r => if x = f k then heldL f (k + 1) r else -1
theorem heldL_markL {α : Type} [DecidableEq α] (f : Int → α) (k : Int) (n : Nat) : heldL f k (markL f k n) = k + n := by
  have : ∀ (m : Nat) (k : Int), heldL f k ((List.range m).map fun (j : Nat) => f (k + (j : Int))) = k + m := by
    intro m
    induction m with
    | zero => intro k; simp [heldL]
    | succ m ih =>
      intro k
      rw [List.range_succ_eq_map, List.map_cons, List.map_map]
      simp only [heldL, Function.comp_def]
      rw [if_pos (by simp)]
      have := ih (k + 1)
      simp only [Int.natCast_succ] at *
      rw [show (fun (x : Nat) => f (k + ((x : Int) + 1))) = fun (x : Nat) => f (k + 1 + (x : Int)) by funext x; congr 1; omega, this]; omega
  exact this n k

theorem litTwo {n : Nat} {xs : Row} {c d : Value} (hn : n = 2) (hx : xs = [[.lit c, .lit d]]) (h : c.oneCell' = true) (h2 : d.oneCell' = true) : litRow n xs := by
  subst hn hx
  intro x hx; cases List.mem_singleton.1 hx; exact ⟨rfl, fun y hy => by
    rcases List.mem_cons.1 hy with rfl | hy
    · exact ⟨_, rfl, h⟩
    · cases List.mem_singleton.1 hy; exact ⟨_, rfl, h2⟩⟩
theorem litS (xs : List ByteArray) : litRow 1 (rowS xs) := by
  intro x hx
  obtain ⟨n, _, rfl⟩ := List.mem_map.1 hx
  exact ⟨rfl, fun c hc => by simp [eStr] at hc; subst hc; exact ⟨_, rfl, rfl⟩⟩
theorem wrap64 {n : Int} (h0 : -9223372036854775808 ≤ n) (h1 : n ≤ 9223372036854775807) : IntKind.i64.wrap n = n := by rw [IntKind.wrap_i64]; omega
def dig (n : Nat) (s : ByteArray) : ByteArray := if h : n = 0 then s else dig (n / 10) (ByteArray.mk #[UInt8.ofNat (48 + n % 10)] ++ s)
  termination_by n
/-- A number as a mark's text. -/
def markT (k : Int) : ByteArray := if k ≤ 0 then ByteArray.mk #[109, 48] else ByteArray.mk #[109] ++ dig k.toNat .empty
theorem byte_row (m : Nat) (h : m < 256) : [[V.lit (.int .u8 (m : Int))]] = byR (unbyR [[V.lit (.int .u8 (m : Int))]]) := by
  simp [byR, unbyR, byteOf1]; omega
theorem F_l_markText (k : Int) (hk2 : k ≤ 4611686018427387904) : Fn pg 67 [.lit (.int .i64 k)] [] (.lit (.string (markT k))) [] := by
  refine Fn.ofN [0,2,3,5,7] [1011,1012,1013] Try.func67 (by rfl) rfl (by show 1 ≤ 20; decide) (by rfl) ?_
  repeat' ((conv => whnf); first | (refine iteB_dec (fun h => ?_) (fun h => ?_) <;> (try simp (disch := (first | omega | fail)) only [modAt, List.nil_append, List.length_take, List.length_drop, List.length_map, List.length_append, List.length_set, List.length_replicate, len_rowsPart, len_setCell, len_marks, len_markL] at h)) | fail)
  · (refine .mk ⟨trivial, [], ⟨rfl, ?_⟩, List.nodup_nil, rfl, trivial⟩; show V.lit _ = V.lit _)
    rw [markT, if_pos (by assumption)]
  have h0 : ¬ k ≤ 0 := by assumption
  refine ⟨Nat × ByteArray, fun x => x.1 < 10 ^ (19 - x.2.size) ∧ x.2.size ≤ 19 ∧ dig k.toNat .empty = dig x.1 x.2, fun x => [(0, .lit (.int .i64 x.1)), (3, .lit (.string x.2))], fun _ => [], fun x => x.1, ⟨[], (k.toNat, .empty), ⟨by show k.toNat < 10 ^ 19; omega, Nat.zero_le _, rfl⟩, ⟨rfl, rfl⟩, ⟨by show V.lit (.int .i64 k) = V.lit (.int .i64 ((k.toNat : Nat) : Int)); rw [Int.toNat_of_nonneg (by omega)], rfl, trivial⟩, trivial⟩, ?_⟩
  intro (n, s) ⟨hn, hs, hd⟩
  dsimp only at hn hs hd
  have hs' : 0 < n → s.size < 19 := by
    intro hpos
    rcases Nat.lt_or_ge s.size 19 with h | h
    · exact h
    · have : 19 - s.size = 0 := by omega
      rw [this] at hn; omega
  have hbig : n < 10 ^ 19 := Nat.lt_of_lt_of_le hn (Nat.pow_le_pow_right (by decide) (by omega))
  repeat' ((conv => whnf); first | (refine iteB_dec (fun h => ?_) (fun h => ?_) <;> (try simp (disch := (first | omega | fail)) only [modAt, List.nil_append, List.length_take, List.length_drop, List.length_map, List.length_append, List.length_set, List.length_replicate, len_rowsPart, len_setCell, len_marks, len_markL] at h)) | (refine WrapB.mk ?_) | (refine And.intro (by first | exact True.intro | exact Nat.le_refl _ | fail) ?_) | fail)
  · have hpos : 0 < n := by simpa using ‹0 < ((n, s).1 : Int)›
    have hss := hs' hpos
    conv => whnf
    have hc : IntKind.u8.wrap (IntKind.i64.wrap (48 + (n : Int).tmod 10)) = ((48 + n % 10 : Nat) : Int) := by
      rw [Int.tmod_eq_emod_of_nonneg (by omega), wrap64 (by omega) (by omega), IntKind.wrap_u8]; omega
    refine And.intro ?_ ?_
    · show [[V.lit (.int .u8 (IntKind.u8.wrap (IntKind.i64.wrap (48 + (n : Int).tmod 10))))]] = byR (unbyR [[V.lit (.int .u8 (IntKind.u8.wrap (IntKind.i64.wrap (48 + (n : Int).tmod 10))))]])
      rw [hc]
      exact byte_row _ (by omega)
    conv => whnf
    refine And.intro ?_ ?_
    · show 1 + s.size ≤ 9223372036854775807
      omega
    conv => whnf
    have hsz : (ByteArray.mk #[UInt8.ofNat (48 + n % 10)] ++ s).size = 1 + s.size := by rw [ByteArray.size_append]; rfl
    refine ⟨[], (n / 10, ByteArray.mk #[UInt8.ofNat (48 + n % 10)] ++ s), ⟨?_, ?_, ?_⟩, ⟨⟨rfl, rfl⟩, ⟨?_, ?_, trivial⟩, trivial⟩, ?_⟩
    · show n / 10 < 10 ^ (19 - (ByteArray.mk #[UInt8.ofNat (48 + n % 10)] ++ s).size)
      rw [hsz]
      refine Nat.div_lt_of_lt_mul ?_
      have : 10 ^ (19 - s.size) = 10 * 10 ^ (19 - (1 + s.size)) := by rw [show 19 - s.size = (19 - (1 + s.size)) + 1 by omega, Nat.pow_succ, Nat.mul_comm]
      omega
    · show (ByteArray.mk #[UInt8.ofNat (48 + n % 10)] ++ s).size ≤ 19
      rw [hsz]; omega
    · show dig k.toNat .empty = dig (n / 10) (ByteArray.mk #[UInt8.ofNat (48 + n % 10)] ++ s)
      rw [hd]
      conv => lhs; rw [dig]
      rw [dif_neg (by omega)]
    · show V.lit (.int .i64 (IntKind.i64.wrap ((n : Int).tdiv 10))) = V.lit (.int .i64 ((n / 10 : Nat) : Int))
      rw [Int.tdiv_eq_ediv_of_nonneg (by omega), wrap64 (by omega) (by omega)]; rfl
    · show V.lit (.string (⟨#[UInt8.ofNat (Int.toNat (IntKind.u8.wrap (IntKind.i64.wrap (48 + (n : Int).tmod 10))))]⟩ ++ s)) = V.lit (.string (ByteArray.mk #[UInt8.ofNat (48 + n % 10)] ++ s))
      rw [hc, Int.toNat_natCast]
    · show n / 10 < n
      omega
  · have h0' : n = 0 := by
      have h : ¬ (0 < ((n, s).1 : Int)) := by assumption
      simp at h; omega
    subst h0'
    conv => whnf
    refine And.intro ?_ ?_
    · show 1 + s.size ≤ 9223372036854775807
      omega
    conv => whnf
    (refine .mk ⟨trivial, [], ⟨rfl, ?_⟩, List.nodup_nil, rfl, trivial⟩; show V.lit _ = V.lit _)
    show V.lit (.string (ByteArray.mk #[109] ++ s)) = V.lit (.string (markT k))
    rw [markT, if_neg h0, hd, dig, dif_pos rfl]
theorem F_l_markStringS (a : List ByteArray) (n : Nat) (k : Int) (hn : n ≤ a.length) (ha : n ≤ 140737488351232) (hk : 0 ≤ k) (hk2 : k ≤ 4470000000000000000) : Fn pg 52 [.sl 0 [] 1 0 n, .lit (.int .i64 k)] [(0, false, 1, rowS a)] (.lit (.int .i64 (k + n))) [(0, false, 1, rowS (marks markT k a n))] := by
  refine Fn.ofN [0,1,4,5,9] [0] Try.func52 (by rfl) rfl (by show 2 ≤ 20; decide) (by rfl) ?_
  repeat' ((conv => whnf); first | (refine iteB_dec (fun h => ?_) (fun h => ?_) <;> (try simp (disch := (first | omega | fail)) only [modAt, List.nil_append, List.length_take, List.length_drop, List.length_map, List.length_append, List.length_set, List.length_replicate, len_rowsPart, len_setCell, len_marks, len_markL] at h)) | fail)
  refine ⟨Nat, fun i => i ≤ n, fun i => [(0, .sl 0 [] 1 0 n), (1, .lit (.int .i64 (k + i))), (5, .lit (.int .i64 i))], fun i => [(0, false, 1, rowS (marks markT k a i))], fun i => n - i, ⟨[], 0, by omega, ⟨rfl, rfl⟩, ⟨by first | rfl | fail, by first | (show V.lit (Value.int _ _) = V.lit (Value.int _ _); first | (congr 2; first | omega | fail) | fail) | fail, by first | rfl | fail, trivial⟩, ⟨by show some (false, 1, rowS a) = some (false, 1, rowS (marks markT k a 0)); rw [marks_zero], trivial⟩⟩, ?_⟩
  intro i hi
  repeat' ((conv => whnf); first | (refine iteB_dec (fun h => ?_) (fun h => ?_) <;> (try simp (disch := (first | omega | fail)) only [modAt, List.nil_append, List.length_take, List.length_drop, List.length_map, List.length_append, List.length_set, List.length_replicate, len_rowsPart, len_setCell, len_marks, len_markL] at h)) | (refine wrapB_i64 (by first | omega | fail) (by first | omega | fail) ?_) | (refine And.intro (by first | exact True.intro | omega | (simp (disch := (first | omega | fail)) only [List.length_cons, List.length_nil, modAt, List.nil_append, List.length_take, List.length_drop, List.length_map, List.length_append, List.length_set, List.length_replicate, len_rowsPart, len_setCell, len_marks, len_markL]; first | omega | fail) | fail) ?_) | (refine Exists.intro _ (And.intro (by first | exact (get_mapIC _ _ _ _ _ (by first | (simp (disch := (first | omega | fail)) only [modAt, List.nil_append, List.length_take, List.length_drop, List.length_map, List.length_append, List.length_set, List.length_replicate, len_rowsPart, len_setCell, len_marks, len_markL]; first | omega | fail) | fail) (by exact rfl)) | fail) ?_)) | (refine Or.inl ?_; apply callV_i; (repeat ((conv => whnf); first | refine And.intro (by first | omega | fail) ?_ | fail)); ((conv => whnf); first | exact FnB.mk (F_l_markText _ (by first | omega | fail)) | fail); refine ⟨rfl, rfl, ?_⟩) | fail)
  · have hml : i < (marks markT k a i).length := by rw [len_marks _ _ _ _ (by omega)]; omega
    refine ⟨[], i + 1, by omega, ⟨⟨rfl, rfl⟩, ⟨by first | rfl | fail, by first | (show V.lit (Value.int _ _) = V.lit (Value.int _ _); first | (congr 2; first | omega | fail) | fail) | fail, by first | rfl | fail, trivial⟩, boxEq (setCellM eStr _ _ (.lit (.string (markT (k + (i : Int))))) (markT (k + (i : Int))) rfl hml rfl rfl (marks_succ markT k a i (by omega))), trivial⟩, by first | (dsimp only; omega) | fail⟩
  · have hi' : i = n := by omega
    subst hi'
    refine .mk ⟨trivial, [], ⟨rfl, ?_⟩, List.nodup_nil, rfl, ?_⟩
    · rfl
    exact ⟨outOk_old (b := 0) (by decide) rfl, trivial⟩
theorem F_l_heldStringS (a : List ByteArray) (k : Int) (ha : a.length ≤ 140737488351232) (hk : 0 ≤ k) (hk2 : k ≤ 4470000000000000000) : Fn pg 54 [.imm 1 (rowS a), .lit (.int .i64 k)] [] (.lit (.int .i64 (heldL markT k a))) [] := by
  refine Fn.ofN [0,1,4,5,9,18] [] Try.func54 (by rfl) rfl (by show 2 ≤ 22; decide) (by rfl) ?_
  repeat' ((conv => whnf); first | (refine iteB_dec (fun h => ?_) (fun h => ?_) <;> (try simp (disch := (first | omega | fail)) only [modAt, List.nil_append, List.length_take, List.length_drop, List.length_map, List.length_append, List.length_set, List.length_replicate, len_rowsPart, len_setCell, len_marks, len_markL] at h)) | fail)
  refine ⟨Nat, fun i => i ≤ a.length ∧ heldL markT k a = heldL markT (k + i) (a.drop i), fun i => [(0, .imm 1 (rowS a)), (1, .lit (.int .i64 (k + i))), (5, .lit (.int .i64 i))], fun i => [], fun i => a.length - i, ⟨[], 0, by simp, ⟨rfl, rfl⟩, ⟨by first | rfl | fail, by first | (show V.lit (Value.int _ _) = V.lit (Value.int _ _); first | (congr 2; first | omega | fail) | fail) | fail, by first | rfl | fail, trivial⟩, trivial⟩, ?_⟩
  intro i ⟨hi, hh⟩
  repeat' ((conv => whnf); first | (refine iteB_dec (fun h => ?_) (fun h => ?_) <;> (try simp (disch := (first | omega | fail)) only [modAt, List.nil_append, List.length_take, List.length_drop, List.length_map, List.length_append, List.length_set, List.length_replicate, len_rowsPart, len_setCell, len_marks, len_markL] at h)) | (refine wrapB_i64 (by first | omega | fail) (by first | omega | fail) ?_) | (refine And.intro (by first | exact True.intro | omega | fail) ?_) | (refine Exists.intro _ (And.intro (rowGet _ _ _ (by omega)) ?_)) | (refine Or.inr (Or.inr (Or.inl (Exists.intro 6 (Exists.intro (.tell 0 (.tell 1 (.tell 2 (.tell 3 (.tell 4 (.one 5 .nil)))))) (And.intro (by decide +kernel) ?_)))))) | (refine Or.inl ?_; apply callV_i; (repeat ((conv => whnf); first | refine And.intro (by first | omega | fail) ?_ | fail)); ((conv => whnf); first | exact FnB.mk (F_l_markText _ (by first | omega | fail)) | fail); refine ⟨rfl, rfl, ?_⟩) | fail)
  · rw [drop_cons _ _ (by omega)] at hh
    (refine .mk ⟨trivial, [], ⟨rfl, ?_⟩, List.nodup_nil, rfl, trivial⟩; show V.lit _ = V.lit _)
    simp_all [heldL]
  · rw [drop_cons _ _ (by omega)] at hh
    refine ⟨[], i + 1, ⟨by omega, ?_⟩, ⟨⟨rfl, rfl⟩, ⟨by first | rfl | fail, by first | (show V.lit (Value.int _ _) = V.lit (Value.int _ _); first | (congr 2; first | omega | fail) | fail) | fail, by first | rfl | fail, trivial⟩, trivial⟩, by first | (dsimp only; omega) | fail⟩
    rw [hh, show (k + ((i + 1 : Nat) : Int)) = k + i + 1 by omega]
    simp_all [heldL]
  · rw [List.drop_of_length_le (by omega)] at hh
    (refine .mk ⟨trivial, [], ⟨rfl, ?_⟩, List.nodup_nil, rfl, trivial⟩; show V.lit _ = V.lit _)
    simp only [heldL] at hh
    rw [hh]
    first | done | fail
theorem F_l_heldStringS_marked (n : Nat) (k : Int) (ha : n ≤ 140737488351232) (hk : 0 ≤ k) (hk2 : k ≤ 4470000000000000000) : Fn pg 54 [.imm 1 (rowS (markL markT k n)), .lit (.int .i64 k)] [] (.lit (.int .i64 (k + n))) [] := by
  have := F_l_heldStringS (markL markT k n) k (by rw [len_markL]; exact ha) hk hk2
  rwa [heldL_markL] at this


/-- Attributes, puts. -/
abbrev At := ByteArray × ByteArray
instance : Inhabited At := ⟨(.empty, .empty)⟩
abbrev Pt := Int × ByteArray
def ePt (p : Pt) : List V := [.lit (.int .i64 p.1), .lit (.string p.2)]
abbrev rowP (a : List Pt) : Row := a.map ePt
instance : Inhabited Pt := ⟨(0, .empty)⟩
theorem litP (xs : List Pt) : litRow 2 (rowP xs) := by
  intro x hx
  obtain ⟨n, _, rfl⟩ := List.mem_map.1 hx
  refine ⟨rfl, fun c hc => ?_⟩
  simp [ePt] at hc
  rcases hc with rfl | rfl <;> exact ⟨_, rfl, rfl⟩
theorem F_l_toPut (p : Pt) : Fn pg 65 [.agg (ePt p)] [] (.agg (ePt p)) [] := by
  refine Fn.ofN [0,1,2,3] [1001,1002,1003] Try.func65 (by rfl) rfl (by show 1 ≤ 11; decide) (by rfl) ?_
  repeat' ((conv => whnf); first | (refine Exists.intro _ (And.intro rfl ?_)) | (refine And.intro (by first | exact True.intro | decide +kernel | (simp (disch := (first | omega | fail)) only [List.length_cons, List.length_nil, modAt, List.nil_append, List.length_take, List.length_drop, List.length_map, List.length_append, List.length_set, List.length_replicate, len_rowsPart, len_setCell, len_marks, len_markL]; first | omega | fail) | fail) ?_) | fail)
  all_goals (refine .mk ⟨trivial, [], ⟨rfl, rfl⟩, List.nodup_nil, rfl, trivial⟩)
theorem F_l_eqPut (p q : Pt) : Fn pg 66 [.agg (ePt p), .agg (ePt q)] [] (.lit (.bool (decide (p = q)))) [] := by
  refine Fn.ofN [0,1,2,3,4,9,14] [1002,1003] Try.func66 (by rfl) rfl (by show 2 ≤ 15; decide) (by rfl) ?_
  repeat' ((conv => whnf); first | (refine iteB_dec (fun h => ?_) (fun h => ?_) <;> (try simp (disch := (first | omega | fail)) only [modAt, List.nil_append, List.length_take, List.length_drop, List.length_map, List.length_append, List.length_set, List.length_replicate, len_rowsPart, len_setCell, len_marks, len_markL] at h)) | (refine Exists.intro _ (And.intro rfl ?_)) | fail)
  all_goals ((refine .mk ⟨trivial, [], ⟨rfl, ?_⟩, List.nodup_nil, rfl, trivial⟩; show V.lit _ = V.lit _); simp only [V.lit.injEq, Value.bool.injEq]; obtain ⟨p1, p2⟩ := p; obtain ⟨q1, q2⟩ := q; simp_all)
theorem F_l_toPutS (xs : List Pt) (hx : xs.length * 24 ≤ 140737488351232) : Fn pg 49 [.imm 2 (rowP xs)] [] (.sl 500 [] 2 0 xs.length) [(500, false, 2, rowP xs)] := by
  refine Fn.ofN [0,2,3,4,11] [1002,1007] Try.func49 (by rfl) rfl (by show 1 ≤ 23; decide) (by rfl) ?_
  repeat' ((conv => whnf); first | (refine And.intro (by first | exact True.intro | omega | (simp (disch := (first | omega | fail)) only [List.length_cons, List.length_nil, modAt, List.nil_append, List.length_take, List.length_drop, List.length_map, List.length_append, List.length_set, List.length_replicate, len_rowsPart, len_setCell, len_marks, len_markL]; first | omega | fail) | fail) ?_) | fail)
  refine ⟨Nat, fun i => i ≤ xs.length, fun i => [(0, .imm 2 (rowP xs)), (3, .sl 1007 [] 2 0 xs.length), (4, .lit (.int .i64 i))], fun i => [(1007, false, 2, rowsPart ePt [.lit (.int .i64 0), .lit (.string .empty)] xs i)], fun i => xs.length - i, ⟨[], 0, by omega, ⟨rfl, rfl⟩, ⟨by first | rfl | fail, ?_, by first | rfl | fail, trivial⟩, ?_, trivial⟩, ?_⟩
  · show V.sl 1007 [] 2 0 _ = V.sl 1007 [] 2 0 _
    rw [Int.toNat_natCast, List.length_map]
  · show some (false, 2, _) = some (false, 2, rowsPart ePt [.lit (.int .i64 0), .lit (.string .empty)] xs 0)
    rw [Int.toNat_natCast, List.length_map, rowsPart_zero]
  intro i hi
  repeat' ((conv => whnf); first | (refine iteB_dec (fun h => ?_) (fun h => ?_) <;> (try simp (disch := (first | omega | fail)) only [modAt, List.nil_append, List.length_take, List.length_drop, List.length_map, List.length_append, List.length_set, List.length_replicate, len_rowsPart, len_setCell, len_marks, len_markL] at h)) | (refine wrapB_i64 (by first | omega | fail) (by first | omega | fail) ?_) | (refine And.intro (by first | exact True.intro | omega | (simp (disch := (first | omega | fail)) only [List.length_cons, List.length_nil, modAt, List.nil_append, List.length_take, List.length_drop, List.length_map, List.length_append, List.length_set, List.length_replicate, len_rowsPart, len_setCell, len_marks, len_markL]; first | omega | fail) | fail) ?_) | (refine Exists.intro _ (And.intro (rowGet _ _ _ (by omega)) ?_)) | (refine Exists.intro _ (And.intro (by first | exact (get_partC _ _ _ _ _ _ (by first | omega | fail) (by exact rfl)) | exact (get_setC (by decide) (get_partC _ _ _ _ _ _ (by first | omega | fail) (by exact rfl))) | fail) ?_)) | (refine Or.inl ?_; apply callV_i; (repeat ((conv => whnf); first | refine And.intro (by first | omega | fail) ?_ | fail)); ((conv => whnf); first | exact FnB.mk (F_l_toPut _) | fail); refine ⟨rfl, rfl, ?_⟩) | fail)
  · refine ⟨[], i + 1, by omega, ⟨⟨rfl, rfl⟩, ⟨by first | rfl | fail, by first | rfl | fail, by first | rfl | fail, trivial⟩, ?_, trivial⟩, by first | (dsimp only; omega) | fail⟩
    show some (false, 2, setCell (setCell (rowsPart ePt [.lit (.int .i64 0), .lit (.string .empty)] xs i) i 0 _) i 1 _) = some (false, 2, rowsPart ePt [.lit (.int .i64 0), .lit (.string .empty)] xs (i + 1))
    rw [setCell_at (rowsPart_z _ _ _ _ (by omega)), setCell_set (by rw [len_rowsPart _ _ _ _ (by omega)]; omega), ← rowsPart_succ _ _ _ _ (by omega)]; rfl
  · have hi' : i = xs.length := by omega
    subst hi'
    refine .mk ⟨trivial, [1007], ⟨rfl, ?_⟩, by simp, rfl, ?_⟩
    · rfl
    refine ⟨?_, trivial⟩
    refine outOk_new (d := 1007) (by decide) rfl ?_
    show some (false, 2, rowsPart _ _ xs xs.length) = some (false, 2, rowP xs)
    rw [rowsPart_all]
theorem F_l_eqPutS (a b : List Pt) (ha : a.length ≤ 140737488351232) (hb : b.length ≤ 140737488351232) : Fn pg 51 [.imm 2 (rowP a), .imm 2 (rowP b)] [] (.lit (.bool (decide (a = b)))) [] := by
  refine Fn.ofN [0,1,4,5,10,14,26] [] Try.func51 (by rfl) rfl (by show 2 ≤ 27; decide) (by rfl) ?_
  repeat' ((conv => whnf); first | (refine iteB_dec (fun h => ?_) (fun h => ?_) <;> (try simp (disch := (first | omega | fail)) only [modAt, List.nil_append, List.length_take, List.length_drop, List.length_map, List.length_append, List.length_set, List.length_replicate, len_rowsPart, len_setCell, len_marks, len_markL] at h)) | fail)
  · (refine .mk ⟨trivial, [], ⟨rfl, ?_⟩, List.nodup_nil, rfl, trivial⟩; show V.lit _ = V.lit _)
    have : a ≠ b := fun e => by subst e; omega
    simp [this]
  refine ⟨Nat, fun i => i ≤ a.length ∧ a.take i = b.take i, fun i => [(0, .imm 2 (rowP a)), (1, .imm 2 (rowP b)), (5, .lit (.int .i64 i))], fun i => [], fun i => a.length - i, ⟨[], 0, by simp, ⟨rfl, rfl⟩, ⟨by first | rfl | fail, by first | rfl | fail, by first | rfl | fail, trivial⟩, trivial⟩, ?_⟩
  intro i ⟨hi, ht⟩
  repeat' ((conv => whnf); first | (refine iteB_dec (fun h => ?_) (fun h => ?_) <;> (try simp (disch := (first | omega | fail)) only [modAt, List.nil_append, List.length_take, List.length_drop, List.length_map, List.length_append, List.length_set, List.length_replicate, len_rowsPart, len_setCell, len_marks, len_markL] at h)) | (refine iteB_not ?_) | (refine wrapB_i64 (by first | omega | fail) (by first | omega | fail) ?_) | (refine And.intro (by first | exact True.intro | omega | fail) ?_) | (refine Exists.intro _ (And.intro (rowGet _ _ _ (by omega)) ?_)) | (refine Or.inl (And.intro (by decide +kernel) ?_)) | (apply callQ_i; (repeat ((conv => whnf); first | refine And.intro (by first | omega | fail) ?_ | fail)); ((conv => whnf); apply Exists.intro; (first | exact FnB.mk (F_l_eqPut _ _) | fail))) | fail)
  · exact ⟨[], i + 1, ⟨by omega, eq_step (by omega) (by omega) (by simp_all) ht⟩, ⟨⟨rfl, rfl⟩, ⟨by first | rfl | fail, by first | rfl | fail, by first | rfl | fail, trivial⟩, trivial⟩, by first | (dsimp only; omega) | fail⟩
  · (refine .mk ⟨trivial, [], ⟨rfl, ?_⟩, List.nodup_nil, rfl, trivial⟩; show V.lit _ = V.lit _)
    simp only [V.lit.injEq, Value.bool.injEq]
    rw [decide_eq_false (ne_at (i := i) (by omega) (by omega) (by simp_all))]
  · (refine .mk ⟨trivial, [], ⟨rfl, ?_⟩, List.nodup_nil, rfl, trivial⟩; show V.lit _ = V.lit _)
    have : a = b := eq_all (by omega) (by omega) ht
    simp [this]
def szL {α : Type} (sz : α → Int → Int) : List α → Int → Int
  | [], l => l
  | x :: r, l => if sz x l < 0 then -1 else szL sz r (sz x l)
def szS {α : Type} (sz : α → Int → Int) (xs : List α) (l : Int) : Int := if l - xs.length < 0 then -1 else szL sz xs (l - xs.length)
def szStr (s : ByteArray) (l : Int) : Int := l - s.size
def szPt (a : Pt) (l : Int) : Int := if l - a.2.size < 0 then -1 else l - a.2.size
theorem F_l_szPut (p : Pt) (l : Int) (hl : 0 ≤ l) (hl2 : l ≤ 140737488351232) (hp : p.2.size ≤ 140737488351232) : Fn pg 64 [.agg (ePt p), .lit (.int .i64 l)] [] (.lit (.int .i64 (szPt p l))) [] := by
  refine Fn.ofN [0,1,2,4,11] [1002] Try.func64 (by rfl) rfl (by show 2 ≤ 13; decide) (by rfl) ?_
  repeat' ((conv => whnf); first | (refine iteB_dec (fun h => ?_) (fun h => ?_) <;> (try simp (disch := (first | omega | fail)) only [modAt, List.nil_append, List.length_take, List.length_drop, List.length_map, List.length_append, List.length_set, List.length_replicate, len_rowsPart, len_setCell, len_marks, len_markL] at h)) | (refine Exists.intro _ (And.intro rfl ?_)) | (refine wrapB_i64 (by first | omega | fail) (by first | omega | fail) ?_) | fail)
  all_goals ((refine .mk ⟨trivial, [], ⟨rfl, ?_⟩, List.nodup_nil, rfl, trivial⟩; show V.lit _ = V.lit _); unfold szPt; congr 2; grind)
theorem le_szStr (p : ByteArray) (l : Int) (h : 0 ≤ l) : szStr p l ≤ l := by unfold szStr; omega
theorem le_szPt (p : Pt) (l : Int) (h : 0 ≤ l) : szPt p l ≤ l := by unfold szPt; grind
theorem F_l_szPutS (xs : List Pt) (l : Int) (hx : xs.length ≤ 140737488351232) (hl : 0 ≤ l) (hl2 : l ≤ 140737488351232) (hp : ∀ x ∈ xs, x.2.size ≤ 140737488351232) : Fn pg 47 [.imm 2 (rowP xs), .lit (.int .i64 l)] [] (.lit (.int .i64 (szS szPt xs l))) [] := by
  refine Fn.ofN [0,1,4,5,11,15,25] [] Try.func47 (by rfl) rfl (by show 2 ≤ 27; decide) (by rfl) ?_
  repeat' ((conv => whnf); first | (refine iteB_dec (fun h => ?_) (fun h => ?_) <;> (try simp (disch := (first | omega | fail)) only [modAt, List.nil_append, List.length_take, List.length_drop, List.length_map, List.length_append, List.length_set, List.length_replicate, len_rowsPart, len_setCell, len_marks, len_markL] at h)) | (refine wrapB_i64 (by first | (simp (disch := (first | omega | fail)) only [modAt, List.nil_append, List.length_take, List.length_drop, List.length_map, List.length_append, List.length_set, List.length_replicate, len_rowsPart, len_setCell, len_marks, len_markL]; first | omega | fail) | fail) (by first | omega | fail) ?_) | fail)
  · (refine .mk ⟨trivial, [], ⟨rfl, ?_⟩, List.nodup_nil, rfl, trivial⟩; show V.lit _ = V.lit _)
    unfold szS
    rw [if_pos (by omega)]
  have h0 : ¬ l - (xs.length : Int) < 0 := by assumption
  refine ⟨Nat × Int, fun x => x.1 ≤ xs.length ∧ 0 ≤ x.2 ∧ x.2 ≤ 140737488351232 ∧ szS szPt xs l = szL szPt (xs.drop x.1) x.2, fun x => [(0, .imm 2 (rowP xs)), (1, .lit (.int .i64 x.2)), (5, .lit (.int .i64 x.1))], fun _ => [], fun x => xs.length - x.1, ⟨[], (0, l - xs.length), ⟨by simp, by dsimp only; omega, by dsimp only; omega, by simp [szS, h0]⟩, ⟨rfl, rfl⟩, ⟨by first | rfl | fail, by show V.lit (.int .i64 (l - List.length (List.map _ xs))) = _; rw [List.length_map]; rfl, by first | rfl | fail, trivial⟩, trivial⟩, ?_⟩
  intro (i, m) ⟨hi, hm, hm2, hh⟩
  dsimp only at hi hm hm2 hh
  have hq : ∀ h : i < xs.length, szPt xs[i] m ≤ m := fun h => le_szPt _ _ hm
  have hy : ∀ h : i < xs.length, (fun x : Pt => x.2.size ≤ 140737488351232) xs[i] := fun h => hp _ (List.getElem_mem h)
  by_cases hlt : i < xs.length
  · have hy2 := hy hlt
    try dsimp only at hy2
    have h1 := hq hlt
    rw [drop_cons _ _ hlt] at hh
    repeat' ((conv => whnf); first | (refine iteB_dec (fun h => ?_) (fun h => ?_) <;> (try simp (disch := (first | omega | fail)) only [modAt, List.nil_append, List.length_take, List.length_drop, List.length_map, List.length_append, List.length_set, List.length_replicate, len_rowsPart, len_setCell, len_marks, len_markL] at h)) | (refine wrapB_i64 (by first | omega | fail) (by first | omega | fail) ?_) | (refine And.intro (by first | exact True.intro | omega | fail) ?_) | (refine Exists.intro _ (And.intro (rowGet _ _ _ (by omega)) ?_)) | (refine Or.inl ?_; apply callV_i; (repeat ((conv => whnf); first | refine And.intro (by first | omega | fail) ?_ | fail)); ((conv => whnf); first | exact FnB.mk (F_l_szPut _ _ (by first | omega | fail) (by first | omega | fail) (by first | omega | fail)) | fail); refine ⟨rfl, rfl, ?_⟩) | fail)
    · (refine .mk ⟨trivial, [], ⟨rfl, ?_⟩, List.nodup_nil, rfl, trivial⟩; show V.lit _ = V.lit _)
      rw [hh]; simp only [szL]; rw [if_pos (by first | assumption | fail)]
    · have hn : ¬ szPt xs[i] m < 0 := by first | assumption | fail
      refine ⟨[], (i + 1, szPt xs[i] m), ⟨by dsimp only; omega, by dsimp only; omega, by dsimp only; omega, ?_⟩, ⟨⟨rfl, rfl⟩, ⟨by first | rfl | fail, rfl, by first | rfl | fail, trivial⟩, trivial⟩, by first | (dsimp only; omega) | fail⟩
      rw [hh]; simp only [szL]; rw [if_neg hn]
    · exfalso; omega
  · rw [List.drop_of_length_le (by omega)] at hh
    repeat' ((conv => whnf); first | (refine iteB_dec (fun h => ?_) (fun h => ?_) <;> (try simp (disch := (first | omega | fail)) only [modAt, List.nil_append, List.length_take, List.length_drop, List.length_map, List.length_append, List.length_set, List.length_replicate, len_rowsPart, len_setCell, len_marks, len_markL] at h)) | (refine wrapB_i64 (by first | omega | fail) (by first | omega | fail) ?_) | (refine And.intro (by first | exact True.intro | omega | fail) ?_) | (refine Exists.intro _ (And.intro (rowGet _ _ _ (by omega)) ?_)) | (refine Or.inl ?_; apply callV_i; (repeat ((conv => whnf); first | refine And.intro (by first | omega | fail) ?_ | fail)); ((conv => whnf); first | exact FnB.mk (F_l_szPut _ _ (by first | omega | fail) (by first | omega | fail) (by first | omega | fail)) | fail); refine ⟨rfl, rfl, ?_⟩) | fail)
    all_goals first | (exfalso; omega) | skip | fail
    (refine .mk ⟨trivial, [], ⟨rfl, ?_⟩, List.nodup_nil, rfl, trivial⟩; show V.lit _ = V.lit _)
    rw [hh]; rfl
theorem F_l_szStringS (xs : List ByteArray) (l : Int) (hx : xs.length ≤ 140737488351232) (hl : 0 ≤ l) (hl2 : l ≤ 140737488351232) (hp : ∀ x ∈ xs, x.size ≤ 140737488351232) : Fn pg 46 [.imm 1 (rowS xs), .lit (.int .i64 l)] [] (.lit (.int .i64 (szS szStr xs l))) [] := by
  refine Fn.ofN [0,1,4,5,11,15,26] [] Try.func46 (by rfl) rfl (by show 2 ≤ 28; decide) (by rfl) ?_
  repeat' ((conv => whnf); first | (refine iteB_dec (fun h => ?_) (fun h => ?_) <;> (try simp (disch := (first | omega | fail)) only [modAt, List.nil_append, List.length_take, List.length_drop, List.length_map, List.length_append, List.length_set, List.length_replicate, len_rowsPart, len_setCell, len_marks, len_markL] at h)) | (refine wrapB_i64 (by first | (simp (disch := (first | omega | fail)) only [modAt, List.nil_append, List.length_take, List.length_drop, List.length_map, List.length_append, List.length_set, List.length_replicate, len_rowsPart, len_setCell, len_marks, len_markL]; first | omega | fail) | fail) (by first | omega | fail) ?_) | fail)
  · (refine .mk ⟨trivial, [], ⟨rfl, ?_⟩, List.nodup_nil, rfl, trivial⟩; show V.lit _ = V.lit _)
    unfold szS
    rw [if_pos (by omega)]
  have h0 : ¬ l - (xs.length : Int) < 0 := by assumption
  refine ⟨Nat × Int, fun x => x.1 ≤ xs.length ∧ 0 ≤ x.2 ∧ x.2 ≤ 140737488351232 ∧ szS szStr xs l = szL szStr (xs.drop x.1) x.2, fun x => [(0, .imm 1 (rowS xs)), (1, .lit (.int .i64 x.2)), (5, .lit (.int .i64 x.1))], fun _ => [], fun x => xs.length - x.1, ⟨[], (0, l - xs.length), ⟨by simp, by dsimp only; omega, by dsimp only; omega, by simp [szS, h0]⟩, ⟨rfl, rfl⟩, ⟨by first | rfl | fail, by show V.lit (.int .i64 (l - List.length (List.map _ xs))) = _; rw [List.length_map]; rfl, by first | rfl | fail, trivial⟩, trivial⟩, ?_⟩
  intro (i, m) ⟨hi, hm, hm2, hh⟩
  dsimp only at hi hm hm2 hh
  have hq : ∀ h : i < xs.length, szStr xs[i] m ≤ m := fun h => le_szStr _ _ hm
  have hy : ∀ h : i < xs.length, (fun x : ByteArray => x.size ≤ 140737488351232) xs[i] := fun h => hp _ (List.getElem_mem h)
  by_cases hlt : i < xs.length
  · have hy2 := hy hlt
    try dsimp only at hy2
    have h1 := hq hlt
    rw [drop_cons _ _ hlt] at hh
    repeat' ((conv => whnf); first | (refine iteB_dec (fun h => ?_) (fun h => ?_) <;> (try simp (disch := (first | omega | fail)) only [modAt, List.nil_append, List.length_take, List.length_drop, List.length_map, List.length_append, List.length_set, List.length_replicate, len_rowsPart, len_setCell, len_marks, len_markL] at h)) | (refine wrapB_i64 (by first | omega | (simp (disch := (first | omega | fail)) only [modAt, List.nil_append, List.length_take, List.length_drop, List.length_map, List.length_append, List.length_set, List.length_replicate, len_rowsPart, len_setCell, len_marks, len_markL]; first | omega | fail) | fail) (by first | omega | fail) ?_) | (refine And.intro (by first | exact True.intro | omega | fail) ?_) | (refine Exists.intro _ (And.intro (rowGet _ _ _ (by omega)) ?_)) | fail)
    · (refine .mk ⟨trivial, [], ⟨rfl, ?_⟩, List.nodup_nil, rfl, trivial⟩; show V.lit _ = V.lit _)
      rw [hh]; simp only [szL]; rw [if_pos (by first | assumption | fail)]
    · have hn : ¬ szStr xs[i] m < 0 := by first | assumption | fail
      refine ⟨[], (i + 1, szStr xs[i] m), ⟨by dsimp only; omega, by dsimp only; omega, by dsimp only; omega, ?_⟩, ⟨⟨rfl, rfl⟩, ⟨by first | rfl | fail, rfl, by first | rfl | fail, trivial⟩, trivial⟩, by first | (dsimp only; omega) | fail⟩
      rw [hh]; simp only [szL]; rw [if_neg hn]
    · exfalso; omega
  · rw [List.drop_of_length_le (by omega)] at hh
    repeat' ((conv => whnf); first | (refine iteB_dec (fun h => ?_) (fun h => ?_) <;> (try simp (disch := (first | omega | fail)) only [modAt, List.nil_append, List.length_take, List.length_drop, List.length_map, List.length_append, List.length_set, List.length_replicate, len_rowsPart, len_setCell, len_marks, len_markL] at h)) | (refine wrapB_i64 (by first | omega | fail) (by first | omega | fail) ?_) | (refine And.intro (by first | exact True.intro | omega | fail) ?_) | (refine Exists.intro _ (And.intro (rowGet _ _ _ (by omega)) ?_)) | fail)
    all_goals first | (exfalso; omega) | skip | fail
    (refine .mk ⟨trivial, [], ⟨rfl, ?_⟩, List.nodup_nil, rfl, trivial⟩; show V.lit _ = V.lit _)
    rw [hh]; rfl
/-- Marks, each by what stands there. -/
def mkL {α : Type} (f : Int → α → α) (st : α → Nat) (k : Int) : List α → List α
  | [] => []
  | x :: r => f k x :: mkL f st (k + st x) r
def stL {α : Type} (st : α → Nat) : List α → Nat
  | [] => 0
  | x :: r => st x + stL st r
theorem len_mkL {α : Type} (f : Int → α → α) (st : α → Nat) (k : Int) (l : List α) : (mkL f st k l).length = l.length := by
  induction l generalizing k with
  | nil => rfl
  | cons x r ih => simp [mkL, ih]
theorem stL_append {α : Type} (st : α → Nat) (l r : List α) : stL st (l ++ r) = stL st l + stL st r := by
  induction l with
  | nil => simp [stL]
  | cons x l ih => simp [stL, ih]; omega
theorem mkL_append {α : Type} (f : Int → α → α) (st : α → Nat) (k : Int) (l r : List α) : mkL f st k (l ++ r) = mkL f st k l ++ mkL f st (k + stL st l) r := by
  induction l generalizing k with
  | nil => simp [mkL, stL]
  | cons x l ih => simp only [List.cons_append, mkL, stL, ih]; congr 3; omega
def marksN {α : Type} (f : Int → α → α) (st : α → Nat) (k : Int) (a : List α) (i : Nat) : List α := mkL f st k (a.take i) ++ a.drop i
theorem len_marksN {α : Type} (f : Int → α → α) (st : α → Nat) (k : Int) (a : List α) (i : Nat) : (marksN f st k a i).length = a.length := by
  simp [marksN, len_mkL]; omega
theorem marksN_zero {α : Type} (f : Int → α → α) (st : α → Nat) (k : Int) (a : List α) : marksN f st k a 0 = a := by simp [marksN, mkL]
theorem stL_succ {α : Type} (st : α → Nat) (a : List α) (i : Nat) (h : i < a.length) : stL st (a.take (i + 1)) = stL st (a.take i) + st a[i] := by
  rw [List.take_succ_eq_append_getElem h, stL_append]; rfl
theorem marksN_get {α : Type} (f : Int → α → α) (st : α → Nat) (k : Int) (a : List α) (i : Nat) (h : i < a.length) : (marksN f st k a i)[i]? = some a[i] := by
  unfold marksN
  rw [List.getElem?_append_right (by simp [len_mkL]; omega), len_mkL, List.length_take, Nat.min_eq_left (by omega), Nat.sub_self, List.getElem?_drop, Nat.add_zero, List.getElem?_eq_getElem h]
theorem marksN_succ {α : Type} (f : Int → α → α) (st : α → Nat) (k : Int) (a : List α) (i : Nat) (h : i < a.length) : (marksN f st k a i).set i (f (k + stL st (a.take i)) a[i]) = marksN f st k a (i + 1) := by
  unfold marksN
  rw [List.take_succ_eq_append_getElem h, mkL_append, List.set_append_right _ _ (by simp [len_mkL]; omega), len_mkL, List.length_take, Nat.min_eq_left (by omega), Nat.sub_self, drop_cons _ _ h, List.set_cons_zero]
  simp [mkL]
theorem take_marksN {α : Type} (E : α → List V) (f : Int → α → α) (st : α → Nat) (k : Int) (a : List α) (n : Nat) (h : n ≤ a.length) : List.take n (List.drop 0 (List.map E (marksN f st k a n))) = List.map E (mkL f st k (a.take n)) := by
  rw [List.drop_zero, marksN, List.map_append, List.take_append_of_le_length (by simp [len_mkL]; omega), List.take_of_length_le (by simp [len_mkL]; omega)]
def heldG {α : Type} (hd : Int → α → Int) (k : Int) : List α → Int
  | [] => k
  | x :: r => if hd k x < 0 then -1 else heldG hd (hd k x) r
theorem heldG_mkL {α : Type} (hd : Int → α → Int) (f : Int → α → α) (st : α → Nat) (hh : ∀ (k : Int) (x : α), 0 ≤ k → hd k (f k x) = k + st x) : ∀ (l : List α) (k : Int), 0 ≤ k → heldG hd k (mkL f st k l) = k + stL st l := by
  intro l
  induction l with
  | nil => intro k _; simp [mkL, heldG, stL]
  | cons x r ih =>
    intro k hk
    simp only [mkL, heldG, stL]
    rw [hh k x hk, if_neg (by omega), ih _ (by omega)]; omega
theorem get_marksNC {α : Type} (E : α → List V) (f : Int → α → α) (st : α → Nat) (k : Int) (a : List α) (i j : Nat) (v : V) (h : i < a.length) (hv : (E a[i])[j]? = some v) : cellAt (List.map E (marksN f st k a i)) (((i : Nat) : Int).toNat + 0) j = some v := by
  rw [Int.toNat_natCast, Nat.add_zero]
  unfold cellAt
  rw [List.getElem?_map, marksN_get _ _ _ _ _ h]; exact hv
def mkPt (k : Int) (_ : Pt) : Pt := (k, markT (k + 1))
def two {α : Type} (_ : α) : Nat := 2
theorem stL_two {α : Type} (l : List α) : stL two l = 2 * l.length := by
  induction l with
  | nil => rfl
  | cons x r ih => simp only [stL, two, ih, List.length_cons]; omega
theorem F_l_markPutS (a : List Pt) (n : Nat) (k : Int) (hn : n ≤ a.length) (ha : n ≤ 140737488351232) (hk : 0 ≤ k) (hk2 : k ≤ 4470000000000000000) : Fn pg 53 [.sl 0 [] 2 0 n, .lit (.int .i64 k)] [(0, false, 2, rowP a)] (.lit (.int .i64 (k + stL two (a.take n)))) [(0, false, 2, rowP (marksN mkPt two k a n))] := by
  refine Fn.ofN [0,1,4,5,9] [0] Try.func53 (by rfl) rfl (by show 2 ≤ 28; decide) (by rfl) ?_
  repeat' ((conv => whnf); first | (refine iteB_dec (fun h => ?_) (fun h => ?_) <;> (try simp (disch := (first | omega | fail)) only [modAt, List.nil_append, List.length_take, List.length_drop, List.length_map, List.length_append, List.length_set, List.length_replicate, len_rowsPart, len_setCell, len_marks, len_markL, len_mkL, len_marksN] at h)) | fail)
  refine ⟨Nat, fun i => i ≤ n, fun i => [(0, .sl 0 [] 2 0 n), (1, .lit (.int .i64 (k + stL two (a.take i)))), (5, .lit (.int .i64 i))], fun i => [(0, false, 2, rowP (marksN mkPt two k a i))], fun i => n - i, ⟨[], 0, by omega, ⟨rfl, rfl⟩, ⟨by first | rfl | fail, by simp [stL]; rfl, by first | rfl | fail, trivial⟩, ⟨boxEq (congrArg rowP (marksN_zero _ _ _ _).symm), trivial⟩⟩, ?_⟩
  intro i hi
  have hst : stL two (a.take i) = 2 * i := by rw [stL_two, List.length_take]; omega
  repeat' ((conv => whnf); first | (refine iteB_dec (fun h => ?_) (fun h => ?_) <;> (try simp (disch := (first | omega | fail)) only [modAt, List.nil_append, List.length_take, List.length_drop, List.length_map, List.length_append, List.length_set, List.length_replicate, len_rowsPart, len_setCell, len_marks, len_markL, len_mkL, len_marksN] at h)) | (refine wrapB_i64 (by first | omega | fail) (by first | omega | fail) ?_) | (refine And.intro (by first | exact True.intro | omega | (simp (disch := (first | omega | fail)) only [List.length_cons, List.length_nil, modAt, List.nil_append, List.length_take, List.length_drop, List.length_map, List.length_append, List.length_set, List.length_replicate, len_rowsPart, len_setCell, len_marks, len_markL, len_mkL, len_marksN]; first | omega | fail) | fail) ?_) | (refine Exists.intro _ (And.intro (by first | exact (get_marksNC _ _ _ _ _ _ _ _ (by first | omega | fail) (by exact rfl)) | exact (get_setC (by decide) (get_marksNC _ _ _ _ _ _ _ _ (by first | omega | fail) (by exact rfl))) | fail) ?_)) | (refine Or.inl ?_; apply callV_i; (repeat ((conv => whnf); first | refine And.intro (by first | omega | fail) ?_ | fail)); ((conv => whnf); first | exact FnB.mk (F_l_markText _ (by first | omega | fail)) | fail); refine ⟨rfl, rfl, ?_⟩) | fail)
  · have hml : i < (marksN mkPt two k a i).length := by rw [len_marksN]; omega
    have hs1 := stL_succ two a i (by omega)
    have hge : (marksN mkPt two k a i)[i] = a[i]'(by omega) := Option.some.inj ((List.getElem?_eq_getElem hml).symm.trans (marksN_get _ _ _ _ _ (by omega)))
    refine ⟨[], i + 1, by omega, ⟨⟨rfl, rfl⟩, ⟨by first | rfl | fail, by rw [hs1]; (show V.lit (.int .i64 _) = V.lit (.int .i64 _)); congr 2; simp only [two]; omega, by first | rfl | fail, trivial⟩, ⟨boxEq ?_, trivial⟩⟩, by first | (dsimp only; omega) | fail⟩
    show setCs (List.map ePt (marksN mkPt two k a i)) (Int.toNat (i : Int) + 0) [(0, _), (1, _)] = List.map ePt (marksN mkPt two k a (i + 1))
    exact setCs_map ePt _ _ (mkPt (k + stL two (a.take i)) (a[i]'(by omega))) rfl hml rfl (marksN_succ _ _ _ _ _ (by omega))
  · have hi' : i = n := by omega
    subst hi'
    refine .mk ⟨trivial, [], ⟨rfl, ?_⟩, List.nodup_nil, rfl, ?_⟩
    · rfl
    exact ⟨outOk_old (b := 0) (by decide) rfl, trivial⟩
def hdPt (k : Int) (x : Pt) : Int := if x.1 = k then (if x.2 = markT (k + 1) then k + 1 + 1 else -1) else -1
theorem hdPt_mk (k : Int) (x : Pt) (h : 0 ≤ k) : hdPt k (mkPt k x) = k + two x := by simp [hdPt, mkPt, two]; omega
theorem F_l_heldPutS (a : List Pt) (k : Int) (ha : a.length ≤ 140737488351232) (hk : 0 ≤ k) (hk2 : k ≤ 4470000000000000000) : Fn pg 55 [.imm 2 (rowP a), .lit (.int .i64 k)] [] (.lit (.int .i64 (heldG hdPt k a))) [] := by
  refine Fn.ofN [0,1,4,5,9,18,28] [] Try.func55 (by rfl) rfl (by show 2 ≤ 32; decide) (by rfl) ?_
  repeat' ((conv => whnf); first | (refine iteB_dec (fun h => ?_) (fun h => ?_) <;> (try simp (disch := (first | omega | fail)) only [modAt, List.nil_append, List.length_take, List.length_drop, List.length_map, List.length_append, List.length_set, List.length_replicate, len_rowsPart, len_setCell, len_marks, len_markL, len_mkL, len_marksN] at h)) | fail)
  refine ⟨Nat, fun i => i ≤ a.length ∧ heldG hdPt k a = heldG hdPt (k + 2 * i) (a.drop i), fun i => [(0, .imm 2 (rowP a)), (1, .lit (.int .i64 (k + 2 * i))), (5, .lit (.int .i64 i))], fun i => [], fun i => a.length - i, ⟨[], 0, by simp, ⟨rfl, rfl⟩, ⟨by first | rfl | fail, by first | (show V.lit (Value.int _ _) = V.lit (Value.int _ _); first | (congr 2; first | omega | fail) | fail) | fail, by first | rfl | fail, trivial⟩, trivial⟩, ?_⟩
  intro i ⟨hi, hh⟩
  repeat' ((conv => whnf); first | (refine iteB_dec (fun h => ?_) (fun h => ?_) <;> (try simp (disch := (first | omega | fail)) only [modAt, List.nil_append, List.length_take, List.length_drop, List.length_map, List.length_append, List.length_set, List.length_replicate, len_rowsPart, len_setCell, len_marks, len_markL, len_mkL, len_marksN] at h)) | (refine wrapB_i64 (by first | omega | fail) (by first | omega | fail) ?_) | (refine And.intro (by first | exact True.intro | omega | fail) ?_) | (refine Exists.intro _ (And.intro (rowGet _ _ _ (by omega)) ?_)) | (refine Or.inr (Or.inr (Or.inl (Exists.intro 7 (Exists.intro (.tell 0 (.tell 1 (.tell 2 (.tell 3 (.tell 4 (.tell 5 (.one 6 .nil))))))) (And.intro (by decide +kernel) ?_)))))) | (refine Or.inl ?_; apply callV_i; (repeat ((conv => whnf); first | refine And.intro (by first | omega | fail) ?_ | fail)); ((conv => whnf); first | exact FnB.mk (F_l_markText _ (by first | omega | fail)) | fail); refine ⟨rfl, rfl, ?_⟩) | fail)
  · rw [drop_cons _ _ (by omega)] at hh
    (refine .mk ⟨trivial, [], ⟨rfl, ?_⟩, List.nodup_nil, rfl, trivial⟩; show V.lit _ = V.lit _)
    rw [hh]; simp_all [heldG, hdPt]
  · rw [drop_cons _ _ (by omega)] at hh
    (refine .mk ⟨trivial, [], ⟨rfl, ?_⟩, List.nodup_nil, rfl, trivial⟩; show V.lit _ = V.lit _)
    rw [hh]; simp_all [heldG, hdPt]
  · rw [drop_cons _ _ (by omega)] at hh
    refine ⟨[], i + 1, ⟨by omega, ?_⟩, ⟨⟨rfl, rfl⟩, ⟨by first | rfl | fail, by first | (show V.lit (Value.int _ _) = V.lit (Value.int _ _); first | (congr 2; first | omega | fail) | fail) | fail, by first | rfl | fail, trivial⟩, trivial⟩, by first | (dsimp only; omega) | fail⟩
    have e1 : hdPt (k + 2 * i) (a[i]'(by omega)) = k + 2 * ((i + 1 : Nat) : Int) := by simp_all [hdPt]; omega
    rw [hh]; simp only [heldG]; rw [e1, if_neg (by omega)]
  · rw [List.drop_of_length_le (by omega)] at hh
    (refine .mk ⟨trivial, [], ⟨rfl, ?_⟩, List.nodup_nil, rfl, trivial⟩; show V.lit _ = V.lit _)
    rw [hh]; simp only [heldG]
    first | done | fail
theorem F_l_heldPutS_marked (a : List Pt) (k : Int) (ha : a.length ≤ 140737488351232) (hk : 0 ≤ k) (hk2 : k ≤ 4470000000000000000) : Fn pg 55 [.imm 2 (rowP (mkL mkPt two k a)), .lit (.int .i64 k)] [] (.lit (.int .i64 (k + stL two a))) [] := by
  have := F_l_heldPutS (mkL mkPt two k a) k (by rw [len_mkL]; exact ha) hk hk2
  rwa [heldG_mkL hdPt mkPt two hdPt_mk a k hk] at this


abbrev Dk := List ByteArray × List Pt
theorem F_l_toDisk (d : Dk) (hx : d.1.length * 16 ≤ 140737488351232) (hy : d.2.length * 24 ≤ 140737488351232) : Fn pg 19 [.agg [.imm 1 (rowS d.1), .imm 2 (rowP d.2)]] [] (.agg [.sl 500 [] 1 0 d.1.length, .sl 501 [] 2 0 d.2.length]) [(500, false, 1, rowS d.1), (501, false, 2, rowP d.2)] := by
  refine Fn.ofN [0,1,2,3] [1001,1002,1003,1006,1010] Try.func19 (by rfl) rfl (by show 1 ≤ 13; decide) (by rfl) ?_
  repeat' ((conv => whnf); first | (refine Exists.intro _ (And.intro rfl ?_)) | (refine And.intro (by first | exact True.intro | decide +kernel | (simp (disch := (first | omega | fail)) only [List.length_cons, List.length_nil, modAt, List.nil_append, List.length_take, List.length_drop, List.length_map, List.length_append, List.length_set, List.length_replicate, len_rowsPart, len_setCell, len_marks, len_markL, len_mkL, len_marksN]; first | omega | fail) | fail) ?_) | (refine Or.inl ?_; apply callV_i; (repeat ((conv => whnf); first | refine And.intro (by first | omega | fail) ?_ | fail)); ((conv => whnf); first | exact FnB.mk (F_l_toStringS _ (by first | omega | fail)) | exact FnB.mk (F_l_toPutS _ (by first | omega | fail)) | fail); refine ⟨rfl, rfl, ?_⟩) | fail)
  refine .mk ⟨trivial, [1006, 1010], ⟨rfl, ?_⟩, by simp, rfl, ?_⟩
  · rfl
  exact ⟨outOk_new (d := 1006) (by decide) rfl rfl, outOk_new (d := 1010) (by decide) rfl rfl, trivial⟩
theorem F_l_eqDisk (a b : Dk) (ha : a.1.length ≤ 140737488351232) (hb : b.1.length ≤ 140737488351232) (ha2 : a.2.length ≤ 140737488351232) (hb2 : b.2.length ≤ 140737488351232) : Fn pg 20 [.agg [.imm 1 (rowS a.1), .imm 2 (rowP a.2)], .agg [.imm 1 (rowS b.1), .imm 2 (rowP b.2)]] [] (.lit (.bool (decide (a = b)))) [] := by
  refine Fn.ofN [0,1,2,3,4,10,16] [1002,1003] Try.func20 (by rfl) rfl (by show 2 ≤ 17; decide) (by rfl) ?_
  repeat' ((conv => whnf); first | (refine iteB_dec (fun h => ?_) (fun h => ?_) <;> (try simp (disch := (first | omega | fail)) only [modAt, List.nil_append, List.length_take, List.length_drop, List.length_map, List.length_append, List.length_set, List.length_replicate, len_rowsPart, len_setCell, len_marks, len_markL, len_mkL, len_marksN] at h)) | (refine iteB_not ?_) | (refine Exists.intro _ (And.intro rfl ?_)) | (refine Or.inl ?_; apply callV_i; (repeat ((conv => whnf); first | refine And.intro (by first | omega | fail) ?_ | fail)); ((conv => whnf); first | exact FnB.mk (F_l_eqStringS _ _ (by first | omega | fail) (by first | omega | fail)) | exact FnB.mk (F_l_eqPutS _ _ (by first | omega | fail) (by first | omega | fail)) | fail); refine ⟨rfl, rfl, ?_⟩) | fail)
  all_goals ((refine .mk ⟨trivial, [], ⟨rfl, ?_⟩, List.nodup_nil, rfl, trivial⟩; show V.lit _ = V.lit _); obtain ⟨a1, a2⟩ := a; obtain ⟨b1, b2⟩ := b; simp_all)
def szDk (d : Dk) (l : Int) : Int := if szS szStr d.1 l < 0 then -1 else if szS szPt d.2 (szS szStr d.1 l) < 0 then -1 else szS szPt d.2 (szS szStr d.1 l)
theorem szL_le {α : Type} (sz : α → Int → Int) (h : ∀ p l, 0 ≤ l → sz p l ≤ l) : ∀ (xs : List α) (l : Int), 0 ≤ l → szL sz xs l ≤ l := by
  intro xs
  induction xs with
  | nil => intro l _; simp [szL]
  | cons x r ih =>
    intro l hl
    simp only [szL]
    have := h x l hl
    split
    · omega
    · have := ih (sz x l) (by omega); omega
theorem szS_le {α : Type} (sz : α → Int → Int) (h : ∀ p l, 0 ≤ l → sz p l ≤ l) (xs : List α) (l : Int) (hl : 0 ≤ l) : szS sz xs l ≤ l := by
  unfold szS
  split
  · omega
  · have := szL_le sz h xs (l - xs.length) (by omega); omega
theorem F_l_szDisk (d : Dk) (l : Int) (hx : d.1.length ≤ 140737488351232) (hy : d.2.length ≤ 140737488351232) (hl : 0 ≤ l) (hl2 : l ≤ 140737488351232) (hp : ∀ x ∈ d.1, x.size ≤ 140737488351232) (hq : ∀ x ∈ d.2, x.2.size ≤ 140737488351232) : Fn pg 18 [.agg [.imm 1 (rowS d.1), .imm 2 (rowP d.2)], .lit (.int .i64 l)] [] (.lit (.int .i64 (szDk d l))) [] := by
  have h1 := szS_le szStr le_szStr d.1 l hl
  refine Fn.ofN [0,1,2,4,10,16] [1002] Try.func18 (by rfl) rfl (by show 2 ≤ 18; decide) (by rfl) ?_
  repeat' ((conv => whnf); first | (refine iteB_dec (fun h => ?_) (fun h => ?_) <;> (try simp (disch := (first | omega | fail)) only [modAt, List.nil_append, List.length_take, List.length_drop, List.length_map, List.length_append, List.length_set, List.length_replicate, len_rowsPart, len_setCell, len_marks, len_markL, len_mkL, len_marksN] at h)) | (refine Exists.intro _ (And.intro rfl ?_)) | (refine Or.inl ?_; apply callV_i; (repeat ((conv => whnf); first | refine And.intro (by first | omega | fail) ?_ | fail)); ((conv => whnf); first | exact FnB.mk (F_l_szStringS _ _ (by first | omega | fail) (by first | omega | fail) (by first | omega | fail) (by first | omega | fail)) | exact FnB.mk (F_l_szPutS _ _ (by first | omega | fail) (by first | omega | fail) (by first | omega | fail) (by first | omega | fail)) | fail); refine ⟨rfl, rfl, ?_⟩) | fail)
  all_goals ((refine .mk ⟨trivial, [], ⟨rfl, ?_⟩, List.nodup_nil, rfl, trivial⟩; show V.lit _ = V.lit _); unfold szDk; congr 2; grind)
theorem F_l_markDisk (a : Dk) (n m : Nat) (k : Int) (hn : n ≤ a.1.length) (hm : m ≤ a.2.length) (ha : n ≤ 140737488351232) (hb : m ≤ 140737488351232) (hk : 0 ≤ k) (hk2 : k ≤ 4469000000000000000) : Fn pg 21 [.agg [.sl 0 [] 1 0 n, .sl 1 [] 2 0 m], .lit (.int .i64 k)] [(0, false, 1, rowS a.1), (1, false, 2, rowP a.2)] (.lit (.int .i64 (k + n + 2 * m))) [(0, false, 1, rowS (marks markT k a.1 n)), (1, false, 2, rowP (marksN mkPt two (k + n) a.2 m))] := by
  refine Fn.ofN [0,1,2,4] [0,1,1002] Try.func21 (by rfl) rfl (by show 2 ≤ 14; decide) (by rfl) ?_
  repeat' ((conv => whnf); first | (refine Exists.intro _ (And.intro rfl ?_)) | (refine And.intro (by first | exact True.intro | (simp (disch := (first | omega | fail)) only [List.length_cons, List.length_nil, modAt, List.nil_append, List.length_take, List.length_drop, List.length_map, List.length_append, List.length_set, List.length_replicate, len_rowsPart, len_setCell, len_marks, len_markL, len_mkL, len_marksN]; first | done | fail) | fail) ?_) | (refine Or.inr (Or.inr (callA_ok ?_)); (conv => whnf); apply Exists.intro; apply Exists.intro; apply And.intro; (repeat ((conv => whnf); first | refine And.intro (by first | omega | fail) ?_ | fail)); ((conv => whnf); first | exact FnB.mk (F_l_markStringS _ _ _ (by first | omega | fail) (by first | omega | fail) (by first | omega | fail) (by first | omega | fail)) | exact FnB.mk (F_l_markPutS _ _ _ (by first | omega | fail) (by first | omega | fail) (by first | omega | fail) (by first | omega | fail)) | fail); refine ⟨rfl, ?_⟩) | fail)
  refine .mk ⟨trivial, [], ⟨rfl, ?_⟩, List.nodup_nil, rfl, ?_⟩
  · show V.lit (.int .i64 _) = V.lit (.int .i64 _)
    congr 2; rw [stL_two, List.length_take]; omega
  · exact ⟨outOk_old (b := 0) (by decide) rfl, outOk_old (b := 1) (by decide) rfl, trivial⟩
theorem F_l_heldDisk (n : Nat) (b : List Pt) (k : Int) (ha : n ≤ 140737488351232) (hb : b.length ≤ 140737488351232) (hk : 0 ≤ k) (hk2 : k ≤ 4469000000000000000) : Fn pg 22 [.agg [.imm 1 (rowS (markL markT k n)), .imm 2 (rowP (mkL mkPt two (k + n) b))], .lit (.int .i64 k)] [] (.lit (.int .i64 (k + n + 2 * b.length))) [] := by
  have hst := stL_two b
  refine Fn.ofN [0,1,2,4,10,16] [1002] Try.func22 (by rfl) rfl (by show 2 ≤ 18; decide) (by rfl) ?_
  repeat' ((conv => whnf); first | (refine iteB_dec (fun h => ?_) (fun h => ?_) <;> (try simp (disch := (first | omega | fail)) only [modAt, List.nil_append, List.length_take, List.length_drop, List.length_map, List.length_append, List.length_set, List.length_replicate, len_rowsPart, len_setCell, len_marks, len_markL, len_mkL, len_marksN] at h)) | (refine Exists.intro _ (And.intro rfl ?_)) | (refine Or.inl ?_; apply callV_i; (repeat ((conv => whnf); first | refine And.intro (by first | omega | fail) ?_ | fail)); ((conv => whnf); first | exact FnB.mk (F_l_heldStringS_marked _ _ (by first | omega | fail) (by first | omega | fail) (by first | omega | fail)) | exact FnB.mk (F_l_heldPutS_marked _ _ (by first | omega | fail) (by first | omega | fail) (by first | omega | fail)) | fail); refine ⟨rfl, rfl, ?_⟩) | fail)
  all_goals first | (exfalso; omega) | skip | fail
  all_goals ((refine .mk ⟨trivial, [], ⟨rfl, ?_⟩, List.nodup_nil, rfl, trivial⟩; show V.lit _ = V.lit _); congr 2; rw [stL_two]; omega)


def isSec (x : Int) : Bool := decide (0 ≤ x) && decide (x ≤ 129)
def putOk (p : Pt) : Bool := isSec p.1 && decide (p.2.size = 64)
def dskOk (d : Dk) : Bool := decide (d.1.length = 130) && decide (d.2.length ≤ 200) && d.1.all (fun s => decide (s.size = 64)) && d.2.all putOk
theorem F_i_isSector (x : Int) : Fn pg 35 [.lit (.int .i64 x)] [] (.lit (.bool (isSec x))) [] := by
  refine Fn.ofN [0,2] [] Try.func35 (by rfl) rfl (by show 1 ≤ 5; decide) (by rfl) ?_
  repeat' ((conv => whnf); first | (refine Or.inl ?_; apply callV_i; (repeat ((conv => whnf); first | refine And.intro (by first | (with_reducible exact Nat.le_refl _) | fail) ?_ | fail)); ((conv => whnf); first | exact FnB.mk (F_i_inRange _ _ _) | fail); refine ⟨rfl, rfl, ?_⟩) | fail)
  all_goals ((refine .mk ⟨trivial, [], ⟨rfl, ?_⟩, List.nodup_nil, rfl, trivial⟩; show V.lit _ = V.lit _); first | (simp_all [isSec]; done) | fail)
theorem F_s_l15Sector (x : Int) : Fn pg 34 [.lit (.int .i64 x)] [] (.lit (.bool (isSec x))) [] := by
  refine Fn.ofN [0,2] [] Try.func34 (by rfl) rfl (by show 1 ≤ 5; decide) (by rfl) ?_
  repeat' ((conv => whnf); first | (refine Or.inl ?_; apply callV_i; (repeat ((conv => whnf); first | refine And.intro (by first | (with_reducible exact Nat.le_refl _) | fail) ?_ | fail)); ((conv => whnf); first | exact FnB.mk (F_s_l1In _ _ _) | fail); refine ⟨rfl, rfl, ?_⟩) | fail)
  all_goals ((refine .mk ⟨trivial, [], ⟨rfl, ?_⟩, List.nodup_nil, rfl, trivial⟩; show V.lit _ = V.lit _); first | (simp_all [isSec]; done) | fail)
theorem all_step {α : Type} {p : α → Bool} {xs : List α} {i : Nat} (h : i < xs.length) (ht : (xs.take i).all p = true) (hp : p xs[i] = true) : (xs.take (i + 1)).all p = true := by
  rw [List.take_succ_eq_append_getElem h, List.all_append, ht]; simp [hp]
theorem all_fail {α : Type} {p : α → Bool} {xs : List α} {i : Nat} (h : i < xs.length) (hp : p xs[i] = false) : xs.all p = false := by
  rw [← Bool.not_eq_true, List.all_eq_true]; intro hh; have := hh _ (List.getElem_mem h); simp_all
theorem all_end {α : Type} {p : α → Bool} {xs : List α} {i : Nat} (h : xs.length ≤ i) (ht : (xs.take i).all p = true) : xs.all p = true := by
  rwa [List.take_of_length_le h] at ht
theorem F_i_DiskOk (d : Dk) (hx : d.1.length ≤ 140737488351232) (hy : d.2.length ≤ 140737488351232) : Fn pg 13 [.agg [.imm 1 (rowS d.1), .imm 2 (rowP d.2)]] [] (.lit (.bool (dskOk d))) [] := by
  refine Fn.ofN [0,1,2,4,6,8,9,10,11,16,19,20,21,22,34] [1001,1006] Try.func13 (by rfl) rfl (by show 1 ≤ 46; decide) (by rfl) ?_
  repeat' ((conv => whnf); first | (refine Exists.intro _ (And.intro rfl ?_)) | fail)
  refine ⟨Nat, fun i => i ≤ d.1.length ∧ (d.1.take i).all (fun s => decide (s.size = 64)) = true, fun i => [(0, .agg [.imm 1 (rowS d.1), .imm 2 (rowP d.2)]), (1, .ptr 1001 [] 2 0 0), (8, .imm 1 (rowS d.1)), (9, .lit (.int .i64 d.1.length)), (10, .lit (.int .i64 i))], fun _ => [(1001, true, 2, [[.imm 1 (rowS d.1), .imm 2 (rowP d.2)]])], fun i => d.1.length - i, ⟨[], 0, by simp, ⟨rfl, rfl⟩, ⟨by first | rfl | fail, by first | rfl | fail, by first | rfl | fail, by first | (show V.lit (Value.int _ _) = V.lit (Value.int _ _); first | (congr 2; first | (simp only [List.length_map]; done) | fail) | fail) | fail, by first | rfl | fail, trivial⟩, ⟨rfl, trivial⟩⟩, ?_⟩
  intro i ⟨hi, hh⟩
  repeat' ((conv => whnf); first | (refine iteB_dec (fun h => ?_) (fun h => ?_) <;> (try simp (disch := (first | omega | fail)) only [modAt, List.nil_append, List.length_take, List.length_drop, List.length_map, List.length_append, List.length_set, List.length_replicate, len_rowsPart, len_setCell, len_marks, len_markL, len_mkL, len_marksN] at h)) | (refine Exists.intro _ (And.intro rfl ?_)) | (refine wrapB_i64 (by first | omega | fail) (by first | omega | fail) ?_) | (refine And.intro (by first | exact True.intro | omega | fail) ?_) | (refine Exists.intro _ (And.intro (rowGet _ _ _ (by omega)) ?_)) | fail)
  · (refine .mk ⟨trivial, [], ⟨rfl, ?_⟩, List.nodup_nil, rfl, trivial⟩; show V.lit _ = V.lit _)
    simp only [V.lit.injEq, Value.bool.injEq]
    have := all_fail (p := fun s : ByteArray => decide (s.size = 64)) (xs := d.1) (i := i) (by omega) (decide_eq_false (by omega))
    simp [dskOk, this]
  · exact ⟨[], i + 1, ⟨by omega, all_step (by omega) hh (decide_eq_true (by omega))⟩, ⟨⟨rfl, rfl⟩, ⟨by first | rfl | fail, by first | rfl | fail, by first | rfl | fail, by first | rfl | fail, by first | rfl | fail, trivial⟩, ⟨rfl, trivial⟩⟩, by first | (dsimp only; omega) | fail⟩
  have h1 := all_end (by omega) hh
  refine ⟨Nat, fun i => i ≤ d.2.length ∧ (d.2.take i).all putOk = true, fun i => [(0, .agg [.imm 1 (rowS d.1), .imm 2 (rowP d.2)]), (1, .ptr 1001 [] 2 0 0), (19, .imm 2 (rowP d.2)), (20, .lit (.int .i64 d.2.length)), (21, .lit (.int .i64 i))], fun _ => [(1001, true, 2, [[.imm 1 (rowS d.1), .imm 2 (rowP d.2)]])], fun i => d.2.length - i, ⟨[], 0, by simp, ⟨rfl, rfl⟩, ⟨by first | rfl | fail, by first | rfl | fail, by first | rfl | fail, by first | (show V.lit (Value.int _ _) = V.lit (Value.int _ _); first | (congr 2; first | (simp only [List.length_map]; done) | fail) | fail) | fail, by first | rfl | fail, trivial⟩, ⟨rfl, trivial⟩⟩, ?_⟩
  intro j ⟨hj, hh2⟩
  repeat' ((conv => whnf); first | (refine iteB_dec (fun h => ?_) (fun h => ?_) <;> (try simp (disch := (first | omega | fail)) only [modAt, List.nil_append, List.length_take, List.length_drop, List.length_map, List.length_append, List.length_set, List.length_replicate, len_rowsPart, len_setCell, len_marks, len_markL, len_mkL, len_marksN] at h)) | (refine iteB_not ?_) | (refine iteB_of (fun h => ?_) (fun h => ?_)) | (refine Exists.intro _ (And.intro rfl ?_)) | (refine wrapB_i64 (by first | omega | fail) (by first | omega | fail) ?_) | (refine And.intro (by first | exact True.intro | decide +kernel | omega | fail) ?_) | (refine Exists.intro _ (And.intro (rowGet _ _ _ (by omega)) ?_)) | (refine Or.inl ?_; apply callV_i; (repeat ((conv => whnf); first | refine And.intro (by first | omega | fail) ?_ | fail)); ((conv => whnf); first | exact FnB.mk (F_i_isSector _) | fail); refine ⟨rfl, rfl, ?_⟩) | fail)
  all_goals first
    | exact ⟨[], j + 1, ⟨by omega, all_step (by omega) hh2 (by simp [putOk, *]; omega)⟩, ⟨⟨rfl, rfl⟩, ⟨by first | rfl | fail, by first | rfl | fail, by first | rfl | fail, by first | rfl | fail, by first | rfl | fail, trivial⟩, ⟨rfl, trivial⟩⟩, by first | (dsimp only; omega) | fail⟩
    | ((refine .mk ⟨trivial, [], ⟨rfl, ?_⟩, List.nodup_nil, rfl, trivial⟩; show V.lit _ = V.lit _); rw [show dskOk d = false from by
        have := all_fail (p := putOk) (xs := d.2) (i := j) (by omega) (by simp [putOk, *]; try omega)
        simp [dskOk, this]]; done)
    | skip
  all_goals
    have h2 := all_end (by omega) hh2
    ((refine .mk ⟨trivial, [], ⟨rfl, ?_⟩, List.nodup_nil, rfl, trivial⟩; show V.lit _ = V.lit _); simp only [V.lit.injEq, Value.bool.injEq]; simp only [dskOk, h1, h2, Bool.and_true]; rw [Bool.eq_iff_iff]; simp only [Bool.and_eq_true, decide_eq_true_eq, List.length_map, Bool.false_eq_true]; grind)
theorem F_s_DiskOk (d : Dk) (hx : d.1.length ≤ 140737488351232) (hy : d.2.length ≤ 140737488351232) : Fn pg 32 [.agg [.imm 1 (rowS d.1), .imm 2 (rowP d.2)]] [] (.lit (.bool (dskOk d))) [] := by
  refine Fn.ofN [0,1,2,3,4,14,19,28,33,53] [1001] Try.func32 (by rfl) rfl (by show 1 ≤ 54; decide) (by rfl) ?_
  repeat' ((conv => whnf); first | (refine iteB_dec (fun h => ?_) (fun h => ?_) <;> (try simp (disch := (first | omega | fail)) only [modAt, List.nil_append, List.length_take, List.length_drop, List.length_map, List.length_append, List.length_set, List.length_replicate, len_rowsPart, len_setCell, len_marks, len_markL, len_mkL, len_marksN] at h)) | (refine Exists.intro _ (And.intro rfl ?_)) | fail)
  all_goals try ((refine .mk ⟨trivial, [], ⟨rfl, ?_⟩, List.nodup_nil, rfl, trivial⟩; show V.lit _ = V.lit _); simp only [V.lit.injEq, Value.bool.injEq]; simp only [dskOk]; simp_all <;> omega)
  refine ⟨Nat, fun i => i ≤ d.1.length ∧ (d.1.take i).all (fun s => decide (s.size = 64)) = true, fun i => [(0, .agg [.imm 1 (rowS d.1), .imm 2 (rowP d.2)]), (1, .ptr 1001 [] 2 0 0), (3, .lit (.int .i64 i))], fun _ => [(1001, true, 2, [[.imm 1 (rowS d.1), .imm 2 (rowP d.2)]])], fun i => d.1.length - i, ⟨[], 0, by simp, ⟨rfl, rfl⟩, ⟨by first | rfl | fail, by first | rfl | fail, by first | rfl | fail, trivial⟩, ⟨rfl, trivial⟩⟩, ?_⟩
  intro i ⟨hi, hh⟩
  repeat' ((conv => whnf); first | (refine iteB_dec (fun h => ?_) (fun h => ?_) <;> (try simp (disch := (first | omega | fail)) only [modAt, List.nil_append, List.length_take, List.length_drop, List.length_map, List.length_append, List.length_set, List.length_replicate, len_rowsPart, len_setCell, len_marks, len_markL, len_mkL, len_marksN] at h)) | (refine Exists.intro _ (And.intro rfl ?_)) | (refine wrapB_i64 (by first | omega | fail) (by first | omega | fail) ?_) | (refine And.intro (by first | exact True.intro | omega | fail) ?_) | (refine Exists.intro _ (And.intro (rowGet _ _ _ (by omega)) ?_)) | fail)
  · (refine .mk ⟨trivial, [], ⟨rfl, ?_⟩, List.nodup_nil, rfl, trivial⟩; show V.lit _ = V.lit _)
    simp only [V.lit.injEq, Value.bool.injEq]
    have := all_fail (p := fun s : ByteArray => decide (s.size = 64)) (xs := d.1) (i := i) (by omega) (decide_eq_false (by omega))
    simp [dskOk, this]
  · exact ⟨[], i + 1, ⟨by omega, all_step (by omega) hh (decide_eq_true (by omega))⟩, ⟨⟨rfl, rfl⟩, ⟨by first | rfl | fail, by first | rfl | fail, by first | rfl | fail, trivial⟩, ⟨rfl, trivial⟩⟩, by first | (dsimp only; omega) | fail⟩
  have h1 := all_end (by omega) hh
  refine ⟨Nat, fun i => i ≤ d.2.length ∧ (d.2.take i).all putOk = true, fun i => [(0, .agg [.imm 1 (rowS d.1), .imm 2 (rowP d.2)]), (1, .ptr 1001 [] 2 0 0), (4, .lit (.int .i64 i))], fun _ => [(1001, true, 2, [[.imm 1 (rowS d.1), .imm 2 (rowP d.2)]])], fun i => d.2.length - i, ⟨[], 0, by simp, ⟨rfl, rfl⟩, ⟨by first | rfl | fail, by first | rfl | fail, by first | rfl | fail, trivial⟩, ⟨rfl, trivial⟩⟩, ?_⟩
  intro j ⟨hj, hh2⟩
  repeat' ((conv => whnf); first | (refine iteB_dec (fun h => ?_) (fun h => ?_) <;> (try simp (disch := (first | omega | fail)) only [modAt, List.nil_append, List.length_take, List.length_drop, List.length_map, List.length_append, List.length_set, List.length_replicate, len_rowsPart, len_setCell, len_marks, len_markL, len_mkL, len_marksN] at h)) | (refine iteB_not ?_) | (refine iteB_of (fun h => ?_) (fun h => ?_)) | (refine Exists.intro _ (And.intro rfl ?_)) | (refine wrapB_i64 (by first | omega | fail) (by first | omega | fail) ?_) | (refine And.intro (by first | exact True.intro | omega | fail) ?_) | (refine Exists.intro _ (And.intro (rowGet _ _ _ (by omega)) ?_)) | (refine Or.inl ?_; apply callV_i; (repeat ((conv => whnf); first | refine And.intro (by first | omega | fail) ?_ | fail)); ((conv => whnf); first | exact FnB.mk (F_s_l15Sector _) | fail); refine ⟨rfl, rfl, ?_⟩) | fail)
  all_goals first
    | exact ⟨[], j + 1, ⟨by omega, all_step (by omega) hh2 (by simp [putOk, *]; omega)⟩, ⟨⟨rfl, rfl⟩, ⟨by first | rfl | fail, by first | rfl | fail, by first | rfl | fail, trivial⟩, ⟨rfl, trivial⟩⟩, by first | (dsimp only; omega) | fail⟩
    | ((refine .mk ⟨trivial, [], ⟨rfl, ?_⟩, List.nodup_nil, rfl, trivial⟩; show V.lit _ = V.lit _); rw [show dskOk d = false from by
        have := all_fail (p := putOk) (xs := d.2) (i := j) (by omega) (by simp [putOk, *]; try omega)
        simp [dskOk, this]]; done)
    | skip
  all_goals
    have h2 := all_end (by omega) hh2
    ((refine .mk ⟨trivial, [], ⟨rfl, ?_⟩, List.nodup_nil, rfl, trivial⟩; show V.lit _ = V.lit _); simp only [V.lit.injEq, Value.bool.injEq]; simp only [dskOk, h1, h2, Bool.and_true]; rw [Bool.eq_iff_iff]; simp only [Bool.and_eq_true, decide_eq_true_eq, List.length_map, Bool.false_eq_true]; grind)
theorem F_slices_Clone_string_string (xs : List ByteArray) (hx : xs.length * 16 ≤ 140737488351232) : Fn pg 62 [.imm 1 (rowS xs)] [] (.sl 500 [] 1 0 xs.length) [(500, false, 1, rowS xs)] := by
  refine Fn.ofN [0,2,4] [1002,1005,1007] Try.func62 (by rfl) rfl (by show 1 ≤ 8; decide) (by rfl) ?_
  repeat' ((conv => whnf); first | (refine And.intro (by first | exact True.intro | omega | (simp (disch := (first | omega | fail)) only [List.length_cons, List.length_nil, modAt, List.nil_append, List.length_take, List.length_drop, List.length_map, List.length_append, List.length_set, List.length_replicate, len_rowsPart, len_setCell, len_marks, len_markL, len_mkL, len_marksN]; first | omega | fail) | (apply litS; (repeat rfl); done) | fail) ?_) | (intro b hb; cases b <;> simp only [reduceCtorEq, forall_const, false_implies, List.length_map] at hb) | fail)
  · refine .mk ⟨trivial, [1005], ⟨rfl, ?_⟩, by simp, rfl, ?_⟩
    · show V.sl 500 [] 1 0 _ = V.sl 500 [] 1 0 _
      congr 1; simp
    refine ⟨?_, trivial⟩
    exact outOk_new (d := 1005) (by decide) rfl rfl
  · have : xs = [] := List.eq_nil_of_length_eq_zero (by simpa using hb)
    subst this
    refine .mk ⟨trivial, [1002], ⟨rfl, ?_⟩, by simp, rfl, ?_⟩
    · rfl
    exact ⟨outOk_new (d := 1002) (by decide) rfl rfl, trivial⟩
theorem F_slices_Clone_i_Put_i_Put (xs : List Pt) (hx : xs.length * 24 ≤ 140737488351232) : Fn pg 63 [.imm 2 (rowP xs)] [] (.sl 500 [] 2 0 xs.length) [(500, false, 2, rowP xs)] := by
  refine Fn.ofN [0,2,4] [1002,1005,1007] Try.func63 (by rfl) rfl (by show 1 ≤ 8; decide) (by rfl) ?_
  repeat' ((conv => whnf); first | (refine And.intro (by first | exact True.intro | omega | (simp (disch := (first | omega | fail)) only [List.length_cons, List.length_nil, modAt, List.nil_append, List.length_take, List.length_drop, List.length_map, List.length_append, List.length_set, List.length_replicate, len_rowsPart, len_setCell, len_marks, len_markL, len_mkL, len_marksN]; first | omega | fail) | (apply litP; (repeat rfl); done) | fail) ?_) | (intro b hb; cases b <;> simp only [reduceCtorEq, forall_const, false_implies, List.length_map] at hb) | fail)
  · refine .mk ⟨trivial, [1005], ⟨rfl, ?_⟩, by simp, rfl, ?_⟩
    · show V.sl 500 [] 2 0 _ = V.sl 500 [] 2 0 _
      congr 1; simp
    refine ⟨?_, trivial⟩
    exact outOk_new (d := 1005) (by decide) rfl rfl
  · have : xs = [] := List.eq_nil_of_length_eq_zero (by simpa using hb)
    subst this
    refine .mk ⟨trivial, [1002], ⟨rfl, ?_⟩, by simp, rfl, ?_⟩
    · rfl
    exact ⟨outOk_new (d := 1002) (by decide) rfl rfl, trivial⟩
theorem dskOk_puts {d : Dk} (h : dskOk d = true) : d.1.length = 130 ∧ d.2.length ≤ 200 ∧ ∀ p ∈ d.2, 0 ≤ p.1 ∧ p.1 < d.1.length := by
  simp only [dskOk, Bool.and_eq_true, decide_eq_true_eq] at h
  obtain ⟨⟨⟨h1, h2⟩, h3⟩, h4⟩ := h
  refine ⟨h1, h2, fun p hp => ?_⟩
  have := List.all_eq_true.1 h4 p hp
  simp only [putOk, isSec, Bool.and_eq_true, decide_eq_true_eq] at this
  omega
set_option maxHeartbeats 8000000
def putB (d : Dk) (at_ : Int) (s : ByteArray) : Bool := (isSec at_ && decide (s.size = 64)) && decide (d.2.length < 200)
theorem rowP_put (L : List Pt) (p : Pt) (n : Nat) (h : n = L.length) : List.take n (List.drop 0 (rowP L)) ++ [[V.lit (.int .i64 p.1), .lit (.string p.2)]] = rowP (L ++ [p]) := by
  subst h
  rw [List.drop_zero, show rowP (L ++ [p]) = rowP L ++ [[V.lit (.int .i64 p.1), .lit (.string p.2)]] from List.map_append, List.take_of_length_le (by rw [List.length_map]; exact Nat.le_refl _)]
theorem rowP_putL (L : List Pt) (p : Pt) (n : Nat) (h : n = L.length) : (List.take n (List.drop 0 (rowP L)) ++ [[V.lit (.int .i64 p.1), .lit (.string p.2)]]).length = L.length + 1 := by
  rw [rowP_put L p n h, List.length_map, List.length_append]; rfl
theorem outOk_ren {ds : List Nat} {B : Bs} {b s : Nat} {xs ys : Row} (hb : (decide (b < 500)) = true) (hB : B b = some (true, s, ys)) (hx : ys.map (renL (outName ds)) = xs) (hk : (ys.all fun c => namesL (knows ds) c) = true) : outOk ds B (b, true, s, xs) := by
  unfold outOk outId
  rw [if_pos (of_decide_eq_true hb)]
  simp only [Option.bind_some, hB]
  exact ⟨by rw [renBx, ← hx]; rfl, fun _ => hk⟩
theorem F_i_copyDisk (d : Dk) (hx : d.1.length * 16 ≤ 140737488351232) (hy : d.2.length * 24 ≤ 140737488351232) : Fn pg 30 [.agg [.imm 1 (rowS d.1), .imm 2 (rowP d.2)]] [] (.agg [.sl 500 [] 1 0 d.1.length, .sl 501 [] 2 0 d.2.length]) [(500, false, 1, rowS d.1), (501, false, 2, rowP d.2)] := by
  have h1 := F_slices_Clone_string_string d.1 hx
  have h2 := F_slices_Clone_i_Put_i_Put d.2 hy
  refine Fn.ofN [0,1,2] [1001,1002,1005,1008] Try.func30 (by rfl) rfl (by show 1 ≤ 10; decide) (by rfl) ?_
  repeat' ((conv => whnf); first | (refine Exists.intro _ (And.intro rfl ?_)) | (refine And.intro (by first | exact True.intro | decide +kernel | fail) ?_) | (refine Or.inr (Or.inl (Exists.intro 5 (Exists.intro [(0, true), (1, true), (3, true), (4, true), (2, false)] (And.intro (by decide +kernel) ?_))))) | (refine Or.inl ?_; apply callV_i; (repeat ((conv => whnf); first | refine And.intro (by first | omega | fail) ?_ | fail)); ((conv => whnf); first | exact FnB.mk (h1) | exact FnB.mk (h2) | fail); refine ⟨rfl, rfl, ?_⟩) | fail)
  refine .mk ⟨trivial, [1005, 1008], ⟨rfl, ?_⟩, by simp, rfl, ?_⟩
  · rfl
  · exact ⟨outOk_new (d := 1005) (by decide) rfl rfl, outOk_new (d := 1008) (by decide) rfl rfl, trivial⟩
theorem F_i_Disk_put_no (d : Dk) (c : Int) (s : ByteArray) (hb : putB d c s = false) : Fn pg 31 [.ptr 0 [] 2 0 0, .lit (.int .i64 c), .lit (.string s)] [(0, true, 2, [[.sl 1 [] 1 0 d.1.length, .sl 2 [] 2 0 d.2.length]]), (1, false, 1, rowS d.1), (2, false, 2, rowP d.2)] (.lit (.bool false)) [(0, true, 2, [[.sl 1 [] 1 0 d.1.length, .sl 2 [] 2 0 d.2.length]]), (1, false, 1, rowS d.1), (2, false, 2, rowP d.2)] := by
  have hS := F_i_isSector c
  unfold putB at hb
  generalize hi : isSec c = bi at hS hb
  refine Fn.ofN [0,1,2,6,22] [0,1,2,1031,1032] Try.func31 (by rfl) rfl (by show 3 ≤ 35; decide) (by rfl) ?_
  repeat' ((conv => whnf); first | (refine iteB_dec (fun h => ?_) (fun h => ?_) <;> (try simp (disch := (first | omega | fail)) only [modAt, List.nil_append, List.length_take, List.length_drop, List.length_map, List.length_append, List.length_set, List.length_replicate, len_rowsPart, len_setCell, len_marks, len_markL, len_mkL, len_marksN] at h) <;> (try (exfalso; omega))) | (refine iteB_not ?_) | (refine iteB_of (fun h => ?_) (fun h => ?_)) | (refine Exists.intro _ (And.intro rfl ?_)) | (refine And.intro (by first | exact True.intro | (simp (disch := (first | omega | fail)) only [List.length_cons, List.length_nil, modAt, List.nil_append, List.length_take, List.length_drop, List.length_map, List.length_append, List.length_set, List.length_replicate, len_rowsPart, len_setCell, len_marks, len_markL, len_mkL, len_marksN]; first | omega | fail) | exact Nat.le_refl _ | (apply litTwo; (repeat rfl); done) | fail) ?_) | (refine Or.inl ?_; apply callV_i; (repeat ((conv => whnf); first | refine And.intro (by first | omega | fail) ?_ | fail)); ((conv => whnf); first | exact FnB.mk (hS) | fail); refine ⟨rfl, rfl, ?_⟩) | fail)
  all_goals first | (exfalso; simp_all; omega) | (refine .mk ⟨trivial, [], ⟨rfl, ?_⟩, List.nodup_nil, rfl, ?_⟩; exact rfl; exact ⟨outOk_top (b := 0) (by decide) rfl rfl rfl, outOk_old (b := 1) (by decide) rfl, outOk_old (b := 2) (by decide) rfl, trivial⟩) | fail
theorem F_i_Disk_put_go (d : Dk) (c : Int) (s : ByteArray) (hb : putB d c s = true) : Fn pg 31 [.ptr 0 [] 2 0 0, .lit (.int .i64 c), .lit (.string s)] [(0, true, 2, [[.sl 1 [] 1 0 d.1.length, .sl 2 [] 2 0 d.2.length]]), (1, false, 1, rowS d.1), (2, false, 2, rowP d.2)] (.lit (.bool true)) [(0, true, 2, [[.sl 1 [] 1 0 d.1.length, .sl 500 [] 2 0 (d.2.length + 1)]]), (1, false, 1, rowS d.1), (500, false, 2, rowP (d.2 ++ [(c, s)]))] := by
  have hS := F_i_isSector c
  unfold putB at hb
  simp only [Bool.and_eq_true, decide_eq_true_eq] at hb
  obtain ⟨⟨h1, h2⟩, h3⟩ := hb
  rw [h1] at hS
  refine Fn.ofN [0,1,2,6,22] [0,1,2,1031,1032] Try.func31 (by rfl) rfl (by show 3 ≤ 35; decide) (by rfl) ?_
  repeat' ((conv => whnf); first | (refine iteB_dec (fun h => ?_) (fun h => ?_) <;> (try simp (disch := (first | omega | fail)) only [modAt, List.nil_append, List.length_take, List.length_drop, List.length_map, List.length_append, List.length_set, List.length_replicate, len_rowsPart, len_setCell, len_marks, len_markL, len_mkL, len_marksN] at h) <;> (try (exfalso; omega))) | (refine Exists.intro _ (And.intro rfl ?_)) | (refine And.intro (by first | exact True.intro | (simp (disch := (first | omega | fail)) only [List.length_cons, List.length_nil, modAt, List.nil_append, List.length_take, List.length_drop, List.length_map, List.length_append, List.length_set, List.length_replicate, len_rowsPart, len_setCell, len_marks, len_markL, len_mkL, len_marksN]; first | omega | fail) | exact Nat.le_refl _ | (apply litTwo; (repeat rfl); done) | fail) ?_) | (refine Or.inl ?_; apply callV_i; (repeat ((conv => whnf); first | refine And.intro (by first | omega | fail) ?_ | fail)); ((conv => whnf); first | exact FnB.mk (hS) | fail); refine ⟨rfl, rfl, ?_⟩) | fail)
  all_goals first | skip | fail
  refine .mk ⟨trivial, [1032], ⟨rfl, rfl⟩, by simp, rfl, ?_⟩
  exact ⟨outOk_ren (b := 0) (by decide) rfl (congrArg (fun n => [[V.sl 1 [] 1 0 d.1.length, V.sl 500 [] 2 0 n]]) (rowP_putL d.2 (c, s) _ rfl)) rfl, outOk_old (b := 1) (by decide) rfl, outOk_new (d := 1032) (by decide) rfl (boxEq (rowP_put d.2 (c, s) _ rfl)), trivial⟩
theorem F_s_l15Copy (d : Dk) (hx : d.1.length * 16 ≤ 140737488351232) (hy : d.2.length * 24 ≤ 140737488351232) : Fn pg 33 [.agg [.imm 1 (rowS d.1), .imm 2 (rowP d.2)]] [] (.agg [.sl 500 [] 1 0 d.1.length, .sl 501 [] 2 0 d.2.length]) [(500, false, 1, rowS d.1), (501, false, 2, rowP d.2)] := by
  refine Fn.ofN [0,1,2] [1001,1002,1003,1006,1007,1010] Try.func33 (by rfl) rfl (by show 1 ≤ 12; decide) (by rfl) ?_
  repeat' ((conv => whnf); first | (refine Exists.intro _ (And.intro rfl ?_)) | (refine And.intro (by first | exact True.intro | decide +kernel | omega | (simp (disch := (first | omega | fail)) only [List.length_cons, List.length_nil, modAt, List.nil_append, List.length_take, List.length_drop, List.length_map, List.length_append, List.length_set, List.length_replicate, len_rowsPart, len_setCell, len_marks, len_markL, len_mkL, len_marksN]; first | omega | fail) | (apply litS; (repeat rfl); done) | (apply litP; (repeat rfl); done) | fail) ?_) | (refine Or.inr (Or.inr (Or.inl (Exists.intro 7 (Exists.intro (.tell 1 (.tell 2 (.tell 5 (.tell 6 (.two 0 4 (.two 3 4 (.one 4 .nil) (.one 3 .nil)) (.one 0 (.one 3 .nil))))))) (And.intro (by decide +kernel) ?_)))))) | (refine twoI ?_ ?_) | (refine tzI ?_ ?_) | (refine (show (_ : Nat) = _ from ?_); first | rfl | fail) | fail)
  all_goals (conv => whnf)
  all_goals
    refine .mk ⟨trivial, [1003, 1007], ⟨rfl, ?_⟩, by simp, rfl, ?_⟩
    · show V.agg [V.sl 500 [] 1 0 (List.length (List.take 0 _ ++ rowS d.1)), V.sl 501 [] 2 0 (List.length (List.take 0 _ ++ rowP d.2))] = _
      simp only [List.take_zero, List.nil_append, List.length_map]
    · exact ⟨outOk_new (d := 1003) (by decide) rfl (boxEq rfl), outOk_new (d := 1007) (by decide) rfl (boxEq rfl), trivial⟩
theorem F_i_DiskPut_no (d : Dk) (c : Int) (s : ByteArray) (hx : d.1.length * 16 ≤ 140737488351232) (hy : d.2.length ≤ 140737488351232) (hok : dskOk d = false) : Fn pg 9 [.agg [.imm 1 (rowS d.1), .imm 2 (rowP d.2)], .lit (.int .i64 c), .lit (.string s)] [] (.tup [.agg [.imm 1 [], .imm 2 []], .lit (.bool false)]) [] := by
  have hF := F_i_DiskOk d (by omega) (by omega)
  have hG := F_s_DiskOk d (by omega) (by omega)
  rw [hok] at hF hG
  refine Fn.ofN [0,1,2,3,6,7,8,9,12] [1003,1006,1008,1015,2015] Try.func9 (by rfl) rfl (by show 3 ≤ 21; decide) (by rfl) ?_
  repeat' ((conv => whnf); first | (refine Exists.intro _ (And.intro rfl ?_)) | (refine And.intro (by first | exact True.intro | decide +kernel | fail) ?_) | (refine Or.inl ?_; apply callV_i; (repeat ((conv => whnf); first | refine And.intro (by first | omega | fail) ?_ | fail)); ((conv => whnf); first | exact FnB.mk (hF) | fail); refine ⟨rfl, rfl, ?_⟩) | fail)
  all_goals first | skip | fail
  refine .mk ⟨trivial, [], ⟨rfl, rfl⟩, List.nodup_nil, rfl, trivial⟩
theorem F_s_DiskPut_no (d : Dk) (c : Int) (s : ByteArray) (hx : d.1.length * 16 ≤ 140737488351232) (hy : d.2.length ≤ 140737488351232) (hok : dskOk d = false) : Fn pg 10 [.agg [.imm 1 (rowS d.1), .imm 2 (rowP d.2)], .lit (.int .i64 c), .lit (.string s)] [] (.tup [.agg [.imm 1 [], .imm 2 []], .lit (.bool false)]) [] := by
  have hF := F_i_DiskOk d (by omega) (by omega)
  have hG := F_s_DiskOk d (by omega) (by omega)
  rw [hok] at hF hG
  refine Fn.ofN [0,1,2,3,6,7,8,11,28] [1003,1006,1008,1014,1035,1036,2014] Try.func10 (by rfl) rfl (by show 3 ≤ 39; decide) (by rfl) ?_
  repeat' ((conv => whnf); first | (refine Exists.intro _ (And.intro rfl ?_)) | (refine And.intro (by first | exact True.intro | decide +kernel | fail) ?_) | (refine Or.inl ?_; apply callV_i; (repeat ((conv => whnf); first | refine And.intro (by first | omega | fail) ?_ | fail)); ((conv => whnf); first | exact FnB.mk (hG) | fail); refine ⟨rfl, rfl, ?_⟩) | fail)
  all_goals first | skip | fail
  refine .mk ⟨trivial, [], ⟨rfl, rfl⟩, List.nodup_nil, rfl, trivial⟩
theorem F_i_DiskPut_stay (d : Dk) (c : Int) (s : ByteArray) (hx : d.1.length * 16 ≤ 140737488351232) (hy : d.2.length * 24 ≤ 140737488351232) (hok : dskOk d = true) (hb : putB d c s = false) : Fn pg 9 [.agg [.imm 1 (rowS d.1), .imm 2 (rowP d.2)], .lit (.int .i64 c), .lit (.string s)] [] (.tup [.agg [.sl 500 [] 1 0 d.1.length, .sl 501 [] 2 0 d.2.length], .lit (.bool false)]) [(500, false, 1, rowS d.1), (501, false, 2, rowP d.2)] := by
  have hF := F_i_DiskOk d (by omega) (by omega)
  rw [hok] at hF
  have hC := F_i_copyDisk d hx hy
  have hP := F_i_Disk_put_no d c s hb
  refine Fn.ofN [0,1,2,3,6,7,8,9,12] [1003,1006,1008,1015,2015] Try.func9 (by rfl) rfl (by show 3 ≤ 21; decide) (by rfl) ?_
  repeat' ((conv => whnf); first | (refine Exists.intro _ (And.intro rfl ?_)) | (refine And.intro (by first | exact True.intro | decide +kernel | (simp (disch := (first | omega | fail)) only [List.length_cons, List.length_nil, modAt, List.nil_append, List.length_take, List.length_drop, List.length_map, List.length_append, List.length_set, List.length_replicate, len_rowsPart, len_setCell, len_marks, len_markL, len_mkL, len_marksN]; first | done | fail) | fail) ?_) | (refine Or.inl ?_; apply callV_i; (repeat ((conv => whnf); first | refine And.intro (by first | omega | (simp (disch := (first | omega | fail)) only [List.length_cons, List.length_nil, modAt, List.nil_append, List.length_take, List.length_drop, List.length_map, List.length_append, List.length_set, List.length_replicate, len_rowsPart, len_setCell, len_marks, len_markL, len_mkL, len_marksN]; first | omega | fail) | fail) ?_ | refine Exists.intro _ (And.intro rfl ?_) | fail)); ((conv => whnf); first | exact FnB.mk (hF) | exact FnB.mk (hC) | fail); refine ⟨rfl, rfl, ?_⟩) | (refine Or.inr (Or.inr (callA_ok ?_)); (conv => whnf); apply Exists.intro; apply Exists.intro; apply And.intro; (repeat ((conv => whnf); first | refine And.intro (by first | omega | fail) ?_ | fail)); ((conv => whnf); first | exact FnB.mk (hP) | fail); refine ⟨rfl, ?_⟩) | fail)
  refine .mk ⟨trivial, [1015, 2015], ⟨rfl, ?_⟩, by simp, rfl, ?_⟩
  · rfl
  · exact ⟨outOk_new (d := 1015) (by decide) rfl rfl, outOk_new (d := 2015) (by decide) rfl rfl, trivial⟩
theorem F_i_DiskPut_go (d : Dk) (c : Int) (s : ByteArray) (hx : d.1.length * 16 ≤ 140737488351232) (hy : d.2.length * 24 ≤ 140737488351232) (hok : dskOk d = true) (hb : putB d c s = true) : Fn pg 9 [.agg [.imm 1 (rowS d.1), .imm 2 (rowP d.2)], .lit (.int .i64 c), .lit (.string s)] [] (.tup [.agg [.sl 500 [] 1 0 d.1.length, .sl 501 [] 2 0 (d.2.length + 1)], .lit (.bool true)]) [(500, false, 1, rowS d.1), (501, false, 2, rowP (d.2 ++ [(c, s)]))] := by
  have hF := F_i_DiskOk d (by omega) (by omega)
  rw [hok] at hF
  have hC := F_i_copyDisk d hx hy
  have hP := F_i_Disk_put_go d c s hb
  refine Fn.ofN [0,1,2,3,6,7,8,9,12] [1018,1003,1006,1008,1015,2015] Try.func9 (by rfl) rfl (by show 3 ≤ 21; decide) (by rfl) ?_
  repeat' ((conv => whnf); first | (refine Exists.intro _ (And.intro rfl ?_)) | (refine And.intro (by first | exact True.intro | decide +kernel | (simp (disch := (first | omega | fail)) only [List.length_cons, List.length_nil, modAt, List.nil_append, List.length_take, List.length_drop, List.length_map, List.length_append, List.length_set, List.length_replicate, len_rowsPart, len_setCell, len_marks, len_markL, len_mkL, len_marksN]; first | done | fail) | fail) ?_) | (refine Or.inl ?_; apply callV_i; (repeat ((conv => whnf); first | refine And.intro (by first | omega | (simp (disch := (first | omega | fail)) only [List.length_cons, List.length_nil, modAt, List.nil_append, List.length_take, List.length_drop, List.length_map, List.length_append, List.length_set, List.length_replicate, len_rowsPart, len_setCell, len_marks, len_markL, len_mkL, len_marksN]; first | omega | fail) | fail) ?_ | refine Exists.intro _ (And.intro rfl ?_) | fail)); ((conv => whnf); first | exact FnB.mk (hF) | exact FnB.mk (hC) | fail); refine ⟨rfl, rfl, ?_⟩) | (refine Or.inr (Or.inr (callA_ok ?_)); (conv => whnf); apply Exists.intro; apply Exists.intro; apply And.intro; (repeat ((conv => whnf); first | refine And.intro (by first | omega | fail) ?_ | fail)); ((conv => whnf); first | exact FnB.mk (hP) | fail); refine ⟨rfl, ?_⟩) | fail)
  refine .mk ⟨trivial, [1015, 1018], ⟨rfl, ?_⟩, by simp, rfl, ?_⟩
  · rfl
  · exact ⟨outOk_new (d := 1015) (by decide) rfl rfl, outOk_new (d := 1018) (by decide) rfl rfl, trivial⟩
theorem F_s_DiskPut_stay (d : Dk) (c : Int) (s : ByteArray) (hx : d.1.length * 16 ≤ 140737488351232) (hy : d.2.length * 24 ≤ 140737488351232) (hok : dskOk d = true) (hb : putB d c s = false) : Fn pg 10 [.agg [.imm 1 (rowS d.1), .imm 2 (rowP d.2)], .lit (.int .i64 c), .lit (.string s)] [] (.tup [.agg [.sl 500 [] 1 0 d.1.length, .sl 501 [] 2 0 d.2.length], .lit (.bool false)]) [(500, false, 1, rowS d.1), (501, false, 2, rowP d.2)] := by
  have hF := F_s_DiskOk d (by omega) (by omega)
  rw [hok] at hF
  have hC := F_s_l15Copy d hx hy
  have hS := F_s_l15Sector c
  have hput := dskOk_puts hok
  unfold putB at hb
  generalize hi : isSec c = bi at hS hb
  refine Fn.ofN [0,1,2,3,6,7,8,11,28] [1003,1006,1008,1014,1035,1036,2014] Try.func10 (by rfl) rfl (by show 3 ≤ 39; decide) (by rfl) ?_
  repeat' ((conv => whnf); first | (refine iteB_dec (fun h => ?_) (fun h => ?_) <;> (try simp (disch := (first | omega | fail)) only [modAt, List.nil_append, List.length_take, List.length_drop, List.length_map, List.length_append, List.length_set, List.length_replicate, len_rowsPart, len_setCell, len_marks, len_markL, len_mkL, len_marksN] at h) <;> (try (exfalso; omega))) | (refine iteB_not ?_) | (refine iteB_of (fun h => ?_) (fun h => ?_)) | (refine Exists.intro _ (And.intro rfl ?_)) | (refine And.intro (by first | exact True.intro | decide +kernel | (simp (disch := (first | omega | fail)) only [List.length_cons, List.length_nil, modAt, List.nil_append, List.length_take, List.length_drop, List.length_map, List.length_append, List.length_set, List.length_replicate, len_rowsPart, len_setCell, len_marks, len_markL, len_mkL, len_marksN]; first | omega | fail) | exact Nat.le_refl _ | (apply litTwo; (repeat rfl); done) | fail) ?_) | (refine Or.inl ?_; apply callV_i; (repeat ((conv => whnf); first | refine And.intro (by first | omega | fail) ?_ | fail)); ((conv => whnf); first | exact FnB.mk (hF) | exact FnB.mk (hC) | exact FnB.mk (hS) | fail); refine ⟨rfl, rfl, ?_⟩) | fail)
  all_goals first | (exfalso; simp_all; omega) | skip | fail
  all_goals (refine .mk ⟨trivial, [1014, 2014], ⟨rfl, ?_⟩, by simp, rfl, ?_⟩; exact rfl; exact ⟨outOk_new (d := 1014) (by decide) rfl rfl, outOk_new (d := 2014) (by decide) rfl rfl, trivial⟩)
theorem F_s_DiskPut_go (d : Dk) (c : Int) (s : ByteArray) (hx : d.1.length * 16 ≤ 140737488351232) (hy : d.2.length * 24 ≤ 140737488351232) (hok : dskOk d = true) (hb : putB d c s = true) : Fn pg 10 [.agg [.imm 1 (rowS d.1), .imm 2 (rowP d.2)], .lit (.int .i64 c), .lit (.string s)] [] (.tup [.agg [.sl 500 [] 1 0 d.1.length, .sl 501 [] 2 0 (d.2.length + 1)], .lit (.bool true)]) [(500, false, 1, rowS d.1), (501, false, 2, rowP (d.2 ++ [(c, s)]))] := by
  have hF := F_s_DiskOk d (by omega) (by omega)
  rw [hok] at hF
  have hC := F_s_l15Copy d hx hy
  have hS := F_s_l15Sector c
  unfold putB at hb
  simp only [Bool.and_eq_true, decide_eq_true_eq] at hb
  obtain ⟨⟨h1, h2⟩, h3⟩ := hb
  rw [h1] at hS
  refine Fn.ofN [0,1,2,3,6,7,8,11,28] [1003,1006,1008,1014,1035,1036,2014] Try.func10 (by rfl) rfl (by show 3 ≤ 39; decide) (by rfl) ?_
  repeat' ((conv => whnf); first | (refine iteB_dec (fun h => ?_) (fun h => ?_) <;> (try simp (disch := (first | omega | fail)) only [modAt, List.nil_append, List.length_take, List.length_drop, List.length_map, List.length_append, List.length_set, List.length_replicate, len_rowsPart, len_setCell, len_marks, len_markL, len_mkL, len_marksN] at h) <;> (try (exfalso; omega))) | (refine Exists.intro _ (And.intro rfl ?_)) | (refine And.intro (by first | exact True.intro | decide +kernel | (simp (disch := (first | omega | fail)) only [List.length_cons, List.length_nil, modAt, List.nil_append, List.length_take, List.length_drop, List.length_map, List.length_append, List.length_set, List.length_replicate, len_rowsPart, len_setCell, len_marks, len_markL, len_mkL, len_marksN]; first | omega | fail) | exact Nat.le_refl _ | (apply litTwo; (repeat rfl); done) | fail) ?_) | (refine Or.inl ?_; apply callV_i; (repeat ((conv => whnf); first | refine And.intro (by first | omega | fail) ?_ | fail)); ((conv => whnf); first | exact FnB.mk (hF) | exact FnB.mk (hC) | exact FnB.mk (hS) | fail); refine ⟨rfl, rfl, ?_⟩) | fail)
  all_goals first | skip | fail
  refine .mk ⟨trivial, [1014, 2014], ⟨rfl, ?_⟩, by simp, rfl, ?_⟩
  · exact congrArg (fun n => V.tup [V.agg [V.sl 500 [] 1 0 d.1.length, V.sl 501 [] 2 0 n], V.lit (.bool true)]) (rowP_putL d.2 (c, s) _ rfl)
  · exact ⟨outOk_new (d := 1014) (by decide) rfl rfl, outOk_new (d := 2014) (by decide) rfl (boxEq (rowP_put d.2 (c, s) _ rfl)), trivial⟩


theorem F_l_markStringS_nil (k : Int) : Fn pg 52 [.imm 1 [], .lit (.int .i64 k)] [] (.lit (.int .i64 k)) [] := by
  refine Fn.ofN [0,1,4,5,9] [] Try.func52 (by rfl) rfl (by show 2 ≤ 20; decide) (by rfl) ?_
  repeat' ((conv => whnf); first | (refine iteB_dec (fun h => ?_) (fun h => ?_) <;> (try simp (disch := (first | omega | fail)) only [modAt, List.nil_append, List.length_take, List.length_drop, List.length_map, List.length_append, List.length_set, List.length_replicate, len_rowsPart, len_setCell, len_marks, len_markL, len_mkL, len_marksN] at h)) | fail)
  refine ⟨Unit, fun _ => True, fun _ => [(0, .imm 1 []), (1, .lit (.int .i64 k)), (5, .lit (.int .i64 0))], fun _ => [], fun _ => 0, ⟨[], (), trivial, ⟨rfl, rfl⟩, ⟨by first | rfl | fail, by first | rfl | fail, by first | rfl | fail, trivial⟩, trivial⟩, ?_⟩
  intro _ _
  repeat' ((conv => whnf); first | (refine iteB_dec (fun h => ?_) (fun h => ?_) <;> (try simp (disch := (first | omega | fail)) only [modAt, List.nil_append, List.length_take, List.length_drop, List.length_map, List.length_append, List.length_set, List.length_replicate, len_rowsPart, len_setCell, len_marks, len_markL, len_mkL, len_marksN] at h)) | fail)
  all_goals first | skip | fail
  all_goals ((refine .mk ⟨trivial, [], ⟨rfl, ?_⟩, List.nodup_nil, rfl, trivial⟩; show V.lit _ = V.lit _); rfl)
theorem F_l_markPutS_nil (k : Int) : Fn pg 53 [.imm 2 [], .lit (.int .i64 k)] [] (.lit (.int .i64 k)) [] := by
  refine Fn.ofN [0,1,4,5,9] [] Try.func53 (by rfl) rfl (by show 2 ≤ 28; decide) (by rfl) ?_
  repeat' ((conv => whnf); first | (refine iteB_dec (fun h => ?_) (fun h => ?_) <;> (try simp (disch := (first | omega | fail)) only [modAt, List.nil_append, List.length_take, List.length_drop, List.length_map, List.length_append, List.length_set, List.length_replicate, len_rowsPart, len_setCell, len_marks, len_markL, len_mkL, len_marksN] at h)) | fail)
  refine ⟨Unit, fun _ => True, fun _ => [(0, .imm 2 []), (1, .lit (.int .i64 k)), (5, .lit (.int .i64 0))], fun _ => [], fun _ => 0, ⟨[], (), trivial, ⟨rfl, rfl⟩, ⟨by first | rfl | fail, by first | rfl | fail, by first | rfl | fail, trivial⟩, trivial⟩, ?_⟩
  intro _ _
  repeat' ((conv => whnf); first | (refine iteB_dec (fun h => ?_) (fun h => ?_) <;> (try simp (disch := (first | omega | fail)) only [modAt, List.nil_append, List.length_take, List.length_drop, List.length_map, List.length_append, List.length_set, List.length_replicate, len_rowsPart, len_setCell, len_marks, len_markL, len_mkL, len_marksN] at h)) | fail)
  all_goals first | skip | fail
  all_goals ((refine .mk ⟨trivial, [], ⟨rfl, ?_⟩, List.nodup_nil, rfl, trivial⟩; show V.lit _ = V.lit _); rfl)
theorem F_l_markDisk_nil (k : Int) : Fn pg 21 [.agg [.imm 1 [], .imm 2 []], .lit (.int .i64 k)] [] (.lit (.int .i64 k)) [] := by
  refine Fn.ofN [0,1,2,4] [1002] Try.func21 (by rfl) rfl (by show 2 ≤ 14; decide) (by rfl) ?_
  repeat' ((conv => whnf); first | (refine Exists.intro _ (And.intro rfl ?_)) | (refine Or.inl ?_; apply callV_i; (repeat ((conv => whnf); first | refine And.intro (by first | (with_reducible exact Nat.le_refl _) | fail) ?_ | fail)); ((conv => whnf); first | exact FnB.mk (F_l_markStringS_nil _) | exact FnB.mk (F_l_markPutS_nil _) | fail); refine ⟨rfl, rfl, ?_⟩) | fail)
  all_goals ((refine .mk ⟨trivial, [], ⟨rfl, ?_⟩, List.nodup_nil, rfl, trivial⟩; show V.lit _ = V.lit _); rfl)
theorem F_l_FnExactDiskPut (d : Dk) (c : Int) (s : ByteArray) (hs : (d.1.length * 16 ≤ 140737488351232 ∧ ∀ x ∈ d.1, x.size ≤ 140737488351232) ∧ (d.2.length * 24 ≤ 140737488351232 ∧ ∀ x ∈ d.2, (Lit.int .i64 x.1).wf = true ∧ x.2.size ≤ 140737488351232)) : Fn pg 5 [.agg [.imm 1 (rowS d.1), .imm 2 (rowP d.2)], .lit (.int .i64 c), .lit (.string s)] [] (.lit (.bool true)) [] := by
  obtain ⟨⟨h1, h2⟩, h3, h4⟩ := hs
  have h5 : ∀ x ∈ d.2, x.2.size ≤ 140737488351232 := fun x hx => (h4 x hx).2
  have hZ := F_l_szDisk d 1048576 (by omega) (by omega) (by decide) (by decide) h2 h5
  cases hok : dskOk d with
  | true =>
    obtain ⟨g1, g2, g3⟩ := dskOk_puts hok
    cases hb : putB d c s with
    | false =>
      have hE := F_l_eqDisk d d (by omega) (by omega) (by omega) (by omega)
      have hH := F_l_heldDisk d.1.length d.2 1 (by omega) (by omega) (by decide) (by decide)
      have hI := F_i_DiskPut_stay d c s h1 h3 hok hb
      have hS := F_s_DiskPut_stay d c s h1 h3 hok hb
      refine Fn.ofN [0,1,2,3,6,7,8,9,10,11,12,13,14,15,16,17,20,25,51,56,72,80,83,100,105,108] [1003,1008,1010,1011,1016,1028,1031,1035,1040,1054,1086,1089,2028,2031,2035,2040,2054,2086,2089] Try.func5 (by rfl) rfl (by show 3 ≤ 109; decide) (by rfl) ?_
      repeat' ((conv => whnf); first | (refine iteB_dec (fun h => ?_) (fun h => ?_) <;> (try simp (disch := (first | omega | fail)) only [modAt, List.nil_append, List.length_take, List.length_drop, List.length_map, List.length_append, List.length_set, List.length_replicate, len_rowsPart, len_setCell, len_marks, len_markL, len_mkL, len_marksN] at h)) | (refine iteB_not ?_) | (refine Exists.intro _ (And.intro rfl ?_)) | (refine And.intro (by first | exact True.intro | decide +kernel | (simp (disch := (first | omega | fail)) only [List.length_cons, List.length_nil, modAt, List.nil_append, List.length_take, List.length_drop, List.length_map, List.length_append, List.length_set, List.length_replicate, len_rowsPart, len_setCell, len_marks, len_markL, len_mkL, len_marksN]; first | done | fail) | fail) ?_) | (refine Or.inr (Or.inl (Exists.intro 3 (Exists.intro [(0, true), (1, true), (2, false)] (And.intro (by decide +kernel) ?_))))) | (refine Or.inl ?_; apply callV_i; (repeat ((conv => whnf); first | refine And.intro (by first | omega | (simp (disch := (first | omega | fail)) only [List.length_cons, List.length_nil, modAt, List.nil_append, List.length_take, List.length_drop, List.length_map, List.length_append, List.length_set, List.length_replicate, len_rowsPart, len_setCell, len_marks, len_markL, len_mkL, len_marksN]; first | omega | fail) | fail) ?_ | fail)); ((conv => whnf); first | exact FnB.mk (hZ) | exact FnB.mk (F_l_toDisk _ (by first | omega | fail) (by first | omega | fail)) | (simp (disch := (first | omega | fail)) only [takeAll, takeAll2, take_app, take_app2, take_marks, take_marksN]; first | exact FnB.mk (hI) | exact FnB.mk (hS) | exact FnB.mk (hE) | exact FnB.mk (F_l_heldDisk _ _ _ (by first | omega | fail) (by first | (simp; omega) | fail) (by first | omega | fail) (by first | omega | fail)) | fail) | fail); refine ⟨rfl, rfl, ?_⟩) | (refine Or.inr (Or.inr (callA_ok ?_)); (conv => whnf); apply Exists.intro; apply Exists.intro; apply And.intro; (repeat ((conv => whnf); first | refine And.intro (by first | omega | fail) ?_ | fail)); ((conv => whnf); first | exact FnB.mk (F_l_markDisk _ _ _ _ (by first | omega | fail) (by first | omega | fail) (by first | omega | fail) (by first | omega | fail) (by first | omega | fail) (by first | omega | fail)) | fail); refine ⟨rfl, ?_⟩) | fail)
      all_goals first | (exfalso; first | contradiction | omega | fail) | (refine .mk ⟨trivial, [], ⟨rfl, rfl⟩, List.nodup_nil, rfl, trivial⟩) | fail
    | true =>
      have hl : (d.2 ++ [(c, s)]).length = d.2.length + 1 := by rw [List.length_append]; rfl
      have hE := F_l_eqDisk (d.1, d.2 ++ [(c, s)]) (d.1, d.2 ++ [(c, s)]) (by dsimp only; omega) (by dsimp only; omega) (by dsimp only; omega) (by dsimp only; omega)
      have hH := F_l_heldDisk d.1.length (d.2 ++ [(c, s)]) 1 (by omega) (by omega) (by decide) (by decide)
      have hI := F_i_DiskPut_go d c s h1 h3 hok hb
      have hS := F_s_DiskPut_go d c s h1 h3 hok hb
      rw [← hl] at hI hS
      have hM := F_l_markDisk (d.1, d.2 ++ [(c, s)]) d.1.length (d.2 ++ [(c, s)]).length 1 (Nat.le_refl _) (Nat.le_refl _) (by omega) (by omega) (by decide) (by decide)
      refine Fn.ofN [0,1,2,3,6,7,8,9,10,11,12,13,14,15,16,17,20,25,51,56,72,80,83,100,105,108] [1003,1008,1010,1011,1016,1028,1031,1035,1040,1054,1086,1089,2028,2031,2035,2040,2054,2086,2089] Try.func5 (by rfl) rfl (by show 3 ≤ 109; decide) (by rfl) ?_
      repeat' ((conv => whnf); first | (refine iteB_dec (fun h => ?_) (fun h => ?_) <;> (try simp (disch := (first | omega | fail)) only [modAt, List.nil_append, List.length_take, List.length_drop, List.length_map, List.length_append, List.length_set, List.length_replicate, len_rowsPart, len_setCell, len_marks, len_markL, len_mkL, len_marksN] at h)) | (refine iteB_not ?_) | (refine Exists.intro _ (And.intro rfl ?_)) | (refine And.intro (by first | exact True.intro | decide +kernel | (simp (disch := (first | omega | fail)) only [List.length_cons, List.length_nil, modAt, List.nil_append, List.length_take, List.length_drop, List.length_map, List.length_append, List.length_set, List.length_replicate, len_rowsPart, len_setCell, len_marks, len_markL, len_mkL, len_marksN]; first | done | fail) | fail) ?_) | (refine Or.inr (Or.inl (Exists.intro 3 (Exists.intro [(0, true), (1, true), (2, false)] (And.intro (by decide +kernel) ?_))))) | (refine Or.inl ?_; apply callV_i; (repeat ((conv => whnf); first | refine And.intro (by first | omega | (simp (disch := (first | omega | fail)) only [List.length_cons, List.length_nil, modAt, List.nil_append, List.length_take, List.length_drop, List.length_map, List.length_append, List.length_set, List.length_replicate, len_rowsPart, len_setCell, len_marks, len_markL, len_mkL, len_marksN]; first | omega | fail) | fail) ?_ | fail)); ((conv => whnf); first | exact FnB.mk (hZ) | exact FnB.mk (F_l_toDisk _ (by first | omega | fail) (by first | omega | fail)) | (simp (disch := (first | omega | fail)) only [takeAll, takeAll2, take_app, take_app2, take_marks, take_marksN]; first | exact FnB.mk (hI) | exact FnB.mk (hS) | exact FnB.mk (hE) | exact FnB.mk (F_l_eqDisk _ _ (by first | omega | fail) (by first | omega | fail) (by first | omega | fail) (by first | omega | fail)) | exact FnB.mk (F_l_heldDisk _ _ _ (by first | omega | fail) (by first | (simp; omega) | fail) (by first | omega | fail) (by first | omega | fail)) | fail) | fail); refine ⟨rfl, rfl, ?_⟩) | (refine Or.inr (Or.inr (callA_ok ?_)); (conv => whnf); apply Exists.intro; apply Exists.intro; apply And.intro; (repeat ((conv => whnf); first | refine And.intro (by first | omega | fail) ?_ | fail)); ((conv => whnf); first | exact FnB.mk (hM) | exact FnB.mk (F_l_markDisk _ _ _ _ (by first | omega | fail) (by first | omega | fail) (by first | omega | fail) (by first | omega | fail) (by first | omega | fail) (by first | omega | fail)) | fail); refine ⟨rfl, ?_⟩) | fail)
      all_goals first | (exfalso; first | contradiction | omega | fail) | (refine .mk ⟨trivial, [], ⟨rfl, rfl⟩, List.nodup_nil, rfl, trivial⟩) | fail
  | false =>
    have hE := F_l_eqDisk (([], []) : Dk) ([], []) (Nat.zero_le _) (Nat.zero_le _) (Nat.zero_le _) (Nat.zero_le _)
    have hH := F_l_heldDisk 0 [] 1 (by decide) (by decide) (by decide) (by decide)
    have hI := F_i_DiskPut_no d c s h1 (by omega) hok
    have hS := F_s_DiskPut_no d c s h1 (by omega) hok
    refine Fn.ofN [0,1,2,3,6,7,8,9,10,11,12,13,14,15,16,17,20,25,51,56,72,80,83,100,105,108] [1003,1008,1010,1011,1016,1028,1031,1035,1040,1054,1086,1089,2028,2031,2035,2040,2054,2086,2089] Try.func5 (by rfl) rfl (by show 3 ≤ 109; decide) (by rfl) ?_
    repeat' ((conv => whnf); first | (refine iteB_dec (fun h => ?_) (fun h => ?_) <;> (try simp (disch := (first | omega | fail)) only [modAt, List.nil_append, List.length_take, List.length_drop, List.length_map, List.length_append, List.length_set, List.length_replicate, len_rowsPart, len_setCell, len_marks, len_markL, len_mkL, len_marksN] at h)) | (refine iteB_not ?_) | (refine Exists.intro _ (And.intro rfl ?_)) | (refine And.intro (by first | exact True.intro | decide +kernel | (simp (disch := (first | omega | fail)) only [List.length_cons, List.length_nil, modAt, List.nil_append, List.length_take, List.length_drop, List.length_map, List.length_append, List.length_set, List.length_replicate, len_rowsPart, len_setCell, len_marks, len_markL, len_mkL, len_marksN]; first | done | fail) | fail) ?_) | (refine Or.inr (Or.inl (Exists.intro 3 (Exists.intro [(0, true), (1, true), (2, false)] (And.intro (by decide +kernel) ?_))))) | (refine Or.inl ?_; apply callV_i; (repeat ((conv => whnf); first | refine And.intro (by first | omega | (simp (disch := (first | omega | fail)) only [List.length_cons, List.length_nil, modAt, List.nil_append, List.length_take, List.length_drop, List.length_map, List.length_append, List.length_set, List.length_replicate, len_rowsPart, len_setCell, len_marks, len_markL, len_mkL, len_marksN]; first | omega | fail) | fail) ?_ | fail)); ((conv => whnf); first | exact FnB.mk (hZ) | exact FnB.mk (hE) | exact FnB.mk (hH) | exact FnB.mk (F_l_toDisk _ (by first | omega | fail) (by first | omega | fail)) | exact FnB.mk (F_l_markDisk_nil _) | (simp (disch := (first | omega | fail)) only [takeAll, takeAll2, take_app, take_app2, take_marks, take_marksN]; first | exact FnB.mk (hI) | exact FnB.mk (hS) | exact FnB.mk (F_l_eqDisk _ _ (by first | omega | fail) (by first | omega | fail) (by first | omega | fail) (by first | omega | fail)) | fail) | fail); refine ⟨rfl, rfl, ?_⟩) | (refine Or.inr (Or.inr (callA_ok ?_)); (conv => whnf); apply Exists.intro; apply Exists.intro; apply And.intro; (repeat ((conv => whnf); first | refine And.intro (by first | omega | fail) ?_ | fail)); ((conv => whnf); first | exact FnB.mk (F_l_markDisk _ _ _ _ (by first | omega | fail) (by first | omega | fail) (by first | omega | fail) (by first | omega | fail) (by first | omega | fail) (by first | omega | fail)) | fail); refine ⟨rfl, ?_⟩) | fail)
    all_goals first | (exfalso; first | contradiction | fail) | (refine .mk ⟨trivial, [], ⟨rfl, rfl⟩, List.nodup_nil, rfl, trivial⟩) | fail


end Go.Proofs.Ytniibpihbopehaa.M

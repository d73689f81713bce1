/- Walks of the program's functions, by the small machine: what one law's proof needs. -/
import Derived.Test.YtpmcmooaokkojaaQ2
import Derived.Test.YtpmcmooaokkojaaL0
import Derived.Test.YtpmcmooaokkojaaHD
namespace Go.Proofs.Ytpmcmooaokkojaa.M
open Go
set_option maxHeartbeats 1000000
set_option maxRecDepth 20000
set_option linter.unusedVariables false
set_option linter.unusedSimpArgs false
theorem rowGet {α : Type} (E : α → List V) (xs : List α) (i : Nat) (h : i < xs.length) : (xs.map E)[Int.toNat (i : Int)]? = some (E xs[i]) := by simp [h]
/-- An element, or what stands for none. -/
def rdD {α : Type} [Inhabited α] (xs : List α) (n : Int) : α := xs.getD n.toNat default
theorem rdD_nat {α : Type} [Inhabited α] (xs : List α) (i : Nat) (h : i < xs.length) : rdD xs (i : Int) = xs[i] := by
  unfold rdD; simp [List.getD_eq_getElem?_getD, h]
theorem rowGetI {α : Type} [Inhabited α] (E : α → List V) (xs : List α) (n : Int) (h0 : 0 ≤ n) (h : n < xs.length) : (xs.map E)[n.toNat]? = some (E (rdD xs n)) := by
  unfold rdD
  have : n.toNat < xs.length := by omega
  simp [List.getD_eq_getElem?_getD, this]
theorem cellGet {α : Type} (E : α → List V) (xs : List α) (i k : Nat) (h : i < xs.length) : cellAt (xs.map E) i k = (E xs[i])[k]? := by simp [cellAt, h]
abbrev rowI (a : List Int) : Row := a.map (eInt .i64)
abbrev rowU (a : List Int) : Row := a.map (eInt .u8)
theorem setCell_map {α : Type} (E : α → List V) (xs : List α) (i k : Nat) (v : V) (y : α) (h : i < xs.length) (hy : (E xs[i]).set k v = E y) : setCell (xs.map E) i k v = (xs.set i y).map E := by
  unfold setCell
  refine List.ext_getElem? fun j => ?_
  rw [List.getElem?_modify, List.getElem?_map, List.getElem?_map, List.getElem?_set]
  by_cases hj : i = j
  · subst hj; simp [h, hy]
  · simp [hj]
theorem drop_cons {α : Type} (xs : List α) (i : Nat) (h : i < xs.length) : xs.drop i = xs[i] :: xs.drop (i + 1) := List.drop_eq_getElem_cons h
instance : Inhabited ByteArray := ⟨.empty⟩
theorem takeAll {α : Type} (E : α → List V) (xs : List α) : List.take xs.length (List.drop 0 (xs.map E)) = xs.map E := by rw [List.drop_zero, ← List.length_map (f := E), List.take_length]
theorem takeAll2 {α : Type} (E : α → List V) (xs : List α) : List.take (xs.map E).length (List.drop 0 (xs.map E)) = xs.map E := by rw [List.drop_zero, List.take_length]
theorem app_one {α : Type} (E : α → List V) (xs : List α) (x : α) {n : Nat} {R : Row} (hn : n = xs.length) (hR : R = [E x]) : List.take n (List.drop 0 (xs.map E)) ++ List.take 1 (List.drop 0 R) = (xs ++ [x]).map E := by
  subst hn hR
  rw [takeAll]; simp
theorem filter_keep {α : Type} (p : α → Bool) (xs : List α) (i : Nat) (h : i < xs.length) (hp : p xs[i] = true) : (xs.take (i + 1)).filter p = (xs.take i).filter p ++ [xs[i]] := by
  rw [List.take_succ_eq_append_getElem h, List.filter_append]; simp [hp]
theorem filter_drop {α : Type} (p : α → Bool) (xs : List α) (i : Nat) (h : i < xs.length) (hp : p xs[i] = false) : (xs.take (i + 1)).filter p = (xs.take i).filter p := by
  rw [List.take_succ_eq_append_getElem h, List.filter_append]; simp [hp]
theorem filter_le {α : Type} (p : α → Bool) (xs : List α) (i : Nat) (h : i ≤ xs.length) : ((xs.take i).filter p).length ≤ i := Nat.le_trans (List.length_filter_le _ _) (by simp; omega)
theorem slEq {b : Nat} {q : Path} {s o n m : Nat} (h : n = m) : V.sl b q s o n = V.sl b q s o m := by rw [h]
theorem boxEq {t : Bool} {s : Nat} {xs ys : Row} (h : xs = ys) : some (t, s, xs) = some (t, s, ys) := by rw [h]
theorem setCellM {α : Type} (E : α → List V) (xs ys : List α) {i i' k : Nat} {v : V} (w : V) (y : α) (hi : i = i') (h : i' < xs.length) (hv : v = w) (hy : (E xs[i']).set k w = E y) (he : xs.set i' y = ys) : setCell (xs.map E) i k v = ys.map E := by
  subst hi hv he; exact setCell_map E xs i k v y h hy
theorem take_app {α : Type} (E : α → List V) (xs : List α) (R : Row) : List.take xs.length (List.drop 0 (xs.map E ++ R)) = xs.map E := by rw [List.drop_zero, List.take_append_of_le_length (by simp), ← List.length_map (f := E), List.take_length]
theorem take_app2 {α : Type} (E : α → List V) (xs ys : List α) : List.take xs.length (List.drop 0 (List.map E (xs ++ ys))) = xs.map E := by rw [List.map_append]; exact take_app E xs _

theorem F_i_inRange (n a b : Int) : Fn pg 53 [.lit (.int .i64 n), .lit (.int .i64 a), .lit (.int .i64 b)] [] (.lit (.bool (decide (a ≤ n) && decide (n ≤ b)))) [] := by
  refine Fn.ofN [0,1,2,6] [] Try.func53 (by rfl) rfl (by show 3 ≤ 15; decide) (by rfl) ?_
  repeat' ((conv => whnf); first | (refine iteB_dec (fun h => ?_) (fun h => ?_) <;> (try simp (disch := (first | omega | fail)) only [modAt, List.length_take, List.length_drop, List.length_map, List.length_append, List.length_set, List.length_replicate] at h)) | fail)
  all_goals ((refine .mk ⟨trivial, [], ⟨rfl, ?_⟩, List.nodup_nil, rfl, trivial⟩; show V.lit _ = V.lit _); first | (simp_all []; done) | (simp_all []; omega) | fail)
theorem F_s_l1In (n a b : Int) : Fn pg 49 [.lit (.int .i64 n), .lit (.int .i64 a), .lit (.int .i64 b)] [] (.lit (.bool (decide (a ≤ n) && decide (n ≤ b)))) [] := by
  refine Fn.ofN [0,1,2,6] [] Try.func49 (by rfl) rfl (by show 3 ≤ 15; decide) (by rfl) ?_
  repeat' ((conv => whnf); first | (refine iteB_dec (fun h => ?_) (fun h => ?_) <;> (try simp (disch := (first | omega | fail)) only [modAt, List.length_take, List.length_drop, List.length_map, List.length_append, List.length_set, List.length_replicate] at h)) | fail)
  all_goals ((refine .mk ⟨trivial, [], ⟨rfl, ?_⟩, List.nodup_nil, rfl, trivial⟩; show V.lit _ = V.lit _); first | (simp_all []; done) | (simp_all []; omega) | fail)
def isBlank (x : Int) : Bool := decide (x = 9) || decide (x = 10) || decide (x = 12) || decide (x = 32)
theorem F_i_IsBlank (x : Int) : Fn pg 97 [.lit (.int .i64 x)] [] (.lit (.bool (isBlank x))) [] := by
  refine Fn.ofN [0,2] [] Try.func97 (by rfl) rfl (by show 1 ≤ 17; decide) (by rfl) ?_
  repeat' ((conv => whnf); first | (refine iteB_dec (fun h => ?_) (fun h => ?_) <;> (try simp (disch := (first | omega | fail)) only [modAt, List.length_take, List.length_drop, List.length_map, List.length_append, List.length_set, List.length_replicate] at h)) | fail)
  all_goals ((refine .mk ⟨trivial, [], ⟨rfl, ?_⟩, List.nodup_nil, rfl, trivial⟩; show V.lit _ = V.lit _); first | (simp_all [isBlank]; done) | fail)
theorem F_s_IsBlank (x : Int) : Fn pg 85 [.lit (.int .i64 x)] [] (.lit (.bool (isBlank x))) [] := by
  refine Fn.ofN [0,2] [] Try.func85 (by rfl) rfl (by show 1 ≤ 17; decide) (by rfl) ?_
  repeat' ((conv => whnf); first | (refine iteB_dec (fun h => ?_) (fun h => ?_) <;> (try simp (disch := (first | omega | fail)) only [modAt, List.length_take, List.length_drop, List.length_map, List.length_append, List.length_set, List.length_replicate] at h)) | fail)
  all_goals ((refine .mk ⟨trivial, [], ⟨rfl, ?_⟩, List.nodup_nil, rfl, trivial⟩; show V.lit _ = V.lit _); first | (simp_all [isBlank]; done) | fail)
def isOuter (x : Int) : Bool := isBlank x || decide (x = 47) || decide (x = 62) || decide (x = 0) || (decide (65 ≤ x) && decide (x ≤ 90))
theorem F_i_isOuter (x : Int) : Fn pg 88 [.lit (.int .i64 x)] [] (.lit (.bool (isOuter x))) [] := by
  refine Fn.ofN [0,2] [] Try.func88 (by rfl) rfl (by show 1 ≤ 21; decide) (by rfl) ?_
  repeat' ((conv => whnf); first | (refine iteB_dec (fun h => ?_) (fun h => ?_) <;> (try simp (disch := (first | omega | fail)) only [modAt, List.length_take, List.length_drop, List.length_map, List.length_append, List.length_set, List.length_replicate] at h)) | (refine iteB_of (fun h => ?_) (fun h => ?_)) | (refine Or.inl ?_; apply callV_i; (repeat ((conv => whnf); first | refine And.intro (by first | omega | fail) ?_ | fail)); ((conv => whnf); first | exact FnB.mk (F_i_inRange _ _ _) | exact FnB.mk (F_i_IsBlank _) | fail); refine ⟨rfl, rfl, ?_⟩) | fail)
  all_goals ((refine .mk ⟨trivial, [], ⟨rfl, ?_⟩, List.nodup_nil, rfl, trivial⟩; show V.lit _ = V.lit _); first | (simp_all [isOuter]; done) | fail)
def pointOk (x : Int) : Bool := (decide (0 ≤ x) && decide (x ≤ 1114111)) && !(decide (55296 ≤ x) && decide (x ≤ 57343))
theorem F_i_PointOk (x : Int) : Fn pg 107 [.lit (.int .i64 x)] [] (.lit (.bool (pointOk x))) [] := by
  refine Fn.ofN [0,2] [] Try.func107 (by rfl) rfl (by show 1 ≤ 10; decide) (by rfl) ?_
  repeat' ((conv => whnf); first | (refine iteB_of (fun h => ?_) (fun h => ?_)) | (refine Or.inl ?_; apply callV_i; (repeat ((conv => whnf); first | refine And.intro (by first | omega | fail) ?_ | fail)); ((conv => whnf); first | exact FnB.mk (F_i_inRange _ _ _) | fail); refine ⟨rfl, rfl, ?_⟩) | fail)
  all_goals ((refine .mk ⟨trivial, [], ⟨rfl, ?_⟩, List.nodup_nil, rfl, trivial⟩; show V.lit _ = V.lit _); first | (simp_all [pointOk]; done) | (simp_all [pointOk]; omega) | fail)
theorem F_s_PointOk (x : Int) : Fn pg 111 [.lit (.int .i64 x)] [] (.lit (.bool (pointOk x))) [] := by
  refine Fn.ofN [0,2] [] Try.func111 (by rfl) rfl (by show 1 ≤ 10; decide) (by rfl) ?_
  repeat' ((conv => whnf); first | (refine iteB_of (fun h => ?_) (fun h => ?_)) | (refine Or.inl ?_; apply callV_i; (repeat ((conv => whnf); first | refine And.intro (by first | omega | fail) ?_ | fail)); ((conv => whnf); first | exact FnB.mk (F_s_l1In _ _ _) | fail); refine ⟨rfl, rfl, ?_⟩) | fail)
  all_goals ((refine .mk ⟨trivial, [], ⟨rfl, ?_⟩, List.nodup_nil, rfl, trivial⟩; show V.lit _ = V.lit _); first | (simp_all [pointOk]; done) | (simp_all [pointOk]; omega) | fail)
theorem F_s_l1Point (x : Int) : Fn pg 106 [.lit (.int .i64 x)] [] (.lit (.int .i64 (if pointOk x then x else 65533))) [] := by
  refine Fn.ofN [0,2,5] [] Try.func106 (by rfl) rfl (by show 1 ≤ 7; decide) (by rfl) ?_
  repeat' ((conv => whnf); first | (refine iteB_not ?_) | (refine iteB_of (fun h => ?_) (fun h => ?_)) | (refine Or.inl ?_; apply callV_i; (repeat ((conv => whnf); first | refine And.intro (by first | exact Nat.le_refl _ | fail) ?_ | fail)); ((conv => whnf); first | exact FnB.mk (F_s_PointOk _) | fail); refine ⟨rfl, rfl, ?_⟩) | fail)
  all_goals ((refine .mk ⟨trivial, [], ⟨rfl, ?_⟩, List.nodup_nil, rfl, trivial⟩; show V.lit _ = V.lit _); first | (simp_all []; done) | fail)
def form (b : Int) : Nat := if b < 128 then 1 else if 194 ≤ b ∧ b ≤ 223 then 2 else if 224 ≤ b ∧ b ≤ 239 then 3 else if 240 ≤ b ∧ b ≤ 244 then 4 else 0
def lowOf (f : Int) (k : Int) : Int := if k = 1 then (if f = 224 then 160 else if f = 240 then 144 else 128) else 128
def highOf (f : Int) (k : Int) : Int := if k = 1 then (if f = 237 then 159 else if f = 244 then 143 else 191) else 191
def fits (f : Int) (k : Int) (b : Int) : Bool := decide (lowOf f k ≤ b) && decide (b ≤ highOf f k)
theorem F_s_l1Forms (b : Int) : Fn pg 101 [.lit (.int .i64 b)] [] (.lit (.int .i64 (form b))) [] := by
  refine Fn.ofN [0,2,3,6,9,12] [] Try.func101 (by rfl) rfl (by show 1 ≤ 15; decide) (by rfl) ?_
  repeat' ((conv => whnf); first | (refine iteB_dec (fun h => ?_) (fun h => ?_) <;> (try simp (disch := (first | omega | fail)) only [modAt, List.length_take, List.length_drop, List.length_map, List.length_append, List.length_set, List.length_replicate] at h)) | (refine iteB_of (fun h => ?_) (fun h => ?_)) | (refine Or.inl ?_; apply callV_i; (repeat ((conv => whnf); first | refine And.intro (by first | omega | fail) ?_ | fail)); ((conv => whnf); first | exact FnB.mk (F_s_l1In _ _ _) | fail); refine ⟨rfl, rfl, ?_⟩) | fail)
  all_goals ((refine .mk ⟨trivial, [], ⟨rfl, ?_⟩, List.nodup_nil, rfl, trivial⟩; show V.lit _ = V.lit _); first | (simp_all [form]; done) | (simp only [V.lit.injEq, Value.bool.injEq, Value.int.injEq]; grind [form]) | fail)
theorem F_s_l1Fits (f k b : Int) : Fn pg 102 [.lit (.int .i64 f), .lit (.int .i64 k), .lit (.int .i64 b)] [] (.lit (.bool (fits f k b))) [] := by
  refine Fn.ofN [0,1,2,6,7,8,10,11,12,14,16,18] [] Try.func102 (by rfl) rfl (by show 3 ≤ 24; decide) (by rfl) ?_
  repeat' ((conv => whnf); first | (refine iteB_dec (fun h => ?_) (fun h => ?_) <;> (try simp (disch := (first | omega | fail)) only [modAt, List.length_take, List.length_drop, List.length_map, List.length_append, List.length_set, List.length_replicate] at h)) | (refine Or.inl ?_; apply callV_i; (repeat ((conv => whnf); first | refine And.intro (by first | omega | fail) ?_ | fail)); ((conv => whnf); first | exact FnB.mk (F_s_l1In _ _ _) | fail); refine ⟨rfl, rfl, ?_⟩) | fail)
  all_goals ((refine .mk ⟨trivial, [], ⟨rfl, ?_⟩, List.nodup_nil, rfl, trivial⟩; show V.lit _ = V.lit _); first | (simp_all [fits, lowOf, highOf]; done) | fail)
theorem F_i_boundsOf (f : Int) : Fn pg 110 [.lit (.int .u8 f)] [] (.tup [.lit (.int .u8 (lowOf f 1)), .lit (.int .u8 (highOf f 1))]) [] := by
  refine Fn.ofN [0,2,3,4,5,7,9,11] [] Try.func110 (by rfl) rfl (by show 1 ≤ 13; decide) (by rfl) ?_
  repeat' ((conv => whnf); first | (refine iteB_dec (fun h => ?_) (fun h => ?_) <;> (try simp (disch := (first | omega | fail)) only [modAt, List.length_take, List.length_drop, List.length_map, List.length_append, List.length_set, List.length_replicate] at h)) | fail)
  all_goals (refine .mk ⟨trivial, [], ⟨rfl, ?_⟩, List.nodup_nil, rfl, trivial⟩; show V.tup [V.lit _, V.lit _] = V.tup [V.lit _, V.lit _]; simp_all [lowOf, highOf])

def idxI (v : Int) : List Int → Int → Int
  | [], _ => -1
  | x :: r, k => if v = x then k else idxI v r (k + 1)
def indexOf (xs : List Int) (v : Int) : Int := idxI v xs 0
theorem F_slices_Index_int_int (xs : List Int) (v : Int) (hx : xs.length ≤ 140737488351232) : Fn pg 57 [.imm 1 (rowI xs), .lit (.int .i64 v)] [] (.lit (.int .i64 (indexOf xs v))) [] := by
  refine Fn.ofN [0,1,4,5,7,8,9,16] [] Try.func57 (by rfl) rfl (by show 2 ≤ 19; decide) (by rfl) ?_
  conv => whnf
  refine ⟨Nat, fun i => i ≤ xs.length ∧ indexOf xs v = idxI v (xs.drop i) i, fun i => [(0, .imm 1 (rowI xs)), (1, .lit (.int .i64 v)), (7, .lit (.int .i64 xs.length)), (8, .lit (.int .i64 i))], fun _ => [], fun i => xs.length - i, ⟨[], 0, by simp [indexOf], ⟨rfl, rfl⟩, ⟨by first | rfl | fail, by first | rfl | fail, by first | (show V.lit (Value.int _ _) = V.lit (Value.int _ _); first | (congr 2; first | (simp only [List.length_map]; done) | fail) | fail) | fail, by first | rfl | fail, trivial⟩, trivial⟩, ?_⟩
  intro i ⟨hi, hh⟩
  repeat' ((conv => whnf); first | (refine iteB_dec (fun h => ?_) (fun h => ?_) <;> (try simp (disch := (first | omega | fail)) only [modAt, List.length_take, List.length_drop, List.length_map, List.length_append, List.length_set, List.length_replicate] at h)) | (refine wrapB_i64 (by first | omega | fail) (by first | omega | fail) ?_) | (refine And.intro (by first | exact True.intro | omega | fail) ?_) | (refine Exists.intro _ (And.intro (rowGet _ _ _ (by omega)) ?_)) | fail)
  · rw [drop_cons _ _ (by omega)] at hh
    (refine .mk ⟨trivial, [], ⟨rfl, ?_⟩, List.nodup_nil, rfl, trivial⟩; show V.lit _ = V.lit _)
    simp_all [idxI]
  · rw [drop_cons _ _ (by omega)] at hh
    refine ⟨[], i + 1, ⟨by omega, by simp_all [idxI]⟩, ⟨⟨rfl, rfl⟩, ⟨by first | rfl | fail, by first | rfl | fail, by first | rfl | fail, by first | rfl | fail, trivial⟩, trivial⟩, by first | (dsimp only; omega) | fail⟩
  · rw [List.drop_of_length_le (by omega)] at hh
    (refine .mk ⟨trivial, [], ⟨rfl, ?_⟩, List.nodup_nil, rfl, trivial⟩; show V.lit _ = V.lit _)
    simp_all [idxI]

/-- The first i of a list, then what stands for none. -/
def rowsPart {α : Type} (E : α → List V) (z : List V) (xs : List α) (i : Nat) : Row := (xs.take i).map E ++ List.replicate (xs.length - i) z
theorem rowsPart_get {α : Type} (E : α → List V) (z : List V) (xs : List α) (i j : Nat) : (rowsPart E z xs i)[j]? = if j < i then (xs[j]?).map E else if j < xs.length then some z else none := by
  unfold rowsPart
  by_cases h : j < i
  · rw [if_pos h]
    by_cases h2 : j < xs.length
    · rw [List.getElem?_append_left (by simp; omega), List.getElem?_map, List.getElem?_take, if_pos h]
    · rw [List.getElem?_eq_none (by simp; omega), List.getElem?_eq_none (by omega)]; rfl
  · rw [if_neg h]
    by_cases h2 : i ≤ xs.length
    · rw [List.getElem?_append_right (by simp; omega), List.getElem?_replicate, List.length_map, List.length_take, show min i xs.length = i by omega]
      by_cases h3 : j < xs.length
      · rw [if_pos h3, if_pos (by omega)]
      · rw [if_neg h3, if_neg (by omega)]
    · rw [List.getElem?_eq_none (by simp; omega), if_neg (by omega)]
theorem len_rowsPart {α : Type} (E : α → List V) (z : List V) (xs : List α) (i : Nat) (h : i ≤ xs.length) : (rowsPart E z xs i).length = xs.length := by simp [rowsPart]; omega
theorem rowsPart_succ {α : Type} (E : α → List V) (z : List V) (xs : List α) (i : Nat) (h : i < xs.length) : (rowsPart E z xs i).set i (E xs[i]) = rowsPart E z xs (i + 1) := by
  refine List.ext_getElem? fun j => ?_
  rw [List.getElem?_set, rowsPart_get, rowsPart_get, len_rowsPart E z xs i (by omega)]
  by_cases hj : i = j
  · subst hj
    rw [if_pos rfl, if_pos h, if_pos (by omega), List.getElem?_eq_getElem h]; rfl
  · rw [if_neg hj]
    by_cases h1 : j < i
    · rw [if_pos h1, if_pos (by omega)]
    · rw [if_neg h1]
      by_cases h2 : j < xs.length
      · rw [if_neg (by omega : ¬ j < i + 1)]
      · rw [if_neg (by omega : ¬ j < i + 1)]
theorem rowsPart_all {α : Type} (E : α → List V) (z : List V) (xs : List α) : rowsPart E z xs xs.length = xs.map E := by simp [rowsPart]
theorem rowsPart_zero {α : Type} (E : α → List V) (z : List V) (xs : List α) : rowsPart E z xs 0 = List.replicate xs.length z := by simp [rowsPart]
theorem rowsPart_z {α : Type} (E : α → List V) (z : List V) (xs : List α) (i : Nat) (h : i < xs.length) : (rowsPart E z xs i)[i]? = some z := by rw [rowsPart_get, if_neg (by omega), if_pos h]
theorem setCell_at {xs : Row} {i : Nat} {r : List V} (h : xs[i]? = some r) (k : Nat) (v : V) : setCell xs i k v = xs.set i (r.set k v) := by
  unfold setCell
  refine List.ext_getElem? fun j => ?_
  rw [List.getElem?_modify, List.getElem?_set]
  have hlt := (List.getElem?_eq_some_iff.1 h).1
  by_cases hj : i = j
  · subst hj; rw [h]; simp [hlt]
  · simp [hj]
theorem rowGet_set {xs : Row} {i : Nat} {r : List V} (h : i < xs.length) : (xs.set i r)[i]? = some r := by simp [h]
theorem outOk_new {ds : List Nat} {B : Bs} {b s d : Nat} {xs : Row} (hb : (decide (b < 500)) = false) (hd : ds[b - 500]? = some d) (hB : B d = some (false, s, xs)) : outOk ds B (b, false, s, xs) := by
  unfold outOk outId
  rw [if_neg (of_decide_eq_false hb)]
  simp only [hd, Option.bind_some, hB]
  exact ⟨rfl, fun h => by cases h⟩
theorem outOk_top {ds : List Nat} {B : Bs} {b s : Nat} {xs : Row} (hb : (decide (b < 500)) = true) (hB : B b = some (true, s, xs)) (hx : xs.map (renL (outName ds)) = xs) (hk : (xs.all fun c => namesL (knows ds) c) = true) : outOk ds B (b, true, s, xs) := by
  unfold outOk outId
  rw [if_pos (of_decide_eq_true hb)]
  simp only [Option.bind_some, hB]
  exact ⟨by rw [renBx, hx]; rfl, fun _ => hk⟩
theorem outOk_old {ds : List Nat} {B : Bs} {b s : Nat} {xs : Row} (hb : (decide (b < 500)) = true) (hB : B b = some (false, s, xs)) : outOk ds B (b, false, s, xs) := by
  unfold outOk outId
  rw [if_pos (of_decide_eq_true hb)]
  simp only [Option.bind_some, hB]
  exact ⟨rfl, fun h => by cases h⟩
theorem cell_part {α : Type} (E : α → List V) (z : List V) (xs : List α) (i k : Nat) (v : V) (h : i < xs.length) (hz : z[k]? = some v) : cellAt (rowsPart E z xs i) i k = some v := by
  rw [cellAt_of (rowsPart_z E z xs i h), hz]
theorem get_setC {R : Row} {i k k' : Nat} {v w : V} (hk : (decide (k = k')) = false) (h : cellAt R i k' = some w) : cellAt (setCell R i k v) i k' = some w := by
  unfold cellAt setCell at *
  rw [List.getElem?_modify]
  cases hR : R[i]? with
  | none => rw [hR] at h; cases h
  | some r =>
    rw [hR] at h
    simp only [Option.bind_some, Option.map_some, Option.map_eq_map, if_true] at *
    rw [List.getElem?_set, if_neg (of_decide_eq_false hk)]; exact h
theorem len_setCell (xs : Row) (i k : Nat) (v : V) : (setCell xs i k v).length = xs.length := by unfold setCell; simp
theorem setCell_set {xs : Row} {i k : Nat} {r : List V} {v : V} (h : i < xs.length) : setCell (xs.set i r) i k v = xs.set i (r.set k v) := by
  rw [setCell_at (rowGet_set h), List.set_set]
def setCs (R : Row) (i : Nat) : List (Nat × V) → Row
  | [] => R
  | (k, v) :: r => setCs (setCell R i k v) i r
def setVs (r : List V) : List (Nat × V) → List V
  | [] => r
  | (k, v) :: u => setVs (r.set k v) u
theorem setCs_set {R : Row} {i : Nat} : ∀ {u : List (Nat × V)} {r : List V}, R[i]? = some r → setCs R i u = R.set i (setVs r u)
  | [], r, h => by
    unfold setCs setVs
    refine List.ext_getElem? fun j => ?_
    rw [List.getElem?_set]
    by_cases hj : i = j
    · subst hj; rw [h]; simp [(List.getElem?_eq_some_iff.1 h).1]
    · rw [if_neg hj]
  | (k, v) :: u, r, h => by
    simp only [setCs, setVs]
    rw [setCell_at h, setCs_set (rowGet_set (List.getElem?_eq_some_iff.1 h).1), List.set_set]
theorem setCs_map {α : Type} (E : α → List V) (L ys : List α) {i i' : Nat} {u : List (Nat × V)} (y : α) (hi : i = i') (h : i' < L.length) (hy : setVs (E L[i']) u = E y) (he : L.set i' y = ys) : setCs (L.map E) i u = ys.map E := by
  subst hi he
  rw [setCs_set (r := E L[i]) (by simp [h]), hy, List.map_set]
theorem get_setR {R : Row} {i k : Nat} {v : V} {r : List V} (h : R[i]? = some r) : (setCell R i k v)[i]? = some (r.set k v) := by
  unfold setCell
  rw [List.getElem?_modify, h]; simp
theorem get_mapIC {α : Type} (E : α → List V) (L : List α) (n : Int) (k : Nat) (v : V) (h : n.toNat < L.length) (hv : (E L[n.toNat])[k]? = some v) : cellAt (L.map E) (n.toNat + 0) k = some v := by
  rw [Nat.add_zero, cellGet _ _ _ _ h, hv]
theorem get_partC {α : Type} (E : α → List V) (z : List V) (xs : List α) (i k : Nat) (v : V) (h : i < xs.length) (hz : z[k]? = some v) : cellAt (rowsPart E z xs i) (((i : Nat) : Int).toNat + 0) k = some v := by
  rw [Int.toNat_natCast, Nat.add_zero]; exact cell_part E z xs i k v h hz
theorem F_l_toIntS (xs : List Int) (hx : xs.length * 8 ≤ 140737488351232) : Fn pg 74 [.imm 1 (rowI xs)] [] (.sl 500 [] 1 0 xs.length) [(500, false, 1, rowI xs)] := by
  refine Fn.ofN [0,2,3,4,11] [1002,1007] Try.func74 (by rfl) rfl (by show 1 ≤ 22; decide) (by rfl) ?_
  repeat' ((conv => whnf); first | (refine And.intro (by first | exact True.intro | omega | (simp (disch := (first | omega | fail)) only [modAt, List.length_take, List.length_drop, List.length_map, List.length_append, List.length_set, List.length_replicate, len_rowsPart, len_setCell]; first | omega | fail) | fail) ?_) | fail)
  refine ⟨Nat, fun i => i ≤ xs.length, fun i => [(0, .imm 1 (rowI xs)), (3, .sl 1007 [] 1 0 xs.length), (4, .lit (.int .i64 i))], fun i => [(1007, false, 1, rowsPart (eInt .i64) [.lit (.int .i64 0)] xs i)], fun i => xs.length - i, ⟨[], 0, by omega, ⟨rfl, rfl⟩, ⟨by first | rfl | fail, ?_, by first | rfl | fail, trivial⟩, ?_, trivial⟩, ?_⟩
  · show V.sl 1007 [] 1 0 _ = V.sl 1007 [] 1 0 _
    rw [Int.toNat_natCast, List.length_map]
  · show some (false, 1, _) = some (false, 1, rowsPart (eInt .i64) [.lit (.int .i64 0)] xs 0)
    rw [Int.toNat_natCast, List.length_map, rowsPart_zero]
  intro i hi
  repeat' ((conv => whnf); first | (refine iteB_dec (fun h => ?_) (fun h => ?_) <;> (try simp (disch := (first | omega | fail)) only [modAt, List.length_take, List.length_drop, List.length_map, List.length_append, List.length_set, List.length_replicate, len_rowsPart, len_setCell] at h)) | (refine wrapB_i64 (by first | omega | fail) (by first | omega | fail) ?_) | (refine And.intro (by first | exact True.intro | omega | (simp (disch := (first | omega | fail)) only [modAt, List.length_take, List.length_drop, List.length_map, List.length_append, List.length_set, List.length_replicate, len_rowsPart, len_setCell]; first | omega | fail) | fail) ?_) | (refine Exists.intro _ (And.intro (rowGet _ _ _ (by omega)) ?_)) | (refine Exists.intro _ (And.intro (by first | exact (get_partC _ _ _ _ _ _ (by first | omega | fail) (by exact rfl)) | fail) ?_)) | fail)
  · refine ⟨[], i + 1, by omega, ⟨⟨rfl, rfl⟩, ⟨by first | rfl | fail, by first | rfl | fail, by first | rfl | fail, trivial⟩, ?_, trivial⟩, by first | (dsimp only; omega) | fail⟩
    show some (false, 1, setCell (rowsPart (eInt .i64) [.lit (.int .i64 0)] xs i) i 0 _) = some (false, 1, rowsPart (eInt .i64) [.lit (.int .i64 0)] xs (i + 1))
    rw [setCell_at (rowsPart_z _ _ _ _ (by omega)), ← rowsPart_succ _ _ _ _ (by omega)]; rfl
  · have hi' : i = xs.length := by omega
    subst hi'
    refine .mk ⟨trivial, [1007], ⟨rfl, ?_⟩, by simp, rfl, ?_⟩
    · rfl
    refine ⟨?_, trivial⟩
    refine outOk_new (d := 1007) (by decide) rfl ?_
    show some (false, 1, rowsPart _ _ xs xs.length) = some (false, 1, rowI xs)
    rw [rowsPart_all]

theorem eq_step {α : Type} {a b : List α} {i : Nat} (h1 : i < a.length) (h2 : i < b.length) (he : a[i] = b[i]) (ht : a.take i = b.take i) : a.take (i + 1) = b.take (i + 1) := by
  rw [List.take_succ_eq_append_getElem h1, List.take_succ_eq_append_getElem h2, ht, he]
theorem eq_all {α : Type} {a b : List α} {i : Nat} (h1 : a.length ≤ i) (h : a.length = b.length) (ht : a.take i = b.take i) : a = b := by
  rw [List.take_of_length_le h1, List.take_of_length_le (by omega)] at ht; exact ht
theorem ne_at {α : Type} {a b : List α} {i : Nat} (h1 : i < a.length) (h2 : i < b.length) (he : a[i] ≠ b[i]) : a ≠ b := fun e => by subst e; exact he rfl
theorem F_l_eqIntS (a b : List Int) (ha : a.length ≤ 140737488351232) (hb : b.length ≤ 140737488351232) : Fn pg 25 [.imm 1 (rowI a), .imm 1 (rowI b)] [] (.lit (.bool (decide (a = b)))) [] := by
  refine Fn.ofN [0,1,4,5,10,14,25] [] Try.func25 (by rfl) rfl (by show 2 ≤ 26; decide) (by rfl) ?_
  repeat' ((conv => whnf); first | (refine iteB_dec (fun h => ?_) (fun h => ?_) <;> (try simp (disch := (first | omega | fail)) only [modAt, List.length_take, List.length_drop, List.length_map, List.length_append, List.length_set, List.length_replicate, len_rowsPart, len_setCell] at h)) | fail)
  · (refine .mk ⟨trivial, [], ⟨rfl, ?_⟩, List.nodup_nil, rfl, trivial⟩; show V.lit _ = V.lit _)
    have : a ≠ b := fun e => by subst e; omega
    simp [this]
  refine ⟨Nat, fun i => i ≤ a.length ∧ a.take i = b.take i, fun i => [(0, .imm 1 (rowI a)), (1, .imm 1 (rowI b)), (5, .lit (.int .i64 i))], fun i => [], fun i => a.length - i, ⟨[], 0, by simp, ⟨rfl, rfl⟩, ⟨by first | rfl | fail, by first | rfl | fail, by first | rfl | fail, trivial⟩, trivial⟩, ?_⟩
  intro i ⟨hi, ht⟩
  repeat' ((conv => whnf); first | (refine iteB_dec (fun h => ?_) (fun h => ?_) <;> (try simp (disch := (first | omega | fail)) only [modAt, List.length_take, List.length_drop, List.length_map, List.length_append, List.length_set, List.length_replicate, len_rowsPart, len_setCell] at h)) | (refine wrapB_i64 (by first | omega | fail) (by first | omega | fail) ?_) | (refine And.intro (by first | exact True.intro | omega | fail) ?_) | (refine Exists.intro _ (And.intro (rowGet _ _ _ (by omega)) ?_)) | (refine Or.inl (And.intro (by decide +kernel) ?_)) | fail)
  · (refine .mk ⟨trivial, [], ⟨rfl, ?_⟩, List.nodup_nil, rfl, trivial⟩; show V.lit _ = V.lit _)
    simp only [V.lit.injEq, Value.bool.injEq]
    rw [decide_eq_false (ne_at (i := i) (by omega) (by omega) (by assumption))]
  · exact ⟨[], i + 1, ⟨by omega, eq_step (by omega) (by omega) (by simp_all) ht⟩, ⟨⟨rfl, rfl⟩, ⟨by first | rfl | fail, by first | rfl | fail, by first | rfl | fail, trivial⟩, trivial⟩, by first | (dsimp only; omega) | fail⟩
  · (refine .mk ⟨trivial, [], ⟨rfl, ?_⟩, List.nodup_nil, rfl, trivial⟩; show V.lit _ = V.lit _)
    have : a = b := eq_all (by omega) (by omega) ht
    simp [this]
/-- A list whose first i are marked. -/
def marks {α : Type} (f : Int → α) (k : Int) (a : List α) (i : Nat) : List α := (List.range i).map (fun (j : Nat) => f (k + (j : Int))) ++ a.drop i
theorem len_marks {α : Type} (f : Int → α) (k : Int) (a : List α) (i : Nat) (h : i ≤ a.length) : (marks f k a i).length = a.length := by simp [marks]; omega
theorem marks_succ {α : Type} (f : Int → α) (k : Int) (a : List α) (i : Nat) (h : i < a.length) : (marks f k a i).set i (f (k + (i : Int))) = marks f k a (i + 1) := by
  unfold marks
  refine List.ext_getElem? fun j => ?_
  rw [List.getElem?_set]
  by_cases hj : i = j
  · subst hj
    simp [List.range_succ]; omega
  · rcases Nat.lt_or_ge j i with h1 | h1
    · simp [hj, List.getElem?_append_left, h1, show j < i + 1 by omega]
    · rw [List.getElem?_append_right (by simp; omega), List.getElem?_append_right (by simp; omega)]
      simp [hj]
      congr 1; omega
theorem marks_zero {α : Type} (f : Int → α) (k : Int) (a : List α) : marks f k a 0 = a := by simp [marks]
def markL {α : Type} (f : Int → α) (k : Int) (n : Nat) : List α := (List.range n).map fun (j : Nat) => f (k + (j : Int))
theorem len_markL {α : Type} (f : Int → α) (k : Int) (n : Nat) : (markL f k n).length = n := by simp [markL]
theorem take_marks {α : Type} (E : α → List V) (f : Int → α) (k : Int) (a : List α) (n : Nat) : List.take n (List.drop 0 (List.map E (marks f k a n))) = List.map E (markL f k n) := by
  rw [List.drop_zero, marks, List.map_append, List.take_append_of_le_length (by simp), List.take_of_length_le (by simp)]; rfl
def heldL {α : Type} [DecidableEq α] (f : Int → α) (k : Int) : List α → Int
  | [] => k
  | x :: r => if x = f k then heldL f (k + 1) r else -1
theorem heldL_markL {α : Type} [DecidableEq α] (f : Int → α) (k : Int) (n : Nat) : heldL f k (markL f k n) = k + n := by
  have : ∀ (m : Nat) (k : Int), heldL f k ((List.range m).map fun (j : Nat) => f (k + (j : Int))) = k + m := by
    intro m
    induction m with
    | zero => intro k; simp [heldL]
    | succ m ih =>
      intro k
      rw [List.range_succ_eq_map, List.map_cons, List.map_map]
      simp only [heldL, Function.comp_def]
      rw [if_pos (by simp)]
      have := ih (k + 1)
      simp only [Int.natCast_succ] at *
      rw [show (fun (x : Nat) => f (k + ((x : Int) + 1))) = fun (x : Nat) => f (k + 1 + (x : Int)) by funext x; congr 1; omega, this]; omega
  exact this n k

theorem litOne {n : Nat} {xs : Row} {c : Value} (hn : n = 1) (hx : xs = [[.lit c]]) (h : c.oneCell' = true) : litRow n xs := by
  subst hn hx
  intro x hx; cases List.mem_singleton.1 hx; exact ⟨rfl, fun y hy => by cases List.mem_singleton.1 hy; exact ⟨_, rfl, h⟩⟩
theorem litI (xs : List Int) : litRow 1 (rowI xs) := by
  intro x hx
  obtain ⟨n, _, rfl⟩ := List.mem_map.1 hx
  exact ⟨rfl, fun c hc => by simp [eInt] at hc; subst hc; exact ⟨_, rfl, rfl⟩⟩
theorem litU (xs : List Int) : litRow 1 (rowU xs) := by
  intro x hx
  obtain ⟨n, _, rfl⟩ := List.mem_map.1 hx
  exact ⟨rfl, fun c hc => by simp [eInt] at hc; subst hc; exact ⟨_, rfl, rfl⟩⟩
theorem litTake {w n m : Nat} {xs : Row} (h : litRow w xs) : litRow w (List.take n (List.drop m xs)) := fun x hx => h x (List.mem_of_mem_drop (List.mem_of_mem_take hx))
theorem litTakeU (n m : Nat) (xs : List Int) : litRow 1 (List.take n (List.drop m (rowU xs))) := litTake (litU xs)
theorem F_slices_Clone_int_int (xs : List Int) (hx : xs.length * 8 ≤ 140737488351232) : Fn pg 79 [.imm 1 (rowI xs)] [] (.sl 500 [] 1 0 xs.length) [(500, false, 1, rowI xs)] := by
  refine Fn.ofN [0,2,4] [1002,1005,1007] Try.func79 (by rfl) rfl (by show 1 ≤ 8; decide) (by rfl) ?_
  repeat' ((conv => whnf); first | (refine And.intro (by first | exact True.intro | exact Nat.le_refl _ | (simp (disch := (first | omega | fail)) only [modAt, List.length_take, List.length_drop, List.length_map, List.length_append, List.length_set, List.length_replicate, len_rowsPart, len_setCell, len_marks, len_markL]; first | omega | fail) | (apply litI; (repeat rfl); done) | fail) ?_) | (intro b hb; cases b <;> simp only [reduceCtorEq, forall_const, false_implies, List.length_map] at hb) | fail)
  · refine .mk ⟨trivial, [1005], ⟨rfl, ?_⟩, by simp, rfl, ?_⟩
    · show V.sl 500 [] 1 0 _ = V.sl 500 [] 1 0 _
      congr 1; simp
    refine ⟨?_, trivial⟩
    exact outOk_new (d := 1005) (by decide) rfl rfl
  · have : xs = [] := List.eq_nil_of_length_eq_zero (by simpa using hb)
    subst this
    refine .mk ⟨trivial, [1002], ⟨rfl, ?_⟩, by simp, rfl, ?_⟩
    · rfl
    exact ⟨outOk_new (d := 1002) (by decide) rfl rfl, trivial⟩

theorem wrap64 {n : Int} (h0 : -9223372036854775808 ≤ n) (h1 : n ≤ 9223372036854775807) : IntKind.i64.wrap n = n := by rw [IntKind.wrap_i64]; omega
def dig (n : Nat) (s : ByteArray) : ByteArray := if h : n = 0 then s else dig (n / 10) (ByteArray.mk #[UInt8.ofNat (48 + n % 10)] ++ s)
  termination_by n
/-- A number as a mark's text. -/
def markT (k : Int) : ByteArray := if k ≤ 0 then ByteArray.mk #[109, 48] else ByteArray.mk #[109] ++ dig k.toNat .empty
theorem byte_row (m : Nat) (h : m < 256) : [[V.lit (.int .u8 (m : Int))]] = byR (unbyR [[V.lit (.int .u8 (m : Int))]]) := by
  simp [byR, unbyR, byteOf1]; omega
theorem F_l_markText (k : Int) (hk2 : k ≤ 4611686018427387904) : Fn pg 60 [.lit (.int .i64 k)] [] (.lit (.string (markT k))) [] := by
  refine Fn.ofN [0,2,3,5,7] [1011,1012,1013] Try.func60 (by rfl) rfl (by show 1 ≤ 20; decide) (by rfl) ?_
  repeat' ((conv => whnf); first | (refine iteB_dec (fun h => ?_) (fun h => ?_) <;> (try simp (disch := (first | omega | fail)) only [modAt, List.length_take, List.length_drop, List.length_map, List.length_append, List.length_set, List.length_replicate, len_rowsPart, len_setCell, len_marks, len_markL] at h)) | fail)
  · (refine .mk ⟨trivial, [], ⟨rfl, ?_⟩, List.nodup_nil, rfl, trivial⟩; show V.lit _ = V.lit _)
    rw [markT, if_pos (by assumption)]
  have h0 : ¬ k ≤ 0 := by assumption
  refine ⟨Nat × ByteArray, fun x => x.1 < 10 ^ (19 - x.2.size) ∧ x.2.size ≤ 19 ∧ dig k.toNat .empty = dig x.1 x.2, fun x => [(0, .lit (.int .i64 x.1)), (3, .lit (.string x.2))], fun _ => [], fun x => x.1, ⟨[], (k.toNat, .empty), ⟨by show k.toNat < 10 ^ 19; omega, Nat.zero_le _, rfl⟩, ⟨rfl, rfl⟩, ⟨by show V.lit (.int .i64 k) = V.lit (.int .i64 ((k.toNat : Nat) : Int)); rw [Int.toNat_of_nonneg (by omega)], rfl, trivial⟩, trivial⟩, ?_⟩
  intro (n, s) ⟨hn, hs, hd⟩
  dsimp only at hn hs hd
  have hs' : 0 < n → s.size < 19 := by
    intro hpos
    rcases Nat.lt_or_ge s.size 19 with h | h
    · exact h
    · have : 19 - s.size = 0 := by omega
      rw [this] at hn; omega
  have hbig : n < 10 ^ 19 := Nat.lt_of_lt_of_le hn (Nat.pow_le_pow_right (by decide) (by omega))
  repeat' ((conv => whnf); first | (refine iteB_dec (fun h => ?_) (fun h => ?_) <;> (try simp (disch := (first | omega | fail)) only [modAt, List.length_take, List.length_drop, List.length_map, List.length_append, List.length_set, List.length_replicate, len_rowsPart, len_setCell, len_marks, len_markL] at h)) | (refine WrapB.mk ?_) | (refine And.intro (by first | exact True.intro | exact Nat.le_refl _ | fail) ?_) | fail)
  · have hpos : 0 < n := by simpa using ‹0 < ((n, s).1 : Int)›
    have hss := hs' hpos
    conv => whnf
    have hc : IntKind.u8.wrap (IntKind.i64.wrap (48 + (n : Int).tmod 10)) = ((48 + n % 10 : Nat) : Int) := by
      rw [Int.tmod_eq_emod_of_nonneg (by omega), wrap64 (by omega) (by omega), IntKind.wrap_u8]; omega
    refine And.intro ?_ ?_
    · show [[V.lit (.int .u8 (IntKind.u8.wrap (IntKind.i64.wrap (48 + (n : Int).tmod 10))))]] = byR (unbyR [[V.lit (.int .u8 (IntKind.u8.wrap (IntKind.i64.wrap (48 + (n : Int).tmod 10))))]])
      rw [hc]
      exact byte_row _ (by omega)
    conv => whnf
    refine And.intro ?_ ?_
    · show 1 + s.size ≤ 9223372036854775807
      omega
    conv => whnf
    have hsz : (ByteArray.mk #[UInt8.ofNat (48 + n % 10)] ++ s).size = 1 + s.size := by rw [ByteArray.size_append]; rfl
    refine ⟨[], (n / 10, ByteArray.mk #[UInt8.ofNat (48 + n % 10)] ++ s), ⟨?_, ?_, ?_⟩, ⟨⟨rfl, rfl⟩, ⟨?_, ?_, trivial⟩, trivial⟩, ?_⟩
    · show n / 10 < 10 ^ (19 - (ByteArray.mk #[UInt8.ofNat (48 + n % 10)] ++ s).size)
      rw [hsz]
      refine Nat.div_lt_of_lt_mul ?_
      have : 10 ^ (19 - s.size) = 10 * 10 ^ (19 - (1 + s.size)) := by rw [show 19 - s.size = (19 - (1 + s.size)) + 1 by omega, Nat.pow_succ, Nat.mul_comm]
      omega
    · show (ByteArray.mk #[UInt8.ofNat (48 + n % 10)] ++ s).size ≤ 19
      rw [hsz]; omega
    · show dig k.toNat .empty = dig (n / 10) (ByteArray.mk #[UInt8.ofNat (48 + n % 10)] ++ s)
      rw [hd]
      conv => lhs; rw [dig]
      rw [dif_neg (by omega)]
    · show V.lit (.int .i64 (IntKind.i64.wrap ((n : Int).tdiv 10))) = V.lit (.int .i64 ((n / 10 : Nat) : Int))
      rw [Int.tdiv_eq_ediv_of_nonneg (by omega), wrap64 (by omega) (by omega)]; rfl
    · show V.lit (.string (⟨#[UInt8.ofNat (Int.toNat (IntKind.u8.wrap (IntKind.i64.wrap (48 + (n : Int).tmod 10))))]⟩ ++ s)) = V.lit (.string (ByteArray.mk #[UInt8.ofNat (48 + n % 10)] ++ s))
      rw [hc, Int.toNat_natCast]
    · show n / 10 < n
      omega
  · have h0' : n = 0 := by
      have h : ¬ (0 < ((n, s).1 : Int)) := by assumption
      simp at h; omega
    subst h0'
    conv => whnf
    refine And.intro ?_ ?_
    · show 1 + s.size ≤ 9223372036854775807
      omega
    conv => whnf
    (refine .mk ⟨trivial, [], ⟨rfl, ?_⟩, List.nodup_nil, rfl, trivial⟩; show V.lit _ = V.lit _)
    show V.lit (.string (ByteArray.mk #[109] ++ s)) = V.lit (.string (markT k))
    rw [markT, if_neg h0, hd, dig, dif_pos rfl]
theorem F_l_markIntS (a : List Int) (n : Nat) (k : Int) (hn : n ≤ a.length) (ha : n ≤ 140737488351232) (hk : 0 ≤ k) (hk2 : k ≤ 4470000000000000000) : Fn pg 26 [.sl 0 [] 1 0 n, .lit (.int .i64 k)] [(0, false, 1, rowI a)] (.lit (.int .i64 (k + n))) [(0, false, 1, rowI (marks id k a n))] := by
  refine Fn.ofN [0,1,4,5,9] [0] Try.func26 (by rfl) rfl (by show 2 ≤ 19; decide) (by rfl) ?_
  repeat' ((conv => whnf); first | (refine iteB_dec (fun h => ?_) (fun h => ?_) <;> (try simp (disch := (first | omega | fail)) only [modAt, List.length_take, List.length_drop, List.length_map, List.length_append, List.length_set, List.length_replicate, len_rowsPart, len_setCell, len_marks, len_markL] at h)) | fail)
  refine ⟨Nat, fun i => i ≤ n, fun i => [(0, .sl 0 [] 1 0 n), (1, .lit (.int .i64 (k + i))), (5, .lit (.int .i64 i))], fun i => [(0, false, 1, rowI (marks id k a i))], fun i => n - i, ⟨[], 0, by omega, ⟨rfl, rfl⟩, ⟨by first | rfl | fail, by first | (show V.lit (Value.int _ _) = V.lit (Value.int _ _); first | (congr 2; first | omega | fail) | fail) | fail, by first | rfl | fail, trivial⟩, ⟨by show some (false, 1, rowI a) = some (false, 1, rowI (marks id k a 0)); rw [marks_zero], trivial⟩⟩, ?_⟩
  intro i hi
  repeat' ((conv => whnf); first | (refine iteB_dec (fun h => ?_) (fun h => ?_) <;> (try simp (disch := (first | omega | fail)) only [modAt, List.length_take, List.length_drop, List.length_map, List.length_append, List.length_set, List.length_replicate, len_rowsPart, len_setCell, len_marks, len_markL] at h)) | (refine wrapB_i64 (by first | omega | fail) (by first | omega | fail) ?_) | (refine And.intro (by first | exact True.intro | omega | (simp (disch := (first | omega | fail)) only [modAt, List.length_take, List.length_drop, List.length_map, List.length_append, List.length_set, List.length_replicate, len_rowsPart, len_setCell, len_marks, len_markL]; first | omega | fail) | fail) ?_) | (refine Exists.intro _ (And.intro (by first | exact (get_mapIC _ _ _ _ _ (by first | (simp (disch := (first | omega | fail)) only [modAt, List.length_take, List.length_drop, List.length_map, List.length_append, List.length_set, List.length_replicate, len_rowsPart, len_setCell, len_marks, len_markL]; first | omega | fail) | fail) (by exact rfl)) | fail) ?_)) | fail)
  · have hml : i < (marks id k a i).length := by rw [len_marks _ _ _ _ (by omega)]; omega
    refine ⟨[], i + 1, by omega, ⟨⟨rfl, rfl⟩, ⟨by first | rfl | fail, by first | (show V.lit (Value.int _ _) = V.lit (Value.int _ _); first | (congr 2; first | omega | fail) | fail) | fail, by first | rfl | fail, trivial⟩, boxEq (setCellM (eInt .i64) _ _ (.lit (.int .i64 (k + (i : Int)))) (id (k + (i : Int))) rfl hml rfl rfl (marks_succ id k a i (by omega))), trivial⟩, by first | (dsimp only; omega) | fail⟩
  · have hi' : i = n := by omega
    subst hi'
    refine .mk ⟨trivial, [], ⟨rfl, ?_⟩, List.nodup_nil, rfl, ?_⟩
    · rfl
    exact ⟨outOk_old (b := 0) (by decide) rfl, trivial⟩
theorem F_l_heldIntS (a : List Int) (k : Int) (ha : a.length ≤ 140737488351232) (hk : 0 ≤ k) (hk2 : k ≤ 4470000000000000000) : Fn pg 27 [.imm 1 (rowI a), .lit (.int .i64 k)] [] (.lit (.int .i64 (heldL id k a))) [] := by
  refine Fn.ofN [0,1,4,5,9,17] [] Try.func27 (by rfl) rfl (by show 2 ≤ 21; decide) (by rfl) ?_
  repeat' ((conv => whnf); first | (refine iteB_dec (fun h => ?_) (fun h => ?_) <;> (try simp (disch := (first | omega | fail)) only [modAt, List.length_take, List.length_drop, List.length_map, List.length_append, List.length_set, List.length_replicate, len_rowsPart, len_setCell, len_marks, len_markL] at h)) | fail)
  refine ⟨Nat, fun i => i ≤ a.length ∧ heldL id k a = heldL id (k + i) (a.drop i), fun i => [(0, .imm 1 (rowI a)), (1, .lit (.int .i64 (k + i))), (5, .lit (.int .i64 i))], fun i => [], fun i => a.length - i, ⟨[], 0, by simp, ⟨rfl, rfl⟩, ⟨by first | rfl | fail, by first | (show V.lit (Value.int _ _) = V.lit (Value.int _ _); first | (congr 2; first | omega | fail) | fail) | fail, by first | rfl | fail, trivial⟩, trivial⟩, ?_⟩
  intro i ⟨hi, hh⟩
  repeat' ((conv => whnf); first | (refine iteB_dec (fun h => ?_) (fun h => ?_) <;> (try simp (disch := (first | omega | fail)) only [modAt, List.length_take, List.length_drop, List.length_map, List.length_append, List.length_set, List.length_replicate, len_rowsPart, len_setCell, len_marks, len_markL] at h)) | (refine wrapB_i64 (by first | omega | fail) (by first | omega | fail) ?_) | (refine And.intro (by first | exact True.intro | omega | fail) ?_) | (refine Exists.intro _ (And.intro (rowGet _ _ _ (by omega)) ?_)) | fail)
  · rw [drop_cons _ _ (by omega)] at hh
    (refine .mk ⟨trivial, [], ⟨rfl, ?_⟩, List.nodup_nil, rfl, trivial⟩; show V.lit _ = V.lit _)
    simp_all [heldL]
  · rw [drop_cons _ _ (by omega)] at hh
    refine ⟨[], i + 1, ⟨by omega, ?_⟩, ⟨⟨rfl, rfl⟩, ⟨by first | rfl | fail, by first | (show V.lit (Value.int _ _) = V.lit (Value.int _ _); first | (congr 2; first | omega | fail) | fail) | fail, by first | rfl | fail, trivial⟩, trivial⟩, by first | (dsimp only; omega) | fail⟩
    rw [hh, show (k + ((i + 1 : Nat) : Int)) = k + i + 1 by omega]
    simp_all [heldL]
  · rw [List.drop_of_length_le (by omega)] at hh
    (refine .mk ⟨trivial, [], ⟨rfl, ?_⟩, List.nodup_nil, rfl, trivial⟩; show V.lit _ = V.lit _)
    simp only [heldL] at hh
    rw [hh]
    first | done | fail
theorem F_l_heldIntS_marked (n : Nat) (k : Int) (ha : n ≤ 140737488351232) (hk : 0 ≤ k) (hk2 : k ≤ 4470000000000000000) : Fn pg 27 [.imm 1 (rowI (markL id k n)), .lit (.int .i64 k)] [] (.lit (.int .i64 (k + n))) [] := by
  have := F_l_heldIntS (markL id k n) k (by rw [len_markL]; exact ha) hk hk2
  rwa [heldL_markL] at this


/-- Points' bytes. -/
def ptOf (x : Int) : Int := if pointOk x then x else 65533
def enc (y : Int) : List Int :=
  if y < 128 then [y] else if y < 2048 then [192 + y / 64, 128 + y % 64] else if y < 65536 then [224 + y / 4096, 128 + y / 64 % 64, 128 + y % 64]
  else [240 + y / 262144, 128 + y / 4096 % 64, 128 + y / 64 % 64, 128 + y % 64]
def putAll : List Int → List Int
  | [] => []
  | x :: xs => enc (ptOf x) ++ putAll xs
theorem ptOf_range (x : Int) : 0 ≤ ptOf x ∧ ptOf x ≤ 1114111 := by
  unfold ptOf pointOk
  split
  · rename_i h; simp at h; omega
  · omega
theorem F_s_PointPut (x : Int) : Fn pg 100 [.lit (.int .i64 x)] [] (.sl 500 [] 1 0 (enc (ptOf x)).length) [(500, false, 1, rowU (enc (ptOf x)))] := by
  have hF := F_s_l1Point x
  have hr := ptOf_range x
  change Fn pg _ _ [] (.lit (.int .i64 (ptOf x))) [] at hF
  generalize ptOf x = y at hF hr
  obtain ⟨h0, h1⟩ := hr
  have t1 : y.tdiv 64 = y / 64 := Int.tdiv_eq_ediv_of_nonneg h0
  have t2 : y.tdiv 4096 = y / 4096 := Int.tdiv_eq_ediv_of_nonneg h0
  have t3 : y.tdiv 262144 = y / 262144 := Int.tdiv_eq_ediv_of_nonneg h0
  have t4 : y.tmod 64 = y % 64 := Int.tmod_eq_emod_of_nonneg h0
  have t5 : (y.tdiv 64).tmod 64 = y / 64 % 64 := by rw [t1]; exact Int.tmod_eq_emod_of_nonneg (by omega)
  have t6 : (y.tdiv 4096).tmod 64 = y / 4096 % 64 := by rw [t2]; exact Int.tmod_eq_emod_of_nonneg (by omega)
  refine Fn.ofN [0,2,5,11,23] [1002,1009,1010,1017,1021,1022,1029,1034,1038,1039,1043,1048,1053,1057,1058] Try.func100 (by rfl) rfl (by show 1 ≤ 59; decide) (by rfl) ?_
  repeat' ((conv => whnf); first | (refine iteB_dec (fun h => ?_) (fun h => ?_) <;> (try simp (disch := (first | omega | fail)) only [modAt, List.length_take, List.length_drop, List.length_map, List.length_append, List.length_set, List.length_replicate, len_rowsPart, len_setCell, len_marks, len_markL] at h)) | (refine wrapB_i64 (by first | omega | fail) (by first | omega | fail) ?_) | (refine wrapB_u8 (by first | omega | fail) (by first | omega | fail) ?_) | (refine And.intro (by first | exact True.intro | fail) ?_) | (refine Or.inl ?_; apply callV_i; (repeat ((conv => whnf); first | refine And.intro (by first | omega | fail) ?_ | fail)); ((conv => whnf); first | exact FnB.mk (hF) | fail); refine ⟨rfl, rfl, ?_⟩) | fail)
  · have e : enc y = [y] := by unfold enc; rw [if_pos (by omega)]
    rw [e]
    refine .mk ⟨trivial, [1010], ⟨rfl, ?_⟩, by simp, rfl, ?_⟩
    · rfl
    exact ⟨outOk_new (d := 1010) (by decide) rfl rfl, trivial⟩
  · have e : enc y = [192 + y / 64, 128 + y % 64] := by unfold enc; rw [if_neg (by omega), if_pos (by omega)]
    rw [e, ← t1, ← t4]
    refine .mk ⟨trivial, [1022], ⟨rfl, ?_⟩, by simp, rfl, ?_⟩
    · rfl
    exact ⟨outOk_new (d := 1022) (by decide) rfl rfl, trivial⟩
  · have e : enc y = [224 + y / 4096, 128 + y / 64 % 64, 128 + y % 64] := by unfold enc; rw [if_neg (by omega), if_neg (by omega), if_pos (by omega)]
    rw [e, ← t2, ← t5, ← t4]
    refine .mk ⟨trivial, [1039], ⟨rfl, ?_⟩, by simp, rfl, ?_⟩
    · rfl
    exact ⟨outOk_new (d := 1039) (by decide) rfl rfl, trivial⟩
  · have e : enc y = [240 + y / 262144, 128 + y / 4096 % 64, 128 + y / 64 % 64, 128 + y % 64] := by unfold enc; rw [if_neg (by omega), if_neg (by omega), if_neg (by omega)]
    rw [e, ← t3, ← t6, ← t5, ← t4]
    refine .mk ⟨trivial, [1058], ⟨rfl, ?_⟩, by simp, rfl, ?_⟩
    · rfl
    exact ⟨outOk_new (d := 1058) (by decide) rfl rfl, trivial⟩
theorem enc_len (y : Int) : (enc y).length ≤ 4 := by unfold enc; (repeat' split) <;> simp
theorem putAll_append (a b : List Int) : putAll (a ++ b) = putAll a ++ putAll b := by
  induction a with
  | nil => rfl
  | cons x r ih => simp [putAll, ih]
theorem putAll_len (l : List Int) : (putAll l).length ≤ 4 * l.length := by
  induction l with
  | nil => simp [putAll]
  | cons x r ih => have := enc_len (ptOf x); simp only [putAll, List.length_append, List.length_cons]; omega
theorem putAll_succ (l : List Int) (i : Nat) (h : i < l.length) : putAll (l.take (i + 1)) = putAll (l.take i) ++ enc (ptOf l[i]) := by
  rw [List.take_succ_eq_append_getElem h, putAll_append]; simp [putAll]
theorem app_two {α : Type} (E : α → List V) (xs ys : List α) {n m : Nat} (hn : n = xs.length) (hm : m = ys.length) : List.take n (List.drop 0 (xs.map E)) ++ List.take m (List.drop 0 (ys.map E)) = (xs ++ ys).map E := by
  subst hn hm
  rw [takeAll, takeAll]; simp
theorem F_s_l1Put (l : List Int) (hl : l.length ≤ 1099511627776) : Fn pg 92 [.imm 1 (rowI l)] [] (.sl 500 [] 1 0 (putAll l).length) [(500, false, 1, rowU (putAll l))] := by
  refine Fn.ofN [0,2,3,4,9] [1002,1005,1017,1018] Try.func92 (by rfl) rfl (by show 1 ≤ 20; decide) (by rfl) ?_
  repeat' ((conv => whnf); first | (refine And.intro (by first | exact True.intro | fail) ?_) | fail)
  refine ⟨Nat, fun i => i ≤ l.length, fun i => [(0, .imm 1 (rowI l)), (3, .sl 1005 [] 1 0 (putAll (l.take i)).length), (4, .lit (.int .i64 i))], fun i => [(1005, false, 1, rowU (putAll (l.take i)))], fun i => l.length - i, ⟨[], 0, by omega, ⟨rfl, rfl⟩, ⟨by first | rfl | fail, by first | rfl | fail, by first | rfl | fail, trivial⟩, ⟨rfl, trivial⟩⟩, ?_⟩
  intro i hi
  by_cases hlt : i < l.length
  · have h1 := putAll_len (l.take i)
    rw [List.length_take] at h1
    have h2 := enc_len (ptOf l[i])
    repeat' ((conv => whnf); first | (refine iteB_dec (fun h => ?_) (fun h => ?_) <;> (try simp (disch := (first | omega | fail)) only [modAt, List.length_take, List.length_drop, List.length_map, List.length_append, List.length_set, List.length_replicate, len_rowsPart, len_setCell, len_marks, len_markL] at h)) | (refine wrapB_i64 (by first | omega | fail) (by first | omega | fail) ?_) | (refine And.intro (by first | exact True.intro | omega | (simp (disch := (first | omega | fail)) only [modAt, List.length_take, List.length_drop, List.length_map, List.length_append, List.length_set, List.length_replicate, len_rowsPart, len_setCell, len_marks, len_markL]; first | omega | fail) | (apply litTakeU; (repeat rfl); done) | fail) ?_) | (refine Exists.intro _ (And.intro (rowGet _ _ _ (by omega)) ?_)) | (refine Or.inl ?_; apply callV_i; (repeat ((conv => whnf); first | refine And.intro (by first | omega | fail) ?_ | fail)); ((conv => whnf); first | exact FnB.mk (F_s_PointPut _) | fail); refine ⟨rfl, rfl, ?_⟩) | fail)
    all_goals first | (exfalso; omega) | skip | fail
    have hr : _ = rowU (putAll (l.take (i + 1))) := (app_two (eInt .u8) (putAll (l.take i)) (enc (ptOf l[i])) rfl rfl).trans (by rw [putAll_succ _ _ hlt])
    exact ⟨[], i + 1, by omega, ⟨⟨rfl, rfl⟩, ⟨by first | rfl | fail, slEq ((congrArg List.length hr).trans (List.length_map _)), by first | rfl | fail, trivial⟩, ⟨boxEq hr, trivial⟩⟩, by first | (dsimp only; omega) | fail⟩
  · obtain rfl : i = l.length := by omega
    repeat' ((conv => whnf); first | (refine iteB_dec (fun h => ?_) (fun h => ?_) <;> (try simp (disch := (first | omega | fail)) only [modAt, List.length_take, List.length_drop, List.length_map, List.length_append, List.length_set, List.length_replicate, len_rowsPart, len_setCell, len_marks, len_markL] at h)) | (refine wrapB_i64 (by first | omega | fail) (by first | omega | fail) ?_) | (refine And.intro (by first | exact True.intro | omega | fail) ?_) | (refine Exists.intro _ (And.intro (rowGet _ _ _ (by omega)) ?_)) | (refine Or.inl ?_; apply callV_i; (repeat ((conv => whnf); first | refine And.intro (by first | omega | fail) ?_ | fail)); ((conv => whnf); first | exact FnB.mk (F_s_PointPut _) | fail); refine ⟨rfl, rfl, ?_⟩) | fail)
    all_goals first | (exfalso; omega) | skip | fail
    refine .mk ⟨trivial, [1005], ⟨rfl, ?_⟩, by simp, rfl, ?_⟩
    · exact slEq (by rw [List.take_length])
    exact ⟨outOk_new (d := 1005) (by decide) rfl (boxEq (congrArg rowU (by rw [List.take_length]))), trivial⟩
theorem F_s_PointsPut (l : List Int) (hl : l.length ≤ 3000) : Fn pg 81 [.imm 1 (rowI l)] [] (.sl 500 [] 1 0 (putAll l).length) [(500, false, 1, rowU (putAll l))] := by
  refine Fn.ofN [0,2,5] [1002,1006,1008] Try.func81 (by rfl) rfl (by show 1 ≤ 9; decide) (by rfl) ?_
  repeat' ((conv => whnf); first | (refine iteB_dec (fun h => ?_) (fun h => ?_) <;> (try simp (disch := (first | omega | fail)) only [modAt, List.length_take, List.length_drop, List.length_map, List.length_append, List.length_set, List.length_replicate, len_rowsPart, len_setCell, len_marks, len_markL] at h)) | (refine And.intro (by first | exact True.intro | fail) ?_) | (refine Or.inl ?_; apply callV_i; (repeat ((conv => whnf); first | refine And.intro (by first | omega | fail) ?_ | fail)); ((conv => whnf); first | exact FnB.mk (F_s_l1Put _ (by first | omega | fail)) | fail); refine ⟨rfl, rfl, ?_⟩) | fail)
  all_goals first | (exfalso; omega) | skip | fail
  refine .mk ⟨trivial, [1008], ⟨rfl, ?_⟩, by simp, rfl, ?_⟩
  · rfl
  exact ⟨outOk_new (d := 1008) (by decide) rfl rfl, trivial⟩


def rd (l : List Int) (i : Nat) : Int := l.getD i 0
/-- How far the bytes behind the first one fit: 'd' may still come. -/
def cntF (l : List Int) (f : Int) : Nat → Nat → Nat
  | 0, k => k
  | d + 1, k => if k < l.length then (if fits f k (rd l k) = true then cntF l f d (k + 1) else k) else k
/-- The bits of those behind. -/
def valF (l : List Int) : Nat → Nat → Int → Int
  | 0, _, x => x
  | d + 1, j, x => valF l d (j + 1) (64 * x + rd l j - 128)
def baseOf (n : Nat) : Int := if n = 2 then 192 else if n = 3 then 224 else if n = 4 then 240 else 0
/-- The point that bytes begin with, and how many it takes. -/
def rp (l : List Int) : Int × Nat :=
  if form (rd l 0) = 0 then (65533, 1)
  else if cntF l (rd l 0) (form (rd l 0) - 1) 1 < form (rd l 0) then (65533, cntF l (rd l 0) (form (rd l 0) - 1) 1)
  else (valF l (form (rd l 0) - 1) 1 (rd l 0 - baseOf (form (rd l 0))), form (rd l 0))
def readAll : Nat → List Int → List Int
  | 0, _ => []
  | d + 1, l => if l = [] then [] else (rp l).1 :: readAll d (l.drop (rp l).2)
theorem form_le (b : Int) : form b ≤ 4 := by
  unfold form
  by_cases h1 : b < 128
  · rw [if_pos h1]; omega
  · rw [if_neg h1]
    by_cases h2 : 194 ≤ b ∧ b ≤ 223
    · rw [if_pos h2]; omega
    · rw [if_neg h2]
      by_cases h3 : 224 ≤ b ∧ b ≤ 239
      · rw [if_pos h3]; omega
      · rw [if_neg h3]
        by_cases h4 : 240 ≤ b ∧ b ≤ 244
        · rw [if_pos h4]; omega
        · rw [if_neg h4]; omega
theorem cntF_ge (l : List Int) (f : Int) : ∀ d k, k ≤ cntF l f d k := by
  intro d
  induction d with
  | zero => intro k; exact Nat.le_refl _
  | succ d ih =>
    intro k
    simp only [cntF]
    split
    · split
      · exact Nat.le_trans (Nat.le_succ k) (ih (k + 1))
      · exact Nat.le_refl _
    · exact Nat.le_refl _
theorem cntF_len (l : List Int) (f : Int) : ∀ d k, k ≤ l.length → cntF l f d k ≤ l.length := by
  intro d
  induction d with
  | zero => intro k h; exact h
  | succ d ih =>
    intro k h
    simp only [cntF]
    split
    · split
      · exact ih (k + 1) (by omega)
      · exact h
    · exact h
theorem rp_pos (l : List Int) : 1 ≤ (rp l).2 := by
  unfold rp
  split
  · exact Nat.le_refl _
  · split
    · exact cntF_ge _ _ _ _
    · show 1 ≤ form (rd l 0); omega
theorem rp_len (l : List Int) (h : 0 < l.length) : (rp l).2 ≤ l.length := by
  unfold rp
  split
  · exact h
  · have h1 := cntF_len l (rd l 0) (form (rd l 0) - 1) 1 h
    split
    · exact h1
    · show form (rd l 0) ≤ l.length; omega
theorem readAll_more : ∀ d l, l.length ≤ d → ∀ e, readAll (d + e) l = readAll d l := by
  intro d
  induction d with
  | zero =>
    intro l h e
    have : l = [] := List.eq_nil_of_length_eq_zero (by omega)
    subst this
    cases e with
    | zero => rfl
    | succ e => simp [readAll]
  | succ d ih =>
    intro l h e
    by_cases hl : l = []
    · subst hl
      rw [show d + 1 + e = (d + e) + 1 from by omega]; simp [readAll]
    · rw [show d + 1 + e = (d + e) + 1 from by omega]
      simp only [readAll, if_neg hl]
      rw [ih _ (by have := rp_pos l; rw [List.length_drop]; omega) e]
theorem readAll_len : ∀ d l, (readAll d l).length ≤ d := by
  intro d
  induction d with
  | zero => intro l; exact Nat.le_refl _
  | succ d ih =>
    intro l
    simp only [readAll]
    split
    · simp
    · simpa using ih _
theorem readAll_step (b : List Int) (i : Nat) (h : i < b.length) : readAll (b.length - i) (b.drop i) = (rp (b.drop i)).1 :: readAll (b.length - (i + (rp (b.drop i)).2)) (b.drop (i + (rp (b.drop i)).2)) := by
  obtain ⟨d, hd⟩ : ∃ d, b.length - i = d + 1 := ⟨b.length - i - 1, by omega⟩
  have hne : b.drop i ≠ [] := by intro e; have := congrArg List.length e; simp at this; omega
  have h1 := rp_pos (b.drop i)
  have h2 := rp_len (b.drop i) (by simp; omega)
  rw [List.length_drop] at h2
  rw [hd]
  simp only [readAll, if_neg hne, List.drop_drop]
  congr 1
  have := readAll_more (b.length - (i + (rp (b.drop i)).2)) (b.drop (i + (rp (b.drop i)).2)) (by simp) (d - (b.length - (i + (rp (b.drop i)).2)))
  rw [← this]
  congr 1; omega
theorem rd_at (b : List Int) (i : Nat) (h : i < b.length) : rd (b.drop i) 0 = b[i] := by
  unfold rd; simp [List.getD_eq_getElem?_getD, h]
theorem cntF_go (l : List Int) (f : Int) (n k : Nat) (h1 : k < n) (h2 : k < l.length) (h3 : fits f k (rd l k) = true) : cntF l f (n - k) k = cntF l f (n - (k + 1)) (k + 1) := by
  obtain ⟨d, hd⟩ : ∃ d, n - k = d + 1 := ⟨n - k - 1, by omega⟩
  rw [hd]; simp only [cntF]; rw [if_pos h2, if_pos h3]; congr 1; omega
theorem cntF_stop (l : List Int) (f : Int) (n k : Nat) (h : k < n → k < l.length → fits f k (rd l k) = false) : cntF l f (n - k) k = k := by
  cases hd : n - k with
  | zero => rfl
  | succ d =>
    simp only [cntF]
    split
    · rename_i h2
      rw [if_neg (by rw [h (by omega) h2]; decide)]
    · rfl
theorem rp_bad (L : List Int) (k : Nat) (hK : cntF L (rd L 0) (form (rd L 0) - 1) 1 = k) (h : form (rd L 0) = 0 ∨ k < form (rd L 0)) : rp L = (65533, k) := by
  unfold rp
  by_cases h0 : form (rd L 0) = 0
  · rw [if_pos h0]; rw [h0] at hK; rw [← hK]; rfl
  · rw [if_neg h0, hK, if_pos (by omega)]
theorem rp_good (L : List Int) (k : Nat) (hK : cntF L (rd L 0) (form (rd L 0) - 1) 1 = k) (h0 : form (rd L 0) ≠ 0) (h : form (rd L 0) ≤ k) : rp L = (valF L (form (rd L 0) - 1) 1 (rd L 0 - baseOf (form (rd L 0))), form (rd L 0)) := by
  unfold rp
  rw [if_neg h0, hK, if_neg (by omega)]
theorem valF_go (l : List Int) (n j : Nat) (x : Int) (h : j < n) : valF l (n - j) j x = valF l (n - (j + 1)) (j + 1) (64 * x + rd l j - 128) := by
  obtain ⟨d, hd⟩ : ∃ d, n - j = d + 1 := ⟨n - j - 1, by omega⟩
  rw [hd]; simp only [valF]; congr 1; omega
theorem rd_drop2 (b : List Int) (i k : Nat) (h : i + k < b.length) : rd (b.drop i) k = b[i + k] := by
  unfold rd; simp [List.getD_eq_getElem?_getD, h]
theorem F_s_l1Read (b : List Int) (hn : b.length ≤ 1099511627776) (hb : ∀ n : Int, 0 ≤ rdD b n ∧ rdD b n ≤ 255) : Fn pg 93 [.imm 1 (rowU b)] [] (.sl 500 [] 1 0 (readAll b.length b).length) [(500, false, 1, rowI (readAll b.length b))] := by
  refine Fn.ofN [0,2,3,4,5,6,7,8,9,14,44,53,61,62,66,70,76] [1002,1010,1019,1042,1055,1056,1087,1092,1093] Try.func93 (by rfl) rfl (by show 1 ≤ 98; decide) (by rfl) ?_
  repeat' ((conv => whnf); first | (refine And.intro (by first | exact True.intro | fail) ?_) | fail)
  refine ⟨Nat × List Int, fun x => x.1 ≤ b.length ∧ x.2.length ≤ x.1 ∧ readAll b.length b = x.2 ++ readAll (b.length - x.1) (b.drop x.1), fun x => [(0, .imm 1 (rowU b)), (3, .sl 1010 [] 1 0 x.2.length), (4, .lit (.int .i64 x.1))], fun x => [(1010, false, 1, rowI x.2)], fun x => b.length - x.1, ⟨[], (0, []), ⟨Nat.zero_le _, Nat.le_refl _, rfl⟩, ⟨rfl, rfl⟩, ⟨by first | rfl | fail, by first | rfl | fail, by first | rfl | fail, trivial⟩, ⟨rfl, trivial⟩⟩, ?_⟩
  intro (i, o) ⟨hi, ho, hh⟩
  dsimp only at hi ho hh
  by_cases hlt : i < b.length
  · have hba : 0 ≤ b[i] ∧ b[i] ≤ 255 := by have := hb i; rwa [rdD_nat b i hlt] at this
    obtain ⟨hb0, hb1⟩ := hba
    have hstep := readAll_step b i hlt
    have hr0 := rd_at b i hlt
    have hfl := form_le b[i]
    repeat' ((conv => whnf); first | (refine iteB_dec (fun h => ?_) (fun h => ?_) <;> (try simp (disch := (first | omega | fail)) only [modAt, List.length_take, List.length_drop, List.length_map, List.length_append, List.length_set, List.length_replicate, len_rowsPart, len_setCell, len_marks, len_markL] at h)) | (refine wrapB_i64 (by first | omega | (simp (disch := (first | omega | fail)) only [modAt, List.length_take, List.length_drop, List.length_map, List.length_append, List.length_set, List.length_replicate, len_rowsPart, len_setCell, len_marks, len_markL]; first | omega | fail) | fail) (by first | omega | (simp (disch := (first | omega | fail)) only [modAt, List.length_take, List.length_drop, List.length_map, List.length_append, List.length_set, List.length_replicate, len_rowsPart, len_setCell, len_marks, len_markL]; first | omega | fail) | fail) ?_) | (refine And.intro (by first | exact True.intro | omega | fail) ?_) | (refine Exists.intro _ (And.intro (rowGet _ _ _ (by omega)) ?_)) | (refine Or.inl ?_; apply callV_i; (repeat ((conv => whnf); first | refine And.intro (by first | omega | fail) ?_ | fail)); ((conv => whnf); first | exact FnB.mk (F_s_l1Forms _) | fail); refine ⟨rfl, rfl, ?_⟩) | fail)
    all_goals first | (exfalso; omega) | skip | fail
    refine ⟨Nat, fun k => 1 ≤ k ∧ (k ≤ 1 ∨ k ≤ form b[i]) ∧ cntF (b.drop i) b[i] (form b[i] - 1) 1 = cntF (b.drop i) b[i] (form b[i] - k) k, fun k => [(0, .imm 1 (rowU b)), (3, .sl 1010 [] 1 0 o.length), (4, .lit (.int .i64 i)), (5, .lit (.int .i64 b[i])), (6, .lit (.int .i64 (form b[i]))), (7, .lit (.int .i64 k))], fun _ => [(1010, false, 1, rowI o)], fun k => form b[i] - k, ⟨[], 1, ⟨by omega, .inl (by omega), rfl⟩, ⟨rfl, rfl⟩, ⟨by first | rfl | fail, by first | rfl | fail, by first | rfl | fail, by first | rfl | fail, by first | rfl | fail, by first | rfl | fail, trivial⟩, ⟨rfl, trivial⟩⟩, ?_⟩
    intro k ⟨hk1, hk2, hk3⟩
    have hsz : (b.drop i).length = b.length - i := by simp
    have hap := fun (x : Int) => app_one (eInt .i64) o x (n := o.length) rfl rfl
    -- a stand-in is read
    have bad : cntF (b.drop i) b[i] (form b[i] - 1) 1 = k → form b[i] = 0 ∨ k < form b[i] → i + k ≤ b.length ∧ readAll b.length b = (o ++ [65533]) ++ readAll (b.length - (i + k)) (b.drop (i + k)) := by
      intro hK h0
      have hrp := rp_bad (b.drop i) k (by rw [hr0]; exact hK) (by rw [hr0]; exact h0)
      have hle := rp_len (b.drop i) (by rw [hsz]; omega)
      rw [hrp] at hstep hle
      exact ⟨by dsimp only at hle; omega, by rw [hh, hstep]; simp⟩
    by_cases hik : i + k < b.length
    · have hbk := hb ((i + k : Nat) : Int)
      rw [rdD_nat b (i + k) hik] at hbk
      obtain ⟨hbk0, hbk1⟩ := hbk
      have hrk := rd_drop2 b i k hik
      repeat' ((conv => whnf); first | (refine iteB_dec (fun h => ?_) (fun h => ?_) <;> (try simp (disch := (first | omega | fail)) only [modAt, List.length_take, List.length_drop, List.length_map, List.length_append, List.length_set, List.length_replicate, len_rowsPart, len_setCell, len_marks, len_markL] at h)) | (refine iteB_of (fun h => ?_) (fun h => ?_)) | (refine wrapB_i64 (by first | omega | fail) (by first | omega | fail) ?_) | (refine And.intro (by first | exact True.intro | exact Nat.le_refl _ | omega | (simp (disch := (first | omega | fail)) only [modAt, List.length_take, List.length_drop, List.length_map, List.length_append, List.length_set, List.length_replicate, len_rowsPart, len_setCell, len_marks, len_markL]; first | omega | fail) | (apply litOne; (repeat rfl); done) | fail) ?_) | (refine Exists.intro _ (And.intro (rowGet _ _ _ (by omega)) ?_)) | (refine Or.inl ?_; apply callV_i; (repeat ((conv => whnf); first | refine And.intro (by first | omega | fail) ?_ | fail)); ((conv => whnf); first | exact FnB.mk (F_s_l1Fits _ _ _) | fail); refine ⟨rfl, rfl, ?_⟩) | fail)
      all_goals first | (exfalso; omega) | skip | fail
      all_goals (conv => whnf)
      all_goals first
        | exact ⟨[], k + 1, ⟨by omega, .inr (by omega), hk3.trans (cntF_go _ _ _ _ (by omega) (by omega) (by rw [hrk]; assumption))⟩, ⟨⟨rfl, rfl⟩, ⟨by first | rfl | fail, by first | rfl | fail, by first | rfl | fail, by first | rfl | fail, by first | rfl | fail, by first | rfl | fail, trivial⟩, ⟨rfl, trivial⟩⟩, by first | (dsimp only; omega) | fail⟩
        | (obtain ⟨b1, b2⟩ := bad (hk3.trans (cntF_stop _ _ _ _ (fun g1 g2 => by first | (exfalso; omega) | (rw [hrk]; assumption) | fail))) (by omega)
           exact ⟨[], (i + k, o ++ [65533]), ⟨b1, by simp; omega, b2⟩, ⟨⟨rfl, rfl⟩, ⟨by first | rfl | fail, slEq ((congrArg List.length (hap 65533)).trans (List.length_map _)), by first | rfl | fail, trivial⟩, ⟨boxEq (hap 65533), trivial⟩⟩, by dsimp only; omega⟩)
        | skip
      all_goals
        have hkn : k = form b[i] := by omega
        have hK : cntF (b.drop i) b[i] (form b[i] - 1) 1 = k := hk3.trans (cntF_stop _ _ _ _ (fun g1 g2 => by exfalso; omega))
        have hrp := rp_good (b.drop i) k (by rw [hr0]; exact hK) (by rw [hr0]; omega) (by rw [hr0]; omega)
        have hle := rp_len (b.drop i) (by rw [hsz]; omega)
        rw [hr0] at hrp
        rw [hrp] at hstep hle
        dsimp only at hstep hle
        rw [hsz] at hle
        have hbo : 0 ≤ baseOf (form b[i]) ∧ baseOf (form b[i]) ≤ 240 := by unfold baseOf; grind
        refine ⟨Nat × Int, fun y => 1 ≤ y.1 ∧ y.1 ≤ form b[i] ∧ valF (b.drop i) (form b[i] - 1) 1 (b[i] - baseOf (form b[i])) = valF (b.drop i) (form b[i] - y.1) y.1 y.2 ∧ (y.1 = 1 → -1000 ≤ y.2 ∧ y.2 ≤ 1000) ∧ (y.1 = 2 → -1000000 ≤ y.2 ∧ y.2 ≤ 1000000) ∧ (y.1 = 3 → -1000000000 ≤ y.2 ∧ y.2 ≤ 1000000000) ∧ (y.1 = 4 → -1000000000000 ≤ y.2 ∧ y.2 ≤ 1000000000000), fun y => [(0, .imm 1 (rowU b)), (3, .sl 1010 [] 1 0 o.length), (4, .lit (.int .i64 i)), (6, .lit (.int .i64 (form b[i]))), (8, .lit (.int .i64 y.2)), (9, .lit (.int .i64 y.1))], fun _ => [(1010, false, 1, rowI o)], fun y => form b[i] - y.1, ⟨[], (1, b[i] - baseOf (form b[i])), ⟨Nat.le_refl _, by dsimp only; omega, rfl, by dsimp only; omega, by dsimp only; omega, by dsimp only; omega, by dsimp only; omega⟩, ⟨rfl, rfl⟩, ⟨by first | rfl | fail, by first | rfl | fail, by first | rfl | fail, by first | rfl | fail, by (show V.lit (.int .i64 _) = V.lit (.int .i64 _)); congr 2; unfold baseOf; grind, by first | rfl | fail, trivial⟩, ⟨rfl, trivial⟩⟩, ?_⟩
        intro (j, x) ⟨hj1, hj2, hj3, hx1, hx2, hx3, hx4⟩
        dsimp only at hj1 hj2 hj3 hx1 hx2 hx3 hx4
        by_cases hjn : j < form b[i]
        · have hij : i + j < b.length := by omega
          have hbj := hb ((i + j : Nat) : Int)
          rw [rdD_nat b (i + j) hij] at hbj
          obtain ⟨hbj0, hbj1⟩ := hbj
          have hrj := rd_drop2 b i j hij
          repeat' ((conv => whnf); first | (refine iteB_dec (fun h => ?_) (fun h => ?_) <;> (try simp (disch := (first | omega | fail)) only [modAt, List.length_take, List.length_drop, List.length_map, List.length_append, List.length_set, List.length_replicate, len_rowsPart, len_setCell, len_marks, len_markL] at h)) | (refine wrapB_i64 (by first | omega | (simp (disch := (first | omega | fail)) only [modAt, List.length_take, List.length_drop, List.length_map, List.length_append, List.length_set, List.length_replicate, len_rowsPart, len_setCell, len_marks, len_markL]; first | omega | fail) | fail) (by first | omega | (simp (disch := (first | omega | fail)) only [modAt, List.length_take, List.length_drop, List.length_map, List.length_append, List.length_set, List.length_replicate, len_rowsPart, len_setCell, len_marks, len_markL]; first | omega | fail) | fail) ?_) | (refine And.intro (by first | exact True.intro | exact Nat.le_refl _ | omega | fail) ?_) | (refine Exists.intro _ (And.intro (rowGet _ _ _ (by omega)) ?_)) | fail)
          all_goals first | (exfalso; omega) | skip | fail
          all_goals (conv => whnf)
          all_goals
            exact ⟨[], (j + 1, 64 * x + b[i + j] - 128), ⟨by dsimp only; omega, by dsimp only; omega, by dsimp only; rw [hj3, valF_go _ _ _ _ hjn, hrj], by dsimp only; omega, by dsimp only; omega, by dsimp only; omega, by dsimp only; omega⟩, ⟨⟨rfl, rfl⟩, ⟨by first | rfl | fail, by first | rfl | fail, by first | rfl | fail, by first | rfl | fail, by first | rfl | fail, by first | rfl | fail, trivial⟩, ⟨rfl, trivial⟩⟩, by dsimp only; omega⟩
        · obtain rfl : j = form b[i] := by omega
          repeat' ((conv => whnf); first | (refine iteB_dec (fun h => ?_) (fun h => ?_) <;> (try simp (disch := (first | omega | fail)) only [modAt, List.length_take, List.length_drop, List.length_map, List.length_append, List.length_set, List.length_replicate, len_rowsPart, len_setCell, len_marks, len_markL] at h)) | (refine wrapB_i64 (by first | omega | fail) (by first | omega | fail) ?_) | (refine And.intro (by first | exact True.intro | exact Nat.le_refl _ | omega | (simp (disch := (first | omega | fail)) only [modAt, List.length_take, List.length_drop, List.length_map, List.length_append, List.length_set, List.length_replicate, len_rowsPart, len_setCell, len_marks, len_markL]; first | omega | fail) | (apply litOne; (repeat rfl); done) | fail) ?_) | (refine Exists.intro _ (And.intro (rowGet _ _ _ (by omega)) ?_)) | fail)
          all_goals first | (exfalso; omega) | skip | fail
          all_goals (conv => whnf)
          all_goals
            rw [Nat.sub_self] at hj3
            have hval : valF (b.drop i) (form b[i] - 1) 1 (b[i] - baseOf (form b[i])) = x := hj3
            rw [hval] at hstep
            exact ⟨[], (i + form b[i], o ++ [x]), ⟨by dsimp only; omega, by simp; omega, by dsimp only; rw [hh, hstep]; simp⟩, ⟨⟨rfl, rfl⟩, ⟨by first | rfl | fail, slEq ((congrArg List.length (hap x)).trans (List.length_map _)), by first | rfl | fail, trivial⟩, ⟨boxEq (hap x), trivial⟩⟩, by dsimp only; omega⟩
    · repeat' ((conv => whnf); first | (refine iteB_dec (fun h => ?_) (fun h => ?_) <;> (try simp (disch := (first | omega | fail)) only [modAt, List.length_take, List.length_drop, List.length_map, List.length_append, List.length_set, List.length_replicate, len_rowsPart, len_setCell, len_marks, len_markL] at h)) | (refine iteB_of (fun h => ?_) (fun h => ?_)) | (refine wrapB_i64 (by first | omega | fail) (by first | omega | fail) ?_) | (refine And.intro (by first | exact True.intro | exact Nat.le_refl _ | omega | (simp (disch := (first | omega | fail)) only [modAt, List.length_take, List.length_drop, List.length_map, List.length_append, List.length_set, List.length_replicate, len_rowsPart, len_setCell, len_marks, len_markL]; first | omega | fail) | (apply litOne; (repeat rfl); done) | fail) ?_) | (refine Exists.intro _ (And.intro (rowGet _ _ _ (by omega)) ?_)) | (refine Or.inl ?_; apply callV_i; (repeat ((conv => whnf); first | refine And.intro (by first | omega | fail) ?_ | fail)); ((conv => whnf); first | exact FnB.mk (F_s_l1Fits _ _ _) | fail); refine ⟨rfl, rfl, ?_⟩) | fail)
      all_goals first | (exfalso; omega) | skip | fail
      all_goals (conv => whnf)
      all_goals first
        | (obtain ⟨b1, b2⟩ := bad (hk3.trans (cntF_stop _ _ _ _ (fun g1 g2 => by exfalso; omega))) (by omega)
           exact ⟨[], (i + k, o ++ [65533]), ⟨b1, by simp; omega, b2⟩, ⟨⟨rfl, rfl⟩, ⟨by first | rfl | fail, slEq ((congrArg List.length (hap 65533)).trans (List.length_map _)), by first | rfl | fail, trivial⟩, ⟨boxEq (hap 65533), trivial⟩⟩, by dsimp only; omega⟩)
        | skip
      all_goals
        have hkn : k = form b[i] := by omega
        have hK : cntF (b.drop i) b[i] (form b[i] - 1) 1 = k := hk3.trans (cntF_stop _ _ _ _ (fun g1 g2 => by exfalso; omega))
        have hrp := rp_good (b.drop i) k (by rw [hr0]; exact hK) (by rw [hr0]; omega) (by rw [hr0]; omega)
        have hle := rp_len (b.drop i) (by rw [hsz]; omega)
        rw [hr0] at hrp
        rw [hrp] at hstep hle
        dsimp only at hstep hle
        rw [hsz] at hle
        have hbo : 0 ≤ baseOf (form b[i]) ∧ baseOf (form b[i]) ≤ 240 := by unfold baseOf; grind
        refine ⟨Nat × Int, fun y => 1 ≤ y.1 ∧ y.1 ≤ form b[i] ∧ valF (b.drop i) (form b[i] - 1) 1 (b[i] - baseOf (form b[i])) = valF (b.drop i) (form b[i] - y.1) y.1 y.2 ∧ (y.1 = 1 → -1000 ≤ y.2 ∧ y.2 ≤ 1000) ∧ (y.1 = 2 → -1000000 ≤ y.2 ∧ y.2 ≤ 1000000) ∧ (y.1 = 3 → -1000000000 ≤ y.2 ∧ y.2 ≤ 1000000000) ∧ (y.1 = 4 → -1000000000000 ≤ y.2 ∧ y.2 ≤ 1000000000000), fun y => [(0, .imm 1 (rowU b)), (3, .sl 1010 [] 1 0 o.length), (4, .lit (.int .i64 i)), (6, .lit (.int .i64 (form b[i]))), (8, .lit (.int .i64 y.2)), (9, .lit (.int .i64 y.1))], fun _ => [(1010, false, 1, rowI o)], fun y => form b[i] - y.1, ⟨[], (1, b[i] - baseOf (form b[i])), ⟨Nat.le_refl _, by dsimp only; omega, rfl, by dsimp only; omega, by dsimp only; omega, by dsimp only; omega, by dsimp only; omega⟩, ⟨rfl, rfl⟩, ⟨by first | rfl | fail, by first | rfl | fail, by first | rfl | fail, by first | rfl | fail, by (show V.lit (.int .i64 _) = V.lit (.int .i64 _)); congr 2; unfold baseOf; grind, by first | rfl | fail, trivial⟩, ⟨rfl, trivial⟩⟩, ?_⟩
        intro (j, x) ⟨hj1, hj2, hj3, hx1, hx2, hx3, hx4⟩
        dsimp only at hj1 hj2 hj3 hx1 hx2 hx3 hx4
        by_cases hjn : j < form b[i]
        · have hij : i + j < b.length := by omega
          have hbj := hb ((i + j : Nat) : Int)
          rw [rdD_nat b (i + j) hij] at hbj
          obtain ⟨hbj0, hbj1⟩ := hbj
          have hrj := rd_drop2 b i j hij
          repeat' ((conv => whnf); first | (refine iteB_dec (fun h => ?_) (fun h => ?_) <;> (try simp (disch := (first | omega | fail)) only [modAt, List.length_take, List.length_drop, List.length_map, List.length_append, List.length_set, List.length_replicate, len_rowsPart, len_setCell, len_marks, len_markL] at h)) | (refine wrapB_i64 (by first | omega | (simp (disch := (first | omega | fail)) only [modAt, List.length_take, List.length_drop, List.length_map, List.length_append, List.length_set, List.length_replicate, len_rowsPart, len_setCell, len_marks, len_markL]; first | omega | fail) | fail) (by first | omega | (simp (disch := (first | omega | fail)) only [modAt, List.length_take, List.length_drop, List.length_map, List.length_append, List.length_set, List.length_replicate, len_rowsPart, len_setCell, len_marks, len_markL]; first | omega | fail) | fail) ?_) | (refine And.intro (by first | exact True.intro | exact Nat.le_refl _ | omega | fail) ?_) | (refine Exists.intro _ (And.intro (rowGet _ _ _ (by omega)) ?_)) | fail)
          all_goals first | (exfalso; omega) | skip | fail
          all_goals (conv => whnf)
          all_goals
            exact ⟨[], (j + 1, 64 * x + b[i + j] - 128), ⟨by dsimp only; omega, by dsimp only; omega, by dsimp only; rw [hj3, valF_go _ _ _ _ hjn, hrj], by dsimp only; omega, by dsimp only; omega, by dsimp only; omega, by dsimp only; omega⟩, ⟨⟨rfl, rfl⟩, ⟨by first | rfl | fail, by first | rfl | fail, by first | rfl | fail, by first | rfl | fail, by first | rfl | fail, by first | rfl | fail, trivial⟩, ⟨rfl, trivial⟩⟩, by dsimp only; omega⟩
        · obtain rfl : j = form b[i] := by omega
          repeat' ((conv => whnf); first | (refine iteB_dec (fun h => ?_) (fun h => ?_) <;> (try simp (disch := (first | omega | fail)) only [modAt, List.length_take, List.length_drop, List.length_map, List.length_append, List.length_set, List.length_replicate, len_rowsPart, len_setCell, len_marks, len_markL] at h)) | (refine wrapB_i64 (by first | omega | fail) (by first | omega | fail) ?_) | (refine And.intro (by first | exact True.intro | exact Nat.le_refl _ | omega | (simp (disch := (first | omega | fail)) only [modAt, List.length_take, List.length_drop, List.length_map, List.length_append, List.length_set, List.length_replicate, len_rowsPart, len_setCell, len_marks, len_markL]; first | omega | fail) | (apply litOne; (repeat rfl); done) | fail) ?_) | (refine Exists.intro _ (And.intro (rowGet _ _ _ (by omega)) ?_)) | fail)
          all_goals first | (exfalso; omega) | skip | fail
          all_goals (conv => whnf)
          all_goals
            rw [Nat.sub_self] at hj3
            have hval : valF (b.drop i) (form b[i] - 1) 1 (b[i] - baseOf (form b[i])) = x := hj3
            rw [hval] at hstep
            exact ⟨[], (i + form b[i], o ++ [x]), ⟨by dsimp only; omega, by simp; omega, by dsimp only; rw [hh, hstep]; simp⟩, ⟨⟨rfl, rfl⟩, ⟨by first | rfl | fail, slEq ((congrArg List.length (hap x)).trans (List.length_map _)), by first | rfl | fail, trivial⟩, ⟨boxEq (hap x), trivial⟩⟩, by dsimp only; omega⟩
  · obtain rfl : i = b.length := by omega
    rw [Nat.sub_self] at hh
    have hh' : readAll b.length b = o := by rw [hh]; simp [readAll]
    repeat' ((conv => whnf); first | (refine iteB_dec (fun h => ?_) (fun h => ?_) <;> (try simp (disch := (first | omega | fail)) only [modAt, List.length_take, List.length_drop, List.length_map, List.length_append, List.length_set, List.length_replicate, len_rowsPart, len_setCell, len_marks, len_markL] at h)) | (refine wrapB_i64 (by first | omega | fail) (by first | omega | fail) ?_) | (refine And.intro (by first | exact True.intro | omega | fail) ?_) | (refine Exists.intro _ (And.intro (rowGet _ _ _ (by omega)) ?_)) | (refine Or.inl ?_; apply callV_i; (repeat ((conv => whnf); first | refine And.intro (by first | omega | fail) ?_ | fail)); ((conv => whnf); first | exact FnB.mk (F_s_l1Forms _) | fail); refine ⟨rfl, rfl, ?_⟩) | fail)
    all_goals first | (exfalso; omega) | skip | fail
    rw [hh']
    refine .mk ⟨trivial, [1010], ⟨rfl, ?_⟩, by simp, rfl, ?_⟩
    · rfl
    exact ⟨outOk_new (d := 1010) (by decide) rfl rfl, trivial⟩


def trimB (l : List Int) : List Int := if l.take 3 = [239, 187, 191] then l.drop 3 else l
theorem take_dropU (E : Int → List V) (xs : List Int) (n m : Nat) (h : m = xs.length) : List.drop n (List.take m (List.map E xs)) = List.map E (List.drop n xs) := by
  subst h; rw [← List.length_map (f := E), List.take_length, List.map_drop]
theorem rdD_drop (b : List Int) (k : Nat) (hb : ∀ n : Int, 0 ≤ rdD b n ∧ rdD b n ≤ 255) : ∀ n : Int, 0 ≤ rdD (b.drop k) n ∧ rdD (b.drop k) n ≤ 255 := by
  intro n
  have := hb ((k : Int) + (n.toNat : Int))
  unfold rdD at *
  rw [show ((k : Int) + (n.toNat : Int)).toNat = k + n.toNat by omega] at this
  simpa [List.getD_eq_getElem?_getD] using this
theorem take3 (b : List Int) (h : 3 ≤ b.length) : b.take 3 = [b[0], b[1], b[2]] := by
  match b, h with
  | x :: y :: z :: r, _ => rfl
theorem F_s_UtfRead (b : List Int) (hn : b.length ≤ 3000) (hb : ∀ n : Int, 0 ≤ rdD b n ∧ rdD b n ≤ 255) : Fn pg 82 [.imm 1 (rowU b)] [] (.sl 500 [] 1 0 (readAll (trimB b).length (trimB b)).length) [(500, false, 1, rowI (readAll (trimB b).length (trimB b)))] := by
  by_cases ht : b.take 3 = [239, 187, 191]
  · have hF := F_s_l1Read (b.drop 3) (by simp; omega) (rdD_drop b 3 hb)
    have h3 : 3 ≤ b.length := by have := congrArg List.length ht; simp at this; omega
    rw [take3 b h3] at ht
    simp only [List.cons.injEq, and_true] at ht
    have htr : trimB b = b.drop 3 := by unfold trimB; rw [take3 b h3, if_pos (by simp [ht])]
    have r0 : rdD b 0 = 239 := (rdD_nat b 0 (by omega)).trans ht.1
    have r1 : rdD b 1 = 187 := (rdD_nat b 1 (by omega)).trans ht.2.1
    have r2 : rdD b 2 = 191 := (rdD_nat b 2 (by omega)).trans ht.2.2
    rw [htr]
    refine Fn.ofN [0,2,5,27] [1002,1006,1029,1030,1032] Try.func82 (by rfl) rfl (by show 1 ≤ 33; decide) (by rfl) ?_
    repeat' ((conv => whnf); first | (refine iteB_dec (fun h => ?_) (fun h => ?_) <;> (try simp (disch := (first | omega | fail)) only [modAt, List.length_take, List.length_drop, List.length_map, List.length_append, List.length_set, List.length_replicate, len_rowsPart, len_setCell, len_marks, len_markL] at h)) | (refine And.intro (by first | exact True.intro | decide +kernel | omega | (simp (disch := (first | omega | fail)) only [modAt, List.length_take, List.length_drop, List.length_map, List.length_append, List.length_set, List.length_replicate, len_rowsPart, len_setCell, len_marks, len_markL]; first | omega | fail) | fail) ?_) | (refine Exists.intro _ (And.intro (rowGetI _ _ _ (by omega) (by omega)) ?_)) | (refine Or.inl ?_; apply callV_i; (repeat ((conv => whnf); first | refine And.intro (by first | omega | fail) ?_ | fail)); ((conv => whnf); first | exact FnB.mk (F_s_l1Read _ (by first | omega | fail) (by first | omega | fail)) | (simp (disch := (first | (simp; first | done | fail) | fail)) only [takeAll, takeAll2, take_app, take_app2, take_marks, take_dropU]; first | exact FnB.mk (hF) | fail) | fail); refine ⟨rfl, rfl, ?_⟩) | fail)
    all_goals first | (exfalso; omega) | skip | fail
    refine .mk ⟨trivial, [1030], ⟨rfl, ?_⟩, by simp, rfl, ?_⟩
    · rfl
    exact ⟨outOk_new (d := 1030) (by decide) rfl rfl, trivial⟩
  · have hF := F_s_l1Read b (by omega) hb
    have htr : trimB b = b := by unfold trimB; rw [if_neg ht]
    have h4 : ¬ (3 ≤ b.length ∧ rdD b 0 = 239 ∧ rdD b 1 = 187 ∧ rdD b 2 = 191) := fun ⟨h3, r0, r1, r2⟩ => ht (by
      rw [take3 b h3, ← rdD_nat b 0 (by omega), ← rdD_nat b 1 (by omega), ← rdD_nat b 2 (by omega)]
      exact congr (congrArg List.cons r0) (congr (congrArg List.cons r1) (congrArg (fun x => [x]) r2)))
    rw [htr]
    refine Fn.ofN [0,2,5,27] [1002,1006,1029,1030,1032] Try.func82 (by rfl) rfl (by show 1 ≤ 33; decide) (by rfl) ?_
    repeat' ((conv => whnf); first | (refine iteB_dec (fun h => ?_) (fun h => ?_) <;> (try simp (disch := (first | omega | fail)) only [modAt, List.length_take, List.length_drop, List.length_map, List.length_append, List.length_set, List.length_replicate, len_rowsPart, len_setCell, len_marks, len_markL] at h)) | (refine And.intro (by first | exact True.intro | decide +kernel | omega | fail) ?_) | (refine Exists.intro _ (And.intro (rowGetI _ _ _ (by omega) (by omega)) ?_)) | (refine Or.inl ?_; apply callV_i; (repeat ((conv => whnf); first | refine And.intro (by first | omega | fail) ?_ | fail)); ((conv => whnf); first | exact FnB.mk (hF) | (simp (disch := (first | omega | fail)) only [takeAll, takeAll2, take_app, take_app2, take_marks, take_dropU]; first | exact FnB.mk (F_s_l1Read _ (by first | omega | fail) (by first | omega | fail)) | fail) | fail); refine ⟨rfl, rfl, ?_⟩) | fail)
    all_goals first | (exfalso; omega) | skip | fail
    all_goals
      refine .mk ⟨trivial, [1032], ⟨rfl, ?_⟩, by simp, rfl, ?_⟩
      · rfl
      exact ⟨outOk_new (d := 1032) (by decide) rfl rfl, trivial⟩


def strI (l : List Int) : ByteArray := ⟨(unbyR (rowU l)).toArray⟩
def utfOk (b : List Int) : Bool := decide (b.length ≤ 3000) && decide (strI (putAll (readAll (trimB b).length (trimB b))) = strI b)
theorem trimB_len (b : List Int) : (trimB b).length ≤ b.length := by unfold trimB; split <;> simp
theorem rowU_by : ∀ (l : List Int), (∀ x ∈ l, 0 ≤ x ∧ x ≤ 255) → rowU l = byR (unbyR (rowU l)) := by
  intro l
  induction l with
  | nil => intro _; rfl
  | cons x r ih =>
    intro h
    have hx := h x (by simp)
    have hr := ih fun y hy => h y (by simp [hy])
    obtain ⟨m, rfl⟩ : ∃ m : Nat, x = m := ⟨x.toNat, by omega⟩
    have h1 := byte_row m (by omega)
    show [V.lit (.int .u8 (m : Int))] :: rowU r = byR (unbyR ([V.lit (.int .u8 (m : Int))] :: rowU r))
    simp only [byR, unbyR, List.map_cons, List.map_nil, List.cons.injEq, and_true] at h1 hr ⊢
    exact ⟨h1, hr⟩
theorem rdD_mem (b : List Int) (hb : ∀ n : Int, 0 ≤ rdD b n ∧ rdD b n ≤ 255) : ∀ x ∈ b, 0 ≤ x ∧ x ≤ 255 := by
  intro x hx
  obtain ⟨i, hi, rfl⟩ := List.mem_iff_getElem.1 hx
  have := hb i
  rwa [rdD_nat b i hi] at this
theorem enc_by (y : Int) (h0 : 0 ≤ y) (h1 : y ≤ 1114111) : ∀ x ∈ enc y, 0 ≤ x ∧ x ≤ 255 := by
  intro x hx
  unfold enc at hx
  split at hx
  · simp at hx; omega
  · split at hx
    · simp at hx; omega
    · split at hx <;> (simp at hx; omega)
theorem putAll_by (l : List Int) : ∀ x ∈ putAll l, 0 ≤ x ∧ x ≤ 255 := by
  induction l with
  | nil => intro x hx; simp [putAll] at hx
  | cons y r ih =>
    intro x hx
    simp only [putAll, List.mem_append] at hx
    rcases hx with hx | hx
    · exact enc_by _ (ptOf_range y).1 (ptOf_range y).2 x hx
    · exact ih x hx
theorem F_s_UtfOk (b : List Int) (hn : b.length ≤ 1099511627776) (hb : ∀ n : Int, 0 ≤ rdD b n ∧ rdD b n ≤ 255) : Fn pg 65 [.imm 1 (rowU b)] [] (.lit (.bool (utfOk b))) [] := by
  have h1 := trimB_len b
  have h2 := readAll_len (trimB b).length (trimB b)
  have hq := rowU_by b (rdD_mem b hb)
  have hp := rowU_by _ (putAll_by (readAll (trimB b).length (trimB b)))
  refine Fn.ofN [0,2] [1008,1009,1010,1012] Try.func65 (by rfl) rfl (by show 1 ≤ 15; decide) (by rfl) ?_
  repeat' ((conv => whnf); first | (refine iteB_dec (fun h => ?_) (fun h => ?_) <;> (try simp (disch := (first | omega | fail)) only [modAt, List.length_take, List.length_drop, List.length_map, List.length_append, List.length_set, List.length_replicate, len_rowsPart, len_setCell, len_marks, len_markL] at h)) | (refine And.intro (by first | exact True.intro | omega | (simp (disch := (first | omega | fail)) only [modAt, List.length_take, List.length_drop, List.length_map, List.length_append, List.length_set, List.length_replicate, len_rowsPart, len_setCell, len_marks, len_markL]; first | omega | fail) | fail) ?_) | (refine Or.inr (Or.inl (Exists.intro 12 (Exists.intro [(0, true), (1, true), (2, true), (3, true), (4, true), (8, true), (9, true), (5, false), (6, false), (7, true), (10, true), (11, true)] (And.intro (by decide +kernel) ?_))))) | (refine Or.inl ?_; apply callV_i; (repeat ((conv => whnf); first | refine And.intro (by first | omega | (simp (disch := (first | omega | fail)) only [modAt, List.length_take, List.length_drop, List.length_map, List.length_append, List.length_set, List.length_replicate, len_rowsPart, len_setCell, len_marks, len_markL]; first | omega | fail) | fail) ?_ | fail)); ((conv => whnf); first | exact FnB.mk (F_s_UtfRead _ (by first | omega | fail) (by first | omega | fail)) | (simp (disch := (first | omega | fail)) only [takeAll, takeAll2, take_app, take_app2, take_marks, take_dropU]; first | exact FnB.mk (F_s_PointsPut _ (by first | omega | fail)) | fail) | fail); refine ⟨rfl, rfl, ?_⟩) | fail)
  · conv => whnf
    have ht := takeAll (eInt .u8) (putAll (readAll (trimB b).length (trimB b)))
    refine ⟨by show List.take _ (List.drop 0 (rowU _)) = byR (unbyR (List.take _ (List.drop 0 (rowU _)))); rw [ht]; exact hp, ?_⟩
    repeat' ((conv => whnf); first | (refine iteB_dec (fun h => ?_) (fun h => ?_) <;> (try simp (disch := (first | omega | fail)) only [modAt, List.length_take, List.length_drop, List.length_map, List.length_append, List.length_set, List.length_replicate, len_rowsPart, len_setCell, len_marks, len_markL] at h)) | fail)
    (refine .mk ⟨trivial, [], ⟨rfl, ?_⟩, List.nodup_nil, rfl, trivial⟩; show V.lit _ = V.lit _)
    show V.lit (.bool (decide ((⟨(unbyR (List.take _ (List.drop 0 (rowU _)))).toArray⟩ : ByteArray) = strI b))) = V.lit (.bool (utfOk b))
    rw [ht]
    unfold utfOk
    rw [decide_eq_true (by omega : b.length ≤ 3000)]; rfl
  · (refine .mk ⟨trivial, [], ⟨rfl, ?_⟩, List.nodup_nil, rfl, trivial⟩; show V.lit _ = V.lit _)
    unfold utfOk
    rw [decide_eq_false (by omega)]; rfl
def bytesI (s : ByteArray) : List Int := s.data.toList.map fun (x : UInt8) => (x.toNat : Int)
theorem rowU_bytes (s : ByteArray) : rowU (bytesI s) = byR s.data.toList := by simp [bytesI, byR, eInt]
theorem len_byR (s : ByteArray) : (byR s.data.toList).length = s.size := by simp [byR]
theorem take_byR (s : ByteArray) (n : Nat) (h : n = s.size) : List.take n (List.drop 0 (byR s.data.toList)) = byR s.data.toList := by
  subst h
  rw [List.drop_zero, List.take_of_length_le (by simp [byR])]
theorem bytesI_range (s : ByteArray) : ∀ n : Int, 0 ≤ rdD (bytesI s) n ∧ rdD (bytesI s) n ≤ 255 := by
  intro n
  unfold rdD bytesI
  rw [List.getD_eq_getElem?_getD, List.getElem?_map]
  cases h : s.data.toList[n.toNat]? with
  | none => simp
  | some x => have := x.toNat_lt; simp; omega
/-- A text that is bytes read and put again. -/
def textOk (s : ByteArray) : Bool := utfOk (bytesI s)
theorem F_s_l1Ok (s : ByteArray) (hs : s.size ≤ 1099511627776) : Fn pg 45 [.lit (.string s)] [] (.lit (.bool (textOk s))) [] := by
  have hF := F_s_UtfOk (bytesI s) (by simpa [bytesI] using hs) (bytesI_range s)
  rw [rowU_bytes] at hF
  change Fn pg _ _ [] (.lit (.bool (textOk s))) [] at hF
  refine Fn.ofN [0,2] [1004] Try.func45 (by rfl) rfl (by show 1 ≤ 6; decide) (by rfl) ?_
  repeat' ((conv => whnf); first | (refine And.intro (by first | exact True.intro | omega | fail) ?_) | (refine Or.inl ?_; apply callV_i; (repeat ((conv => whnf); first | refine And.intro (by first | omega | (simp (disch := (first | omega | fail)) only [modAt, List.length_take, List.length_drop, List.length_map, List.length_append, List.length_set, List.length_replicate, len_rowsPart, len_setCell, len_marks, len_markL, len_byR]; first | omega | fail) | fail) ?_ | fail)); ((conv => whnf); first | (simp (disch := (first | omega | fail)) only [takeAll, takeAll2, take_app, take_app2, take_marks, take_dropU, take_byR]; first | exact FnB.mk (hF) | fail) | fail); refine ⟨rfl, rfl, ?_⟩) | fail)
  all_goals ((refine .mk ⟨trivial, [], ⟨rfl, ?_⟩, List.nodup_nil, rfl, trivial⟩; show V.lit _ = V.lit _); rfl)


def restOf (f : Int) : Int := if form f = 0 then 0 else f - baseOf (form f)
theorem and31 (f : Int) (h0 : 194 ≤ f) (h1 : f ≤ 223) : IntKind.i64.wrap (IntKind.u8.wrap ((BitVec.ofInt IntKind.u8.bits f &&& BitVec.ofInt IntKind.u8.bits 31).toNat)) = f - 192 := by
  obtain ⟨m, rfl⟩ : ∃ m : Nat, f = m := ⟨f.toNat, by omega⟩
  have h : ∀ n : Fin 256, 194 ≤ n.val → n.val ≤ 223 → IntKind.i64.wrap (IntKind.u8.wrap ((BitVec.ofInt IntKind.u8.bits (n.val : Int) &&& BitVec.ofInt IntKind.u8.bits 31).toNat)) = (n.val : Int) - 192 := by decide +kernel
  exact h ⟨m, by omega⟩ (by dsimp only; omega) (by dsimp only; omega)
theorem and15 (f : Int) (h0 : 224 ≤ f) (h1 : f ≤ 239) : IntKind.i64.wrap (IntKind.u8.wrap ((BitVec.ofInt IntKind.u8.bits f &&& BitVec.ofInt IntKind.u8.bits 15).toNat)) = f - 224 := by
  obtain ⟨m, rfl⟩ : ∃ m : Nat, f = m := ⟨f.toNat, by omega⟩
  have h : ∀ n : Fin 256, 224 ≤ n.val → n.val ≤ 239 → IntKind.i64.wrap (IntKind.u8.wrap ((BitVec.ofInt IntKind.u8.bits (n.val : Int) &&& BitVec.ofInt IntKind.u8.bits 15).toNat)) = (n.val : Int) - 224 := by decide +kernel
  exact h ⟨m, by omega⟩ (by dsimp only; omega) (by dsimp only; omega)
theorem and7 (f : Int) (h0 : 240 ≤ f) (h1 : f ≤ 244) : IntKind.i64.wrap (IntKind.u8.wrap ((BitVec.ofInt IntKind.u8.bits f &&& BitVec.ofInt IntKind.u8.bits 7).toNat)) = f - 240 := by
  obtain ⟨m, rfl⟩ : ∃ m : Nat, f = m := ⟨f.toNat, by omega⟩
  have h : ∀ n : Fin 256, 240 ≤ n.val → n.val ≤ 244 → IntKind.i64.wrap (IntKind.u8.wrap ((BitVec.ofInt IntKind.u8.bits (n.val : Int) &&& BitVec.ofInt IntKind.u8.bits 7).toNat)) = (n.val : Int) - 240 := by decide +kernel
  exact h ⟨m, by omega⟩ (by dsimp only; omega) (by dsimp only; omega)
theorem F_i_formOf (f : Int) (h0 : 0 ≤ f) (h1 : f ≤ 255) : Fn pg 109 [.lit (.int .u8 f)] [] (.tup [.lit (.int .i64 (form f)), .lit (.int .i64 (restOf f))]) [] := by
  refine Fn.ofN [0,2,3,4,9,19,29] [1008,1018,1028,1038] Try.func109 (by rfl) rfl (by show 1 ≤ 39; decide) (by rfl) ?_
  repeat' ((conv => whnf); first | (refine iteB_dec (fun h => ?_) (fun h => ?_) <;> (try simp (disch := (first | omega | fail)) only [modAt, List.length_take, List.length_drop, List.length_map, List.length_append, List.length_set, List.length_replicate, len_rowsPart, len_setCell, len_marks, len_markL] at h)) | (refine wrapB_i64 (by first | omega | fail) (by first | omega | fail) ?_) | (refine WrapB.mk ?_) | fail)
  all_goals first | (exfalso; omega) | skip | fail
  all_goals
    refine .mk ⟨trivial, [], ⟨rfl, ?_⟩, List.nodup_nil, rfl, trivial⟩
    show V.tup [V.lit (.int .i64 _), V.lit (.int .i64 _)] = V.tup [V.lit (.int .i64 (form f)), V.lit (.int .i64 (restOf f))]
    first
      | rw [and31 f (by omega) (by omega)]
      | rw [and15 f (by omega) (by omega)]
      | rw [and7 f (by omega) (by omega)]
      | skip
    simp only [V.tup.injEq, List.cons.injEq, V.lit.injEq, Value.int.injEq, true_and, and_true]
    unfold restOf form baseOf
    grind

theorem litRows2 {n : Nat} {xs : Row} {a b : Value} (hn : n = 1) (hx : xs = [[.lit a], [.lit b]]) (ha : a.oneCell' = true) (hb : b.oneCell' = true) : litRow n xs := by
  subst hn hx
  intro x hx
  simp only [List.mem_cons, List.not_mem_nil, or_false] at hx
  rcases hx with rfl | rfl <;> exact ⟨rfl, fun y hy => by simp at hy; subst hy; exact ⟨_, rfl, by assumption⟩⟩
theorem litRows3 {n : Nat} {xs : Row} {a b c : Value} (hn : n = 1) (hx : xs = [[.lit a], [.lit b], [.lit c]]) (ha : a.oneCell' = true) (hb : b.oneCell' = true) (hc : c.oneCell' = true) : litRow n xs := by
  subst hn hx
  intro x hx
  simp only [List.mem_cons, List.not_mem_nil, or_false] at hx
  rcases hx with rfl | rfl | rfl <;> exact ⟨rfl, fun y hy => by simp at hy; subst hy; exact ⟨_, rfl, by assumption⟩⟩
theorem litRows4 {n : Nat} {xs : Row} {a b c d : Value} (hn : n = 1) (hx : xs = [[.lit a], [.lit b], [.lit c], [.lit d]]) (ha : a.oneCell' = true) (hb : b.oneCell' = true) (hc : c.oneCell' = true) (hd : d.oneCell' = true) : litRow n xs := by
  subst hn hx
  intro x hx
  simp only [List.mem_cons, List.not_mem_nil, or_false] at hx
  rcases hx with rfl | rfl | rfl | rfl <;> exact ⟨rfl, fun y hy => by simp at hy; subst hy; exact ⟨_, rfl, by assumption⟩⟩
theorem band63 (n : Nat) (h : n < 4294967296) : IntKind.i64.wrap ((BitVec.ofInt IntKind.i64.bits (n : Int) &&& BitVec.ofInt IntKind.i64.bits 63).toNat) = ((n % 64 : Nat) : Int) := by
  have e : (BitVec.ofInt IntKind.i64.bits (n : Int) &&& BitVec.ofInt IntKind.i64.bits 63).toNat = n % 64 := by
    rw [BitVec.toNat_and]
    show (BitVec.ofInt 64 (n : Int)).toNat &&& (BitVec.ofInt 64 63).toNat = n % 64
    rw [show (BitVec.ofInt 64 63).toNat = 2 ^ 6 - 1 from rfl, Nat.and_two_pow_sub_one_eq_mod]
    rw [BitVec.toNat_ofInt]
    omega
  rw [e, IntKind.wrap_i64]; omega
theorem orLow (c : Nat) (hc : c = 128 ∨ c = 192 ∨ c = 224 ∨ c = 240) (m : Nat) (h : m < 64) (h2 : c = 192 → m < 32) (h3 : c = 224 → m < 16) (h4 : c = 240 → m < 8) : IntKind.i64.wrap ((BitVec.ofInt IntKind.i64.bits (c : Int) ||| BitVec.ofInt IntKind.i64.bits (m : Int)).toNat) = ((c + m : Nat) : Int) := by
  have h128 : ∀ m : Fin 64, IntKind.i64.wrap ((BitVec.ofInt IntKind.i64.bits ((128 : Nat) : Int) ||| BitVec.ofInt IntKind.i64.bits ((m.val : Nat) : Int)).toNat) = ((128 + m.val : Nat) : Int) := by decide +kernel
  have h192 : ∀ m : Fin 32, IntKind.i64.wrap ((BitVec.ofInt IntKind.i64.bits ((192 : Nat) : Int) ||| BitVec.ofInt IntKind.i64.bits ((m.val : Nat) : Int)).toNat) = ((192 + m.val : Nat) : Int) := by decide +kernel
  have h224 : ∀ m : Fin 16, IntKind.i64.wrap ((BitVec.ofInt IntKind.i64.bits ((224 : Nat) : Int) ||| BitVec.ofInt IntKind.i64.bits ((m.val : Nat) : Int)).toNat) = ((224 + m.val : Nat) : Int) := by decide +kernel
  have h240 : ∀ m : Fin 8, IntKind.i64.wrap ((BitVec.ofInt IntKind.i64.bits ((240 : Nat) : Int) ||| BitVec.ofInt IntKind.i64.bits ((m.val : Nat) : Int)).toNat) = ((240 + m.val : Nat) : Int) := by decide +kernel
  rcases hc with rfl | rfl | rfl | rfl
  · exact h128 ⟨m, h⟩
  · exact h192 ⟨m, h2 rfl⟩
  · exact h224 ⟨m, h3 rfl⟩
  · exact h240 ⟨m, h4 rfl⟩
theorem fd6 (n : Nat) : (n : Int).fdiv (2 ^ min (Int.toNat 6) IntKind.i64.bits) = ((n / 64 : Nat) : Int) := by
  rw [show ((2 : Int) ^ min (Int.toNat 6) IntKind.i64.bits) = 64 by decide, Int.fdiv_eq_ediv_of_nonneg _ (by omega)]; omega
theorem fd12 (n : Nat) : (n : Int).fdiv (2 ^ min (Int.toNat 12) IntKind.i64.bits) = ((n / 4096 : Nat) : Int) := by
  rw [show ((2 : Int) ^ min (Int.toNat 12) IntKind.i64.bits) = 4096 by decide, Int.fdiv_eq_ediv_of_nonneg _ (by omega)]; omega
theorem fd18 (n : Nat) : (n : Int).fdiv (2 ^ min (Int.toNat 18) IntKind.i64.bits) = ((n / 262144 : Nat) : Int) := by
  rw [show ((2 : Int) ^ min (Int.toNat 18) IntKind.i64.bits) = 262144 by decide, Int.fdiv_eq_ediv_of_nonneg _ (by omega)]; omega
theorem u8low (m : Nat) (h : m < 256) : IntKind.u8.wrap (m : Int) = m := by rw [IntKind.wrap_u8]; omega
theorem pb6 (n : Nat) (h : n < 2048) : IntKind.u8.wrap (IntKind.i64.wrap ((BitVec.ofInt IntKind.i64.bits 192 ||| BitVec.ofInt IntKind.i64.bits ((n : Int).fdiv (2 ^ min (Int.toNat 6) IntKind.i64.bits))).toNat)) = 192 + (n : Int) / 64 := by
  rw [fd6]
  refine (congrArg IntKind.u8.wrap (orLow 192 (.inr (.inl rfl)) (n / 64) (by omega) (fun _ => by omega) (fun h => by omega) (fun h => by omega))).trans ?_
  rw [u8low _ (by omega)]; omega
theorem pb12 (n : Nat) (h : n < 65536) : IntKind.u8.wrap (IntKind.i64.wrap ((BitVec.ofInt IntKind.i64.bits 224 ||| BitVec.ofInt IntKind.i64.bits ((n : Int).fdiv (2 ^ min (Int.toNat 12) IntKind.i64.bits))).toNat)) = 224 + (n : Int) / 4096 := by
  rw [fd12]
  refine (congrArg IntKind.u8.wrap (orLow 224 (.inr (.inr (.inl rfl))) (n / 4096) (by omega) (fun h => by omega) (fun _ => by omega) (fun h => by omega))).trans ?_
  rw [u8low _ (by omega)]; omega
theorem pb18 (n : Nat) (h : n < 2097152) : IntKind.u8.wrap (IntKind.i64.wrap ((BitVec.ofInt IntKind.i64.bits 240 ||| BitVec.ofInt IntKind.i64.bits ((n : Int).fdiv (2 ^ min (Int.toNat 18) IntKind.i64.bits))).toNat)) = 240 + (n : Int) / 262144 := by
  rw [fd18]
  refine (congrArg IntKind.u8.wrap (orLow 240 (.inr (.inr (.inr rfl))) (n / 262144) (by omega) (fun h => by omega) (fun h => by omega) (fun _ => by omega))).trans ?_
  rw [u8low _ (by omega)]; omega
theorem pb0 (n : Nat) (h : n < 4294967296) : IntKind.u8.wrap (IntKind.i64.wrap ((BitVec.ofInt IntKind.i64.bits 128 ||| BitVec.ofInt IntKind.i64.bits (IntKind.i64.wrap ((BitVec.ofInt IntKind.i64.bits (n : Int) &&& BitVec.ofInt IntKind.i64.bits 63).toNat))).toNat)) = 128 + (n : Int) % 64 := by
  rw [band63 n h]
  refine (congrArg IntKind.u8.wrap (orLow 128 (.inl rfl) (n % 64) (by omega) (fun h => by omega) (fun h => by omega) (fun h => by omega))).trans ?_
  rw [u8low _ (by omega)]; omega
theorem pbm6 (n : Nat) (h : n < 4294967296) : IntKind.u8.wrap (IntKind.i64.wrap ((BitVec.ofInt IntKind.i64.bits 128 ||| BitVec.ofInt IntKind.i64.bits (IntKind.i64.wrap ((BitVec.ofInt IntKind.i64.bits ((n : Int).fdiv (2 ^ min (Int.toNat 6) IntKind.i64.bits)) &&& BitVec.ofInt IntKind.i64.bits 63).toNat))).toNat)) = 128 + (n : Int) / 64 % 64 := by
  rw [fd6, pb0 _ (by omega)]; omega
theorem pbm12 (n : Nat) (h : n < 4294967296) : IntKind.u8.wrap (IntKind.i64.wrap ((BitVec.ofInt IntKind.i64.bits 128 ||| BitVec.ofInt IntKind.i64.bits (IntKind.i64.wrap ((BitVec.ofInt IntKind.i64.bits ((n : Int).fdiv (2 ^ min (Int.toNat 12) IntKind.i64.bits)) &&& BitVec.ofInt IntKind.i64.bits 63).toNat))).toNat)) = 128 + (n : Int) / 4096 % 64 := by
  rw [fd12, pb0 _ (by omega)]; omega
theorem F_i_putPoint_ok (B : List Int) (x : Int) (hB : B.length ≤ 1099511627776) (hx : pointOk x = true) : Fn pg 103 [.sl 0 [] 1 0 B.length, .lit (.int .i64 x)] [(0, false, 1, rowU B)] (.sl 500 [] 1 0 (B ++ enc x).length) [(500, false, 1, rowU (B ++ enc x))] := by
  have hr : 0 ≤ x ∧ x ≤ 1114111 := by simp [pointOk] at hx; omega
  obtain ⟨h0, h1⟩ := hr
  have hF := F_i_PointOk x
  rw [hx] at hF
  refine Fn.ofN [0,1,4,5,11,19,33] [0,1004,1010,1016,1017,1018,1026,1030,1031,1032,1040,1045,1049,1050,1051,1056,1061,1066,1070,1071,1072] Try.func103 (by rfl) rfl (by show 2 ≤ 73; decide) (by rfl) ?_
  repeat' ((conv => whnf); first | (refine iteB_dec (fun h => ?_) (fun h => ?_) <;> (try simp (disch := (first | omega | fail)) only [modAt, List.length_take, List.length_drop, List.length_map, List.length_append, List.length_set, List.length_replicate, len_rowsPart, len_setCell, len_marks, len_markL] at h)) | (refine wrapB_u8 (by first | omega | fail) (by first | omega | fail) ?_) | (refine WrapB.mk ?_) | (refine And.intro (by first | exact True.intro | exact Nat.le_refl _ | decide +kernel | (simp (disch := (first | omega | fail)) only [modAt, List.length_take, List.length_drop, List.length_map, List.length_append, List.length_set, List.length_replicate, len_rowsPart, len_setCell, len_marks, len_markL]; first | omega | fail) | (apply litOne; (repeat rfl); done) | (apply litRows2; (repeat rfl); done) | (apply litRows3; (repeat rfl); done) | (apply litRows4; (repeat rfl); done) | fail) ?_) | (refine Or.inl ?_; apply callV_i; (repeat ((conv => whnf); first | refine And.intro (by first | omega | fail) ?_ | fail)); ((conv => whnf); first | exact FnB.mk (hF) | fail); refine ⟨rfl, rfl, ?_⟩) | fail)
  all_goals first | skip | fail
  · have e : enc x = [x] := by unfold enc; rw [if_pos (by omega)]
    rw [e]
    have hq : _ = rowU (B ++ [x]) := app_one (eInt .u8) B x rfl rfl
    refine .mk ⟨trivial, [1018], ⟨rfl, ?_⟩, by simp, rfl, ?_⟩
    · exact slEq ((congrArg List.length hq).trans (List.length_map _))
    · exact ⟨outOk_new (d := 1018) (by decide) rfl (boxEq hq), trivial⟩
  · have e : enc x = [192 + x / 64, 128 + x % 64] := by unfold enc; rw [if_neg (by omega), if_pos (by omega)]
    refine .mk ⟨trivial, [1032], ⟨rfl, ?_⟩, by simp, rfl, ?_⟩
    · refine slEq ?_
      show List.length (List.take _ (List.drop 0 (rowU B)) ++ List.take 2 (List.drop 0 [[V.lit (.int .u8 _)], [V.lit (.int .u8 _)]])) = _
      rw [e]; simp
    · refine ⟨outOk_new (d := 1032) (by decide) rfl (boxEq ?_), trivial⟩
      show List.take _ (List.drop 0 (rowU B)) ++ List.take 2 (List.drop 0 [[V.lit (.int .u8 _)], [V.lit (.int .u8 _)]]) = _
      obtain ⟨x, rfl⟩ : ∃ n : Nat, x = n := ⟨x.toNat, by omega⟩
      rw [pb6 x (by omega), pb0 x (by omega), e]
      exact app_two (eInt .u8) B [_, _] rfl rfl
  · have e : enc x = [224 + x / 4096, 128 + x / 64 % 64, 128 + x % 64] := by unfold enc; rw [if_neg (by omega), if_neg (by omega), if_pos (by omega)]
    refine .mk ⟨trivial, [1051], ⟨rfl, ?_⟩, by simp, rfl, ?_⟩
    · refine slEq ?_
      show List.length (List.take _ (List.drop 0 (rowU B)) ++ List.take 3 (List.drop 0 [[V.lit (.int .u8 _)], [V.lit (.int .u8 _)], [V.lit (.int .u8 _)]])) = _
      rw [e]; simp
    · refine ⟨outOk_new (d := 1051) (by decide) rfl (boxEq ?_), trivial⟩
      show List.take _ (List.drop 0 (rowU B)) ++ List.take 3 (List.drop 0 [[V.lit (.int .u8 _)], [V.lit (.int .u8 _)], [V.lit (.int .u8 _)]]) = _
      obtain ⟨x, rfl⟩ : ∃ n : Nat, x = n := ⟨x.toNat, by omega⟩
      rw [pb12 x (by omega), pbm6 x (by omega), pb0 x (by omega), e]
      exact app_two (eInt .u8) B [_, _, _] rfl rfl
  · have e : enc x = [240 + x / 262144, 128 + x / 4096 % 64, 128 + x / 64 % 64, 128 + x % 64] := by unfold enc; rw [if_neg (by omega), if_neg (by omega), if_neg (by omega)]
    refine .mk ⟨trivial, [1072], ⟨rfl, ?_⟩, by simp, rfl, ?_⟩
    · refine slEq ?_
      show List.length (List.take _ (List.drop 0 (rowU B)) ++ List.take 4 (List.drop 0 [[V.lit (.int .u8 _)], [V.lit (.int .u8 _)], [V.lit (.int .u8 _)], [V.lit (.int .u8 _)]])) = _
      rw [e]; simp
    · refine ⟨outOk_new (d := 1072) (by decide) rfl (boxEq ?_), trivial⟩
      show List.take _ (List.drop 0 (rowU B)) ++ List.take 4 (List.drop 0 [[V.lit (.int .u8 _)], [V.lit (.int .u8 _)], [V.lit (.int .u8 _)], [V.lit (.int .u8 _)]]) = _
      obtain ⟨x, rfl⟩ : ∃ n : Nat, x = n := ⟨x.toNat, by omega⟩
      rw [pb18 x (by omega), pbm12 x (by omega), pbm6 x (by omega), pb0 x (by omega), e]
      exact app_two (eInt .u8) B [_, _, _, _] rfl rfl


theorem lowOf_range (f k : Int) : 128 ≤ lowOf f k ∧ lowOf f k ≤ 191 := by unfold lowOf; grind
theorem highOf_range (f k : Int) : 128 ≤ highOf f k ∧ highOf f k ≤ 191 := by unfold highOf; grind
theorem and63 (b : Int) (h0 : 128 ≤ b) (h1 : b ≤ 191) : IntKind.i64.wrap (IntKind.u8.wrap ((BitVec.ofInt IntKind.u8.bits b &&& BitVec.ofInt IntKind.u8.bits 63).toNat)) = b - 128 := by
  obtain ⟨m, rfl⟩ : ∃ m : Nat, b = m := ⟨b.toNat, by omega⟩
  have h : ∀ n : Fin 256, 128 ≤ n.val → n.val ≤ 191 → IntKind.i64.wrap (IntKind.u8.wrap ((BitVec.ofInt IntKind.u8.bits (n.val : Int) &&& BitVec.ofInt IntKind.u8.bits 63).toNat)) = (n.val : Int) - 128 := by decide +kernel
  exact h ⟨m, by omega⟩ (by dsimp only; omega) (by dsimp only; omega)
theorem orShift (n m : Nat) (h : m < 64) (hn : n < 2097152) : IntKind.i64.wrap ((BitVec.ofInt IntKind.i64.bits (n * 64 : Nat) ||| BitVec.ofInt IntKind.i64.bits (m : Int)).toNat) = ((n * 64 + m : Nat) : Int) := by
  have e : (BitVec.ofInt IntKind.i64.bits (n * 64 : Nat) ||| BitVec.ofInt IntKind.i64.bits (m : Int)).toNat = n * 64 + m := by
    rw [BitVec.toNat_or]
    show (BitVec.ofInt 64 ((n * 64 : Nat) : Int)).toNat ||| (BitVec.ofInt 64 (m : Int)).toNat = n * 64 + m
    rw [BitVec.toNat_ofInt, BitVec.toNat_ofInt]
    rw [show (((n * 64 : Nat) : Int) % (2 ^ 64 : Nat)).toNat = n <<< 6 by rw [Nat.shiftLeft_eq]; omega, show ((m : Int) % (2 ^ 64 : Nat)).toNat = m by omega]
    rw [← Nat.shiftLeft_add_eq_or_of_lt (by omega : m < 2 ^ 6), Nat.shiftLeft_eq]
  rw [e, IntKind.wrap_i64]; omega
theorem form_cases (f : Int) (h0 : 0 ≤ f) (h1 : f ≤ 255) : (form f = 1 ∧ f < 128) ∨ (form f = 2 ∧ 194 ≤ f ∧ f ≤ 223) ∨ (form f = 3 ∧ 224 ≤ f ∧ f ≤ 239) ∨ (form f = 4 ∧ 240 ≤ f ∧ f ≤ 244) ∨ (form f = 0 ∧ 128 ≤ f) := by
  unfold form
  by_cases a1 : f < 128
  · rw [if_pos a1]; omega
  rw [if_neg a1]
  by_cases a2 : 194 ≤ f ∧ f ≤ 223
  · rw [if_pos a2]; omega
  rw [if_neg a2]
  by_cases a3 : 224 ≤ f ∧ f ≤ 239
  · rw [if_pos a3]; omega
  rw [if_neg a3]
  by_cases a4 : 240 ≤ f ∧ f ≤ 244
  · rw [if_pos a4]; omega
  rw [if_neg a4]
  omega
theorem base2 : baseOf 2 = 192 := rfl
theorem base3 : baseOf 3 = 224 := rfl
theorem base4 : baseOf 4 = 240 := rfl
theorem base1 : baseOf 1 = 0 := rfl
theorem restOf_range (f : Int) (h0 : 0 ≤ f) (h1 : f ≤ 255) (h : form f ≠ 0) : 0 ≤ f - baseOf (form f) ∧ f - baseOf (form f) < 128 ∧ (2 ≤ form f → f - baseOf (form f) < 32) := by
  rcases form_cases f h0 h1 with ⟨e, a⟩ | ⟨e, a⟩ | ⟨e, a⟩ | ⟨e, a⟩ | ⟨e, a⟩ <;> rw [e]
  · rw [base1]; omega
  · rw [base2]; omega
  · rw [base3]; omega
  · rw [base4]; omega
  · exact absurd e h
theorem stepX (x b : Int) (h0 : 0 ≤ x) (h1 : x < 131072) (hb0 : 128 ≤ b) (hb1 : b ≤ 191) : IntKind.i64.wrap ((BitVec.ofInt IntKind.i64.bits (IntKind.i64.wrap (x * 2 ^ min (Int.toNat 6) IntKind.i64.bits)) ||| BitVec.ofInt IntKind.i64.bits (IntKind.i64.wrap (IntKind.u8.wrap ((BitVec.ofInt IntKind.u8.bits b &&& BitVec.ofInt IntKind.u8.bits 63).toNat)))).toNat) = 64 * x + b - 128 := by
  rw [and63 b hb0 hb1, show ((2 : Int) ^ min (Int.toNat 6) IntKind.i64.bits) = 64 by decide]
  obtain ⟨n, rfl⟩ : ∃ n : Nat, x = n := ⟨x.toNat, by omega⟩
  obtain ⟨m, hm⟩ : ∃ m : Nat, b - 128 = m := ⟨(b - 128).toNat, by omega⟩
  have hw : IntKind.i64.wrap ((n : Int) * 64) = ((n * 64 : Nat) : Int) := by rw [IntKind.wrap_i64]; omega
  rw [hm, hw, orShift n m (by omega) (by omega)]
  omega
theorem loOf_next (f : Int) (k : Nat) (h : 1 ≤ k) : lowOf f ((k + 1 : Nat) : Int) = 128 := by unfold lowOf; rw [if_neg (by omega)]
theorem hiOf_next (f : Int) (k : Nat) (h : 1 ≤ k) : highOf f ((k + 1 : Nat) : Int) = 191 := by unfold highOf; rw [if_neg (by omega)]
theorem slI64 {a b : Int} (h : a = b) : V.lit (.int .i64 a) = V.lit (.int .i64 b) := by rw [h]
theorem slU8 {a b : Int} (h : a = b) : V.lit (.int .u8 a) = V.lit (.int .u8 b) := by rw [h]
theorem F_i_readPoint (b : List Int) (hn : b.length ≤ 3000) (h0 : 0 < b.length) (hb : ∀ n : Int, 0 ≤ rdD b n ∧ rdD b n ≤ 255) : Fn pg 105 [.imm 1 (rowU b)] [] (.tup [.lit (.int .i64 (rp b).1), .lit (.int .i64 (rp b).2)]) [] := by
  have hb0 := hb ((0 : Nat) : Int)
  rw [rdD_nat b 0 h0] at hb0
  obtain ⟨hb0, hb1⟩ := hb0
  have hfl := form_le b[0]
  have hF := F_i_formOf b[0] hb0 hb1
  have hG := F_i_boundsOf b[0]
  refine Fn.ofN [0,2,3,4,5,6,7,8,17,27,49] [1058] Try.func105 (by rfl) rfl (by show 1 ≤ 62; decide) (by rfl) ?_
  repeat' ((conv => whnf); first | (refine iteB_dec (fun h => ?_) (fun h => ?_) <;> (try simp (disch := (first | omega | fail)) only [modAt, List.length_take, List.length_drop, List.length_map, List.length_append, List.length_set, List.length_replicate, len_rowsPart, len_setCell, len_marks, len_markL] at h)) | (refine And.intro (by first | exact True.intro | decide +kernel | fail) ?_) | (refine Exists.intro _ (And.intro (rowGet _ _ _ (by omega)) ?_)) | (refine Or.inl ?_; apply callV_i; (repeat ((conv => whnf); first | refine And.intro (by first | omega | fail) ?_ | fail)); ((conv => whnf); first | exact FnB.mk (hF) | exact FnB.mk (hG) | fail); refine ⟨rfl, rfl, ?_⟩) | fail)
  all_goals first | skip | fail
  · have hrp : rp b = (65533, 1) := by unfold rp; rw [if_pos (by rw [show rd b 0 = b[0] from rd_at b 0 h0]; omega)]
    refine .mk ⟨trivial, [], ⟨rfl, ?_⟩, List.nodup_nil, rfl, trivial⟩
    rw [hrp]; rfl
  have hf0 : form b[0] ≠ 0 := by omega
  have hr0 : rd b 0 = b[0] := rd_at b 0 h0
  have hbo : restOf b[0] = b[0] - baseOf (form b[0]) := by unfold restOf; rw [if_neg hf0]
  have hrest := restOf_range b[0] hb0 hb1 hf0
  rw [← hbo] at hrest
  obtain ⟨hr1, hr2, hr3⟩ := hrest
  refine ⟨Nat × Int, fun y => 1 ≤ y.1 ∧ y.1 ≤ form b[0] ∧ cntF b b[0] (form b[0] - 1) 1 = cntF b b[0] (form b[0] - y.1) y.1 ∧ valF b (form b[0] - 1) 1 (restOf b[0]) = valF b (form b[0] - y.1) y.1 y.2 ∧ 0 ≤ y.2 ∧ (y.1 = 1 → y.1 < form b[0] → y.2 < 32) ∧ (y.1 = 2 → y.2 < 2048) ∧ (y.1 = 3 → y.2 < 131072), fun y => [(0, .imm 1 (rowU b)), (4, .lit (.int .i64 (form b[0]))), (5, .lit (.int .i64 y.2)), (6, .lit (.int .u8 (lowOf b[0] y.1))), (7, .lit (.int .u8 (highOf b[0] y.1))), (8, .lit (.int .i64 y.1))], fun _ => [], fun y => form b[0] - y.1, ⟨[], (1, restOf b[0]), ⟨Nat.le_refl _, by dsimp only; omega, rfl, rfl, hr1, fun _ h => hr3 (by dsimp only at h; omega), fun h => by simp at h, fun h => by simp at h⟩, ⟨rfl, rfl⟩, ⟨by first | rfl | fail, by first | rfl | fail, by first | rfl | fail, by first | rfl | fail, by first | rfl | fail, by first | rfl | fail, trivial⟩, trivial⟩, ?_⟩
  intro (k, x) ⟨hk1, hk2, hk3, hk4, hx0, hx1, hx2, hx3⟩
  dsimp only at hk1 hk2 hk3 hk4 hx0 hx1 hx2 hx3
  by_cases hkn : k < form b[0]
  · by_cases hkl : k < b.length
    · have hbk := hb (k : Int)
      rw [rdD_nat b k hkl] at hbk
      obtain ⟨hbk0, hbk1⟩ := hbk
      have hl := lowOf_range b[0] k
      have hh := highOf_range b[0] k
      repeat' ((conv => whnf); first | (refine iteB_dec (fun h => ?_) (fun h => ?_) <;> (try simp (disch := (first | omega | fail)) only [modAt, List.length_take, List.length_drop, List.length_map, List.length_append, List.length_set, List.length_replicate, len_rowsPart, len_setCell, len_marks, len_markL] at h)) | (refine wrapB_i64 (by first | omega | fail) (by first | omega | fail) ?_) | (refine WrapB.mk ?_) | (refine And.intro (by first | exact True.intro | decide +kernel | omega | fail) ?_) | (refine Exists.intro _ (And.intro (rowGet _ _ _ (by omega)) ?_)) | fail)
      all_goals first | (exfalso; omega) | skip | fail
      all_goals (conv => whnf)
      all_goals first
        | (have hrp := rp_bad b k (by rw [hr0]; exact hk3.trans (cntF_stop _ _ _ _ (fun _ _ => by rw [show rd b k = b[k] by simp [rd, List.getD_eq_getElem?_getD, hkl]]; simp only [fits, Bool.and_eq_false_iff, decide_eq_false_iff_not]; omega))) (by rw [hr0]; omega)
           refine .mk ⟨trivial, [], ⟨rfl, ?_⟩, List.nodup_nil, rfl, trivial⟩
           rw [hrp]; rfl)
        | skip
      have hrk : rd b k = b[k] := by simp [rd, List.getD_eq_getElem?_getD, hkl]
      exact ⟨[], (k + 1, 64 * x + b[k] - 128), ⟨by dsimp only; omega, by dsimp only; omega, hk3.trans (cntF_go _ _ _ _ hkn hkl (by rw [hrk]; simp only [fits, Bool.and_eq_true, decide_eq_true_eq]; omega)), hk4.trans (by rw [valF_go _ _ _ _ hkn, hrk]), by dsimp only; omega, by dsimp only; omega, by dsimp only; omega, by dsimp only; omega⟩, ⟨⟨rfl, rfl⟩, ⟨by first | rfl | fail, by first | rfl | fail, slI64 (stepX x b[k] hx0 (by omega) (by omega) (by omega)), slU8 (loOf_next _ _ (by omega)).symm, slU8 (hiOf_next _ _ (by omega)).symm, by first | rfl | fail, trivial⟩, trivial⟩, by dsimp only; omega⟩
    · repeat' ((conv => whnf); first | (refine iteB_dec (fun h => ?_) (fun h => ?_) <;> (try simp (disch := (first | omega | fail)) only [modAt, List.length_take, List.length_drop, List.length_map, List.length_append, List.length_set, List.length_replicate, len_rowsPart, len_setCell, len_marks, len_markL] at h)) | (refine wrapB_i64 (by first | omega | fail) (by first | omega | fail) ?_) | (refine And.intro (by first | exact True.intro | decide +kernel | omega | fail) ?_) | (refine Exists.intro _ (And.intro (rowGet _ _ _ (by omega)) ?_)) | fail)
      all_goals first | (exfalso; omega) | skip | fail
      have hrp := rp_bad b k (by rw [hr0]; exact hk3.trans (cntF_stop _ _ _ _ (fun _ g => absurd g hkl))) (by rw [hr0]; omega)
      refine .mk ⟨trivial, [], ⟨rfl, ?_⟩, List.nodup_nil, rfl, trivial⟩
      rw [hrp]; rfl
  · obtain rfl : k = form b[0] := by omega
    repeat' ((conv => whnf); first | (refine iteB_dec (fun h => ?_) (fun h => ?_) <;> (try simp (disch := (first | omega | fail)) only [modAt, List.length_take, List.length_drop, List.length_map, List.length_append, List.length_set, List.length_replicate, len_rowsPart, len_setCell, len_marks, len_markL] at h)) | (refine wrapB_i64 (by first | omega | fail) (by first | omega | fail) ?_) | (refine And.intro (by first | exact True.intro | decide +kernel | omega | fail) ?_) | (refine Exists.intro _ (And.intro (rowGet _ _ _ (by omega)) ?_)) | fail)
    all_goals first | (exfalso; omega) | skip | fail
    have hrp := rp_good b (form b[0]) (by rw [hr0]; exact hk3.trans (by rw [Nat.sub_self]; rfl)) (by rw [hr0]; omega) (by rw [hr0]; omega)
    rw [hr0, ← hbo, hk4, Nat.sub_self] at hrp
    refine .mk ⟨trivial, [], ⟨rfl, ?_⟩, List.nodup_nil, rfl, trivial⟩
    rw [hrp]; rfl


theorem F_bytes_Equal (a b : List Int) (ha : a.length ≤ 1099511627776) (hb : b.length ≤ 1099511627776) (hA : ∀ x ∈ a, 0 ≤ x ∧ x ≤ 255) (hB : ∀ x ∈ b, 0 ≤ x ∧ x ≤ 255) : Fn pg 94 [.imm 1 (rowU a), .imm 1 (rowU b)] [] (.lit (.bool (decide (strI a = strI b)))) [] := by
  have hq := rowU_by a hA
  have hp := rowU_by b hB
  refine Fn.ofN [0,1,4] [1006,1008] Try.func94 (by rfl) rfl (by show 2 ≤ 10; decide) (by rfl) ?_
  repeat' ((conv => whnf); first | (refine And.intro (by first | exact True.intro | omega | fail) ?_) | fail)
  all_goals
    (refine .mk ⟨trivial, [], ⟨rfl, ?_⟩, List.nodup_nil, rfl, trivial⟩; show V.lit _ = V.lit _)
    unfold strI; rfl
theorem take_takeU (E : Int → List V) (xs : List Int) (n : Nat) : List.drop (Int.toNat 0) (List.take ((n : Int)).toNat (List.map E xs)) = List.map E (List.take n xs) := by
  rw [show Int.toNat 0 = 0 from rfl, List.drop_zero, Int.toNat_natCast, List.map_take]
theorem strI_inj (a b : List Int) (hA : ∀ x ∈ a, 0 ≤ x ∧ x ≤ 255) (hB : ∀ x ∈ b, 0 ≤ x ∧ x ≤ 255) : strI a = strI b ↔ a = b := by
  refine ⟨fun h => ?_, fun h => by rw [h]⟩
  have h2 : unbyR (rowU a) = unbyR (rowU b) := by
    have := congrArg (fun x => x.data.toList) h
    simpa [strI] using this
  have h3 : rowU a = rowU b := by rw [rowU_by a hA, rowU_by b hB, h2]
  have := List.map_inj_right (f := eInt .u8) (fun x y hxy => by simpa [eInt] using hxy) |>.1 h3
  exact this
theorem F_bytes_HasPrefix (b : List Int) (hn : b.length ≤ 1099511627776) (hB : ∀ x ∈ b, 0 ≤ x ∧ x ≤ 255) : Fn pg 108 [.imm 1 (rowU b), .imm 1 (rowU [239, 187, 191])] [] (.lit (.bool (decide (b.take 3 = [239, 187, 191])))) [] := by
  have h1 : ∀ x ∈ b.take 3, 0 ≤ x ∧ x ≤ 255 := fun x hx => hB x (List.mem_of_mem_take hx)
  have h2 : ∀ x ∈ [(239 : Int), 187, 191], 0 ≤ x ∧ x ≤ 255 := fun x hx => by simp at hx; omega
  have hF := F_bytes_Equal (b.take 3) [239, 187, 191] (by simp; omega) (by simp) h1 h2
  have hi := strI_inj _ _ h1 h2
  refine Fn.ofN [0,1,4] [1014] Try.func108 (by rfl) rfl (by show 2 ≤ 18; decide) (by rfl) ?_
  repeat' ((conv => whnf); first | (refine iteB_dec (fun h => ?_) (fun h => ?_) <;> (try simp (disch := (first | omega | fail)) only [modAt, List.length_take, List.length_drop, List.length_map, List.length_append, List.length_set, List.length_replicate, len_rowsPart, len_setCell, len_marks, len_markL, len_byR] at h)) | (refine And.intro (by first | exact True.intro | decide +kernel | omega | (simp (disch := (first | omega | fail)) only [modAt, List.length_take, List.length_drop, List.length_map, List.length_append, List.length_set, List.length_replicate, len_rowsPart, len_setCell, len_marks, len_markL, len_byR]; first | omega | fail) | fail) ?_) | (refine Or.inl ?_; apply callV_i; (repeat ((conv => whnf); first | refine And.intro (by first | omega | fail) ?_ | fail)); ((conv => whnf); first | (simp (disch := (first | omega | fail)) only [takeAll, takeAll2, take_app, take_app2, take_marks, take_dropU, take_byR, take_takeU]; first | exact FnB.mk (hF) | fail) | fail); refine ⟨rfl, rfl, ?_⟩) | fail)
  · (refine .mk ⟨trivial, [], ⟨rfl, ?_⟩, List.nodup_nil, rfl, trivial⟩; show V.lit _ = V.lit _)
    rw [decide_eq_decide.2 hi]
  · (refine .mk ⟨trivial, [], ⟨rfl, ?_⟩, List.nodup_nil, rfl, trivial⟩; show V.lit _ = V.lit _)
    rw [decide_eq_false (fun e => h (by have := congrArg List.length e; simp at this ⊢; omega))]
theorem F_bytes_TrimPrefix (b : List Int) (hn : b.length ≤ 1099511627776) (hB : ∀ x ∈ b, 0 ≤ x ∧ x ≤ 255) : Fn pg 104 [.imm 1 (rowU b), .sl 0 [] 1 0 3] [(0, false, 1, rowU [239, 187, 191])] (.imm 1 (rowU (trimB b))) [] := by
  have hF := F_bytes_HasPrefix b hn hB
  by_cases ht : b.take 3 = [239, 187, 191]
  · rw [decide_eq_true ht] at hF
    have h3 : 3 ≤ b.length := by have := congrArg List.length ht; simp at this; omega
    refine Fn.ofN [0,1,4,7] [0,1004,1011] Try.func104 (by rfl) rfl (by show 2 ≤ 13; decide) (by rfl) ?_
    repeat' ((conv => whnf); first | (refine And.intro (by first | exact True.intro | decide +kernel | omega | (simp (disch := (first | omega | fail)) only [modAt, List.length_take, List.length_drop, List.length_map, List.length_append, List.length_set, List.length_replicate, len_rowsPart, len_setCell, len_marks, len_markL, len_byR]; first | omega | fail) | fail) ?_) | (refine Or.inl ?_; apply callV_i; (repeat ((conv => whnf); first | refine And.intro (by first | exact Nat.le_refl _ | omega | fail) ?_ | fail)); ((conv => whnf); first | exact FnB.mk (hF) | fail); refine ⟨rfl, rfl, ?_⟩) | fail)
    all_goals first | skip | fail
    have htr : trimB b = b.drop 3 := by unfold trimB; rw [if_pos ht]
    rw [htr]
    refine .mk ⟨trivial, [], ⟨rfl, ?_⟩, List.nodup_nil, rfl, trivial⟩
    exact congrArg (V.imm 1) (take_dropU (eInt .u8) b 3 _ (by show (((rowU b).length : Nat) : Int).toNat = b.length; simp))
  · rw [decide_eq_false ht] at hF
    have htr : trimB b = b := by unfold trimB; rw [if_neg ht]
    rw [htr]
    refine Fn.ofN [0,1,4,7] [0,1004,1011] Try.func104 (by rfl) rfl (by show 2 ≤ 13; decide) (by rfl) ?_
    repeat' ((conv => whnf); first | (refine Or.inl ?_; apply callV_i; (repeat ((conv => whnf); first | refine And.intro (by first | exact Nat.le_refl _ | omega | fail) ?_ | fail)); ((conv => whnf); first | exact FnB.mk (hF) | fail); refine ⟨rfl, rfl, ?_⟩) | fail)
    refine .mk ⟨trivial, [], ⟨rfl, ?_⟩, List.nodup_nil, rfl, trivial⟩
    rfl
theorem pointOk_of (x : Int) (h0 : 0 ≤ x) (h1 : x ≤ 1114111) (h2 : x < 55296 ∨ 57343 < x) : pointOk x = true := by simp [pointOk]; omega
theorem valF_1 (l : List Int) (j : Nat) (x : Int) : valF l 1 j x = 64 * x + rd l j - 128 := rfl
theorem valF_2 (l : List Int) (j : Nat) (x : Int) : valF l 2 j x = 64 * (64 * x + rd l j - 128) + rd l (j + 1) - 128 := rfl
theorem valF_3 (l : List Int) (j : Nat) (x : Int) : valF l 3 j x = 64 * (64 * (64 * x + rd l j - 128) + rd l (j + 1) - 128) + rd l (j + 2) - 128 := rfl
theorem cntF_fits (l : List Int) (f : Int) : ∀ d k, k + d ≤ cntF l f d k → ∀ j, k ≤ j → j < k + d → fits f j (rd l j) = true := by
  intro d
  induction d with
  | zero => intro k _ j h1 h2; omega
  | succ d ih =>
    intro k h j h1 h2
    simp only [cntF] at h
    split at h
    · split at h
      · rename_i hf
        by_cases hj : j = k
        · subst hj; exact hf
        · exact ih (k + 1) (by omega) j (by omega) (by omega)
      · omega
    · omega
theorem fits_range (f k b : Int) (h : fits f k b = true) : lowOf f k ≤ b ∧ b ≤ highOf f k := by simpa [fits] using h
theorem rp_ok (b : List Int) (h0 : 0 < b.length) (hb : ∀ n : Int, 0 ≤ rdD b n ∧ rdD b n ≤ 255) : pointOk (rp b).1 = true := by
  have hb0 := hb ((0 : Nat) : Int)
  rw [rdD_nat b 0 h0] at hb0
  have hr0 : rd b 0 = b[0] := rd_at b 0 h0
  unfold rp
  rw [hr0]
  split
  · exact (by decide : pointOk 65533 = true)
  split
  · exact (by decide : pointOk 65533 = true)
  rename_i n0 n1
  have hc : ∀ j, 1 ≤ j → j < 1 + (form b[0] - 1) → lowOf b[0] j ≤ rd b j ∧ rd b j ≤ highOf b[0] j := fun j g1 g2 => fits_range _ _ _ (cntF_fits b b[0] (form b[0] - 1) 1 (by omega) j g1 g2)
  show pointOk (valF b (form b[0] - 1) 1 (b[0] - baseOf (form b[0]))) = true
  rcases form_cases b[0] hb0.1 hb0.2 with ⟨e, a⟩ | ⟨e, a⟩ | ⟨e, a⟩ | ⟨e, a⟩ | ⟨e, a⟩ <;> rw [e] at hc ⊢
  · show pointOk (b[0] - 0) = true
    exact pointOk_of _ (by omega) (by omega) (.inl (by omega))
  · have h1 : lowOf b[0] 1 ≤ rd b 1 ∧ rd b 1 ≤ highOf b[0] 1 := hc 1 (by omega) (by omega)
    have l1 := lowOf_range b[0] 1
    have g1 := highOf_range b[0] 1
    rw [show 2 - 1 = 1 from rfl, valF_1, base2]
    exact pointOk_of _ (by omega) (by omega) (.inl (by omega))
  · have h1 : lowOf b[0] 1 ≤ rd b 1 ∧ rd b 1 ≤ highOf b[0] 1 := hc 1 (by omega) (by omega)
    have h2 : lowOf b[0] 2 ≤ rd b 2 ∧ rd b 2 ≤ highOf b[0] 2 := hc 2 (by omega) (by omega)
    rw [show 3 - 1 = 2 from rfl, valF_2, base3, show 1 + 1 = 2 from rfl]
    have l2 := lowOf_range b[0] 2
    have g2 := highOf_range b[0] 2
    have l1 := lowOf_range b[0] 1
    have g1 := highOf_range b[0] 1
    have e1 : b[0] = 224 → lowOf b[0] 1 = 160 := fun h => by rw [h]; rfl
    have e2 : b[0] = 237 → highOf b[0] 1 = 159 := fun h => by rw [h]; rfl
    exact pointOk_of _ (by omega) (by omega) (by omega)
  · have h1 : lowOf b[0] 1 ≤ rd b 1 ∧ rd b 1 ≤ highOf b[0] 1 := hc 1 (by omega) (by omega)
    have h2 : lowOf b[0] 2 ≤ rd b 2 ∧ rd b 2 ≤ highOf b[0] 2 := hc 2 (by omega) (by omega)
    have h3 : lowOf b[0] 3 ≤ rd b 3 ∧ rd b 3 ≤ highOf b[0] 3 := hc 3 (by omega) (by omega)
    rw [show 4 - 1 = 3 from rfl, valF_3, base4, show 1 + 1 = 2 from rfl, show 1 + 2 = 3 from rfl]
    have l2 := lowOf_range b[0] 2
    have g2 := highOf_range b[0] 2
    have l3 := lowOf_range b[0] 3
    have g3 := highOf_range b[0] 3
    have l1 := lowOf_range b[0] 1
    have g1 := highOf_range b[0] 1
    have e1 : b[0] = 240 → lowOf b[0] 1 = 144 := fun h => by rw [h]; rfl
    have e2 : b[0] = 244 → highOf b[0] 1 = 143 := fun h => by rw [h]; rfl
    exact pointOk_of _ (by omega) (by omega) (by omega)
  · exact absurd e n0
theorem readAll_ok : ∀ (d : Nat) (b : List Int), (∀ n : Int, 0 ≤ rdD b n ∧ rdD b n ≤ 255) → ∀ x ∈ readAll d b, pointOk x = true := by
  intro d
  induction d with
  | zero => intro b _ x hx; simp [readAll] at hx
  | succ d ih =>
    intro b hb x hx
    simp only [readAll] at hx
    split at hx
    · simp at hx
    · rename_i hne
      rcases List.mem_cons.1 hx with rfl | hx
      · exact rp_ok b (List.length_pos_iff.2 hne) hb
      · exact ih _ (rdD_drop b _ hb) x hx
theorem F_i_UtfRead (b : List Int) (hn : b.length ≤ 3000) (hb : ∀ n : Int, 0 ≤ rdD b n ∧ rdD b n ≤ 255) : Fn pg 96 [.imm 1 (rowU b)] [] (.sl 500 [] 1 0 (readAll (trimB b).length (trimB b)).length) [(500, false, 1, rowI (readAll (trimB b).length (trimB b)))] := by
  have hF := F_bytes_TrimPrefix b (by omega) (rdD_mem b hb)
  have ht := trimB_len b
  have htb : ∀ n : Int, 0 ≤ rdD (trimB b) n ∧ rdD (trimB b) n ≤ 255 := by unfold trimB; split; exact rdD_drop b 3 hb; exact hb
  generalize trimB b = c at *
  refine Fn.ofN [0,2,3,4,5,8,14] [1002,1003,1010,1011,1022,1023,1026] Try.func96 (by rfl) rfl (by show 1 ≤ 28; decide) (by rfl) ?_
  repeat' ((conv => whnf); first | (refine iteB_dec (fun h => ?_) (fun h => ?_) <;> (try simp (disch := (first | omega | fail)) only [modAt, List.length_take, List.length_drop, List.length_map, List.length_append, List.length_set, List.length_replicate, len_rowsPart, len_setCell, len_marks, len_markL, len_byR] at h)) | (refine And.intro (by first | exact True.intro | fail) ?_) | (refine Or.inr (Or.inr (callA_ok ?_)); (conv => whnf); apply Exists.intro; apply Exists.intro; apply And.intro; (repeat ((conv => whnf); first | refine And.intro (by first | omega | fail) ?_ | fail)); ((conv => whnf); first | exact FnB.mk (hF) | fail); refine ⟨rfl, ?_⟩) | fail)
  all_goals first | (exfalso; omega) | skip | fail
  refine ⟨Nat × List Int, fun x => x.1 ≤ c.length ∧ x.2.length ≤ x.1 ∧ readAll c.length c = x.2 ++ readAll (c.length - x.1) (c.drop x.1), fun x => [(0, .imm 1 (rowU (c.drop x.1))), (3, .sl 1003 [] 1 0 x.2.length)], fun x => [(1003, false, 1, rowI x.2)], fun x => c.length - x.1, ⟨[], (0, []), ⟨Nat.zero_le _, Nat.le_refl _, rfl⟩, ⟨rfl, rfl⟩, ⟨by first | rfl | fail, by first | rfl | fail, trivial⟩, ⟨rfl, trivial⟩⟩, ?_⟩
  intro (i, o) ⟨hi, ho, hh⟩
  dsimp only at hi ho hh
  by_cases hlt : i < c.length
  · have hstep := readAll_step c i hlt
    have hsz : (c.drop i).length = c.length - i := by simp
    have hG := F_i_readPoint (c.drop i) (by omega) (by omega) (rdD_drop c i htb)
    have hr1 := rp_pos (c.drop i)
    have hr2 := rp_len (c.drop i) (by omega)
    have hap := fun (x : Int) => app_one (eInt .i64) o x (n := o.length) rfl rfl
    generalize hrp : rp (c.drop i) = p at *
    obtain ⟨x, k⟩ := p
    dsimp only at hG hr1 hr2 hstep
    repeat' ((conv => whnf); first | (refine iteB_dec (fun h => ?_) (fun h => ?_) <;> (try simp (disch := (first | omega | fail)) only [modAt, List.length_take, List.length_drop, List.length_map, List.length_append, List.length_set, List.length_replicate, len_rowsPart, len_setCell, len_marks, len_markL, len_byR] at h)) | (refine And.intro (by first | exact True.intro | exact Nat.le_refl _ | omega | (simp (disch := (first | omega | fail)) only [modAt, List.length_take, List.length_drop, List.length_map, List.length_append, List.length_set, List.length_replicate, len_rowsPart, len_setCell, len_marks, len_markL, len_byR]; first | omega | fail) | (apply litOne; (repeat rfl); done) | fail) ?_) | (refine Or.inl ?_; apply callV_i; (repeat ((conv => whnf); first | refine And.intro (by first | omega | fail) ?_ | fail)); ((conv => whnf); first | exact FnB.mk (hG) | fail); refine ⟨rfl, rfl, ?_⟩) | fail)
    all_goals first | (exfalso; omega) | skip | fail
    have hdr : List.drop (k : Int).toNat (List.take (((rowU (c.drop i)).length : Nat) : Int).toNat (rowU (c.drop i))) = rowU (c.drop (i + k)) := by
      rw [take_dropU (eInt .u8) (c.drop i) _ _ (by simp), List.drop_drop]; rfl
    exact ⟨[], (i + k, o ++ [x]), ⟨by dsimp only; omega, by simp; omega, by dsimp only; rw [hh, hstep]; simp⟩, ⟨⟨rfl, rfl⟩, ⟨congrArg (V.imm 1) hdr, slEq ((congrArg List.length (hap x)).trans (List.length_map _)), trivial⟩, ⟨boxEq (hap x), trivial⟩⟩, by dsimp only; omega⟩
  · obtain rfl : i = c.length := by omega
    rw [Nat.sub_self] at hh
    have hh' : readAll c.length c = o := by rw [hh]; simp [readAll]
    rw [hh']
    have hd : c.drop c.length = [] := by simp
    dsimp only
    rw [hd]
    repeat' ((conv => whnf); first | (refine iteB_dec (fun h => ?_) (fun h => ?_) <;> (try simp (disch := (first | omega | fail)) only [modAt, List.length_take, List.length_drop, List.length_map, List.length_append, List.length_set, List.length_replicate, len_rowsPart, len_setCell, len_marks, len_markL, len_byR] at h)) | fail)
    all_goals first | skip | fail
    refine .mk ⟨trivial, [1003], ⟨rfl, ?_⟩, by simp, rfl, ?_⟩
    · rfl
    exact ⟨outOk_new (d := 1003) (by decide) rfl rfl, trivial⟩
theorem F_i_PointsPut (l : List Int) (hl : l.length ≤ 3000) (hok : ∀ x ∈ l, pointOk x = true) : Fn pg 95 [.imm 1 (rowI l)] [] (.sl 500 [] 1 0 (putAll l).length) [(500, false, 1, rowU (putAll l))] := by
  refine Fn.ofN [0,2,3,5,8,9,10,11,12] [1002,1003,1017] Try.func95 (by rfl) rfl (by show 1 ≤ 20; decide) (by rfl) ?_
  repeat' ((conv => whnf); first | (refine iteB_dec (fun h => ?_) (fun h => ?_) <;> (try simp (disch := (first | omega | fail)) only [modAt, List.length_take, List.length_drop, List.length_map, List.length_append, List.length_set, List.length_replicate, len_rowsPart, len_setCell, len_marks, len_markL, len_byR] at h)) | fail)
  all_goals first | (exfalso; omega) | skip | fail
  refine ⟨Nat, fun i => i ≤ l.length, fun i => [(3, .sl 1003 [] 1 0 (putAll (l.take i)).length), (9, .imm 1 (rowI l)), (10, .lit (.int .i64 l.length)), (11, .lit (.int .i64 i))], fun i => [(1003, false, 1, rowU (putAll (l.take i)))], fun i => l.length - i, ⟨[], 0, by omega, ⟨rfl, rfl⟩, ⟨by first | rfl | fail, by first | rfl | fail, by first | (show V.lit (Value.int _ _) = V.lit (Value.int _ _); first | (congr 2; first | (simp only [List.length_map]; done) | fail) | fail) | fail, by first | rfl | fail, trivial⟩, ⟨rfl, trivial⟩⟩, ?_⟩
  intro i hi
  by_cases hlt : i < l.length
  · have h1 := putAll_len (l.take i)
    rw [List.length_take] at h1
    have hx := hok l[i] (List.getElem_mem hlt)
    have e : ptOf l[i] = l[i] := by unfold ptOf; rw [if_pos hx]
    have hF := F_i_putPoint_ok (putAll (l.take i)) l[i] (by omega) hx
    rw [show putAll (l.take i) ++ enc l[i] = putAll (l.take (i + 1)) by rw [putAll_succ _ _ hlt, e]] at hF
    repeat' ((conv => whnf); first | (refine iteB_dec (fun h => ?_) (fun h => ?_) <;> (try simp (disch := (first | omega | fail)) only [modAt, List.length_take, List.length_drop, List.length_map, List.length_append, List.length_set, List.length_replicate, len_rowsPart, len_setCell, len_marks, len_markL, len_byR] at h)) | (refine wrapB_i64 (by first | omega | fail) (by first | omega | fail) ?_) | (refine And.intro (by first | exact True.intro | omega | fail) ?_) | (refine Exists.intro _ (And.intro (rowGet _ _ _ (by omega)) ?_)) | (refine Or.inr (Or.inr (callA_ok ?_)); (conv => whnf); apply Exists.intro; apply Exists.intro; apply And.intro; (repeat ((conv => whnf); first | refine And.intro (by first | omega | fail) ?_ | fail)); ((conv => whnf); first | exact FnB.mk (hF) | fail); refine ⟨rfl, ?_⟩) | fail)
    all_goals first | (exfalso; omega) | skip | fail
    exact ⟨[(1003, 1017)], i + 1, by omega, ⟨⟨rfl, rfl⟩, ⟨by first | rfl | fail, by first | rfl | fail, by first | rfl | fail, by first | rfl | fail, trivial⟩, ⟨rfl, trivial⟩⟩, by first | (dsimp only; omega) | fail⟩
  · obtain rfl : i = l.length := by omega
    repeat' ((conv => whnf); first | (refine iteB_dec (fun h => ?_) (fun h => ?_) <;> (try simp (disch := (first | omega | fail)) only [modAt, List.length_take, List.length_drop, List.length_map, List.length_append, List.length_set, List.length_replicate, len_rowsPart, len_setCell, len_marks, len_markL, len_byR] at h)) | (refine wrapB_i64 (by first | omega | fail) (by first | omega | fail) ?_) | (refine And.intro (by first | exact True.intro | omega | fail) ?_) | (refine Exists.intro _ (And.intro (rowGet _ _ _ (by omega)) ?_)) | (refine Or.inr (Or.inr (callA_ok ?_)); (conv => whnf); apply Exists.intro; apply Exists.intro; apply And.intro; (repeat ((conv => whnf); first | refine And.intro (by first | omega | fail) ?_ | fail)); ((conv => whnf); first | exact FnB.mk (F_i_putPoint_ok _ _ (by first | omega | fail) (by first | omega | fail)) | fail); refine ⟨rfl, ?_⟩) | fail)
    all_goals first | (exfalso; omega) | skip | fail
    refine .mk ⟨trivial, [1003], ⟨rfl, ?_⟩, by simp, rfl, ?_⟩
    · exact slEq (by rw [List.take_length])
    exact ⟨outOk_new (d := 1003) (by decide) rfl (boxEq (congrArg rowU (by rw [List.take_length]))), trivial⟩
theorem F_i_UtfOk (b : List Int) (hn : b.length ≤ 1099511627776) (hb : ∀ n : Int, 0 ≤ rdD b n ∧ rdD b n ≤ 255) : Fn pg 83 [.imm 1 (rowU b)] [] (.lit (.bool (utfOk b))) [] := by
  have h1 := trimB_len b
  have h2 := readAll_len (trimB b).length (trimB b)
  have hc : ∀ n : Int, 0 ≤ rdD (trimB b) n ∧ rdD (trimB b) n ≤ 255 := by unfold trimB; split; exact rdD_drop b 3 hb; exact hb
  have hE := fun h => F_bytes_Equal (putAll (readAll (trimB b).length (trimB b))) b h hn (putAll_by _) (rdD_mem b hb)
  have h3 := putAll_len (readAll (trimB b).length (trimB b))
  have hP := fun h => F_i_PointsPut (readAll (trimB b).length (trimB b)) h (readAll_ok _ _ hc)
  refine Fn.ofN [0,2] [1008,1009] Try.func83 (by rfl) rfl (by show 1 ≤ 13; decide) (by rfl) ?_
  repeat' ((conv => whnf); first | (refine iteB_dec (fun h => ?_) (fun h => ?_) <;> (try simp (disch := (first | omega | fail)) only [modAt, List.length_take, List.length_drop, List.length_map, List.length_append, List.length_set, List.length_replicate, len_rowsPart, len_setCell, len_marks, len_markL, len_byR] at h)) | (refine Or.inl ?_; apply callV_i; (repeat ((conv => whnf); first | refine And.intro (by first | omega | (simp (disch := (first | omega | fail)) only [modAt, List.length_take, List.length_drop, List.length_map, List.length_append, List.length_set, List.length_replicate, len_rowsPart, len_setCell, len_marks, len_markL, len_byR]; first | omega | fail) | fail) ?_ | fail)); ((conv => whnf); first | exact FnB.mk (F_i_UtfRead _ (by first | omega | fail) (by first | omega | fail)) | (simp (disch := (first | omega | fail)) only [takeAll, takeAll2, take_app, take_app2, take_marks, take_dropU, take_byR, take_takeU]; first | exact FnB.mk (hE (by omega)) | exact FnB.mk (hP (by omega)) | fail) | fail); refine ⟨rfl, rfl, ?_⟩) | fail)
  · (refine .mk ⟨trivial, [], ⟨rfl, ?_⟩, List.nodup_nil, rfl, trivial⟩; show V.lit _ = V.lit _)
    unfold utfOk
    rw [decide_eq_true (by omega : b.length ≤ 3000)]; rfl
  · (refine .mk ⟨trivial, [], ⟨rfl, ?_⟩, List.nodup_nil, rfl, trivial⟩; show V.lit _ = V.lit _)
    unfold utfOk
    rw [decide_eq_false (by omega)]; rfl
theorem F_i_textOk (s : ByteArray) (hs : s.size ≤ 1099511627776) : Fn pg 67 [.lit (.string s)] [] (.lit (.bool (textOk s))) [] := by
  have hF := F_i_UtfOk (bytesI s) (by simpa [bytesI] using hs) (bytesI_range s)
  rw [rowU_bytes] at hF
  change Fn pg _ _ [] (.lit (.bool (textOk s))) [] at hF
  refine Fn.ofN [0,2] [1004] Try.func67 (by rfl) rfl (by show 1 ≤ 6; decide) (by rfl) ?_
  repeat' ((conv => whnf); first | (refine And.intro (by first | exact True.intro | omega | fail) ?_) | (refine Or.inl ?_; apply callV_i; (repeat ((conv => whnf); first | refine And.intro (by first | omega | (simp (disch := (first | omega | fail)) only [modAt, List.length_take, List.length_drop, List.length_map, List.length_append, List.length_set, List.length_replicate, len_rowsPart, len_setCell, len_marks, len_markL, len_byR]; first | omega | fail) | fail) ?_ | fail)); ((conv => whnf); first | (simp (disch := (first | omega | fail)) only [takeAll, takeAll2, take_app, take_app2, take_marks, take_dropU, take_byR, take_takeU]; first | exact FnB.mk (hF) | fail) | fail); refine ⟨rfl, rfl, ?_⟩) | fail)
  all_goals ((refine .mk ⟨trivial, [], ⟨rfl, ?_⟩, List.nodup_nil, rfl, trivial⟩; show V.lit _ = V.lit _); rfl)


/-- Attributes, puts. -/
abbrev At := ByteArray × ByteArray
def eAt (p : At) : List V := [.lit (.string p.1), .lit (.string p.2)]
abbrev rowA (a : List At) : Row := a.map eAt
instance : Inhabited At := ⟨(.empty, .empty)⟩
abbrev Pt := Int × ByteArray
instance : Inhabited Pt := ⟨(0, .empty)⟩
theorem litA (xs : List At) : litRow 2 (rowA xs) := by
  intro x hx
  obtain ⟨n, _, rfl⟩ := List.mem_map.1 hx
  refine ⟨rfl, fun c hc => ?_⟩
  simp [eAt] at hc
  rcases hc with rfl | rfl <;> exact ⟨_, rfl, rfl⟩
theorem F_l_toAttr (p : At) : Fn pg 87 [.agg (eAt p)] [] (.agg (eAt p)) [] := by
  refine Fn.ofN [0,1,2,3] [1001,1002,1003] Try.func87 (by rfl) rfl (by show 1 ≤ 11; decide) (by rfl) ?_
  repeat' ((conv => whnf); first | (refine Exists.intro _ (And.intro rfl ?_)) | (refine And.intro (by first | exact True.intro | exact Nat.le_refl _ | fail) ?_) | fail)
  all_goals (refine .mk ⟨trivial, [], ⟨rfl, rfl⟩, List.nodup_nil, rfl, trivial⟩)
theorem F_l_eqAttr (p q : At) : Fn pg 91 [.agg (eAt p), .agg (eAt q)] [] (.lit (.bool (decide (p = q)))) [] := by
  refine Fn.ofN [0,1,2,3,4,9,14] [1002,1003] Try.func91 (by rfl) rfl (by show 2 ≤ 15; decide) (by rfl) ?_
  repeat' ((conv => whnf); first | (refine iteB_dec (fun h => ?_) (fun h => ?_) <;> (try simp (disch := (first | omega | fail)) only [modAt, List.length_take, List.length_drop, List.length_map, List.length_append, List.length_set, List.length_replicate, len_rowsPart, len_setCell, len_marks, len_markL] at h)) | (refine Exists.intro _ (And.intro rfl ?_)) | fail)
  all_goals ((refine .mk ⟨trivial, [], ⟨rfl, ?_⟩, List.nodup_nil, rfl, trivial⟩; show V.lit _ = V.lit _); simp only [V.lit.injEq, Value.bool.injEq]; obtain ⟨p1, p2⟩ := p; obtain ⟨q1, q2⟩ := q; simp_all)
theorem F_l_toAttrS (xs : List At) (hx : xs.length * 32 ≤ 140737488351232) : Fn pg 73 [.imm 2 (rowA xs)] [] (.sl 500 [] 2 0 xs.length) [(500, false, 2, rowA xs)] := by
  refine Fn.ofN [0,2,3,4,11] [1002,1007] Try.func73 (by rfl) rfl (by show 1 ≤ 23; decide) (by rfl) ?_
  repeat' ((conv => whnf); first | (refine And.intro (by first | exact True.intro | omega | (simp (disch := (first | omega | fail)) only [modAt, List.length_take, List.length_drop, List.length_map, List.length_append, List.length_set, List.length_replicate, len_rowsPart, len_setCell, len_marks, len_markL]; first | omega | fail) | fail) ?_) | fail)
  refine ⟨Nat, fun i => i ≤ xs.length, fun i => [(0, .imm 2 (rowA xs)), (3, .sl 1007 [] 2 0 xs.length), (4, .lit (.int .i64 i))], fun i => [(1007, false, 2, rowsPart eAt [.lit (.string .empty), .lit (.string .empty)] xs i)], fun i => xs.length - i, ⟨[], 0, by omega, ⟨rfl, rfl⟩, ⟨by first | rfl | fail, ?_, by first | rfl | fail, trivial⟩, ?_, trivial⟩, ?_⟩
  · show V.sl 1007 [] 2 0 _ = V.sl 1007 [] 2 0 _
    rw [Int.toNat_natCast, List.length_map]
  · show some (false, 2, _) = some (false, 2, rowsPart eAt [.lit (.string .empty), .lit (.string .empty)] xs 0)
    rw [Int.toNat_natCast, List.length_map, rowsPart_zero]
  intro i hi
  repeat' ((conv => whnf); first | (refine iteB_dec (fun h => ?_) (fun h => ?_) <;> (try simp (disch := (first | omega | fail)) only [modAt, List.length_take, List.length_drop, List.length_map, List.length_append, List.length_set, List.length_replicate, len_rowsPart, len_setCell, len_marks, len_markL] at h)) | (refine wrapB_i64 (by first | omega | fail) (by first | omega | fail) ?_) | (refine And.intro (by first | exact True.intro | omega | (simp (disch := (first | omega | fail)) only [modAt, List.length_take, List.length_drop, List.length_map, List.length_append, List.length_set, List.length_replicate, len_rowsPart, len_setCell, len_marks, len_markL]; first | omega | fail) | fail) ?_) | (refine Exists.intro _ (And.intro (rowGet _ _ _ (by omega)) ?_)) | (refine Exists.intro _ (And.intro (by first | exact (get_partC _ _ _ _ _ _ (by first | omega | fail) (by exact rfl)) | exact (get_setC (by decide) (get_partC _ _ _ _ _ _ (by first | omega | fail) (by exact rfl))) | fail) ?_)) | (refine Or.inl ?_; apply callV_i; (repeat ((conv => whnf); first | refine And.intro (by first | omega | fail) ?_ | fail)); ((conv => whnf); first | exact FnB.mk (F_l_toAttr _) | fail); refine ⟨rfl, rfl, ?_⟩) | fail)
  · refine ⟨[], i + 1, by omega, ⟨⟨rfl, rfl⟩, ⟨by first | rfl | fail, by first | rfl | fail, by first | rfl | fail, trivial⟩, ?_, trivial⟩, by first | (dsimp only; omega) | fail⟩
    show some (false, 2, setCell (setCell (rowsPart eAt [.lit (.string .empty), .lit (.string .empty)] xs i) i 0 _) i 1 _) = some (false, 2, rowsPart eAt [.lit (.string .empty), .lit (.string .empty)] xs (i + 1))
    rw [setCell_at (rowsPart_z _ _ _ _ (by omega)), setCell_set (by rw [len_rowsPart _ _ _ _ (by omega)]; omega), ← rowsPart_succ _ _ _ _ (by omega)]; rfl
  · have hi' : i = xs.length := by omega
    subst hi'
    refine .mk ⟨trivial, [1007], ⟨rfl, ?_⟩, by simp, rfl, ?_⟩
    · rfl
    refine ⟨?_, trivial⟩
    refine outOk_new (d := 1007) (by decide) rfl ?_
    show some (false, 2, rowsPart _ _ xs xs.length) = some (false, 2, rowA xs)
    rw [rowsPart_all]
theorem F_l_eqAttrS (a b : List At) (ha : a.length ≤ 140737488351232) (hb : b.length ≤ 140737488351232) : Fn pg 80 [.imm 2 (rowA a), .imm 2 (rowA b)] [] (.lit (.bool (decide (a = b)))) [] := by
  refine Fn.ofN [0,1,4,5,10,14,26] [] Try.func80 (by rfl) rfl (by show 2 ≤ 27; decide) (by rfl) ?_
  repeat' ((conv => whnf); first | (refine iteB_dec (fun h => ?_) (fun h => ?_) <;> (try simp (disch := (first | omega | fail)) only [modAt, List.length_take, List.length_drop, List.length_map, List.length_append, List.length_set, List.length_replicate, len_rowsPart, len_setCell, len_marks, len_markL] at h)) | fail)
  · (refine .mk ⟨trivial, [], ⟨rfl, ?_⟩, List.nodup_nil, rfl, trivial⟩; show V.lit _ = V.lit _)
    have : a ≠ b := fun e => by subst e; omega
    simp [this]
  refine ⟨Nat, fun i => i ≤ a.length ∧ a.take i = b.take i, fun i => [(0, .imm 2 (rowA a)), (1, .imm 2 (rowA b)), (5, .lit (.int .i64 i))], fun i => [], fun i => a.length - i, ⟨[], 0, by simp, ⟨rfl, rfl⟩, ⟨by first | rfl | fail, by first | rfl | fail, by first | rfl | fail, trivial⟩, trivial⟩, ?_⟩
  intro i ⟨hi, ht⟩
  repeat' ((conv => whnf); first | (refine iteB_dec (fun h => ?_) (fun h => ?_) <;> (try simp (disch := (first | omega | fail)) only [modAt, List.length_take, List.length_drop, List.length_map, List.length_append, List.length_set, List.length_replicate, len_rowsPart, len_setCell, len_marks, len_markL] at h)) | (refine iteB_not ?_) | (refine wrapB_i64 (by first | omega | fail) (by first | omega | fail) ?_) | (refine And.intro (by first | exact True.intro | omega | fail) ?_) | (refine Exists.intro _ (And.intro (rowGet _ _ _ (by omega)) ?_)) | (refine Or.inl (And.intro (by decide +kernel) ?_)) | (apply callQ_i; (repeat ((conv => whnf); first | refine And.intro (by first | omega | fail) ?_ | fail)); ((conv => whnf); apply Exists.intro; (first | exact FnB.mk (F_l_eqAttr _ _) | fail))) | fail)
  · exact ⟨[], i + 1, ⟨by omega, eq_step (by omega) (by omega) (by simp_all) ht⟩, ⟨⟨rfl, rfl⟩, ⟨by first | rfl | fail, by first | rfl | fail, by first | rfl | fail, trivial⟩, trivial⟩, by first | (dsimp only; omega) | fail⟩
  · (refine .mk ⟨trivial, [], ⟨rfl, ?_⟩, List.nodup_nil, rfl, trivial⟩; show V.lit _ = V.lit _)
    simp only [V.lit.injEq, Value.bool.injEq]
    rw [decide_eq_false (ne_at (i := i) (by omega) (by omega) (by simp_all))]
  · (refine .mk ⟨trivial, [], ⟨rfl, ?_⟩, List.nodup_nil, rfl, trivial⟩; show V.lit _ = V.lit _)
    have : a = b := eq_all (by omega) (by omega) ht
    simp [this]
def szL {α : Type} (sz : α → Int → Int) : List α → Int → Int
  | [], l => l
  | x :: r, l => if sz x l < 0 then -1 else szL sz r (sz x l)
def szS {α : Type} (sz : α → Int → Int) (xs : List α) (l : Int) : Int := if l - xs.length < 0 then -1 else szL sz xs (l - xs.length)
def szAt (a : At) (l : Int) : Int := if l - a.1.size < 0 then -1 else if l - a.1.size - a.2.size < 0 then -1 else l - a.1.size - a.2.size
theorem F_l_szAttr (p : At) (l : Int) (hl : 0 ≤ l) (hl2 : l ≤ 140737488351232) (hp : p.1.size ≤ 140737488351232 ∧ p.2.size ≤ 140737488351232) : Fn pg 84 [.agg (eAt p), .lit (.int .i64 l)] [] (.lit (.int .i64 (szAt p l))) [] := by
  refine Fn.ofN [0,1,2,4,11,18] [1002] Try.func84 (by rfl) rfl (by show 2 ≤ 20; decide) (by rfl) ?_
  repeat' ((conv => whnf); first | (refine iteB_dec (fun h => ?_) (fun h => ?_) <;> (try simp (disch := (first | omega | fail)) only [modAt, List.length_take, List.length_drop, List.length_map, List.length_append, List.length_set, List.length_replicate, len_rowsPart, len_setCell, len_marks, len_markL] at h)) | (refine Exists.intro _ (And.intro rfl ?_)) | (refine wrapB_i64 (by first | omega | fail) (by first | omega | fail) ?_) | fail)
  all_goals ((refine .mk ⟨trivial, [], ⟨rfl, ?_⟩, List.nodup_nil, rfl, trivial⟩; show V.lit _ = V.lit _); unfold szAt; congr 2; grind)
theorem le_szAt (p : At) (l : Int) (h : 0 ≤ l) : szAt p l ≤ l := by unfold szAt; grind
theorem F_l_szAttrS (xs : List At) (l : Int) (hx : xs.length ≤ 140737488351232) (hl : 0 ≤ l) (hl2 : l ≤ 140737488351232) (hp : ∀ x ∈ xs, x.1.size ≤ 140737488351232 ∧ x.2.size ≤ 140737488351232) : Fn pg 69 [.imm 2 (rowA xs), .lit (.int .i64 l)] [] (.lit (.int .i64 (szS szAt xs l))) [] := by
  refine Fn.ofN [0,1,4,5,11,15,25] [] Try.func69 (by rfl) rfl (by show 2 ≤ 27; decide) (by rfl) ?_
  repeat' ((conv => whnf); first | (refine iteB_dec (fun h => ?_) (fun h => ?_) <;> (try simp (disch := (first | omega | fail)) only [modAt, List.length_take, List.length_drop, List.length_map, List.length_append, List.length_set, List.length_replicate, len_rowsPart, len_setCell, len_marks, len_markL] at h)) | (refine wrapB_i64 (by first | (simp (disch := (first | omega | fail)) only [modAt, List.length_take, List.length_drop, List.length_map, List.length_append, List.length_set, List.length_replicate, len_rowsPart, len_setCell, len_marks, len_markL]; first | omega | fail) | fail) (by first | omega | fail) ?_) | fail)
  · (refine .mk ⟨trivial, [], ⟨rfl, ?_⟩, List.nodup_nil, rfl, trivial⟩; show V.lit _ = V.lit _)
    unfold szS
    rw [if_pos (by omega)]
  have h0 : ¬ l - (xs.length : Int) < 0 := by assumption
  refine ⟨Nat × Int, fun x => x.1 ≤ xs.length ∧ 0 ≤ x.2 ∧ x.2 ≤ 140737488351232 ∧ szS szAt xs l = szL szAt (xs.drop x.1) x.2, fun x => [(0, .imm 2 (rowA xs)), (1, .lit (.int .i64 x.2)), (5, .lit (.int .i64 x.1))], fun _ => [], fun x => xs.length - x.1, ⟨[], (0, l - xs.length), ⟨by simp, by dsimp only; omega, by dsimp only; omega, by simp [szS, h0]⟩, ⟨rfl, rfl⟩, ⟨by first | rfl | fail, by show V.lit (.int .i64 (l - List.length (List.map _ xs))) = _; rw [List.length_map]; rfl, by first | rfl | fail, trivial⟩, trivial⟩, ?_⟩
  intro (i, m) ⟨hi, hm, hm2, hh⟩
  dsimp only at hi hm hm2 hh
  have hq : ∀ h : i < xs.length, szAt xs[i] m ≤ m := fun h => le_szAt _ _ hm
  have hy : ∀ h : i < xs.length, (fun x : At => x.1.size ≤ 140737488351232 ∧ x.2.size ≤ 140737488351232) xs[i] := fun h => hp _ (List.getElem_mem h)
  by_cases hlt : i < xs.length
  · have hy2 := hy hlt
    try dsimp only at hy2
    have h1 := hq hlt
    rw [drop_cons _ _ hlt] at hh
    repeat' ((conv => whnf); first | (refine iteB_dec (fun h => ?_) (fun h => ?_) <;> (try simp (disch := (first | omega | fail)) only [modAt, List.length_take, List.length_drop, List.length_map, List.length_append, List.length_set, List.length_replicate, len_rowsPart, len_setCell, len_marks, len_markL] at h)) | (refine wrapB_i64 (by first | omega | fail) (by first | omega | fail) ?_) | (refine And.intro (by first | exact True.intro | omega | fail) ?_) | (refine Exists.intro _ (And.intro (rowGet _ _ _ (by omega)) ?_)) | (refine Or.inl ?_; apply callV_i; (repeat ((conv => whnf); first | refine And.intro (by first | omega | fail) ?_ | fail)); ((conv => whnf); first | exact FnB.mk (F_l_szAttr _ _ (by first | omega | fail) (by first | omega | fail) (by first | omega | fail)) | fail); refine ⟨rfl, rfl, ?_⟩) | fail)
    · (refine .mk ⟨trivial, [], ⟨rfl, ?_⟩, List.nodup_nil, rfl, trivial⟩; show V.lit _ = V.lit _)
      rw [hh]; simp only [szL]; rw [if_pos (by first | assumption | fail)]
    · have hn : ¬ szAt xs[i] m < 0 := by first | assumption | fail
      refine ⟨[], (i + 1, szAt xs[i] m), ⟨by dsimp only; omega, by dsimp only; omega, by dsimp only; omega, ?_⟩, ⟨⟨rfl, rfl⟩, ⟨by first | rfl | fail, rfl, by first | rfl | fail, trivial⟩, trivial⟩, by first | (dsimp only; omega) | fail⟩
      rw [hh]; simp only [szL]; rw [if_neg hn]
    · exfalso; omega
  · rw [List.drop_of_length_le (by omega)] at hh
    repeat' ((conv => whnf); first | (refine iteB_dec (fun h => ?_) (fun h => ?_) <;> (try simp (disch := (first | omega | fail)) only [modAt, List.length_take, List.length_drop, List.length_map, List.length_append, List.length_set, List.length_replicate, len_rowsPart, len_setCell, len_marks, len_markL] at h)) | (refine wrapB_i64 (by first | omega | fail) (by first | omega | fail) ?_) | (refine And.intro (by first | exact True.intro | omega | fail) ?_) | (refine Exists.intro _ (And.intro (rowGet _ _ _ (by omega)) ?_)) | (refine Or.inl ?_; apply callV_i; (repeat ((conv => whnf); first | refine And.intro (by first | omega | fail) ?_ | fail)); ((conv => whnf); first | exact FnB.mk (F_l_szAttr _ _ (by first | omega | fail) (by first | omega | fail) (by first | omega | fail)) | fail); refine ⟨rfl, rfl, ?_⟩) | fail)
    all_goals first | (exfalso; omega) | skip | fail
    (refine .mk ⟨trivial, [], ⟨rfl, ?_⟩, List.nodup_nil, rfl, trivial⟩; show V.lit _ = V.lit _)
    rw [hh]; rfl
/-- Marks, each by what stands there. -/
def mkL {α : Type} (f : Int → α → α) (st : α → Nat) (k : Int) : List α → List α
  | [] => []
  | x :: r => f k x :: mkL f st (k + st x) r
def stL {α : Type} (st : α → Nat) : List α → Nat
  | [] => 0
  | x :: r => st x + stL st r
theorem len_mkL {α : Type} (f : Int → α → α) (st : α → Nat) (k : Int) (l : List α) : (mkL f st k l).length = l.length := by
  induction l generalizing k with
  | nil => rfl
  | cons x r ih => simp [mkL, ih]
theorem stL_append {α : Type} (st : α → Nat) (l r : List α) : stL st (l ++ r) = stL st l + stL st r := by
  induction l with
  | nil => simp [stL]
  | cons x l ih => simp [stL, ih]; omega
theorem mkL_append {α : Type} (f : Int → α → α) (st : α → Nat) (k : Int) (l r : List α) : mkL f st k (l ++ r) = mkL f st k l ++ mkL f st (k + stL st l) r := by
  induction l generalizing k with
  | nil => simp [mkL, stL]
  | cons x l ih => simp only [List.cons_append, mkL, stL, ih]; congr 3; omega
def marksN {α : Type} (f : Int → α → α) (st : α → Nat) (k : Int) (a : List α) (i : Nat) : List α := mkL f st k (a.take i) ++ a.drop i
theorem len_marksN {α : Type} (f : Int → α → α) (st : α → Nat) (k : Int) (a : List α) (i : Nat) : (marksN f st k a i).length = a.length := by
  simp [marksN, len_mkL]; omega
theorem marksN_zero {α : Type} (f : Int → α → α) (st : α → Nat) (k : Int) (a : List α) : marksN f st k a 0 = a := by simp [marksN, mkL]
theorem stL_succ {α : Type} (st : α → Nat) (a : List α) (i : Nat) (h : i < a.length) : stL st (a.take (i + 1)) = stL st (a.take i) + st a[i] := by
  rw [List.take_succ_eq_append_getElem h, stL_append]; rfl
theorem marksN_get {α : Type} (f : Int → α → α) (st : α → Nat) (k : Int) (a : List α) (i : Nat) (h : i < a.length) : (marksN f st k a i)[i]? = some a[i] := by
  unfold marksN
  rw [List.getElem?_append_right (by simp [len_mkL]; omega), len_mkL, List.length_take, Nat.min_eq_left (by omega), Nat.sub_self, List.getElem?_drop, Nat.add_zero, List.getElem?_eq_getElem h]
theorem marksN_succ {α : Type} (f : Int → α → α) (st : α → Nat) (k : Int) (a : List α) (i : Nat) (h : i < a.length) : (marksN f st k a i).set i (f (k + stL st (a.take i)) a[i]) = marksN f st k a (i + 1) := by
  unfold marksN
  rw [List.take_succ_eq_append_getElem h, mkL_append, List.set_append_right _ _ (by simp [len_mkL]; omega), len_mkL, List.length_take, Nat.min_eq_left (by omega), Nat.sub_self, drop_cons _ _ h, List.set_cons_zero]
  simp [mkL]
theorem take_marksN {α : Type} (E : α → List V) (f : Int → α → α) (st : α → Nat) (k : Int) (a : List α) (n : Nat) (h : n ≤ a.length) : List.take n (List.drop 0 (List.map E (marksN f st k a n))) = List.map E (mkL f st k (a.take n)) := by
  rw [List.drop_zero, marksN, List.map_append, List.take_append_of_le_length (by simp [len_mkL]; omega), List.take_of_length_le (by simp [len_mkL]; omega)]
def heldG {α : Type} (hd : Int → α → Int) (k : Int) : List α → Int
  | [] => k
  | x :: r => if hd k x < 0 then -1 else heldG hd (hd k x) r
theorem heldG_mkL {α : Type} (hd : Int → α → Int) (f : Int → α → α) (st : α → Nat) (hh : ∀ (k : Int) (x : α), 0 ≤ k → hd k (f k x) = k + st x) : ∀ (l : List α) (k : Int), 0 ≤ k → heldG hd k (mkL f st k l) = k + stL st l := by
  intro l
  induction l with
  | nil => intro k _; simp [mkL, heldG, stL]
  | cons x r ih =>
    intro k hk
    simp only [mkL, heldG, stL]
    rw [hh k x hk, if_neg (by omega), ih _ (by omega)]; omega
theorem get_marksNC {α : Type} (E : α → List V) (f : Int → α → α) (st : α → Nat) (k : Int) (a : List α) (i j : Nat) (v : V) (h : i < a.length) (hv : (E a[i])[j]? = some v) : cellAt (List.map E (marksN f st k a i)) (((i : Nat) : Int).toNat + 0) j = some v := by
  rw [Int.toNat_natCast, Nat.add_zero]
  unfold cellAt
  rw [List.getElem?_map, marksN_get _ _ _ _ _ h]; exact hv
theorem get_marksNR {α : Type} (E : α → List V) (f : Int → α → α) (st : α → Nat) (k : Int) (a : List α) (i : Nat) (h : i < a.length) : (List.map E (marksN f st k a i))[((i : Nat) : Int).toNat + 0]? = some (E a[i]) := by
  rw [Int.toNat_natCast, Nat.add_zero, List.getElem?_map, marksN_get _ _ _ _ _ h]; rfl
def mkAt (k : Int) (_ : At) : At := (markT k, markT (k + 1))
def two {α : Type} (_ : α) : Nat := 2
theorem stL_two {α : Type} (l : List α) : stL two l = 2 * l.length := by
  induction l with
  | nil => rfl
  | cons x r ih => simp only [stL, two, ih, List.length_cons]; omega
theorem F_l_markAttrS (a : List At) (n : Nat) (k : Int) (hn : n ≤ a.length) (ha : n ≤ 140737488351232) (hk : 0 ≤ k) (hk2 : k ≤ 4470000000000000000) : Fn pg 61 [.sl 0 [] 2 0 n, .lit (.int .i64 k)] [(0, false, 2, rowA a)] (.lit (.int .i64 (k + stL two (a.take n)))) [(0, false, 2, rowA (marksN mkAt two k a n))] := by
  refine Fn.ofN [0,1,4,5,9] [0] Try.func61 (by rfl) rfl (by show 2 ≤ 29; decide) (by rfl) ?_
  repeat' ((conv => whnf); first | (refine iteB_dec (fun h => ?_) (fun h => ?_) <;> (try simp (disch := (first | omega | fail)) only [modAt, List.length_take, List.length_drop, List.length_map, List.length_append, List.length_set, List.length_replicate, len_rowsPart, len_setCell, len_marks, len_markL, len_mkL, len_marksN] at h)) | fail)
  refine ⟨Nat, fun i => i ≤ n, fun i => [(0, .sl 0 [] 2 0 n), (1, .lit (.int .i64 (k + stL two (a.take i)))), (5, .lit (.int .i64 i))], fun i => [(0, false, 2, rowA (marksN mkAt two k a i))], fun i => n - i, ⟨[], 0, by omega, ⟨rfl, rfl⟩, ⟨by first | rfl | fail, by simp [stL]; rfl, by first | rfl | fail, trivial⟩, ⟨boxEq (congrArg rowA (marksN_zero _ _ _ _).symm), trivial⟩⟩, ?_⟩
  intro i hi
  have hst : stL two (a.take i) = 2 * i := by rw [stL_two, List.length_take]; omega
  repeat' ((conv => whnf); first | (refine iteB_dec (fun h => ?_) (fun h => ?_) <;> (try simp (disch := (first | omega | fail)) only [modAt, List.length_take, List.length_drop, List.length_map, List.length_append, List.length_set, List.length_replicate, len_rowsPart, len_setCell, len_marks, len_markL, len_mkL, len_marksN] at h)) | (refine wrapB_i64 (by first | omega | fail) (by first | omega | fail) ?_) | (refine And.intro (by first | exact True.intro | omega | (simp (disch := (first | omega | fail)) only [modAt, List.length_take, List.length_drop, List.length_map, List.length_append, List.length_set, List.length_replicate, len_rowsPart, len_setCell, len_marks, len_markL, len_mkL, len_marksN]; first | omega | fail) | fail) ?_) | (refine Exists.intro _ (And.intro (by first | exact (get_marksNC _ _ _ _ _ _ _ _ (by first | omega | fail) (by exact rfl)) | exact (get_setC (by decide) (get_marksNC _ _ _ _ _ _ _ _ (by first | omega | fail) (by exact rfl))) | fail) ?_)) | (refine Or.inl ?_; apply callV_i; (repeat ((conv => whnf); first | refine And.intro (by first | omega | fail) ?_ | fail)); ((conv => whnf); first | exact FnB.mk (F_l_markText _ (by first | omega | fail)) | fail); refine ⟨rfl, rfl, ?_⟩) | fail)
  · have hml : i < (marksN mkAt two k a i).length := by rw [len_marksN]; omega
    have hs1 := stL_succ two a i (by omega)
    have hge : (marksN mkAt two k a i)[i] = a[i]'(by omega) := Option.some.inj ((List.getElem?_eq_getElem hml).symm.trans (marksN_get _ _ _ _ _ (by omega)))
    refine ⟨[], i + 1, by omega, ⟨⟨rfl, rfl⟩, ⟨by first | rfl | fail, by rw [hs1]; (show V.lit (.int .i64 _) = V.lit (.int .i64 _)); congr 2; simp only [two]; omega, by first | rfl | fail, trivial⟩, ⟨boxEq ?_, trivial⟩⟩, by first | (dsimp only; omega) | fail⟩
    show setCs (List.map eAt (marksN mkAt two k a i)) (Int.toNat (i : Int) + 0) [(0, _), (1, _)] = List.map eAt (marksN mkAt two k a (i + 1))
    exact setCs_map eAt _ _ (mkAt (k + stL two (a.take i)) (a[i]'(by omega))) rfl hml rfl (marksN_succ _ _ _ _ _ (by omega))
  · have hi' : i = n := by omega
    subst hi'
    refine .mk ⟨trivial, [], ⟨rfl, ?_⟩, List.nodup_nil, rfl, ?_⟩
    · rfl
    exact ⟨outOk_old (b := 0) (by decide) rfl, trivial⟩
theorem marksN_all {α : Type} (f : Int → α → α) (st : α → Nat) (k : Int) (a : List α) : marksN f st k a a.length = mkL f st k a := by simp [marksN]
theorem marks_all {α : Type} (f : Int → α) (k : Int) (a : List α) : marks f k a a.length = markL f k a.length := by simp [marks, markL]
theorem F_l_markAttrS_all (a : List At) (n : Nat) (k : Int) (hn : n = a.length) (ha : n ≤ 140737488351232) (hk : 0 ≤ k) (hk2 : k ≤ 4470000000000000000) : Fn pg 61 [.sl 0 [] 2 0 n, .lit (.int .i64 k)] [(0, false, 2, rowA a)] (.lit (.int .i64 (k + 2 * a.length))) [(0, false, 2, rowA (mkL mkAt two k a))] := by
  have h := F_l_markAttrS a n k (by omega) ha hk hk2
  subst hn
  rw [List.take_length, marksN_all, stL_two] at h
  exact h
theorem F_l_markIntS_all (a : List Int) (n : Nat) (k : Int) (hn : n = a.length) (ha : n ≤ 140737488351232) (hk : 0 ≤ k) (hk2 : k ≤ 4470000000000000000) : Fn pg 26 [.sl 0 [] 1 0 n, .lit (.int .i64 k)] [(0, false, 1, rowI a)] (.lit (.int .i64 (k + a.length))) [(0, false, 1, rowI (markL id k a.length))] := by
  have h := F_l_markIntS a n k (by omega) ha hk hk2
  subst hn
  rw [marks_all] at h
  exact h
def hdAt (k : Int) (x : At) : Int := if x.1 = markT k then (if x.2 = markT (k + 1) then k + 1 + 1 else -1) else -1
theorem hdAt_mk (k : Int) (x : At) (h : 0 ≤ k) : hdAt k (mkAt k x) = k + two x := by simp [hdAt, mkAt, two]; omega
theorem F_l_heldAttrS (a : List At) (k : Int) (ha : a.length ≤ 140737488351232) (hk : 0 ≤ k) (hk2 : k ≤ 4470000000000000000) : Fn pg 62 [.imm 2 (rowA a), .lit (.int .i64 k)] [] (.lit (.int .i64 (heldG hdAt k a))) [] := by
  refine Fn.ofN [0,1,4,5,9,19,29] [] Try.func62 (by rfl) rfl (by show 2 ≤ 33; decide) (by rfl) ?_
  repeat' ((conv => whnf); first | (refine iteB_dec (fun h => ?_) (fun h => ?_) <;> (try simp (disch := (first | omega | fail)) only [modAt, List.length_take, List.length_drop, List.length_map, List.length_append, List.length_set, List.length_replicate, len_rowsPart, len_setCell, len_marks, len_markL, len_mkL, len_marksN] at h)) | fail)
  refine ⟨Nat, fun i => i ≤ a.length ∧ heldG hdAt k a = heldG hdAt (k + 2 * i) (a.drop i), fun i => [(0, .imm 2 (rowA a)), (1, .lit (.int .i64 (k + 2 * i))), (5, .lit (.int .i64 i))], fun i => [], fun i => a.length - i, ⟨[], 0, by simp, ⟨rfl, rfl⟩, ⟨by first | rfl | fail, by first | (show V.lit (Value.int _ _) = V.lit (Value.int _ _); first | (congr 2; first | omega | fail) | fail) | fail, by first | rfl | fail, trivial⟩, trivial⟩, ?_⟩
  intro i ⟨hi, hh⟩
  repeat' ((conv => whnf); first | (refine iteB_dec (fun h => ?_) (fun h => ?_) <;> (try simp (disch := (first | omega | fail)) only [modAt, List.length_take, List.length_drop, List.length_map, List.length_append, List.length_set, List.length_replicate, len_rowsPart, len_setCell, len_marks, len_markL, len_mkL, len_marksN] at h)) | (refine wrapB_i64 (by first | omega | fail) (by first | omega | fail) ?_) | (refine And.intro (by first | exact True.intro | omega | fail) ?_) | (refine Exists.intro _ (And.intro (rowGet _ _ _ (by omega)) ?_)) | (refine Or.inl (And.intro (by decide +kernel) ?_)) | (apply callQ_i; (repeat ((conv => whnf); first | refine And.intro (by first | omega | fail) ?_ | fail)); ((conv => whnf); apply Exists.intro; (first | exact FnB.mk (F_l_markText _ (by first | omega | fail)) | fail))) | fail)
  · rw [drop_cons _ _ (by omega)] at hh
    (refine .mk ⟨trivial, [], ⟨rfl, ?_⟩, List.nodup_nil, rfl, trivial⟩; show V.lit _ = V.lit _)
    rw [hh]; simp_all [heldG, hdAt]
  · rw [drop_cons _ _ (by omega)] at hh
    (refine .mk ⟨trivial, [], ⟨rfl, ?_⟩, List.nodup_nil, rfl, trivial⟩; show V.lit _ = V.lit _)
    rw [hh]; simp_all [heldG, hdAt]
  · rw [drop_cons _ _ (by omega)] at hh
    refine ⟨[], i + 1, ⟨by omega, ?_⟩, ⟨⟨rfl, rfl⟩, ⟨by first | rfl | fail, by first | (show V.lit (Value.int _ _) = V.lit (Value.int _ _); first | (congr 2; first | omega | fail) | fail) | fail, by first | rfl | fail, trivial⟩, trivial⟩, by first | (dsimp only; omega) | fail⟩
    have e1 : hdAt (k + 2 * i) (a[i]'(by omega)) = k + 2 * ((i + 1 : Nat) : Int) := by simp_all [hdAt]; omega
    rw [hh]; simp only [heldG]; rw [e1, if_neg (by omega)]
  · rw [List.drop_of_length_le (by omega)] at hh
    (refine .mk ⟨trivial, [], ⟨rfl, ?_⟩, List.nodup_nil, rfl, trivial⟩; show V.lit _ = V.lit _)
    rw [hh]; simp only [heldG]
    first | done | fail
theorem F_l_heldAttrS_marked (a : List At) (k : Int) (ha : a.length ≤ 140737488351232) (hk : 0 ≤ k) (hk2 : k ≤ 4470000000000000000) : Fn pg 62 [.imm 2 (rowA (mkL mkAt two k a)), .lit (.int .i64 k)] [] (.lit (.int .i64 (k + stL two a))) [] := by
  have := F_l_heldAttrS (mkL mkAt two k a) k (by rw [len_mkL]; exact ha) hk hk2
  rwa [heldG_mkL hdAt mkAt two hdAt_mk a k hk] at this


/-- Nodes: kind, name, attributes, text, parent, kids. -/
abbrev Nd := Int × ByteArray × List At × ByteArray × Int × List Int
def eNd (p : Nd) : List V := [.lit (.int .i64 p.1), .lit (.string p.2.1), .own 2 (rowA p.2.2.1), .lit (.string p.2.2.2.1), .lit (.int .i64 p.2.2.2.2.1), .own 1 (rowI p.2.2.2.2.2)]
def sNd (p : Nd) : List V := [.lit (.int .i64 p.1), .lit (.string p.2.1), .imm 2 (rowA p.2.2.1), .lit (.string p.2.2.2.1), .lit (.int .i64 p.2.2.2.2.1), .imm 1 (rowI p.2.2.2.2.2)]
abbrev rowN (a : List Nd) : Row := a.map eNd
def zNd : List V := [.lit (.int .i64 0), .lit (.string .empty), .own 2 [], .lit (.string .empty), .lit (.int .i64 0), .own 1 []]
instance : DecidableEq Nd := fun p q => inferInstance
instance : DecidableEq (List Nd) := fun p q => inferInstance
instance : Inhabited Nd := ⟨(0, .empty, [], .empty, 0, [])⟩
theorem setCs_part {α : Type} (E : α → List V) (z : List V) (xs : List α) (i : Nat) {i' : Nat} {u : List (Nat × V)} (hi : i' = i) (h : i < xs.length) (hy : setVs z u = E xs[i]) : setCs (rowsPart E z xs i) i' u = rowsPart E z xs (i + 1) := by
  subst hi
  rw [setCs_set (rowsPart_z E z xs _ h), hy, rowsPart_succ _ _ _ _ h]
/-- What is bounded of a node. -/
def ndOk (p : Nd) : Prop := p.2.1.size ≤ 140737488351232 ∧ (p.2.2.1.length * 32 ≤ 140737488351232 ∧ ∀ x ∈ p.2.2.1, x.1.size ≤ 140737488351232 ∧ x.2.size ≤ 140737488351232) ∧ p.2.2.2.1.size ≤ 140737488351232 ∧ p.2.2.2.2.2.length * 8 ≤ 140737488351232
theorem F_l_toNode (p : Nd) (hp : ndOk p) : Fn pg 52 [.agg (sNd p)] [] (.agg [.lit (.int .i64 p.1), .lit (.string p.2.1), .sl 500 [] 2 0 p.2.2.1.length, .lit (.string p.2.2.2.1), .lit (.int .i64 p.2.2.2.2.1), .sl 501 [] 1 0 p.2.2.2.2.2.length]) [(500, false, 2, rowA p.2.2.1), (501, false, 1, rowI p.2.2.2.2.2)] := by
  obtain ⟨h1, ⟨h2, h3⟩, h4, h5⟩ := hp
  refine Fn.ofN [0,1,2,3] [1001,1002,1003,1012,1022] Try.func52 (by rfl) rfl (by show 1 ≤ 25; decide) (by rfl) ?_
  repeat' ((conv => whnf); first | (refine Exists.intro _ (And.intro rfl ?_)) | (refine And.intro (by first | exact True.intro | exact Nat.le_refl _ | fail) ?_) | (refine Or.inl ?_; apply callV_i; (repeat ((conv => whnf); first | refine And.intro (by first | omega | fail) ?_ | fail)); ((conv => whnf); first | exact FnB.mk (F_l_toAttrS _ (by first | omega | fail)) | exact FnB.mk (F_l_toIntS _ (by first | omega | fail)) | fail); refine ⟨rfl, rfl, ?_⟩) | fail)
  refine .mk ⟨trivial, [1012, 1022], ⟨rfl, ?_⟩, by simp, rfl, ?_⟩
  · rfl
  exact ⟨outOk_new (d := 1012) (by decide) rfl rfl, outOk_new (d := 1022) (by decide) rfl rfl, trivial⟩
theorem F_l_toNodeS (xs : List Nd) (hx : xs.length * 96 ≤ 140737488351232) (hp : ∀ x ∈ xs, ndOk x) : Fn pg 33 [.imm 6 (rowN xs)] [] (.sl 500 [] 6 0 xs.length) [(500, false, 6, rowN xs)] := by
  refine Fn.ofN [0,2,3,4,11] [1002,1007,1020,2020] Try.func33 (by rfl) rfl (by show 1 ≤ 23; decide) (by rfl) ?_
  repeat' ((conv => whnf); first | (refine And.intro (by first | exact True.intro | omega | (simp (disch := (first | omega | fail)) only [modAt, List.length_take, List.length_drop, List.length_map, List.length_append, List.length_set, List.length_replicate, len_rowsPart, len_setCell, len_marks, len_markL, len_mkL, len_marksN]; first | omega | fail) | fail) ?_) | fail)
  refine ⟨Nat, fun i => i ≤ xs.length, fun i => [(0, .imm 6 (rowN xs)), (3, .sl 1007 [] 6 0 xs.length), (4, .lit (.int .i64 i))], fun i => [(1007, false, 6, rowsPart eNd zNd xs i)], fun i => xs.length - i, ⟨[], 0, by omega, ⟨rfl, rfl⟩, ⟨by first | rfl | fail, ?_, by first | rfl | fail, trivial⟩, ?_, trivial⟩, ?_⟩
  · show V.sl 1007 [] 6 0 _ = V.sl 1007 [] 6 0 _
    rw [Int.toNat_natCast, List.length_map]
  · show some (false, 6, _) = some (false, 6, rowsPart eNd zNd xs 0)
    rw [Int.toNat_natCast, List.length_map, rowsPart_zero]; rfl
  intro i hi
  by_cases hlt : i < xs.length
  · have hpi := hp _ (List.getElem_mem hlt)
    repeat' ((conv => whnf); first | (refine iteB_dec (fun h => ?_) (fun h => ?_) <;> (try simp (disch := (first | omega | fail)) only [modAt, List.length_take, List.length_drop, List.length_map, List.length_append, List.length_set, List.length_replicate, len_rowsPart, len_setCell, len_marks, len_markL, len_mkL, len_marksN] at h)) | (refine wrapB_i64 (by first | omega | fail) (by first | omega | fail) ?_) | (refine And.intro (by first | exact True.intro | omega | (simp (disch := (first | omega | fail)) only [modAt, List.length_take, List.length_drop, List.length_map, List.length_append, List.length_set, List.length_replicate, len_rowsPart, len_setCell, len_marks, len_markL, len_mkL, len_marksN]; first | omega | fail) | fail) ?_) | (refine Exists.intro _ (And.intro (rowGet _ _ _ (by omega)) ?_)) | (refine Exists.intro _ (And.intro (by first | exact (get_partC _ _ _ _ _ _ (by first | omega | fail) (by exact rfl)) | exact (get_setC (by decide) (get_partC _ _ _ _ _ _ (by first | omega | fail) (by exact rfl))) | exact (get_setC (by decide) (get_setC (by decide) (get_partC _ _ _ _ _ _ (by first | omega | fail) (by exact rfl)))) | exact (get_setC (by decide) (get_setC (by decide) (get_setC (by decide) (get_partC _ _ _ _ _ _ (by first | omega | fail) (by exact rfl))))) | exact (get_setC (by decide) (get_setC (by decide) (get_setC (by decide) (get_setC (by decide) (get_partC _ _ _ _ _ _ (by first | omega | fail) (by exact rfl)))))) | exact (get_setC (by decide) (get_setC (by decide) (get_setC (by decide) (get_setC (by decide) (get_setC (by decide) (get_partC _ _ _ _ _ _ (by first | omega | fail) (by exact rfl))))))) | fail) ?_)) | (refine Or.inl ?_; apply callV_i; (repeat ((conv => whnf); first | refine And.intro (by first | omega | fail) ?_ | fail)); ((conv => whnf); first | exact FnB.mk (F_l_toNode _ (by first | omega | fail)) | fail); refine ⟨rfl, rfl, ?_⟩) | fail)
    all_goals first | (exfalso; omega) | skip | fail
    refine ⟨[], i + 1, by omega, ⟨⟨rfl, rfl⟩, ⟨by first | rfl | fail, by first | rfl | fail, by first | rfl | fail, trivial⟩, boxEq ?_, trivial⟩, by first | (dsimp only; omega) | fail⟩
    show setCs (rowsPart eNd zNd xs i) (Int.toNat (i : Int) + 0) [(0, _), (1, _), (2, _), (3, _), (4, _), (5, _)] = rowsPart eNd zNd xs (i + 1)
    refine setCs_part eNd zNd xs i rfl hlt ?_
    show [V.lit _, V.lit _, V.own 2 (List.take _ (rowA xs[i].2.2.1)), V.lit _, V.lit _, V.own 1 (List.take _ (rowI xs[i].2.2.2.2.2))] = eNd xs[i]
    rw [List.take_of_length_le (by simp), List.take_of_length_le (by simp)]; rfl
  · obtain rfl : i = xs.length := by omega
    repeat' ((conv => whnf); first | (refine iteB_dec (fun h => ?_) (fun h => ?_) <;> (try simp (disch := (first | omega | fail)) only [modAt, List.length_take, List.length_drop, List.length_map, List.length_append, List.length_set, List.length_replicate, len_rowsPart, len_setCell, len_marks, len_markL, len_mkL, len_marksN] at h)) | (refine wrapB_i64 (by first | omega | fail) (by first | omega | fail) ?_) | (refine And.intro (by first | exact True.intro | omega | fail) ?_) | (refine Exists.intro _ (And.intro (rowGet _ _ _ (by omega)) ?_)) | (refine Exists.intro _ (And.intro (by first | exact (get_partC _ _ _ _ _ _ (by first | omega | fail) (by exact rfl)) | exact (get_setC (by decide) (get_partC _ _ _ _ _ _ (by first | omega | fail) (by exact rfl))) | exact (get_setC (by decide) (get_setC (by decide) (get_partC _ _ _ _ _ _ (by first | omega | fail) (by exact rfl)))) | exact (get_setC (by decide) (get_setC (by decide) (get_setC (by decide) (get_partC _ _ _ _ _ _ (by first | omega | fail) (by exact rfl))))) | exact (get_setC (by decide) (get_setC (by decide) (get_setC (by decide) (get_setC (by decide) (get_partC _ _ _ _ _ _ (by first | omega | fail) (by exact rfl)))))) | exact (get_setC (by decide) (get_setC (by decide) (get_setC (by decide) (get_setC (by decide) (get_setC (by decide) (get_partC _ _ _ _ _ _ (by first | omega | fail) (by exact rfl))))))) | fail) ?_)) | (refine Or.inl ?_; apply callV_i; (repeat ((conv => whnf); first | refine And.intro (by first | omega | fail) ?_ | fail)); ((conv => whnf); first | exact FnB.mk (F_l_toNode _ (by first | omega | fail)) | fail); refine ⟨rfl, rfl, ?_⟩) | fail)
    all_goals first | (exfalso; omega) | skip | fail
    refine .mk ⟨trivial, [1007], ⟨rfl, ?_⟩, by simp, rfl, ?_⟩
    · rfl
    refine ⟨?_, trivial⟩
    refine outOk_new (d := 1007) (by decide) rfl ?_
    show some (false, 6, rowsPart _ _ xs xs.length) = some (false, 6, rowN xs)
    rw [rowsPart_all]
abbrev sTr (t : List Nd) : V := .agg [.imm 6 (rowN t)]
theorem F_l_toTree (t : List Nd) (hx : t.length * 96 ≤ 140737488351232) (hp : ∀ x ∈ t, ndOk x) : Fn pg 14 [sTr t] [] (.agg [.sl 500 [] 6 0 t.length]) [(500, false, 6, rowN t)] := by
  refine Fn.ofN [0,1,2,3] [1001,1002,1003,1006] Try.func14 (by rfl) rfl (by show 1 ≤ 9; decide) (by rfl) ?_
  repeat' ((conv => whnf); first | (refine Exists.intro _ (And.intro rfl ?_)) | (refine And.intro (by first | exact True.intro | exact Nat.le_refl _ | fail) ?_) | (refine Or.inl ?_; apply callV_i; (repeat ((conv => whnf); first | refine And.intro (by first | omega | fail) ?_ | fail)); ((conv => whnf); first | exact FnB.mk (F_l_toNodeS _ (by first | omega | fail) (by first | omega | fail)) | fail); refine ⟨rfl, rfl, ?_⟩) | fail)
  refine .mk ⟨trivial, [1006], ⟨rfl, ?_⟩, by simp, rfl, ?_⟩
  · rfl
  exact ⟨outOk_new (d := 1006) (by decide) rfl rfl, trivial⟩
theorem F_l_eqNode (p q : Nd) (hp : ndOk p) (hq : ndOk q) : Fn pg 59 [.agg (sNd p), .agg (sNd q)] [] (.lit (.bool (decide (p = q)))) [] := by
  obtain ⟨h1, ⟨h2, h3⟩, h4, h5⟩ := hp
  obtain ⟨g1, ⟨g2, g3⟩, g4, g5⟩ := hq
  refine Fn.ofN [0,1,2,3,4,9,14,20,25,30,36] [1002,1003] Try.func59 (by rfl) rfl (by show 2 ≤ 37; decide) (by rfl) ?_
  repeat' ((conv => whnf); first | (refine iteB_dec (fun h => ?_) (fun h => ?_) <;> (try simp (disch := (first | omega | fail)) only [modAt, List.length_take, List.length_drop, List.length_map, List.length_append, List.length_set, List.length_replicate, len_rowsPart, len_setCell, len_marks, len_markL, len_mkL, len_marksN] at h)) | (refine iteB_not ?_) | (refine Exists.intro _ (And.intro rfl ?_)) | (refine Or.inl ?_; apply callV_i; (repeat ((conv => whnf); first | refine And.intro (by first | omega | fail) ?_ | fail)); ((conv => whnf); first | exact FnB.mk (F_l_eqIntS _ _ (by first | omega | fail) (by first | omega | fail)) | exact FnB.mk (F_l_eqAttrS _ _ (by first | omega | fail) (by first | omega | fail)) | fail); refine ⟨rfl, rfl, ?_⟩) | fail)
  all_goals ((refine .mk ⟨trivial, [], ⟨rfl, ?_⟩, List.nodup_nil, rfl, trivial⟩; show V.lit _ = V.lit _); obtain ⟨a1, a2, a3, a4, a5, a6⟩ := p; obtain ⟨b1, b2, b3, b4, b5, b6⟩ := q; simp_all)
theorem F_l_eqNodeS (a b : List Nd) (ha : a.length ≤ 140737488351232) (hb : b.length ≤ 140737488351232) (hp : ∀ x ∈ a, ndOk x) (hq : ∀ x ∈ b, ndOk x) : Fn pg 38 [.imm 6 (rowN a), .imm 6 (rowN b)] [] (.lit (.bool (decide (a = b)))) [] := by
  refine Fn.ofN [0,1,4,5,10,14,26] [] Try.func38 (by rfl) rfl (by show 2 ≤ 27; decide) (by rfl) ?_
  repeat' ((conv => whnf); first | (refine iteB_dec (fun h => ?_) (fun h => ?_) <;> (try simp (disch := (first | omega | fail)) only [modAt, List.length_take, List.length_drop, List.length_map, List.length_append, List.length_set, List.length_replicate, len_rowsPart, len_setCell, len_marks, len_markL, len_mkL, len_marksN] at h)) | fail)
  · (refine .mk ⟨trivial, [], ⟨rfl, ?_⟩, List.nodup_nil, rfl, trivial⟩; show V.lit _ = V.lit _)
    have : a ≠ b := fun e => by subst e; omega
    simp [this]
  refine ⟨Nat, fun i => i ≤ a.length ∧ a.take i = b.take i, fun i => [(0, .imm 6 (rowN a)), (1, .imm 6 (rowN b)), (5, .lit (.int .i64 i))], fun i => [], fun i => a.length - i, ⟨[], 0, by simp, ⟨rfl, rfl⟩, ⟨by first | rfl | fail, by first | rfl | fail, by first | rfl | fail, trivial⟩, trivial⟩, ?_⟩
  intro i ⟨hi, ht⟩
  by_cases hlt : i < a.length
  · have hpi := hp _ (List.getElem_mem hlt)
    have hqi := hq _ (List.getElem_mem (show i < b.length by omega))
    repeat' ((conv => whnf); first | (refine iteB_dec (fun h => ?_) (fun h => ?_) <;> (try simp (disch := (first | omega | fail)) only [modAt, List.length_take, List.length_drop, List.length_map, List.length_append, List.length_set, List.length_replicate, len_rowsPart, len_setCell, len_marks, len_markL, len_mkL, len_marksN] at h)) | (refine iteB_not ?_) | (refine wrapB_i64 (by first | omega | fail) (by first | omega | fail) ?_) | (refine And.intro (by first | exact True.intro | omega | fail) ?_) | (refine Exists.intro _ (And.intro (rowGet _ _ _ (by omega)) ?_)) | (refine Or.inl (And.intro (by decide +kernel) ?_)) | (apply callQ_i; (repeat ((conv => whnf); first | refine And.intro (by first | omega | fail) ?_ | fail)); ((conv => whnf); apply Exists.intro; (first | exact FnB.mk (F_l_eqNode _ _ (by first | omega | fail) (by first | omega | fail)) | fail))) | fail)
    · exact ⟨[], i + 1, ⟨by omega, eq_step (by omega) (by omega) (by simp_all) ht⟩, ⟨⟨rfl, rfl⟩, ⟨by first | rfl | fail, by first | rfl | fail, by first | rfl | fail, trivial⟩, trivial⟩, by first | (dsimp only; omega) | fail⟩
    · (refine .mk ⟨trivial, [], ⟨rfl, ?_⟩, List.nodup_nil, rfl, trivial⟩; show V.lit _ = V.lit _)
      simp only [V.lit.injEq, Value.bool.injEq]
      rw [decide_eq_false (ne_at (i := i) (by omega) (by omega) (by first | assumption | fail))]
    · exfalso; omega
  · repeat' ((conv => whnf); first | (refine iteB_dec (fun h => ?_) (fun h => ?_) <;> (try simp (disch := (first | omega | fail)) only [modAt, List.length_take, List.length_drop, List.length_map, List.length_append, List.length_set, List.length_replicate, len_rowsPart, len_setCell, len_marks, len_markL, len_mkL, len_marksN] at h)) | (refine iteB_not ?_) | (refine wrapB_i64 (by first | omega | fail) (by first | omega | fail) ?_) | (refine And.intro (by first | exact True.intro | omega | fail) ?_) | (refine Exists.intro _ (And.intro (rowGet _ _ _ (by omega)) ?_)) | (refine Or.inl (And.intro (by decide +kernel) ?_)) | (apply callQ_i; (repeat ((conv => whnf); first | refine And.intro (by first | omega | fail) ?_ | fail)); ((conv => whnf); apply Exists.intro; (first | exact FnB.mk (F_l_eqNode _ _ (by first | omega | fail) (by first | omega | fail)) | fail))) | fail)
    all_goals first | (exfalso; omega) | skip | fail
    (refine .mk ⟨trivial, [], ⟨rfl, ?_⟩, List.nodup_nil, rfl, trivial⟩; show V.lit _ = V.lit _)
    have : a = b := eq_all (by omega) (by omega) ht
    simp [this]
theorem F_l_eqTree (a b : List Nd) (ha : a.length ≤ 140737488351232) (hb : b.length ≤ 140737488351232) (hp : ∀ x ∈ a, ndOk x) (hq : ∀ x ∈ b, ndOk x) : Fn pg 16 [sTr a, sTr b] [] (.lit (.bool (decide (a = b)))) [] := by
  refine Fn.ofN [0,1,2,3,4,10] [1002,1003] Try.func16 (by rfl) rfl (by show 2 ≤ 11; decide) (by rfl) ?_
  repeat' ((conv => whnf); first | (refine iteB_dec (fun h => ?_) (fun h => ?_) <;> (try simp (disch := (first | omega | fail)) only [modAt, List.length_take, List.length_drop, List.length_map, List.length_append, List.length_set, List.length_replicate, len_rowsPart, len_setCell, len_marks, len_markL, len_mkL, len_marksN] at h)) | (refine iteB_not ?_) | (refine Exists.intro _ (And.intro rfl ?_)) | (refine Or.inl ?_; apply callV_i; (repeat ((conv => whnf); first | refine And.intro (by first | omega | fail) ?_ | fail)); ((conv => whnf); first | exact FnB.mk (F_l_eqNodeS _ _ (by first | omega | fail) (by first | omega | fail) (by first | omega | fail) (by first | omega | fail)) | fail); refine ⟨rfl, rfl, ?_⟩) | fail)
  all_goals ((refine .mk ⟨trivial, [], ⟨rfl, ?_⟩, List.nodup_nil, rfl, trivial⟩; show V.lit _ = V.lit _); simp_all)


theorem stL_take_le {α : Type} (st : α → Nat) (a : List α) (i : Nat) : stL st (a.take i) ≤ stL st a := by
  have := stL_append st (a.take i) (a.drop i)
  rw [List.take_append_drop] at this; omega
def stNd (p : Nd) : Nat := 4 + 2 * p.2.2.1.length + p.2.2.2.2.2.length
def mkNd (k : Int) (p : Nd) : Nd := (k, markT (k + 1), mkL mkAt two (k + 1 + 1) p.2.2.1, markT (k + 1 + 1 + 2 * p.2.2.1.length), k + 1 + 1 + 2 * p.2.2.1.length + 1, markL id (k + 1 + 1 + 2 * p.2.2.1.length + 1 + 1) p.2.2.2.2.2.length)
theorem F_l_markNodeS (a : List Nd) (n : Nat) (k : Int) (hn : n ≤ a.length) (ha : n ≤ 140737488351232) (hk : 0 ≤ k) (hk2 : k + stL stNd a ≤ 4460000000000000000) (hp : ∀ x ∈ a, x.2.2.1.length ≤ 140737488351232 ∧ x.2.2.2.2.2.length ≤ 140737488351232) : Fn pg 39 [.sl 0 [] 6 0 n, .lit (.int .i64 k)] [(0, false, 6, rowN a)] (.lit (.int .i64 (k + stL stNd (a.take n)))) [(0, false, 6, rowN (marksN mkNd stNd k a n))] := by
  refine Fn.ofN [0,1,4,5,9] [0] Try.func39 (by rfl) rfl (by show 2 ≤ 57; decide) (by rfl) ?_
  repeat' ((conv => whnf); first | (refine iteB_dec (fun h => ?_) (fun h => ?_) <;> (try simp (disch := (first | omega | fail)) only [modAt, List.length_take, List.length_drop, List.length_map, List.length_append, List.length_set, List.length_replicate, len_rowsPart, len_setCell, len_marks, len_markL, len_mkL, len_marksN] at h)) | fail)
  refine ⟨Nat, fun i => i ≤ n, fun i => [(0, .sl 0 [] 6 0 n), (1, .lit (.int .i64 (k + stL stNd (a.take i)))), (5, .lit (.int .i64 i))], fun i => [(0, false, 6, rowN (marksN mkNd stNd k a i))], fun i => n - i, ⟨[], 0, by omega, ⟨rfl, rfl⟩, ⟨by first | rfl | fail, by simp [stL]; rfl, by first | rfl | fail, trivial⟩, ⟨boxEq (congrArg rowN (marksN_zero _ _ _ _).symm), trivial⟩⟩, ?_⟩
  intro i hi
  by_cases hlt : i < n
  · have hst := stL_succ stNd a i (by omega)
    have hle := stL_take_le stNd a (i + 1)
    have hpi := hp _ (List.getElem_mem (show i < a.length by omega))
    have h2a := stL_two (a[i]'(by omega)).2.2.1
    have hal : stNd (a[i]'(by omega)) = 4 + 2 * (a[i]'(by omega)).2.2.1.length + (a[i]'(by omega)).2.2.2.2.2.length := rfl
    repeat' ((conv => whnf); first | (refine iteB_dec (fun h => ?_) (fun h => ?_) <;> (try simp (disch := (first | omega | fail)) only [modAt, List.length_take, List.length_drop, List.length_map, List.length_append, List.length_set, List.length_replicate, len_rowsPart, len_setCell, len_marks, len_markL, len_mkL, len_marksN] at h)) | (refine wrapB_i64 (by first | omega | fail) (by first | omega | fail) ?_) | (refine And.intro (by first | exact True.intro | omega | (simp (disch := (first | omega | fail)) only [modAt, List.length_take, List.length_drop, List.length_map, List.length_append, List.length_set, List.length_replicate, len_rowsPart, len_setCell, len_marks, len_markL, len_mkL, len_marksN]; first | omega | fail) | fail) ?_) | (refine Exists.intro _ (And.intro (by first | exact (get_marksNC _ _ _ _ _ _ _ _ (by first | omega | fail) (by exact rfl)) | exact (get_setC (by decide) (get_marksNC _ _ _ _ _ _ _ _ (by first | omega | fail) (by exact rfl))) | exact (get_setC (by decide) (get_setC (by decide) (get_setC (by decide) (get_marksNC _ _ _ _ _ _ _ _ (by first | omega | fail) (by exact rfl))))) | exact (get_setC (by decide) (get_setC (by decide) (get_setC (by decide) (get_setC (by decide) (get_marksNC _ _ _ _ _ _ _ _ (by first | omega | fail) (by exact rfl)))))) | fail) ?_)) | (refine Exists.intro _ (And.intro (by first | exact (get_setR (get_setR (get_marksNR _ _ _ _ _ _ (by first | omega | fail)))) | exact (get_setR (get_setR (get_setR (get_setR (get_setR (get_marksNR _ _ _ _ _ _ (by first | omega | fail))))))) | fail) ?_)) | (refine Or.inl ?_; apply callV_i; (repeat ((conv => whnf); first | refine And.intro (by first | omega | fail) ?_ | fail)); ((conv => whnf); first | exact FnB.mk (F_l_markText _ (by first | omega | fail)) | fail); refine ⟨rfl, rfl, ?_⟩) | (refine Or.inr (Or.inr (callO_ok ?_)); (conv => whnf); refine Exists.intro _ (And.intro (by first | exact (get_setC (by decide) (get_setC (by decide) (get_marksNC _ _ _ _ _ _ _ _ (by first | omega | fail) (by exact rfl)))) | exact (get_setC (by decide) (get_setC (by decide) (get_setC (by decide) (get_setC (by decide) (get_setC (by decide) (get_marksNC _ _ _ _ _ _ _ _ (by first | omega | fail) (by exact rfl))))))) | fail) ?_); apply Exists.intro; apply Exists.intro; apply And.intro; (first | exact FnB.mk (F_l_markIntS_all _ _ _ (by first | (simp_all; done) | fail) (by first | (simp; omega) | fail) (by first | omega | fail) (by first | omega | fail)) | exact FnB.mk (F_l_markAttrS_all _ _ _ (by first | (simp_all; done) | fail) (by first | (simp; omega) | fail) (by first | omega | fail) (by first | omega | fail)) | fail); refine And.intro (by first | (simp (disch := (first | omega | fail)) only [modAt, List.length_take, List.length_drop, List.length_map, List.length_append, List.length_set, List.length_replicate, len_rowsPart, len_setCell, len_marks, len_markL, len_mkL, len_marksN]; first | done | fail) | fail) ?_) | fail)
    all_goals first | (exfalso; omega) | skip | fail
    have hml : i < (marksN mkNd stNd k a i).length := by rw [len_marksN]; omega
    have hge : (marksN mkNd stNd k a i)[i] = a[i]'(by omega) := Option.some.inj ((List.getElem?_eq_getElem hml).symm.trans (marksN_get _ _ _ _ _ (by omega)))
    refine ⟨[], i + 1, by omega, ⟨⟨rfl, rfl⟩, ⟨by first | rfl | fail, by rw [hst]; (show V.lit (.int .i64 _) = V.lit (.int .i64 _)); congr 2; omega, by first | rfl | fail, trivial⟩, ⟨boxEq ?_, trivial⟩⟩, by first | (dsimp only; omega) | fail⟩
    show setCs (List.map eNd (marksN mkNd stNd k a i)) (Int.toNat (i : Int) + 0) [(0, _), (1, _), (2, _), (3, _), (4, _), (5, _)] = List.map eNd (marksN mkNd stNd k a (i + 1))
    exact setCs_map eNd _ _ (mkNd (k + stL stNd (a.take i)) (a[i]'(by omega))) rfl hml rfl (marksN_succ _ _ _ _ _ (by omega))
  · obtain rfl : i = n := by omega
    repeat' ((conv => whnf); first | (refine iteB_dec (fun h => ?_) (fun h => ?_) <;> (try simp (disch := (first | omega | fail)) only [modAt, List.length_take, List.length_drop, List.length_map, List.length_append, List.length_set, List.length_replicate, len_rowsPart, len_setCell, len_marks, len_markL, len_mkL, len_marksN] at h)) | (refine wrapB_i64 (by first | omega | fail) (by first | omega | fail) ?_) | (refine And.intro (by first | exact True.intro | omega | fail) ?_) | (refine Exists.intro _ (And.intro (by first | exact (get_marksNC _ _ _ _ _ _ _ _ (by first | omega | fail) (by exact rfl)) | exact (get_setC (by decide) (get_marksNC _ _ _ _ _ _ _ _ (by first | omega | fail) (by exact rfl))) | exact (get_setC (by decide) (get_setC (by decide) (get_setC (by decide) (get_marksNC _ _ _ _ _ _ _ _ (by first | omega | fail) (by exact rfl))))) | exact (get_setC (by decide) (get_setC (by decide) (get_setC (by decide) (get_setC (by decide) (get_marksNC _ _ _ _ _ _ _ _ (by first | omega | fail) (by exact rfl)))))) | fail) ?_)) | (refine Exists.intro _ (And.intro (by first | exact (get_setR (get_setR (get_marksNR _ _ _ _ _ _ (by first | omega | fail)))) | exact (get_setR (get_setR (get_setR (get_setR (get_setR (get_marksNR _ _ _ _ _ _ (by first | omega | fail))))))) | fail) ?_)) | (refine Or.inl ?_; apply callV_i; (repeat ((conv => whnf); first | refine And.intro (by first | omega | fail) ?_ | fail)); ((conv => whnf); first | exact FnB.mk (F_l_markText _ (by first | omega | fail)) | fail); refine ⟨rfl, rfl, ?_⟩) | (refine Or.inr (Or.inr (callO_ok ?_)); (conv => whnf); refine Exists.intro _ (And.intro (by first | exact (get_setC (by decide) (get_setC (by decide) (get_marksNC _ _ _ _ _ _ _ _ (by first | omega | fail) (by exact rfl)))) | exact (get_setC (by decide) (get_setC (by decide) (get_setC (by decide) (get_setC (by decide) (get_setC (by decide) (get_marksNC _ _ _ _ _ _ _ _ (by first | omega | fail) (by exact rfl))))))) | fail) ?_); apply Exists.intro; apply Exists.intro; apply And.intro; (first | exact FnB.mk (F_l_markIntS_all _ _ _ (by first | omega | fail) (by first | omega | fail) (by first | omega | fail) (by first | omega | fail)) | exact FnB.mk (F_l_markAttrS_all _ _ _ (by first | omega | fail) (by first | omega | fail) (by first | omega | fail) (by first | omega | fail)) | fail); refine And.intro (by first | omega | fail) ?_) | fail)
    all_goals first | (exfalso; omega) | skip | fail
    refine .mk ⟨trivial, [], ⟨rfl, ?_⟩, List.nodup_nil, rfl, ?_⟩
    · rfl
    exact ⟨outOk_old (b := 0) (by decide) rfl, trivial⟩
theorem F_l_markTree (a : List Nd) (n : Nat) (k : Int) (hn : n ≤ a.length) (ha : n ≤ 140737488351232) (hk : 0 ≤ k) (hk2 : k + stL stNd a ≤ 4460000000000000000) (hp : ∀ x ∈ a, x.2.2.1.length ≤ 140737488351232 ∧ x.2.2.2.2.2.length ≤ 140737488351232) : Fn pg 17 [.agg [.sl 0 [] 6 0 n], .lit (.int .i64 k)] [(0, false, 6, rowN a)] (.lit (.int .i64 (k + stL stNd (a.take n)))) [(0, false, 6, rowN (marksN mkNd stNd k a n))] := by
  refine Fn.ofN [0,1,2,4] [0,1002] Try.func17 (by rfl) rfl (by show 2 ≤ 10; decide) (by rfl) ?_
  repeat' ((conv => whnf); first | (refine Exists.intro _ (And.intro rfl ?_)) | (refine And.intro (by first | exact True.intro | (simp (disch := (first | omega | fail)) only [modAt, List.length_take, List.length_drop, List.length_map, List.length_append, List.length_set, List.length_replicate, len_rowsPart, len_setCell, len_marks, len_markL, len_mkL, len_marksN]; first | done | fail) | fail) ?_) | (refine Or.inr (Or.inr (callA_ok ?_)); (conv => whnf); apply Exists.intro; apply Exists.intro; apply And.intro; (repeat ((conv => whnf); first | refine And.intro (by first | omega | fail) ?_ | fail)); ((conv => whnf); first | exact FnB.mk (F_l_markNodeS _ _ _ (by first | omega | fail) (by first | omega | fail) (by first | omega | fail) (by first | omega | fail) (by first | omega | fail)) | fail); refine ⟨rfl, ?_⟩) | fail)
  refine .mk ⟨trivial, [], ⟨rfl, ?_⟩, List.nodup_nil, rfl, ?_⟩
  · rfl
  · exact ⟨outOk_old (b := 0) (by decide) rfl, trivial⟩
theorem get_mkL {α : Type} (E : α → List V) (f : Int → α → α) (st : α → Nat) (k : Int) (a : List α) (i : Nat) (h : i < a.length) : (List.map E (mkL f st k a))[((i : Nat) : Int).toNat]? = some (E (f (k + stL st (a.take i)) a[i])) := by
  have hm : ∀ (a : List α) (k : Int) (i : Nat) (h : i < a.length), (mkL f st k a)[i]? = some (f (k + stL st (a.take i)) a[i]) := by
    intro a
    induction a with
    | nil => intro k i h; simp at h
    | cons x r ih =>
      intro k i h
      cases i with
      | zero => simp [mkL, stL]
      | succ i =>
        simp only [mkL, List.getElem?_cons_succ, List.take_succ_cons, stL, List.getElem_cons_succ]
        rw [ih (k + st x) i (by simpa using h)]
        congr 2; omega
  rw [Int.toNat_natCast, List.getElem?_map, hm a k i h]; rfl
theorem F_l_heldNodeS_marked (a : List Nd) (k : Int) (ha : a.length ≤ 140737488351232) (hk : 0 ≤ k) (hk2 : k + stL stNd a ≤ 4460000000000000000) (hp : ∀ x ∈ a, x.2.2.1.length ≤ 140737488351232 ∧ x.2.2.2.2.2.length ≤ 140737488351232) : Fn pg 40 [.imm 6 (rowN (mkL mkNd stNd k a)), .lit (.int .i64 k)] [] (.lit (.int .i64 (k + stL stNd a))) [] := by
  refine Fn.ofN [0,1,4,5,9,18,28,39,47,56,67] [] Try.func40 (by rfl) rfl (by show 2 ≤ 69; decide) (by rfl) ?_
  repeat' ((conv => whnf); first | (refine iteB_dec (fun h => ?_) (fun h => ?_) <;> (try simp (disch := (first | omega | fail)) only [modAt, List.length_take, List.length_drop, List.length_map, List.length_append, List.length_set, List.length_replicate, len_rowsPart, len_setCell, len_marks, len_markL, len_mkL, len_marksN] at h)) | fail)
  refine ⟨Nat, fun i => i ≤ a.length, fun i => [(0, .imm 6 (rowN (mkL mkNd stNd k a))), (1, .lit (.int .i64 (k + stL stNd (a.take i)))), (5, .lit (.int .i64 i))], fun i => [], fun i => a.length - i, ⟨[], 0, by omega, ⟨rfl, rfl⟩, ⟨by first | rfl | fail, by simp [stL]; rfl, by first | rfl | fail, trivial⟩, trivial⟩, ?_⟩
  intro i hi
  by_cases hlt : i < a.length
  · have hst := stL_succ stNd a i (by omega)
    have hle := stL_take_le stNd a (i + 1)
    have hpi := hp _ (List.getElem_mem hlt)
    have h2a := stL_two a[i].2.2.1
    have hal : stNd a[i] = 4 + 2 * a[i].2.2.1.length + a[i].2.2.2.2.2.length := rfl
    have hH : Fn pg 27 [.imm 1 (rowI (mkNd (k + stL stNd (a.take i)) a[i]).2.2.2.2.2), .lit (.int .i64 (k + stL stNd (a.take i) + 1 + 1 + stL two a[i].2.2.1 + 1 + 1))] [] (.lit (.int .i64 (k + stL stNd (a.take i) + 1 + 1 + stL two a[i].2.2.1 + 1 + 1 + a[i].2.2.2.2.2.length))) [] := by
      show Fn pg _ [.imm 1 (rowI (markL id (k + stL stNd (a.take i) + 1 + 1 + 2 * a[i].2.2.1.length + 1 + 1) a[i].2.2.2.2.2.length)), _] [] _ []
      rw [show (k + stL stNd (a.take i) + 1 + 1 + 2 * a[i].2.2.1.length + 1 + 1 : Int) = k + stL stNd (a.take i) + 1 + 1 + stL two a[i].2.2.1 + 1 + 1 by omega]
      exact F_l_heldIntS_marked _ _ (by omega) (by omega) (by omega)
    have m1 : (mkNd (k + stL stNd (a.take i)) a[i]).1 = k + stL stNd (a.take i) := rfl
    have m2 : (mkNd (k + stL stNd (a.take i)) a[i]).2.1 = markT (k + stL stNd (a.take i) + 1) := rfl
    have m3 : (mkNd (k + stL stNd (a.take i)) a[i]).2.2.2.1 = markT (k + stL stNd (a.take i) + 1 + 1 + stL two a[i].2.2.1) := by
      show markT (k + stL stNd (a.take i) + 1 + 1 + 2 * a[i].2.2.1.length) = _
      congr 1; omega
    have m4 : (mkNd (k + stL stNd (a.take i)) a[i]).2.2.2.2.1 = k + stL stNd (a.take i) + 1 + 1 + stL two a[i].2.2.1 + 1 := by
      show k + stL stNd (a.take i) + 1 + 1 + 2 * a[i].2.2.1.length + 1 = _
      omega
    repeat' ((conv => whnf); first | (refine iteB_dec (fun h => ?_) (fun h => ?_) <;> (try simp (disch := (first | omega | fail)) only [modAt, List.length_take, List.length_drop, List.length_map, List.length_append, List.length_set, List.length_replicate, len_rowsPart, len_setCell, len_marks, len_markL, len_mkL, len_marksN] at h) <;> (try (exfalso; omega))) | (refine wrapB_i64 (by first | omega | fail) (by first | omega | fail) ?_) | (refine And.intro (by first | exact True.intro | omega | fail) ?_) | (refine Exists.intro _ (And.intro (get_mkL _ _ _ _ _ _ (by first | omega | fail)) ?_)) | (refine Or.inl (And.intro (by decide +kernel) ?_)) | (apply callQ_i; (repeat ((conv => whnf); first | refine And.intro (by first | omega | fail) ?_ | fail)); ((conv => whnf); apply Exists.intro; (first | exact FnB.mk (F_l_markText _ (by first | omega | fail)) | fail))) | (refine Or.inl ?_; apply callV_i; (repeat ((conv => whnf); first | refine And.intro (by first | omega | fail) ?_ | fail)); ((conv => whnf); first | exact FnB.mk (hH) | exact FnB.mk (F_l_heldAttrS_marked _ _ (by first | omega | fail) (by first | omega | fail) (by first | omega | fail)) | fail); refine ⟨rfl, rfl, ?_⟩) | fail)
    all_goals first | (exact absurd m2 (by assumption)) | (exact absurd m3 (by assumption)) | skip | fail
    exact ⟨[], i + 1, by omega, ⟨⟨rfl, rfl⟩, ⟨by first | rfl | fail, by rw [hst]; (show V.lit (.int .i64 _) = V.lit (.int .i64 _)); congr 2; omega, by first | rfl | fail, trivial⟩, trivial⟩, by first | (dsimp only; omega) | fail⟩
  · obtain rfl : i = a.length := by omega
    repeat' ((conv => whnf); first | (refine iteB_dec (fun h => ?_) (fun h => ?_) <;> (try simp (disch := (first | omega | fail)) only [modAt, List.length_take, List.length_drop, List.length_map, List.length_append, List.length_set, List.length_replicate, len_rowsPart, len_setCell, len_marks, len_markL, len_mkL, len_marksN] at h)) | (refine wrapB_i64 (by first | omega | fail) (by first | omega | fail) ?_) | (refine And.intro (by first | exact True.intro | omega | fail) ?_) | (refine Exists.intro _ (And.intro (get_mkL _ _ _ _ _ _ (by first | omega | fail)) ?_)) | (refine Or.inl (And.intro (by decide +kernel) ?_)) | (apply callQ_i; (repeat ((conv => whnf); first | refine And.intro (by first | omega | fail) ?_ | fail)); ((conv => whnf); apply Exists.intro; (first | exact FnB.mk (F_l_markText _ (by first | omega | fail)) | fail))) | (refine Or.inl ?_; apply callV_i; (repeat ((conv => whnf); first | refine And.intro (by first | omega | fail) ?_ | fail)); ((conv => whnf); first | exact FnB.mk (F_l_heldIntS _ _ (by first | omega | fail) (by first | omega | fail) (by first | omega | fail)) | exact FnB.mk (F_l_heldAttrS_marked _ _ (by first | omega | fail) (by first | omega | fail) (by first | omega | fail)) | fail); refine ⟨rfl, rfl, ?_⟩) | fail)
    all_goals first | (exfalso; omega) | skip | fail
    (refine .mk ⟨trivial, [], ⟨rfl, ?_⟩, List.nodup_nil, rfl, trivial⟩; show V.lit _ = V.lit _)
    rw [List.take_length]
theorem F_l_heldTree_marked (a : List Nd) (k : Int) (ha : a.length ≤ 140737488351232) (hk : 0 ≤ k) (hk2 : k + stL stNd a ≤ 4460000000000000000) (hp : ∀ x ∈ a, x.2.2.1.length ≤ 140737488351232 ∧ x.2.2.2.2.2.length ≤ 140737488351232) : Fn pg 18 [.agg [.imm 6 (rowN (mkL mkNd stNd k a))], .lit (.int .i64 k)] [] (.lit (.int .i64 (k + stL stNd a))) [] := by
  have hN := F_l_heldNodeS_marked a k ha hk hk2 hp
  refine Fn.ofN [0,1,2,4,10] [1002] Try.func18 (by rfl) rfl (by show 2 ≤ 12; decide) (by rfl) ?_
  repeat' ((conv => whnf); first | (refine iteB_dec (fun h => ?_) (fun h => ?_) <;> (try simp (disch := (first | omega | fail)) only [modAt, List.length_take, List.length_drop, List.length_map, List.length_append, List.length_set, List.length_replicate, len_rowsPart, len_setCell, len_marks, len_markL, len_mkL, len_marksN] at h) <;> (try (exfalso; omega))) | (refine Exists.intro _ (And.intro rfl ?_)) | (refine Or.inl ?_; apply callV_i; (repeat ((conv => whnf); first | refine And.intro (by first | omega | fail) ?_ | fail)); ((conv => whnf); first | exact FnB.mk (hN) | fail); refine ⟨rfl, rfl, ?_⟩) | fail)
  all_goals ((refine .mk ⟨trivial, [], ⟨rfl, ?_⟩, List.nodup_nil, rfl, trivial⟩; show V.lit _ = V.lit _); rfl)


def szI (xs : List Int) (l : Int) : Int := if l - xs.length < 0 then -1 else l - xs.length
theorem F_l_szIntS (xs : List Int) (l : Int) (hx : xs.length ≤ 140737488351232) (hl : 0 ≤ l) (hl2 : l ≤ 140737488351232) : Fn pg 70 [.imm 1 (rowI xs), .lit (.int .i64 l)] [] (.lit (.int .i64 (szI xs l))) [] := by
  refine Fn.ofN [0,1,4,10] [] Try.func70 (by rfl) rfl (by show 2 ≤ 12; decide) (by rfl) ?_
  repeat' ((conv => whnf); first | (refine iteB_dec (fun h => ?_) (fun h => ?_) <;> (try simp (disch := (first | omega | fail)) only [modAt, List.length_take, List.length_drop, List.length_map, List.length_append, List.length_set, List.length_replicate, len_rowsPart, len_setCell, len_marks, len_markL, len_mkL, len_marksN] at h)) | (refine wrapB_i64 (by first | (simp (disch := (first | omega | fail)) only [modAt, List.length_take, List.length_drop, List.length_map, List.length_append, List.length_set, List.length_replicate, len_rowsPart, len_setCell, len_marks, len_markL, len_mkL, len_marksN]; first | omega | fail) | fail) (by first | omega | fail) ?_) | fail)
  all_goals ((refine .mk ⟨trivial, [], ⟨rfl, ?_⟩, List.nodup_nil, rfl, trivial⟩; show V.lit _ = V.lit _); unfold szI; congr 2; grind)
theorem szL_le {α : Type} (sz : α → Int → Int) (h : ∀ p l, 0 ≤ l → sz p l ≤ l) : ∀ (xs : List α) (l : Int), 0 ≤ l → szL sz xs l ≤ l := by
  intro xs
  induction xs with
  | nil => intro l _; simp [szL]
  | cons x r ih =>
    intro l hl
    simp only [szL]
    have := h x l hl
    split
    · omega
    · have := ih (sz x l) (by omega); omega
theorem szS_le {α : Type} (sz : α → Int → Int) (h : ∀ p l, 0 ≤ l → sz p l ≤ l) (xs : List α) (l : Int) (hl : 0 ≤ l) : szS sz xs l ≤ l := by
  unfold szS
  split
  · omega
  · have := szL_le sz h xs (l - xs.length) (by omega); omega
def szNd (p : Nd) (l : Int) : Int :=
  let l1 := l - p.2.1.size
  if l1 < 0 then -1 else
  let l2 := szS szAt p.2.2.1 l1
  if l2 < 0 then -1 else
  let l3 := l2 - p.2.2.2.1.size
  if l3 < 0 then -1 else
  if szI p.2.2.2.2.2 l3 < 0 then -1 else szI p.2.2.2.2.2 l3
theorem F_l_szNode (p : Nd) (l : Int) (hl : 0 ≤ l) (hl2 : l ≤ 140737488351232) (hp : ndOk p) : Fn pg 48 [.agg (sNd p), .lit (.int .i64 l)] [] (.lit (.int .i64 (szNd p l))) [] := by
  obtain ⟨h1, ⟨h2, h3⟩, h4, h5⟩ := hp
  have hle : ∀ m : Int, 0 ≤ m → szS szAt p.2.2.1 m ≤ m := fun m hm => szS_le szAt le_szAt _ m hm
  by_cases hz : 0 ≤ l - (p.2.1.size : Int)
  · have hq := hle _ hz
    refine Fn.ofN [0,1,2,4,11,17,24,30] [1002] Try.func48 (by rfl) rfl (by show 2 ≤ 32; decide) (by rfl) ?_
    repeat' ((conv => whnf); first | (refine iteB_dec (fun h => ?_) (fun h => ?_) <;> (try simp (disch := (first | omega | fail)) only [modAt, List.length_take, List.length_drop, List.length_map, List.length_append, List.length_set, List.length_replicate, len_rowsPart, len_setCell, len_marks, len_markL, len_mkL, len_marksN] at h)) | (refine Exists.intro _ (And.intro rfl ?_)) | (refine wrapB_i64 (by first | omega | fail) (by first | omega | fail) ?_) | (refine Or.inl ?_; apply callV_i; (repeat ((conv => whnf); first | refine And.intro (by first | omega | fail) ?_ | fail)); ((conv => whnf); first | exact FnB.mk (F_l_szAttrS p.2.2.1 _ (by omega) hz (by omega) h3) | exact FnB.mk (F_l_szIntS _ _ (by first | omega | fail) (by first | omega | fail) (by first | omega | fail)) | fail); refine ⟨rfl, rfl, ?_⟩) | fail)
    all_goals first | (exfalso; omega) | skip | fail
    all_goals ((refine .mk ⟨trivial, [], ⟨rfl, ?_⟩, List.nodup_nil, rfl, trivial⟩; show V.lit _ = V.lit _); unfold szNd; dsimp only; congr 2; grind)
  · refine Fn.ofN [0,1,2,4,11,17,24,30] [1002] Try.func48 (by rfl) rfl (by show 2 ≤ 32; decide) (by rfl) ?_
    repeat' ((conv => whnf); first | (refine iteB_dec (fun h => ?_) (fun h => ?_) <;> (try simp (disch := (first | omega | fail)) only [modAt, List.length_take, List.length_drop, List.length_map, List.length_append, List.length_set, List.length_replicate, len_rowsPart, len_setCell, len_marks, len_markL, len_mkL, len_marksN] at h)) | (refine Exists.intro _ (And.intro rfl ?_)) | (refine wrapB_i64 (by first | omega | fail) (by first | omega | fail) ?_) | (refine Or.inl ?_; apply callV_i; (repeat ((conv => whnf); first | refine And.intro (by first | omega | fail) ?_ | fail)); ((conv => whnf); first | exact FnB.mk (F_l_szAttrS _ _ (by first | omega | fail) (by first | omega | fail) (by first | omega | fail) (by first | omega | fail)) | exact FnB.mk (F_l_szIntS _ _ (by first | omega | fail) (by first | omega | fail) (by first | omega | fail)) | fail); refine ⟨rfl, rfl, ?_⟩) | fail)
    all_goals first | (exfalso; omega) | skip | fail
    all_goals ((refine .mk ⟨trivial, [], ⟨rfl, ?_⟩, List.nodup_nil, rfl, trivial⟩; show V.lit _ = V.lit _); unfold szNd; dsimp only; rw [if_pos (by omega)])
theorem szI_le (xs : List Int) (l : Int) (h : 0 ≤ l) : szI xs l ≤ l := by unfold szI; split <;> omega
theorem szNd_le (p : Nd) (l : Int) (h : 0 ≤ l) : szNd p l ≤ l := by
  unfold szNd
  dsimp only
  split
  · omega
  · rename_i h1
    have h2 := szS_le szAt le_szAt p.2.2.1 (l - p.2.1.size) (by omega)
    split
    · omega
    · split
      · omega
      · rename_i h3
        have h4 := szI_le p.2.2.2.2.2 (szS szAt p.2.2.1 (l - p.2.1.size) - p.2.2.2.1.size) (by omega)
        split <;> omega
theorem F_l_szNodeS (xs : List Nd) (l : Int) (hx : xs.length ≤ 140737488351232) (hl : 0 ≤ l) (hl2 : l ≤ 140737488351232) (hp : ∀ x ∈ xs, ndOk x) : Fn pg 28 [.imm 6 (rowN xs), .lit (.int .i64 l)] [] (.lit (.int .i64 (szS szNd xs l))) [] := by
  refine Fn.ofN [0,1,4,5,11,15,25] [] Try.func28 (by rfl) rfl (by show 2 ≤ 27; decide) (by rfl) ?_
  repeat' ((conv => whnf); first | (refine iteB_dec (fun h => ?_) (fun h => ?_) <;> (try simp (disch := (first | omega | fail)) only [modAt, List.length_take, List.length_drop, List.length_map, List.length_append, List.length_set, List.length_replicate, len_rowsPart, len_setCell, len_marks, len_markL, len_mkL, len_marksN] at h)) | (refine wrapB_i64 (by first | (simp (disch := (first | omega | fail)) only [modAt, List.length_take, List.length_drop, List.length_map, List.length_append, List.length_set, List.length_replicate, len_rowsPart, len_setCell, len_marks, len_markL, len_mkL, len_marksN]; first | omega | fail) | fail) (by first | omega | fail) ?_) | fail)
  · (refine .mk ⟨trivial, [], ⟨rfl, ?_⟩, List.nodup_nil, rfl, trivial⟩; show V.lit _ = V.lit _)
    unfold szS
    rw [if_pos (by omega)]
  have h0 : ¬ l - (xs.length : Int) < 0 := by assumption
  refine ⟨Nat × Int, fun x => x.1 ≤ xs.length ∧ 0 ≤ x.2 ∧ x.2 ≤ 140737488351232 ∧ szS szNd xs l = szL szNd (xs.drop x.1) x.2, fun x => [(0, .imm 6 (rowN xs)), (1, .lit (.int .i64 x.2)), (5, .lit (.int .i64 x.1))], fun _ => [], fun x => xs.length - x.1, ⟨[], (0, l - xs.length), ⟨by simp, by dsimp only; omega, by dsimp only; omega, by simp [szS, h0]⟩, ⟨rfl, rfl⟩, ⟨by first | rfl | fail, by show V.lit (.int .i64 (l - List.length (List.map _ xs))) = _; rw [List.length_map]; rfl, by first | rfl | fail, trivial⟩, trivial⟩, ?_⟩
  intro (i, m) ⟨hi, hm, hm2, hh⟩
  dsimp only at hi hm hm2 hh
  by_cases hlt : i < xs.length
  · have hy2 := hp _ (List.getElem_mem hlt)
    have h1 := szNd_le xs[i] m hm
    rw [drop_cons _ _ hlt] at hh
    repeat' ((conv => whnf); first | (refine iteB_dec (fun h => ?_) (fun h => ?_) <;> (try simp (disch := (first | omega | fail)) only [modAt, List.length_take, List.length_drop, List.length_map, List.length_append, List.length_set, List.length_replicate, len_rowsPart, len_setCell, len_marks, len_markL, len_mkL, len_marksN] at h)) | (refine wrapB_i64 (by first | omega | fail) (by first | omega | fail) ?_) | (refine And.intro (by first | exact True.intro | omega | fail) ?_) | (refine Exists.intro _ (And.intro (rowGet _ _ _ (by omega)) ?_)) | (refine Or.inl ?_; apply callV_i; (repeat ((conv => whnf); first | refine And.intro (by first | omega | fail) ?_ | fail)); ((conv => whnf); first | exact FnB.mk (F_l_szNode _ _ (by first | omega | fail) (by first | omega | fail) (by first | omega | fail)) | fail); refine ⟨rfl, rfl, ?_⟩) | fail)
    · (refine .mk ⟨trivial, [], ⟨rfl, ?_⟩, List.nodup_nil, rfl, trivial⟩; show V.lit _ = V.lit _)
      rw [hh]; simp only [szL]; rw [if_pos (by assumption)]
    · have hn : ¬ szNd xs[i] m < 0 := by assumption
      refine ⟨[], (i + 1, szNd xs[i] m), ⟨by dsimp only; omega, by dsimp only; omega, by dsimp only; omega, ?_⟩, ⟨⟨rfl, rfl⟩, ⟨by first | rfl | fail, rfl, by first | rfl | fail, trivial⟩, trivial⟩, by first | (dsimp only; omega) | fail⟩
      rw [hh]; simp only [szL]; rw [if_neg hn]
    · exfalso; omega
  · rw [List.drop_of_length_le (by omega)] at hh
    repeat' ((conv => whnf); first | (refine iteB_dec (fun h => ?_) (fun h => ?_) <;> (try simp (disch := (first | omega | fail)) only [modAt, List.length_take, List.length_drop, List.length_map, List.length_append, List.length_set, List.length_replicate, len_rowsPart, len_setCell, len_marks, len_markL, len_mkL, len_marksN] at h)) | (refine wrapB_i64 (by first | omega | fail) (by first | omega | fail) ?_) | (refine And.intro (by first | exact True.intro | omega | fail) ?_) | (refine Exists.intro _ (And.intro (rowGet _ _ _ (by omega)) ?_)) | (refine Or.inl ?_; apply callV_i; (repeat ((conv => whnf); first | refine And.intro (by first | omega | fail) ?_ | fail)); ((conv => whnf); first | exact FnB.mk (F_l_szNode _ _ (by first | omega | fail) (by first | omega | fail) (by first | omega | fail)) | fail); refine ⟨rfl, rfl, ?_⟩) | fail)
    all_goals first | (exfalso; omega) | skip | fail
    (refine .mk ⟨trivial, [], ⟨rfl, ?_⟩, List.nodup_nil, rfl, trivial⟩; show V.lit _ = V.lit _)
    rw [hh]; rfl
def szTr (t : List Nd) (l : Int) : Int := if szS szNd t l < 0 then -1 else szS szNd t l
theorem F_l_szTree (t : List Nd) (l : Int) (hx : t.length ≤ 140737488351232) (hl : 0 ≤ l) (hl2 : l ≤ 140737488351232) (hp : ∀ x ∈ t, ndOk x) : Fn pg 12 [sTr t, .lit (.int .i64 l)] [] (.lit (.int .i64 (szTr t l))) [] := by
  refine Fn.ofN [0,1,2,4,10] [1002] Try.func12 (by rfl) rfl (by show 2 ≤ 12; decide) (by rfl) ?_
  repeat' ((conv => whnf); first | (refine iteB_dec (fun h => ?_) (fun h => ?_) <;> (try simp (disch := (first | omega | fail)) only [modAt, List.length_take, List.length_drop, List.length_map, List.length_append, List.length_set, List.length_replicate, len_rowsPart, len_setCell, len_marks, len_markL, len_mkL, len_marksN] at h)) | (refine Exists.intro _ (And.intro rfl ?_)) | (refine Or.inl ?_; apply callV_i; (repeat ((conv => whnf); first | refine And.intro (by first | omega | fail) ?_ | fail)); ((conv => whnf); first | exact FnB.mk (F_l_szNodeS _ _ (by first | omega | fail) (by first | omega | fail) (by first | omega | fail) (by first | omega | fail)) | fail); refine ⟨rfl, rfl, ?_⟩) | fail)
  all_goals ((refine .mk ⟨trivial, [], ⟨rfl, ?_⟩, List.nodup_nil, rfl, trivial⟩; show V.lit _ = V.lit _); unfold szTr; congr 2; grind)
/-- What a tree that is not too large has, each of its nodes and all of them together. -/
theorem szNd_st (p : Nd) (l : Int) (h : 0 ≤ l) (h2 : 0 ≤ szNd p l) : szNd p l + p.2.2.1.length + p.2.2.2.2.2.length ≤ l := by
  unfold szNd at *
  dsimp only at *
  split at h2
  · omega
  · rename_i h1
    rw [if_neg h1]
    split at h2
    · omega
    · rename_i h3
      rw [if_neg h3]
      have h4 : szS szAt p.2.2.1 (l - p.2.1.size) + p.2.2.1.length ≤ l - p.2.1.size := by
        unfold szS at *
        split at h3
        · omega
        · rename_i h5
          rw [if_neg h5]
          have := szL_le szAt le_szAt p.2.2.1 (l - p.2.1.size - p.2.2.1.length) (by omega)
          omega
      split at h2
      · omega
      · rename_i h5
        rw [if_neg h5]
        split at h2
        · omega
        · rename_i h6
          rw [if_neg h6]
          unfold szI at *
          split at h6
          · omega
          · rename_i h7
            rw [if_neg h7]; omega
theorem szTr_st (t : List Nd) (l : Int) (h : 0 ≤ l) (h2 : 0 ≤ szTr t l) : t.length ≤ l ∧ stL stNd t ≤ 4 * l := by
  have key : ∀ (xs : List Nd) (m : Int), 0 ≤ m → 0 ≤ szL szNd xs m → (stL stNd xs : Int) ≤ 4 * xs.length + 2 * m := by
    intro xs
    induction xs with
    | nil => intro m hm _; simp [stL]; omega
    | cons x r ih =>
      intro m hm h3
      simp only [szL] at h3
      split at h3
      · omega
      · rename_i h4
        have h5 := szNd_st x m hm (by omega)
        have h6 := ih (szNd x m) (by omega) h3
        simp only [stL, stNd, List.length_cons]
        omega
  unfold szTr at h2
  split at h2
  · omega
  · unfold szS at h2
    split at h2
    · omega
    · rename_i h3
      have := key t (l - t.length) (by omega) h2
      omega


def nameAll (l : List Int) : Bool := l.all fun x => !isOuter x
def nameOk (s : ByteArray) : Bool := (decide (1 ≤ s.size) && decide (s.size ≤ 60)) && ((decide (97 ≤ byteAt s 0) && decide (byteAt s 0 ≤ 122)) && (textOk s && nameAll (bytesI s)))
theorem len_bytesI (s : ByteArray) : (bytesI s).length = s.size := by simp [bytesI]
theorem byteAt_range (s : ByteArray) (i : Int) : 0 ≤ byteAt s i ∧ byteAt s i ≤ 255 := by
  unfold byteAt
  have := (s.data.toList.getD i.toNat 0).toNat_lt
  omega
theorem bytesI_get (s : ByteArray) (i : Nat) (h : i < (bytesI s).length) : (bytesI s)[i] = byteAt s i := by
  have h2 : i < s.data.toList.length := by simpa [bytesI] using h
  unfold byteAt
  rw [Int.toNat_natCast, List.getD_eq_getElem?_getD, List.getElem?_eq_getElem h2]
  simp [bytesI]
theorem nameOk_no (s : ByteArray) (h : ¬ (1 ≤ s.size ∧ s.size ≤ 60)) : nameOk s = false := by
  unfold nameOk
  have : (decide (1 ≤ s.size) && decide (s.size ≤ 60)) = false := by simp only [Bool.and_eq_false_iff, decide_eq_false_iff_not]; omega
  rw [this]; rfl
theorem nameOk_first (s : ByteArray) (h : ¬ (97 ≤ byteAt s 0 ∧ byteAt s 0 ≤ 122)) : nameOk s = false := by
  unfold nameOk
  have : (decide (97 ≤ byteAt s 0) && decide (byteAt s 0 ≤ 122)) = false := by simp only [Bool.and_eq_false_iff, decide_eq_false_iff_not]; omega
  rw [this]; simp
theorem nameOk_text (s : ByteArray) (h : textOk s = false) : nameOk s = false := by
  unfold nameOk; rw [h]; simp
theorem nameOk_all (s : ByteArray) (h1 : 1 ≤ s.size ∧ s.size ≤ 60) (h2 : 97 ≤ byteAt s 0 ∧ byteAt s 0 ≤ 122) (h3 : textOk s = true) : nameOk s = nameAll (bytesI s) := by
  unfold nameOk; rw [h3]; simp [h1, h2]
theorem nameAll_drop (l : List Int) (i : Nat) (h : i < l.length) : nameAll (l.drop i) = (!isOuter l[i] && nameAll (l.drop (i + 1))) := by
  rw [drop_cons _ _ h]; rfl
theorem get_byR (s : ByteArray) (i : Nat) (h : i < s.size) : (byR s.data.toList)[((i : Nat) : Int).toNat + 0]? = some (eInt .u8 (byteAt s i)) := by
  have h2 : i < s.data.toList.length := by simpa using h
  rw [Int.toNat_natCast, Nat.add_zero]
  unfold byR byteAt
  rw [List.getElem?_map, List.getElem?_eq_getElem h2, Int.toNat_natCast, List.getD_eq_getElem?_getD, List.getElem?_eq_getElem h2]; rfl
theorem F_i_NameOk (s : ByteArray) (hs : s.size ≤ 1099511627776) : Fn pg 76 [.lit (.string s)] [] (.lit (.bool (nameOk s))) [] := by
  have hT := F_i_textOk s hs
  have hl := len_bytesI s
  have hI := F_i_inRange s.size 1 60
  by_cases hr : 1 ≤ s.size ∧ s.size ≤ 60
  · have hb := byteAt_range s 0
    rw [show (decide ((1 : Int) ≤ s.size) && decide ((s.size : Int) ≤ 60)) = true by simp; omega] at hI
    refine Fn.ofN [0,2,4,23,25,26,27,28,33] [1025,1032] Try.func76 (by rfl) rfl (by show 1 ≤ 35; decide) (by rfl) ?_
    repeat' ((conv => whnf); first | (refine iteB_dec (fun h => ?_) (fun h => ?_) <;> (try simp (disch := (first | omega | fail)) only [modAt, List.length_take, List.length_drop, List.length_map, List.length_append, List.length_set, List.length_replicate, len_rowsPart, len_setCell, len_marks, len_markL, len_byR, len_mkL, len_marksN, len_bytesI] at h)) | (refine iteB_not ?_) | (refine iteB_of (fun h => ?_) (fun h => ?_)) | (refine And.intro (by first | exact True.intro | decide +kernel | omega | fail) ?_) | (refine Or.inl ?_; apply callV_i; (repeat ((conv => whnf); first | refine And.intro (by first | omega | fail) ?_ | fail)); ((conv => whnf); first | exact FnB.mk (hT) | exact FnB.mk (hI) | fail); refine ⟨rfl, rfl, ?_⟩) | fail)
    all_goals first
      | ((refine .mk ⟨trivial, [], ⟨rfl, ?_⟩, List.nodup_nil, rfl, trivial⟩; show V.lit _ = V.lit _); first | rw [nameOk_first s (by omega)] | rw [nameOk_text s (by assumption)] | fail)
      | skip
    rw [nameOk_all s hr (by omega) (by assumption)]
    refine ⟨Nat, fun i => i ≤ s.size ∧ nameAll (bytesI s) = nameAll ((bytesI s).drop i), fun i => [(25, .sl 1025 [] 1 0 s.size), (26, .lit (.int .i64 s.size)), (27, .lit (.int .i64 i))], fun _ => [(1025, false, 1, byR s.data.toList)], fun i => s.size - i, ⟨[], 0, by simp, ⟨rfl, rfl⟩, ⟨by first | rfl | fail, by first | rfl | fail, by first | rfl | fail, trivial⟩, ⟨rfl, trivial⟩⟩, ?_⟩
    intro i ⟨hi, hh⟩
    by_cases hlt : i < s.size
    · have hbi := byteAt_range s i
      rw [nameAll_drop _ _ (by omega), bytesI_get _ _ (by omega)] at hh
      repeat' ((conv => whnf); first | (refine iteB_dec (fun h => ?_) (fun h => ?_) <;> (try simp (disch := (first | omega | fail)) only [modAt, List.length_take, List.length_drop, List.length_map, List.length_append, List.length_set, List.length_replicate, len_rowsPart, len_setCell, len_marks, len_markL, len_byR, len_mkL, len_marksN, len_bytesI] at h)) | (refine iteB_of (fun h => ?_) (fun h => ?_)) | (refine wrapB_i64 (by first | omega | fail) (by first | omega | fail) ?_) | (refine And.intro (by first | exact True.intro | omega | fail) ?_) | (refine Exists.intro _ (And.intro (by first | exact (get_byR _ _ (by first | omega | fail)) | fail) ?_)) | (refine Or.inl ?_; apply callV_i; (repeat ((conv => whnf); first | refine And.intro (by first | omega | fail) ?_ | fail)); ((conv => whnf); first | exact FnB.mk (F_i_isOuter _) | fail); refine ⟨rfl, rfl, ?_⟩) | fail)
      all_goals first | (exfalso; omega) | skip | fail
      · (refine .mk ⟨trivial, [], ⟨rfl, ?_⟩, List.nodup_nil, rfl, trivial⟩; show V.lit _ = V.lit _)
        rw [hh]; simp_all
      · exact ⟨[], i + 1, ⟨by omega, by rw [hh]; simp_all⟩, ⟨⟨rfl, rfl⟩, ⟨by first | rfl | fail, by first | rfl | fail, by first | rfl | fail, trivial⟩, ⟨rfl, trivial⟩⟩, by first | (dsimp only; omega) | fail⟩
    · obtain rfl : i = s.size := by omega
      rw [List.drop_of_length_le (by omega)] at hh
      repeat' ((conv => whnf); first | (refine iteB_dec (fun h => ?_) (fun h => ?_) <;> (try simp (disch := (first | omega | fail)) only [modAt, List.length_take, List.length_drop, List.length_map, List.length_append, List.length_set, List.length_replicate, len_rowsPart, len_setCell, len_marks, len_markL, len_byR, len_mkL, len_marksN, len_bytesI] at h)) | (refine iteB_of (fun h => ?_) (fun h => ?_)) | (refine wrapB_i64 (by first | omega | fail) (by first | omega | fail) ?_) | (refine And.intro (by first | exact True.intro | omega | fail) ?_) | (refine Exists.intro _ (And.intro (rowGet _ _ _ (by omega)) ?_)) | (refine Or.inl ?_; apply callV_i; (repeat ((conv => whnf); first | refine And.intro (by first | omega | fail) ?_ | fail)); ((conv => whnf); first | exact FnB.mk (F_i_isOuter _) | fail); refine ⟨rfl, rfl, ?_⟩) | fail)
      all_goals first | (exfalso; omega) | skip | fail
      (refine .mk ⟨trivial, [], ⟨rfl, ?_⟩, List.nodup_nil, rfl, trivial⟩; show V.lit _ = V.lit _)
      rw [hh]; rfl
  · rw [nameOk_no s hr]
    rw [show (decide ((1 : Int) ≤ s.size) && decide ((s.size : Int) ≤ 60)) = false by simp; omega] at hI
    refine Fn.ofN [0,2,4,23,25,26,27,28,33] [1025,1032] Try.func76 (by rfl) rfl (by show 1 ≤ 35; decide) (by rfl) ?_
    repeat' ((conv => whnf); first | (refine Or.inl ?_; apply callV_i; (repeat ((conv => whnf); first | refine And.intro (by first | omega | fail) ?_ | fail)); ((conv => whnf); first | exact FnB.mk (hI) | fail); refine ⟨rfl, rfl, ?_⟩) | fail)
    all_goals ((refine .mk ⟨trivial, [], ⟨rfl, ?_⟩, List.nodup_nil, rfl, trivial⟩; show V.lit _ = V.lit _); rfl)
theorem F_s_NameOk (s : ByteArray) (hs : s.size ≤ 1099511627776) : Fn pg 71 [.lit (.string s)] [] (.lit (.bool (nameOk s))) [] := by
  have hT := F_s_l1Ok s hs
  have hl := len_bytesI s
  have hI := F_s_l1In s.size 1 60
  by_cases hr : 1 ≤ s.size ∧ s.size ≤ 60
  · have hb := byteAt_range s 0
    rw [show (decide ((1 : Int) ≤ s.size) && decide ((s.size : Int) ≤ 60)) = true by simp; omega] at hI
    refine Fn.ofN [0,2,3,22,26,63] [1032] Try.func71 (by rfl) rfl (by show 1 ≤ 64; decide) (by rfl) ?_
    repeat' ((conv => whnf); first | (refine iteB_dec (fun h => ?_) (fun h => ?_) <;> (try simp (disch := (first | omega | fail)) only [modAt, List.length_take, List.length_drop, List.length_map, List.length_append, List.length_set, List.length_replicate, len_rowsPart, len_setCell, len_marks, len_markL, len_byR, len_mkL, len_marksN, len_bytesI] at h)) | (refine iteB_not ?_) | (refine iteB_of (fun h => ?_) (fun h => ?_)) | (refine And.intro (by first | exact True.intro | decide +kernel | omega | fail) ?_) | (refine Or.inl ?_; apply callV_i; (repeat ((conv => whnf); first | refine And.intro (by first | omega | fail) ?_ | fail)); ((conv => whnf); first | exact FnB.mk (hT) | exact FnB.mk (hI) | fail); refine ⟨rfl, rfl, ?_⟩) | fail)
    all_goals first
      | ((refine .mk ⟨trivial, [], ⟨rfl, ?_⟩, List.nodup_nil, rfl, trivial⟩; show V.lit _ = V.lit _); first | rw [nameOk_first s (by omega)] | rw [nameOk_text s (by assumption)] | fail)
      | skip
    rw [nameOk_all s hr (by omega) (by assumption)]
    refine ⟨Nat, fun i => i ≤ s.size ∧ nameAll (bytesI s) = nameAll ((bytesI s).drop i), fun i => [(0, .lit (.string s)), (3, .lit (.int .i64 i))], fun _ => [], fun i => s.size - i, ⟨[], 0, by simp, ⟨rfl, rfl⟩, ⟨by first | rfl | fail, by first | rfl | fail, trivial⟩, trivial⟩, ?_⟩
    intro i ⟨hi, hh⟩
    by_cases hlt : i < s.size
    · have hbi := byteAt_range s i
      rw [nameAll_drop _ _ (by omega), bytesI_get _ _ (by omega)] at hh
      repeat' ((conv => whnf); first | (refine iteB_dec (fun h => ?_) (fun h => ?_) <;> (try simp (disch := (first | omega | fail)) only [modAt, List.length_take, List.length_drop, List.length_map, List.length_append, List.length_set, List.length_replicate, len_rowsPart, len_setCell, len_marks, len_markL, len_byR, len_mkL, len_marksN, len_bytesI] at h)) | (refine iteB_of (fun h => ?_) (fun h => ?_)) | (refine wrapB_i64 (by first | omega | fail) (by first | omega | fail) ?_) | (refine And.intro (by first | exact True.intro | omega | fail) ?_) | (refine Or.inl ?_; apply callV_i; (repeat ((conv => whnf); first | refine And.intro (by first | omega | fail) ?_ | fail)); ((conv => whnf); first | exact FnB.mk (F_s_IsBlank _) | fail); refine ⟨rfl, rfl, ?_⟩) | fail)
      all_goals first | (exfalso; omega) | skip | fail
      all_goals first
        | ((refine .mk ⟨trivial, [], ⟨rfl, ?_⟩, List.nodup_nil, rfl, trivial⟩; show V.lit _ = V.lit _)
           have ho : isOuter (byteAt s i) = true := by unfold isOuter; first | (simp_all; done) | fail
           rw [hh, ho]; rfl)
        | exact ⟨[], i + 1, ⟨by omega, by rw [hh]; first | (simp_all [isOuter]; done) | fail⟩, ⟨⟨rfl, rfl⟩, ⟨by first | rfl | fail, by first | rfl | fail, trivial⟩, trivial⟩, by first | (dsimp only; omega) | fail⟩
    · obtain rfl : i = s.size := by omega
      rw [List.drop_of_length_le (by omega)] at hh
      repeat' ((conv => whnf); first | (refine iteB_dec (fun h => ?_) (fun h => ?_) <;> (try simp (disch := (first | omega | fail)) only [modAt, List.length_take, List.length_drop, List.length_map, List.length_append, List.length_set, List.length_replicate, len_rowsPart, len_setCell, len_marks, len_markL, len_byR, len_mkL, len_marksN, len_bytesI] at h)) | (refine iteB_of (fun h => ?_) (fun h => ?_)) | (refine wrapB_i64 (by first | omega | fail) (by first | omega | fail) ?_) | (refine And.intro (by first | exact True.intro | omega | fail) ?_) | (refine Or.inl ?_; apply callV_i; (repeat ((conv => whnf); first | refine And.intro (by first | omega | fail) ?_ | fail)); ((conv => whnf); first | exact FnB.mk (F_s_IsBlank _) | fail); refine ⟨rfl, rfl, ?_⟩) | fail)
      all_goals first | (exfalso; omega) | skip | fail
      (refine .mk ⟨trivial, [], ⟨rfl, ?_⟩, List.nodup_nil, rfl, trivial⟩; show V.lit _ = V.lit _)
      rw [hh]; rfl
  · rw [nameOk_no s hr]
    rw [show (decide ((1 : Int) ≤ s.size) && decide ((s.size : Int) ≤ 60)) = false by simp; omega] at hI
    refine Fn.ofN [0,2,3,22,26,63] [1032] Try.func71 (by rfl) rfl (by show 1 ≤ 64; decide) (by rfl) ?_
    repeat' ((conv => whnf); first | (refine Or.inl ?_; apply callV_i; (repeat ((conv => whnf); first | refine And.intro (by first | omega | fail) ?_ | fail)); ((conv => whnf); first | exact FnB.mk (hI) | fail); refine ⟨rfl, rfl, ?_⟩) | fail)
    all_goals ((refine .mk ⟨trivial, [], ⟨rfl, ?_⟩, List.nodup_nil, rfl, trivial⟩; show V.lit _ = V.lit _); rfl)


def attrB (a : At) : Bool := (decide (1 ≤ a.1.size) && decide (a.1.size ≤ 60)) && (decide (a.2.size ≤ 3000) && (textOk a.1 && textOk a.2))
theorem attrB_name (a : At) (h : ¬ (1 ≤ a.1.size ∧ a.1.size ≤ 60)) : attrB a = false := by
  unfold attrB
  have : (decide (1 ≤ a.1.size) && decide (a.1.size ≤ 60)) = false := by simp only [Bool.and_eq_false_iff, decide_eq_false_iff_not]; omega
  rw [this]; rfl
theorem attrB_value (a : At) (h : ¬ a.2.size ≤ 3000) : attrB a = false := by
  unfold attrB
  rw [decide_eq_false h]; simp
theorem attrB_t1 (a : At) (h : textOk a.1 = false) : attrB a = false := by unfold attrB; rw [h]; simp
theorem attrB_t2 (a : At) (h : textOk a.2 = false) : attrB a = false := by unfold attrB; rw [h]; simp
theorem attrB_all (a : At) (h : 1 ≤ a.1.size ∧ a.1.size ≤ 60) (h2 : a.2.size ≤ 3000) (h3 : textOk a.1 = true) (h4 : textOk a.2 = true) : attrB a = true := by unfold attrB; rw [h3, h4]; simp [h, h2]
theorem attrB_last (a : At) (h : 1 ≤ a.1.size ∧ a.1.size ≤ 60) (h2 : a.2.size ≤ 3000) (h3 : textOk a.1 = true) : attrB a = textOk a.2 := by unfold attrB; rw [h3]; simp [h, h2]
theorem F_i_attrOk (a : At) (h1 : a.1.size ≤ 1099511627776) (h2 : a.2.size ≤ 1099511627776) : Fn pg 90 [.agg (eAt a)] [] (.lit (.bool (attrB a))) [] := by
  have hT1 := F_i_textOk a.1 h1
  have hT2 := F_i_textOk a.2 h2
  have hI := F_i_inRange a.1.size 1 60
  by_cases hr : 1 ≤ a.1.size ∧ a.1.size ≤ 60
  · rw [show (decide ((1 : Int) ≤ a.1.size) && decide ((a.1.size : Int) ≤ 60)) = true by simp; omega] at hI
    refine Fn.ofN [0,1,2] [1001] Try.func90 (by rfl) rfl (by show 1 ≤ 23; decide) (by rfl) ?_
    repeat' ((conv => whnf); first | (refine iteB_dec (fun h => ?_) (fun h => ?_) <;> (try simp (disch := (first | omega | fail)) only [modAt, List.length_take, List.length_drop, List.length_map, List.length_append, List.length_set, List.length_replicate, len_rowsPart, len_setCell, len_marks, len_markL, len_byR, len_mkL, len_marksN, len_bytesI] at h)) | (refine iteB_of (fun h => ?_) (fun h => ?_)) | (refine Exists.intro _ (And.intro rfl ?_)) | (refine Or.inl ?_; apply callV_i; (repeat ((conv => whnf); first | refine And.intro (by first | omega | fail) ?_ | fail)); ((conv => whnf); first | exact FnB.mk (hT1) | exact FnB.mk (hT2) | exact FnB.mk (hI) | fail); refine ⟨rfl, rfl, ?_⟩) | fail)
    all_goals
      (refine .mk ⟨trivial, [], ⟨rfl, ?_⟩, List.nodup_nil, rfl, trivial⟩; show V.lit _ = V.lit _)
      first
      | rw [attrB_value a (by omega)]
      | rw [attrB_t1 a (by assumption)]
      | rw [attrB_t2 a (by assumption)]
      | rw [attrB_all a hr (by omega) (by assumption) (by assumption)]
      | rw [attrB_last a hr (by omega) (by assumption)]
  · rw [attrB_name a hr]
    rw [show (decide ((1 : Int) ≤ a.1.size) && decide ((a.1.size : Int) ≤ 60)) = false by simp; omega] at hI
    refine Fn.ofN [0,1,2] [1001] Try.func90 (by rfl) rfl (by show 1 ≤ 23; decide) (by rfl) ?_
    repeat' ((conv => whnf); first | (refine Exists.intro _ (And.intro rfl ?_)) | (refine Or.inl ?_; apply callV_i; (repeat ((conv => whnf); first | refine And.intro (by first | omega | fail) ?_ | fail)); ((conv => whnf); first | exact FnB.mk (hI) | fail); refine ⟨rfl, rfl, ?_⟩) | fail)
    all_goals ((refine .mk ⟨trivial, [], ⟨rfl, ?_⟩, List.nodup_nil, rfl, trivial⟩; show V.lit _ = V.lit _); rfl)
theorem F_s_l4Attr (a : At) (h1 : a.1.size ≤ 1099511627776) (h2 : a.2.size ≤ 1099511627776) : Fn pg 86 [.agg (eAt a)] [] (.lit (.bool (attrB a))) [] := by
  have hT1 := F_s_l1Ok a.1 h1
  have hT2 := F_s_l1Ok a.2 h2
  have hI := F_s_l1In a.1.size 1 60
  by_cases hr : 1 ≤ a.1.size ∧ a.1.size ≤ 60
  · rw [show (decide ((1 : Int) ≤ a.1.size) && decide ((a.1.size : Int) ≤ 60)) = true by simp; omega] at hI
    refine Fn.ofN [0,1,2] [1001] Try.func86 (by rfl) rfl (by show 1 ≤ 23; decide) (by rfl) ?_
    repeat' ((conv => whnf); first | (refine iteB_dec (fun h => ?_) (fun h => ?_) <;> (try simp (disch := (first | omega | fail)) only [modAt, List.length_take, List.length_drop, List.length_map, List.length_append, List.length_set, List.length_replicate, len_rowsPart, len_setCell, len_marks, len_markL, len_byR, len_mkL, len_marksN, len_bytesI] at h)) | (refine iteB_of (fun h => ?_) (fun h => ?_)) | (refine Exists.intro _ (And.intro rfl ?_)) | (refine Or.inl ?_; apply callV_i; (repeat ((conv => whnf); first | refine And.intro (by first | omega | fail) ?_ | fail)); ((conv => whnf); first | exact FnB.mk (hT1) | exact FnB.mk (hT2) | exact FnB.mk (hI) | fail); refine ⟨rfl, rfl, ?_⟩) | fail)
    all_goals
      (refine .mk ⟨trivial, [], ⟨rfl, ?_⟩, List.nodup_nil, rfl, trivial⟩; show V.lit _ = V.lit _)
      first
      | rw [attrB_value a (by omega)]
      | rw [attrB_t1 a (by assumption)]
      | rw [attrB_t2 a (by assumption)]
      | rw [attrB_all a hr (by omega) (by assumption) (by assumption)]
      | rw [attrB_last a hr (by omega) (by assumption)]
  · rw [attrB_name a hr]
    rw [show (decide ((1 : Int) ≤ a.1.size) && decide ((a.1.size : Int) ≤ 60)) = false by simp; omega] at hI
    refine Fn.ofN [0,1,2] [1001] Try.func86 (by rfl) rfl (by show 1 ≤ 23; decide) (by rfl) ?_
    repeat' ((conv => whnf); first | (refine Exists.intro _ (And.intro rfl ?_)) | (refine Or.inl ?_; apply callV_i; (repeat ((conv => whnf); first | refine And.intro (by first | omega | fail) ?_ | fail)); ((conv => whnf); first | exact FnB.mk (hI) | fail); refine ⟨rfl, rfl, ?_⟩) | fail)
    all_goals ((refine .mk ⟨trivial, [], ⟨rfl, ?_⟩, List.nodup_nil, rfl, trivial⟩; show V.lit _ = V.lit _); rfl)
def idxF {α : Type} (p : α → Bool) : List α → Int → Int
  | [], _ => -1
  | x :: r, k => if p x = true then k else idxF p r (k + 1)
theorem idx_hit {α : Type} (p : α → Bool) : ∀ (l t : List α) (a : α) (i : Int), p a = true → (idxF p (l ++ a :: t) i = i + l.length ↔ l.any p = false) ∧ i ≤ idxF p (l ++ a :: t) i := by
  intro l
  induction l with
  | nil => intro t a i h; simp [idxF, h]
  | cons x l ih =>
    intro t a i h
    have ih := ih t a (i + 1) h
    simp only [List.cons_append, idxF, List.any_cons, List.length_cons]
    cases hx : p x with
    | true => simp; omega
    | false =>
      simp only [Bool.false_or]
      rw [if_neg (by simp)]
      refine ⟨?_, by omega⟩
      rw [← ih.1]
      constructor <;> intro e <;> omega
theorem idx_at {α : Type} (p : α → Bool) (l : List α) (i : Nat) (h : i < l.length) (hp : p l[i] = true) : idxF p l 0 = (i : Int) ↔ (l.take i).any p = false := by
  have := (idx_hit p (l.take i) (l.drop (i + 1)) l[i] 0 hp).1
  rw [← drop_cons _ _ h, List.take_append_drop, List.length_take, Nat.min_eq_left (by omega)] at this
  simpa using this
def hasName (l : List At) (n : ByteArray) : Bool := l.any fun x => decide (x.1 = n)
def attrsFrom (ahead : List At) : List At → Bool
  | [] => true
  | a :: t => (!hasName ahead a.1 && attrB a) && attrsFrom (ahead ++ [a]) t
def attrsOk (l : List At) : Bool := decide (l.length ≤ 20) && attrsFrom [] l
theorem attrsFrom_at (l : List At) (i : Nat) (h : i < l.length) : attrsFrom (l.take i) (l.drop i) = ((!hasName (l.take i) l[i].1 && attrB l[i]) && attrsFrom (l.take (i + 1)) (l.drop (i + 1))) := by
  rw [drop_cons _ _ h, List.take_succ_eq_append_getElem h]; rfl
theorem attrsFrom_end (l : List At) : attrsFrom (l.take l.length) (l.drop l.length) = true := by
  rw [List.drop_of_length_le (Nat.le_refl _)]; rfl
theorem hasName_at (l : List At) (i k : Nat) (n : ByteArray) (hi : i ≤ l.length) (h : k < i) : hasName ((l.take i).drop k) n = (decide (l[k].1 = n) || hasName ((l.take i).drop (k + 1)) n) := by
  rw [drop_cons (l.take i) k (by rw [List.length_take]; omega)]
  simp [hasName]
theorem hasName_end (l : List At) (i : Nat) (n : ByteArray) : hasName ((l.take i).drop i) n = false := by
  rw [List.drop_of_length_le (by rw [List.length_take]; omega)]; rfl
theorem F_slices_IndexFunc_i_Attr_i_Attr (xs : List At) (p : At → Bool) (f : Nat) (c : Value) (hx : xs.length ≤ 140737488351232) (hf : ∀ x, Fn pg f [.agg (eAt x), .pro [.lit c]] [] (.lit (.bool (p x))) []) : Fn pg 98 [.imm 2 (rowA xs), .fn f [.pro [.lit c]]] [] (.lit (.int .i64 (idxF p xs 0))) [] := by
  refine Fn.ofN [0,1,4,5,7,8,9,16] [] Try.func98 (by rfl) rfl (by show 2 ≤ 19; decide) (by rfl) ?_
  repeat' ((conv => whnf); first | (refine iteB_dec (fun h => ?_) (fun h => ?_) <;> (try simp (disch := (first | omega | fail)) only [modAt, List.length_take, List.length_drop, List.length_map, List.length_append, List.length_set, List.length_replicate, len_rowsPart, len_setCell, len_marks, len_markL, len_byR, len_mkL, len_marksN, len_bytesI] at h)) | fail)
  refine ⟨Nat, fun i => i ≤ xs.length ∧ idxF p xs 0 = idxF p (xs.drop i) i, fun i => [(0, .imm 2 (rowA xs)), (1, .fn f [.pro [.lit c]]), (7, .lit (.int .i64 xs.length)), (8, .lit (.int .i64 i))], fun _ => [], fun i => xs.length - i, ⟨[], 0, by simp, ⟨rfl, rfl⟩, ⟨by first | rfl | fail, by first | rfl | fail, by first | (show V.lit (Value.int _ _) = V.lit (Value.int _ _); first | (congr 2; first | (simp only [List.length_map]; done) | fail) | fail) | fail, by first | rfl | fail, trivial⟩, trivial⟩, ?_⟩
  intro i ⟨hi, hh⟩
  repeat' ((conv => whnf); first | (refine iteB_dec (fun h => ?_) (fun h => ?_) <;> (try simp (disch := (first | omega | fail)) only [modAt, List.length_take, List.length_drop, List.length_map, List.length_append, List.length_set, List.length_replicate, len_rowsPart, len_setCell, len_marks, len_markL, len_byR, len_mkL, len_marksN, len_bytesI] at h)) | (refine iteB_of (fun h => ?_) (fun h => ?_)) | (refine wrapB_i64 (by first | omega | fail) (by first | omega | fail) ?_) | (refine And.intro (by first | exact True.intro | omega | fail) ?_) | (refine Exists.intro _ (And.intro (rowGet _ _ _ (by omega)) ?_)) | (refine Or.inl ?_; apply callV_i; (repeat ((conv => whnf); first | refine And.intro (by first | omega | fail) ?_ | fail)); ((conv => whnf); first | exact FnB.mk ((hf _)) | fail); refine ⟨rfl, rfl, ?_⟩) | fail)
  · rw [drop_cons _ _ (by omega)] at hh
    (refine .mk ⟨trivial, [], ⟨rfl, ?_⟩, List.nodup_nil, rfl, trivial⟩; show V.lit _ = V.lit _)
    simp_all [idxF]
  · rw [drop_cons _ _ (by omega)] at hh
    refine ⟨[], i + 1, ⟨by omega, by simp_all [idxF]⟩, ⟨⟨rfl, rfl⟩, ⟨by first | rfl | fail, by first | rfl | fail, by first | rfl | fail, by first | rfl | fail, trivial⟩, trivial⟩, by first | (dsimp only; omega) | fail⟩
  · rw [List.drop_of_length_le (by omega)] at hh
    (refine .mk ⟨trivial, [], ⟨rfl, ?_⟩, List.nodup_nil, rfl, trivial⟩; show V.lit _ = V.lit _)
    simp_all [idxF]
theorem F_i_attrAt_1 (x : At) (a : ByteArray) : Fn pg 99 [.agg (eAt x), .pro [.lit (.string a)]] [] (.lit (.bool (decide (x.1 = a)))) [] := by
  refine Fn.ofN [0,1,2,3] [1002] Try.func99 (by rfl) rfl (by show 2 ≤ 8; decide) (by rfl) ?_
  repeat' ((conv => whnf); first | (refine Exists.intro _ (And.intro rfl ?_)) | fail)
  all_goals ((refine .mk ⟨trivial, [], ⟨rfl, ?_⟩, List.nodup_nil, rfl, trivial⟩; show V.lit _ = V.lit _); first | (simp_all []; done) | fail)
theorem F_i_attrAt (xs : List At) (a : ByteArray) (hx : xs.length ≤ 140737488351232) : Fn pg 89 [.imm 2 (rowA xs), .lit (.string a)] [] (.lit (.int .i64 (idxF (fun x => decide (x.1 = a)) xs 0))) [] := by
  have hF := F_slices_IndexFunc_i_Attr_i_Attr xs (fun x => decide (x.1 = a)) _ _ hx (fun x => F_i_attrAt_1 x a)
  refine Fn.ofN [0,1,3,4] [1003] Try.func89 (by rfl) rfl (by show 2 ≤ 8; decide) (by rfl) ?_
  repeat' ((conv => whnf); first | (refine Exists.intro _ (And.intro rfl ?_)) | (refine Or.inl ?_; apply callV_i; (repeat ((conv => whnf); first | refine Exists.intro _ (And.intro rfl ?_) | fail)); ((conv => whnf); first | exact FnB.mk (hF) | fail); refine ⟨rfl, rfl, ?_⟩) | fail)
  all_goals ((refine .mk ⟨trivial, [], ⟨rfl, ?_⟩, List.nodup_nil, rfl, trivial⟩; show V.lit _ = V.lit _); rfl)
def atsOk (l : List At) : Prop := l.length ≤ 140737488351232 ∧ ∀ x ∈ l, x.1.size ≤ 1099511627776 ∧ x.2.size ≤ 1099511627776
theorem F_i_AttrsOk (xs : List At) (hx : atsOk xs) : Fn pg 77 [.imm 2 (rowA xs)] [] (.lit (.bool (attrsOk xs))) [] := by
  obtain ⟨hx, hp⟩ := hx
  refine Fn.ofN [0,2,3,4,7,8,9,10,11,25] [1004] Try.func77 (by rfl) rfl (by show 1 ≤ 27; decide) (by rfl) ?_
  repeat' ((conv => whnf); first | (refine iteB_dec (fun h => ?_) (fun h => ?_) <;> (try simp (disch := (first | omega | fail)) only [modAt, List.length_take, List.length_drop, List.length_map, List.length_append, List.length_set, List.length_replicate, len_rowsPart, len_setCell, len_marks, len_markL, len_byR, len_mkL, len_marksN, len_bytesI] at h)) | fail)
  · (refine .mk ⟨trivial, [], ⟨rfl, ?_⟩, List.nodup_nil, rfl, trivial⟩; show V.lit _ = V.lit _)
    unfold attrsOk
    rw [decide_eq_false (by omega)]; rfl
  rw [show attrsOk xs = attrsFrom [] xs by unfold attrsOk; rw [decide_eq_true (by omega)]; rfl]
  refine ⟨Nat, fun i => i ≤ xs.length ∧ attrsFrom [] xs = attrsFrom (xs.take i) (xs.drop i), fun i => [(0, .imm 2 (rowA xs)), (8, .imm 2 (rowA xs)), (9, .lit (.int .i64 xs.length)), (10, .lit (.int .i64 i))], fun _ => [], fun i => xs.length - i, ⟨[], 0, by simp, ⟨rfl, rfl⟩, ⟨by first | rfl | fail, by first | rfl | fail, by first | (show V.lit (Value.int _ _) = V.lit (Value.int _ _); first | (congr 2; first | (simp only [List.length_map]; done) | fail) | fail) | fail, by first | rfl | fail, trivial⟩, trivial⟩, ?_⟩
  intro i ⟨hi, hh⟩
  by_cases hlt : i < xs.length
  · have hpi := hp _ (List.getElem_mem hlt)
    have hA := F_i_attrAt xs xs[i].1 hx
    have hI := idx_at (fun x => decide (x.1 = xs[i].1)) xs i hlt (by simp)
    rw [attrsFrom_at xs i hlt] at hh
    repeat' ((conv => whnf); first | (refine iteB_dec (fun h => ?_) (fun h => ?_) <;> (try simp (disch := (first | omega | fail)) only [modAt, List.length_take, List.length_drop, List.length_map, List.length_append, List.length_set, List.length_replicate, len_rowsPart, len_setCell, len_marks, len_markL, len_byR, len_mkL, len_marksN, len_bytesI] at h)) | (refine iteB_not ?_) | (refine iteB_of (fun h => ?_) (fun h => ?_)) | (refine Exists.intro _ (And.intro rfl ?_)) | (refine wrapB_i64 (by first | omega | fail) (by first | omega | fail) ?_) | (refine And.intro (by first | exact True.intro | exact Nat.le_refl _ | omega | fail) ?_) | (refine Exists.intro _ (And.intro (rowGet _ _ _ (by omega)) ?_)) | (refine Or.inl ?_; apply callV_i; (repeat ((conv => whnf); first | refine And.intro (by first | omega | fail) ?_ | fail)); ((conv => whnf); first | exact FnB.mk (hA) | exact FnB.mk (F_i_attrOk _ (by first | omega | fail) (by first | omega | fail)) | fail); refine ⟨rfl, rfl, ?_⟩) | fail)
    all_goals first | (exfalso; omega) | skip | fail
    · (refine .mk ⟨trivial, [], ⟨rfl, ?_⟩, List.nodup_nil, rfl, trivial⟩; show V.lit _ = V.lit _)
      rw [hh, show hasName (xs.take i) xs[i].1 = true from by
        cases e : hasName (xs.take i) xs[i].1 with
        | true => rfl
        | false => exact absurd (hI.2 e) (by assumption)]
      simp
    · rw [show hasName (xs.take i) xs[i].1 = false from hI.1 (Decidable.not_not.1 (by assumption)), show attrB xs[i] = true by assumption] at hh
      exact ⟨[], i + 1, ⟨by omega, by rw [hh]; rfl⟩, ⟨⟨rfl, rfl⟩, ⟨by first | rfl | fail, by first | rfl | fail, by first | rfl | fail, by first | rfl | fail, trivial⟩, trivial⟩, by first | (dsimp only; omega) | fail⟩
    · (refine .mk ⟨trivial, [], ⟨rfl, ?_⟩, List.nodup_nil, rfl, trivial⟩; show V.lit _ = V.lit _)
      rw [hh, show attrB xs[i] = false by assumption]; simp
  · obtain rfl : i = xs.length := by omega
    rw [attrsFrom_end] at hh
    repeat' ((conv => whnf); first | (refine iteB_dec (fun h => ?_) (fun h => ?_) <;> (try simp (disch := (first | omega | fail)) only [modAt, List.length_take, List.length_drop, List.length_map, List.length_append, List.length_set, List.length_replicate, len_rowsPart, len_setCell, len_marks, len_markL, len_byR, len_mkL, len_marksN, len_bytesI] at h)) | (refine iteB_not ?_) | (refine iteB_of (fun h => ?_) (fun h => ?_)) | (refine Exists.intro _ (And.intro rfl ?_)) | (refine wrapB_i64 (by first | omega | fail) (by first | omega | fail) ?_) | (refine And.intro (by first | exact True.intro | exact Nat.le_refl _ | omega | fail) ?_) | (refine Exists.intro _ (And.intro (rowGet _ _ _ (by omega)) ?_)) | (refine Or.inl ?_; apply callV_i; (repeat ((conv => whnf); first | refine And.intro (by first | omega | fail) ?_ | fail)); ((conv => whnf); first | exact FnB.mk (F_i_attrAt _ _ (by first | omega | fail)) | exact FnB.mk (F_i_attrOk _ (by first | omega | fail) (by first | omega | fail)) | fail); refine ⟨rfl, rfl, ?_⟩) | fail)
    all_goals first | (exfalso; omega) | skip | fail
    (refine .mk ⟨trivial, [], ⟨rfl, ?_⟩, List.nodup_nil, rfl, trivial⟩; show V.lit _ = V.lit _)
    rw [hh]
theorem F_s_AttrsOk (xs : List At) (hx : atsOk xs) : Fn pg 72 [.imm 2 (rowA xs)] [] (.lit (.bool (attrsOk xs))) [] := by
  obtain ⟨hx, hp⟩ := hx
  refine Fn.ofN [0,2,3,4,7,11,19,22,35] [] Try.func72 (by rfl) rfl (by show 1 ≤ 36; decide) (by rfl) ?_
  repeat' ((conv => whnf); first | (refine iteB_dec (fun h => ?_) (fun h => ?_) <;> (try simp (disch := (first | omega | fail)) only [modAt, List.length_take, List.length_drop, List.length_map, List.length_append, List.length_set, List.length_replicate, len_rowsPart, len_setCell, len_marks, len_markL, len_byR, len_mkL, len_marksN, len_bytesI] at h)) | fail)
  · (refine .mk ⟨trivial, [], ⟨rfl, ?_⟩, List.nodup_nil, rfl, trivial⟩; show V.lit _ = V.lit _)
    unfold attrsOk
    rw [decide_eq_false (by omega)]; rfl
  rw [show attrsOk xs = attrsFrom [] xs by unfold attrsOk; rw [decide_eq_true (by omega)]; rfl]
  refine ⟨Nat, fun i => i ≤ xs.length ∧ attrsFrom [] xs = attrsFrom (xs.take i) (xs.drop i), fun i => [(0, .imm 2 (rowA xs)), (3, .lit (.int .i64 i))], fun _ => [], fun i => xs.length - i, ⟨[], 0, by simp, ⟨rfl, rfl⟩, ⟨by first | rfl | fail, by first | rfl | fail, trivial⟩, trivial⟩, ?_⟩
  intro i ⟨hi, hh⟩
  by_cases hlt : i < xs.length
  · have hpi := hp _ (List.getElem_mem hlt)
    rw [attrsFrom_at xs i hlt] at hh
    repeat' ((conv => whnf); first | (refine iteB_dec (fun h => ?_) (fun h => ?_) <;> (try simp (disch := (first | omega | fail)) only [modAt, List.length_take, List.length_drop, List.length_map, List.length_append, List.length_set, List.length_replicate, len_rowsPart, len_setCell, len_marks, len_markL, len_byR, len_mkL, len_marksN, len_bytesI] at h)) | (refine iteB_not ?_) | (refine iteB_of (fun h => ?_) (fun h => ?_)) | (refine And.intro (by first | exact True.intro | omega | fail) ?_) | (refine Exists.intro _ (And.intro (rowGet _ _ _ (by omega)) ?_)) | (refine Or.inl ?_; apply callV_i; (repeat ((conv => whnf); first | refine And.intro (by first | omega | fail) ?_ | fail)); ((conv => whnf); first | exact FnB.mk (F_s_l4Attr _ (by first | omega | fail) (by first | omega | fail)) | fail); refine ⟨rfl, rfl, ?_⟩) | fail)
    all_goals first | (exfalso; omega) | skip | fail
    · rw [show attrB xs[i] = true by assumption, Bool.and_true] at hh
      refine ⟨Nat, fun k => k ≤ i ∧ hasName (xs.take i) xs[i].1 = hasName ((xs.take i).drop k) xs[i].1, fun k => [(0, .imm 2 (rowA xs)), (3, .lit (.int .i64 i)), (4, .lit (.int .i64 k))], fun _ => [], fun k => i - k, ⟨[], 0, by simp, ⟨rfl, rfl⟩, ⟨by first | rfl | fail, by first | rfl | fail, by first | rfl | fail, trivial⟩, trivial⟩, ?_⟩
      intro k ⟨hk, hn⟩
      by_cases hlt2 : k < i
      · rw [hasName_at xs i k _ (by omega) hlt2] at hn
        repeat' ((conv => whnf); first | (refine iteB_dec (fun h => ?_) (fun h => ?_) <;> (try simp (disch := (first | omega | fail)) only [modAt, List.length_take, List.length_drop, List.length_map, List.length_append, List.length_set, List.length_replicate, len_rowsPart, len_setCell, len_marks, len_markL, len_byR, len_mkL, len_marksN, len_bytesI] at h)) | (refine wrapB_i64 (by first | omega | fail) (by first | omega | fail) ?_) | (refine And.intro (by first | exact True.intro | omega | fail) ?_) | (refine Exists.intro _ (And.intro (rowGet _ _ _ (by omega)) ?_)) | (refine Or.inl (And.intro (by decide +kernel) ?_)) | fail)
        all_goals first | (exfalso; omega) | skip | fail
        · (refine .mk ⟨trivial, [], ⟨rfl, ?_⟩, List.nodup_nil, rfl, trivial⟩; show V.lit _ = V.lit _)
          rw [hh, hn, show decide (xs[k].1 = xs[i].1) = true from decide_eq_true (by assumption)]; simp
        · exact ⟨[], k + 1, ⟨by omega, by rw [hn, show decide (xs[k].1 = xs[i].1) = false from decide_eq_false (by assumption)]; rfl⟩, ⟨⟨rfl, rfl⟩, ⟨by first | rfl | fail, by first | rfl | fail, by first | rfl | fail, trivial⟩, trivial⟩, by first | (dsimp only; omega) | fail⟩
      · obtain rfl : k = i := by omega
        rw [hasName_end] at hn
        rw [hn] at hh
        repeat' ((conv => whnf); first | (refine iteB_dec (fun h => ?_) (fun h => ?_) <;> (try simp (disch := (first | omega | fail)) only [modAt, List.length_take, List.length_drop, List.length_map, List.length_append, List.length_set, List.length_replicate, len_rowsPart, len_setCell, len_marks, len_markL, len_byR, len_mkL, len_marksN, len_bytesI] at h)) | (refine wrapB_i64 (by first | omega | fail) (by first | omega | fail) ?_) | (refine And.intro (by first | exact True.intro | omega | fail) ?_) | (refine Exists.intro _ (And.intro (rowGet _ _ _ (by omega)) ?_)) | (refine Or.inl (And.intro (by decide +kernel) ?_)) | fail)
        all_goals first | (exfalso; omega) | skip | fail
        exact ⟨[], k + 1, ⟨by omega, by rw [hh]; rfl⟩, ⟨⟨rfl, rfl⟩, ⟨by first | rfl | fail, by first | rfl | fail, trivial⟩, trivial⟩, by first | (dsimp only; omega) | fail⟩
    · (refine .mk ⟨trivial, [], ⟨rfl, ?_⟩, List.nodup_nil, rfl, trivial⟩; show V.lit _ = V.lit _)
      rw [hh, show attrB xs[i] = false by assumption]; simp
  · obtain rfl : i = xs.length := by omega
    rw [attrsFrom_end] at hh
    repeat' ((conv => whnf); first | (refine iteB_dec (fun h => ?_) (fun h => ?_) <;> (try simp (disch := (first | omega | fail)) only [modAt, List.length_take, List.length_drop, List.length_map, List.length_append, List.length_set, List.length_replicate, len_rowsPart, len_setCell, len_marks, len_markL, len_byR, len_mkL, len_marksN, len_bytesI] at h)) | (refine iteB_not ?_) | (refine iteB_of (fun h => ?_) (fun h => ?_)) | (refine And.intro (by first | exact True.intro | omega | fail) ?_) | (refine Exists.intro _ (And.intro (rowGet _ _ _ (by omega)) ?_)) | (refine Or.inl ?_; apply callV_i; (repeat ((conv => whnf); first | refine And.intro (by first | omega | fail) ?_ | fail)); ((conv => whnf); first | exact FnB.mk (F_s_l4Attr _ (by first | omega | fail) (by first | omega | fail)) | fail); refine ⟨rfl, rfl, ?_⟩) | fail)
    all_goals first | (exfalso; omega) | skip | fail
    (refine .mk ⟨trivial, [], ⟨rfl, ?_⟩, List.nodup_nil, rfl, trivial⟩; show V.lit _ = V.lit _)
    rw [hh]


theorem F_i_doctypeOk (s : ByteArray) (hs : s.size ≤ 1099511627776) : Fn pg 75 [.lit (.string s)] [] (.lit (.bool (decide (s.size ≤ 60) && textOk s))) [] := by
  have hT := F_i_textOk s hs
  refine Fn.ofN [0,2] [] Try.func75 (by rfl) rfl (by show 1 ≤ 10; decide) (by rfl) ?_
  repeat' ((conv => whnf); first | (refine iteB_dec (fun h => ?_) (fun h => ?_) <;> (try simp (disch := (first | omega | fail)) only [modAt, List.length_take, List.length_drop, List.length_map, List.length_append, List.length_set, List.length_replicate, len_rowsPart, len_setCell, len_marks, len_markL, len_byR, len_mkL, len_marksN, len_bytesI] at h)) | (refine Or.inl ?_; apply callV_i; (repeat ((conv => whnf); first | refine And.intro (by first | omega | fail) ?_ | fail)); ((conv => whnf); first | exact FnB.mk (hT) | fail); refine ⟨rfl, rfl, ?_⟩) | fail)
  · (refine .mk ⟨trivial, [], ⟨rfl, ?_⟩, List.nodup_nil, rfl, trivial⟩; show V.lit _ = V.lit _)
    rw [show decide (s.size ≤ 60) = true from decide_eq_true (by omega)]; rfl
  · (refine .mk ⟨trivial, [], ⟨rfl, ?_⟩, List.nodup_nil, rfl, trivial⟩; show V.lit _ = V.lit _)
    rw [show decide (s.size ≤ 60) = false from decide_eq_false (by omega)]; rfl
theorem F_i_Node_mayHold (p : Nd) : Fn pg 63 [.agg (sNd p)] [] (.lit (.bool (decide (p.1 = 1) || decide (p.1 = 3)))) [] := by
  refine Fn.ofN [0,1,2] [1001] Try.func63 (by rfl) rfl (by show 1 ≤ 11; decide) (by rfl) ?_
  repeat' ((conv => whnf); first | (refine iteB_dec (fun h => ?_) (fun h => ?_) <;> (try simp (disch := (first | omega | fail)) only [modAt, List.length_take, List.length_drop, List.length_map, List.length_append, List.length_set, List.length_replicate, len_rowsPart, len_setCell, len_marks, len_markL, len_byR, len_mkL, len_marksN, len_bytesI] at h)) | (refine Exists.intro _ (And.intro rfl ?_)) | fail)
  all_goals ((refine .mk ⟨trivial, [], ⟨rfl, ?_⟩, List.nodup_nil, rfl, trivial⟩; show V.lit _ = V.lit _); simp_all)
def emptyS (s : ByteArray) : Bool := decide (s = ⟨#[]⟩)
/-- What a node has by itself, but for its parent and its place. -/
def nodeB (x : Nd) : Bool :=
  if x.1 = 1 then (emptyS x.2.1 && emptyS x.2.2.2.1) && decide (x.2.2.1.length = 0)
  else if x.1 = 2 then (emptyS x.2.2.2.1 && decide (x.2.2.1.length = 0)) && ((decide (x.2.1.size ≤ 60) && textOk x.2.1) && decide (x.2.2.2.2.2.length = 0))
  else if x.1 = 3 then emptyS x.2.2.2.1 && (nameOk x.2.1 && attrsOk x.2.2.1)
  else if x.1 = 4 then (emptyS x.2.1 && decide (x.2.2.1.length = 0)) && ((!emptyS x.2.2.2.1 && textOk x.2.2.2.1) && decide (x.2.2.2.2.2.length = 0))
  else if x.1 = 5 then (emptyS x.2.1 && decide (x.2.2.1.length = 0)) && (textOk x.2.2.2.1 && decide (x.2.2.2.2.2.length = 0))
  else false
def nodeAt (x : Nd) (i : Int) : Bool := (nodeB x && (decide (x.1 = 1) == decide (i = 0))) && (!decide (x.1 = 1) || decide (x.2.2.2.2.1 = -1))
def ndSm (p : Nd) : Prop := p.2.1.size ≤ 1099511627776 ∧ atsOk p.2.2.1 ∧ p.2.2.2.1.size ≤ 1099511627776 ∧ p.2.2.2.2.2.length ≤ 140737488351232
theorem len0_ {α : Type} (l : List α) : ((l.length : Int) = 0) = (l = []) := by cases l <;> simp <;> omega
theorem pos0_ {α : Type} (l : List α) : (0 < (l.length : Int)) = ¬ (l = []) := by cases l <;> simp <;> omega
theorem F_s_l6Node (p : Nd) (hp : ndSm p) : Fn pg 50 [.agg (sNd p)] [] (.lit (.bool (nodeB p))) [] := by
  obtain ⟨h1, h2, h3, h4⟩ := hp
  have hT1 := F_s_l1Ok p.2.1 h1
  have hT3 := F_s_l1Ok p.2.2.2.1 h3
  have hN := F_s_NameOk p.2.1 h1
  have hA := F_s_AttrsOk p.2.2.1 h2
  refine Fn.ofN [0,1,2,3,13,14,23,51,66,93] [1001] Try.func50 (by rfl) rfl (by show 1 ≤ 115; decide) (by rfl) ?_
  repeat' ((conv => whnf); first | (refine iteB_dec (fun h => ?_) (fun h => ?_) <;> (try simp (disch := (first | omega | fail)) only [modAt, List.length_take, List.length_drop, List.length_map, List.length_append, List.length_set, List.length_replicate, len_rowsPart, len_setCell, len_marks, len_markL, len_byR, len_mkL, len_marksN, len_bytesI] at h)) | (refine iteB_of (fun h => ?_) (fun h => ?_)) | (refine Exists.intro _ (And.intro rfl ?_)) | (refine Or.inl ?_; apply callV_i; (repeat ((conv => whnf); first | refine And.intro (by first | omega | fail) ?_ | fail)); ((conv => whnf); first | exact FnB.mk (hT1) | exact FnB.mk (hT3) | exact FnB.mk (hN) | exact FnB.mk (hA) | fail); refine ⟨rfl, rfl, ?_⟩) | fail)
  all_goals
    (refine .mk ⟨trivial, [], ⟨rfl, ?_⟩, List.nodup_nil, rfl, trivial⟩; show V.lit _ = V.lit _)
    clear hT1 hT3 hN hA h1 h2 h3 h4
    obtain ⟨a1, a2, a3, a4, a5, a6⟩ := p
    first | (simp_all [nodeB, emptyS, len0_]; done) | (simp_all [nodeB, emptyS, len0_]; intros; omega) | fail
theorem F_i_nodeOk (p : Nd) (i : Int) (hp : ndSm p) : Fn pg 54 [.agg (sNd p), .lit (.int .i64 i)] [] (.lit (.bool (nodeAt p i))) [] := by
  obtain ⟨h1, h2, h3, h4⟩ := hp
  have hT3 := F_i_textOk p.2.2.2.1 h3
  have hD := F_i_doctypeOk p.2.1 h1
  have hN := F_i_NameOk p.2.1 h1
  have hA := F_i_AttrsOk p.2.2.1 h2
  have hM := F_i_Node_mayHold p
  refine Fn.ofN [0,1,2,4,32,34,35,50,60,75,90] [1002] Try.func54 (by rfl) rfl (by show 2 ≤ 100; decide) (by rfl) ?_
  repeat' ((conv => whnf); first | (refine iteB_dec (fun h => ?_) (fun h => ?_) <;> (try simp (disch := (first | omega | fail)) only [modAt, List.length_take, List.length_drop, List.length_map, List.length_append, List.length_set, List.length_replicate, len_rowsPart, len_setCell, len_marks, len_markL, len_byR, len_mkL, len_marksN, len_bytesI] at h)) | (refine iteB_not ?_) | (refine iteB_of (fun h => ?_) (fun h => ?_)) | (refine Exists.intro _ (And.intro rfl ?_)) | (refine Or.inl ?_; apply callV_i; (repeat ((conv => whnf); first | refine And.intro (by first | omega | fail) ?_ | fail)); ((conv => whnf); first | exact FnB.mk (hT3) | exact FnB.mk (hD) | exact FnB.mk (hN) | exact FnB.mk (hA) | exact FnB.mk (hM) | fail); refine ⟨rfl, rfl, ?_⟩) | fail)
  all_goals
    (refine .mk ⟨trivial, [], ⟨rfl, ?_⟩, List.nodup_nil, rfl, trivial⟩; show V.lit _ = V.lit _)
    clear hT3 hD hN hA hM h1 h2 h3 h4
    obtain ⟨a1, a2, a3, a4, a5, a6⟩ := p
    first | (simp_all [nodeAt, nodeB, emptyS, len0_, pos0_]; done) | skip | fail
  all_goals
    unfold nodeAt nodeB
    simp only [pos0_] at *
    by_cases g0 : i = 0 <;> by_cases g1 : a1 = 1 <;> by_cases g2 : a1 = 2 <;> by_cases g3 : a1 = 3 <;> by_cases g4 : a1 = 4 <;> by_cases g5 : a1 = 5 <;> first | (exfalso; omega) | (simp_all [emptyS, len0_]; done) | fail


def rdOf {α : Type} (z : α) (l : List α) (i : Int) : α := l.getD i.toNat z
theorem rdOf_eq {α : Type} (z : α) (l : List α) (i : Nat) (h : i < l.length) : rdOf z l (i : Int) = l[i] := by
  unfold rdOf; simp [List.getD_eq_getElem?_getD, List.getElem?_eq_getElem h]
theorem getD_eq {α : Type} (z : α) (l : List α) (i : Nat) (h : i < l.length) : l.getD (i : Int).toNat z = l[i] := by
  simp [List.getD_eq_getElem?_getD, List.getElem?_eq_getElem h]
theorem nodeAt_beq (x : Nd) (i : Int) : nodeAt x i = ((nodeB x && ((x.1 == 1) == (i == 0))) && (!(x.1 == 1) || x.2.2.2.2.1 == -1)) := rfl
/-- The parent of a node, by its number. -/
def par (l : List Nd) (u : Int) : Int := (rdD l u).2.2.2.2.1
/-- A row's kids, marked; none where one may not stand there. -/
def scan (l : List Nd) (at_ : Int) : List Int → List Bool → Option (List Bool)
  | [], s => some s
  | k :: ks, s => if ((decide (1 ≤ k) && decide (k ≤ (l.length : Int) - 1)) && (!(rdOf false s k) && par l k == at_)) = true then scan l at_ ks (s.set k.toNat true) else none
def scanAll (l : List Nd) : Nat → Nat → List Bool → Option (List Bool)
  | 0, _, s => some s
  | d + 1, i, s => (scan l (i : Int) ((rdD l (i : Int)).2.2.2.2.2) s).bind fun s => scanAll l d (i + 1) s
theorem scan_len (l : List Nd) (at_ : Int) : ∀ ks s s', scan l at_ ks s = some s' → s'.length = s.length
  | [], s, s', h => by cases h; rfl
  | k :: ks, s, s', h => by
    simp only [scan] at h
    split at h
    · rw [scan_len l at_ ks _ _ h, List.length_set]
    · cases h
/-- Whoever is marked has a parent within the tree. -/
def Told (l : List Nd) (s : List Bool) : Prop := ∀ k : Nat, k < s.length → s[k]? = some true → 0 ≤ par l (k : Int) ∧ par l (k : Int) ≤ (l.length : Int) - 1
theorem scan_told (l : List Nd) (at_ : Int) (h0 : 0 ≤ at_) (h1 : at_ ≤ (l.length : Int) - 1) : ∀ ks s s', Told l s → scan l at_ ks s = some s' → Told l s'
  | [], s, s', ht, h => by cases h; exact ht
  | k :: ks, s, s', ht, h => by
    simp only [scan] at h
    split at h
    · rename_i hc
      simp only [Bool.and_eq_true, decide_eq_true_eq, beq_iff_eq] at hc
      refine scan_told l at_ h0 h1 ks _ _ ?_ h
      intro j hj hs
      by_cases e : j = k.toNat
      · subst e
        rw [show ((k.toNat : Nat) : Int) = k from by omega, hc.2.2]
        exact ⟨h0, h1⟩
      · rw [List.getElem?_set_ne (by omega)] at hs
        rw [List.length_set] at hj
        exact ht j hj hs
    · cases h
theorem scanAll_len (l : List Nd) : ∀ d i s s', scanAll l d i s = some s' → s'.length = s.length
  | 0, i, s, s', h => by cases h; rfl
  | d + 1, i, s, s', h => by
    simp only [scanAll] at h
    obtain ⟨s1, h1, h2⟩ := Option.bind_eq_some_iff.1 h
    rw [scanAll_len l d _ _ _ h2, scan_len _ _ _ _ _ h1]
theorem scanAll_told (l : List Nd) : ∀ d i s s', i + d ≤ l.length → Told l s → scanAll l d i s = some s' → Told l s'
  | 0, i, s, s', hi, ht, h => by cases h; exact ht
  | d + 1, i, s, s', hi, ht, h => by
    simp only [scanAll] at h
    obtain ⟨s1, h1, h2⟩ := Option.bind_eq_some_iff.1 h
    exact scanAll_told l d (i + 1) s1 s' (by omega) (scan_told l _ (by omega) (by omega) _ _ _ ht h1) h2
theorem told_start (l : List Nd) (n : Nat) : Told l (List.replicate n false) := by
  intro k hk h
  rw [List.length_replicate] at hk
  rw [List.getElem?_replicate, if_pos hk] at h
  cases h

def chS (l : List Nd) : Nat → Int → Bool
  | 0, u => !decide (u ≥ 0)
  | d + 1, u => if u ≥ 0 then chS l d (par l u) else true
def nodeIn (l : List Nd) (u : Int) : Bool := decide (0 ≤ u) && decide (u ≤ (l.length : Int) - 1)
def chI (l : List Nd) (i : Int) : Nat → Int → Bool
  | 0, u => nodeIn l u
  | d + 1, u => if u = i then true else if nodeIn l u = true then chI l i d (par l u) else false
/-- A step up; at the top it stays. -/
def up (l : List Nd) (u : Int) : Int := if u ≥ 0 then par l u else u
def ups (l : List Nd) : Nat → Int → Int
  | 0, u => u
  | d + 1, u => ups l d (up l u)
theorem ups_add (l : List Nd) : ∀ a b u, ups l (a + b) u = ups l b (ups l a u)
  | 0, b, u => by rw [Nat.zero_add]; rfl
  | a + 1, b, u => by rw [show a + 1 + b = (a + b) + 1 from by omega]; exact ups_add l a b (up l u)
theorem ups_neg (l : List Nd) : ∀ d u, u < 0 → ups l d u = u
  | 0, u, h => rfl
  | d + 1, u, h => by
    show ups l d (up l u) = u
    rw [show up l u = u from by unfold up; rw [if_neg (by omega)]]
    exact ups_neg l d u h
theorem chS_ups (l : List Nd) : ∀ d u, chS l d u = decide (ups l d u < 0)
  | 0, u => by
    show (!decide (u ≥ 0)) = decide (u < 0)
    by_cases h : u ≥ 0
    · rw [decide_eq_true h, decide_eq_false (by omega)]; rfl
    · rw [decide_eq_false h, decide_eq_true (by omega)]; rfl
  | d + 1, u => by
    show (if u ≥ 0 then chS l d (par l u) else true) = decide (ups l d (up l u) < 0)
    by_cases h : u ≥ 0
    · rw [if_pos h, chS_ups l d, show up l u = par l u from by unfold up; rw [if_pos h]]
    · rw [if_neg h, show up l u = u from by unfold up; rw [if_neg h], ups_neg l d u (by omega), decide_eq_true (by omega)]
theorem cyc (l : List Nd) (i : Int) (hi : 0 ≤ i) (m : Nat) (h : ups l (m + 1) i = i) : ∀ d, 0 ≤ ups l d i := by
  have hm : ∀ j, ups l ((m + 1) * j) i = i := by
    intro j
    induction j with
    | zero => rfl
    | succ j ih => rw [Nat.mul_succ, ups_add, ih, h]
  intro d
  by_cases h1 : ups l d i < 0
  · have h2 := hm d
    have h3 : (m + 1) * d = d + m * d := by rw [Nat.succ_mul]; omega
    rw [h3, ups_add, ups_neg l _ _ h1] at h2
    omega
  · omega
theorem chI_false (l : List Nd) (i : Int) (hr : ∀ u, nodeIn l u = true → -1 ≤ par l u ∧ par l u ≤ (l.length : Int) - 1) : ∀ d u, -1 ≤ u → u ≤ (l.length : Int) - 1 → chI l i d u = false → chS l d u = true
  | 0, u, h1, h2, h => by
    simp only [chI, nodeIn, Bool.and_eq_false_iff, decide_eq_false_iff_not] at h
    simp only [chS, Bool.not_eq_true', decide_eq_false_iff_not]
    omega
  | d + 1, u, h1, h2, h => by
    simp only [chI] at h
    simp only [chS]
    by_cases h3 : u ≥ 0
    · rw [if_pos h3]
      by_cases h4 : u = i
      · rw [if_pos h4] at h; cases h
      · have h5 : nodeIn l u = true := by simp [nodeIn, h2, show 0 ≤ u from h3]
        rw [if_neg h4, if_pos h5] at h
        exact chI_false l i hr d _ (hr u h5).1 (hr u h5).2 h
    · rw [if_neg h3]
/-- What stands above itself is come to again, or there are too many. -/
theorem chI_true (l : List Nd) (i : Int) : ∀ d u, chI l i d u = true → (∃ m, m < d ∧ ups l m u = i) ∨ 0 ≤ ups l d u
  | 0, u, h => by
    simp only [chI, nodeIn, Bool.and_eq_true, decide_eq_true_eq] at h
    exact .inr h.1
  | d + 1, u, h => by
    simp only [chI] at h
    split at h
    · rename_i e
      exact .inl ⟨0, by omega, e⟩
    · split at h
      · rename_i hn
        simp only [nodeIn, Bool.and_eq_true, decide_eq_true_eq] at hn
        have hu : up l u = par l u := by unfold up; rw [if_pos (by omega)]
        rcases chI_true l i d _ h with ⟨m, hm, e⟩ | e
        · exact .inl ⟨m + 1, by omega, by show ups l m (up l u) = i; rw [hu]; exact e⟩
        · exact .inr (by show 0 ≤ ups l d (up l u); rw [hu]; exact e)
      · cases h
theorem ch_agree (l : List Nd) (hr : ∀ u, nodeIn l u = true → -1 ≤ par l u ∧ par l u ≤ (l.length : Int) - 1) (i : Int) (hi : nodeIn l i = true) : chS l (l.length + 1) i = !chI l i l.length (par l i) := by
  have h0 : 0 ≤ i := by simp only [nodeIn, Bool.and_eq_true, decide_eq_true_eq] at hi; exact hi.1
  have hs : chS l (l.length + 1) i = chS l l.length (par l i) := by simp only [chS]; rw [if_pos (by omega)]
  cases hc : chI l i l.length (par l i) with
  | false => rw [hs, chI_false l i hr _ _ (hr i hi).1 (hr i hi).2 hc]; rfl
  | true =>
    rw [chS_ups]
    have hu : up l i = par l i := by unfold up; rw [if_pos (by omega)]
    rcases chI_true l i _ _ hc with ⟨m, _, e⟩ | e
    · have := cyc l i h0 m (by show ups l m (up l i) = i; rw [hu]; exact e) (l.length + 1)
      simp; omega
    · have : ups l (l.length + 1) i = ups l l.length (par l i) := by show ups l l.length (up l i) = _; rw [hu]
      rw [this]; simp; omega

def kidsOk (l : List Nd) : Option (List Bool) := scanAll l l.length 0 (List.replicate l.length false)
def lastS (l : List Nd) (s : List Bool) : Nat → Nat → Bool
  | 0, _ => true
  | d + 1, i => (rdOf false s (i : Int) == decide (par l (i : Int) ≥ 0) && chS l (l.length + 1) (i : Int)) && lastS l s d (i + 1)
def lastI (l : List Nd) (s : List Bool) : Nat → Nat → Bool
  | 0, _ => true
  | d + 1, i => (!((par l (i : Int) == -1) == rdOf false s (i : Int)) && !chI l (i : Int) l.length (par l (i : Int))) && lastI l s d (i + 1)
def nodesI (l : List Nd) : Nat → Nat → Bool
  | 0, _ => true
  | d + 1, i => nodeAt (rdD l (i : Int)) (i : Int) && nodesI l d (i + 1)
def treeI (l : List Nd) : Bool := (decide (1 ≤ l.length) && decide (l.length ≤ 500)) && (nodesI l l.length 0 && (match kidsOk l with | none => false | some s => lastI l s l.length 0))
/-- What the reference asks of a node, its kids aside. -/
def nodeS (l : List Nd) (i : Int) : Bool := ((nodeB (rdD l i) && ((((rdD l i).1 == 1) == (i == 0)))) && ((decide (-1 ≤ par l i) && decide (par l i ≤ (l.length : Int) - 1)))) && (!(i == 0) || par l i == -1)
def loopS (l : List Nd) : Nat → Nat → List Bool → Bool
  | 0, _, s => lastS l s l.length 0
  | d + 1, i, s => if nodeS l (i : Int) = true then (match scan l (i : Int) ((rdD l (i : Int)).2.2.2.2.2) s with | none => false | some s => loopS l d (i + 1) s) else false
def treeS (l : List Nd) : Bool := (decide (1 ≤ l.length) && decide (l.length ≤ 500)) && loopS l l.length 0 (List.replicate l.length false)
def nodesS (l : List Nd) : Nat → Nat → Bool
  | 0, _ => true
  | d + 1, i => nodeS l (i : Int) && nodesS l d (i + 1)
theorem loopS_eq (l : List Nd) : ∀ d i s, loopS l d i s = (nodesS l d i && (match scanAll l d i s with | none => false | some s => lastS l s l.length 0))
  | 0, i, s => by simp [loopS, nodesS, scanAll]
  | d + 1, i, s => by
    simp only [loopS, nodesS, scanAll]
    cases h : nodeS l (i : Int) with
    | false => simp
    | true =>
      rw [if_pos rfl]
      cases h2 : scan l (i : Int) ((rdD l (i : Int)).2.2.2.2.2) s with
      | none => simp
      | some s1 => simp only [Option.bind_some, Bool.true_and]; exact loopS_eq l d (i + 1) s1
theorem nodesS_iff (l : List Nd) : ∀ d i, nodesS l d i = true ↔ ∀ j : Nat, i ≤ j → j < i + d → nodeS l (j : Int) = true
  | 0, i => by simp [nodesS]; intro j h1 h2; omega
  | d + 1, i => by
    simp only [nodesS, Bool.and_eq_true, nodesS_iff l d (i + 1)]
    constructor
    · rintro ⟨h1, h2⟩ j h3 h4
      rcases Nat.lt_or_ge i j with h5 | h5
      · exact h2 j (by omega) (by omega)
      · rw [show j = i from by omega]; exact h1
    · intro h
      exact ⟨h i (by omega) (by omega), fun j h1 h2 => h j (by omega) (by omega)⟩
theorem nodesI_iff (l : List Nd) : ∀ d i, nodesI l d i = true ↔ ∀ j : Nat, i ≤ j → j < i + d → nodeAt (rdD l (j : Int)) (j : Int) = true
  | 0, i => by simp [nodesI]; intro j h1 h2; omega
  | d + 1, i => by
    simp only [nodesI, Bool.and_eq_true, nodesI_iff l d (i + 1)]
    constructor
    · rintro ⟨h1, h2⟩ j h3 h4
      rcases Nat.lt_or_ge i j with h5 | h5
      · exact h2 j (by omega) (by omega)
      · rw [show j = i from by omega]; exact h1
    · intro h
      exact ⟨h i (by omega) (by omega), fun j h1 h2 => h j (by omega) (by omega)⟩
theorem lastS_iff (l : List Nd) (s : List Bool) : ∀ d i, lastS l s d i = true ↔ ∀ j : Nat, i ≤ j → j < i + d → (rdOf false s (j : Int) == decide (par l (j : Int) ≥ 0) && chS l (l.length + 1) (j : Int)) = true
  | 0, i => by simp [lastS]; intro j h1 h2; omega
  | d + 1, i => by
    rw [lastS, Bool.and_eq_true, lastS_iff l s d (i + 1)]
    constructor
    · rintro ⟨h1, h2⟩ j h3 h4
      rcases Nat.lt_or_ge i j with h5 | h5
      · exact h2 j (by omega) (by omega)
      · rw [show j = i from by omega]; exact h1
    · intro h
      exact ⟨h i (by omega) (by omega), fun j h1 h2 => h j (by omega) (by omega)⟩
theorem lastI_iff (l : List Nd) (s : List Bool) : ∀ d i, lastI l s d i = true ↔ ∀ j : Nat, i ≤ j → j < i + d → (!((par l (j : Int) == -1) == rdOf false s (j : Int)) && !chI l (j : Int) l.length (par l (j : Int))) = true
  | 0, i => by simp [lastI]; intro j h1 h2; omega
  | d + 1, i => by
    rw [lastI, Bool.and_eq_true, lastI_iff l s d (i + 1)]
    constructor
    · rintro ⟨h1, h2⟩ j h3 h4
      rcases Nat.lt_or_ge i j with h5 | h5
      · exact h2 j (by omega) (by omega)
      · rw [show j = i from by omega]; exact h1
    · intro h
      exact ⟨h i (by omega) (by omega), fun j h1 h2 => h j (by omega) (by omega)⟩
theorem tree_agree (l : List Nd) : treeS l = treeI l := by
  unfold treeS treeI
  rw [loopS_eq]
  cases hn : decide (1 ≤ l.length) && decide (l.length ≤ 500) with
  | false => rfl
  | true =>
    simp only [Bool.and_eq_true, decide_eq_true_eq] at hn
    rw [Bool.true_and, Bool.true_and]
    show (nodesS l l.length 0 && match kidsOk l with | none => false | some s => lastS l s l.length 0) = _
    cases hk : kidsOk l with
    | none => simp
    | some s =>
      have hsl : s.length = l.length := by rw [scanAll_len l _ _ _ _ hk, List.length_replicate]
      have hst : Told l s := scanAll_told l _ _ _ _ (by omega) (told_start l _) hk
      have hrd : ∀ j : Nat, j < l.length → rdOf false s (j : Int) = true → 0 ≤ par l (j : Int) ∧ par l (j : Int) ≤ (l.length : Int) - 1 := by
        intro j hj h
        refine hst j (by omega) ?_
        rw [rdOf_eq _ s j (by omega)] at h
        rw [List.getElem?_eq_getElem (by omega), h]
      rw [Bool.eq_iff_iff]
      simp only [Bool.and_eq_true]
      rw [nodesS_iff, nodesI_iff, lastS_iff, lastI_iff]
      have rng : (∀ j : Nat, j < l.length → -1 ≤ par l (j : Int) ∧ par l (j : Int) ≤ (l.length : Int) - 1) → ∀ u, nodeIn l u = true → -1 ≤ par l u ∧ par l u ≤ (l.length : Int) - 1 := by
        intro h u hu
        simp only [nodeIn, Bool.and_eq_true, decide_eq_true_eq] at hu
        have := h u.toNat (by omega)
        rwa [show ((u.toNat : Nat) : Int) = u from by omega] at this
      have inn : ∀ j : Nat, j < l.length → nodeIn l (j : Int) = true := fun j hj => by simp only [nodeIn, Bool.and_eq_true, decide_eq_true_eq]; omega
      constructor
      · rintro ⟨h1, h2⟩
        have hr : ∀ j : Nat, j < l.length → -1 ≤ par l (j : Int) ∧ par l (j : Int) ≤ (l.length : Int) - 1 := by
          intro j hj
          have := h1 j (by omega) (by omega)
          simp only [nodeS, Bool.and_eq_true, decide_eq_true_eq] at this
          exact this.1.2
        refine ⟨fun j hj1 hj2 => ?_, fun j hj1 hj2 => ?_⟩
        · have := h1 j hj1 hj2
          simp only [nodeS, Bool.and_eq_true, decide_eq_true_eq, Bool.or_eq_true, Bool.not_eq_true', beq_eq_false_iff_ne, beq_iff_eq] at this
          simp only [nodeAt_beq, Bool.and_eq_true, Bool.or_eq_true, Bool.not_eq_true', beq_eq_false_iff_ne, beq_iff_eq]
          refine ⟨⟨this.1.1.1, this.1.1.2⟩, ?_⟩
          have e := this.1.1.2
          rcases this.2 with h3 | h3
          · left
            intro h4
            rw [show ((rdD l (j : Int)).1 == 1) = true from beq_iff_eq.2 h4] at e
            exact h3 (beq_iff_eq.1 e.symm)
          · exact .inr h3
        · have := h2 j hj1 hj2
          rw [Bool.and_eq_true] at this ⊢
          rw [ch_agree l (rng hr) (j : Int) (inn j (by omega))] at this
          refine ⟨?_, this.2⟩
          have h3 := hr j (by omega)
          have h4 := beq_iff_eq.1 this.1
          rw [h4]
          by_cases h5 : par l (j : Int) ≥ 0
          · rw [decide_eq_true h5, show (par l (j : Int) == -1) = false from beq_eq_false_iff_ne.2 (by omega)]; rfl
          · rw [decide_eq_false h5, show (par l (j : Int) == -1) = true from beq_iff_eq.2 (by omega)]; rfl
      · rintro ⟨h1, h2⟩
        have hr : ∀ j : Nat, j < l.length → -1 ≤ par l (j : Int) ∧ par l (j : Int) ≤ (l.length : Int) - 1 := by
          intro j hj
          have := h2 j (by omega) (by omega)
          rw [Bool.and_eq_true] at this
          by_cases h3 : par l (j : Int) = -1
          · omega
          · have h4 := this.1
            rw [show (par l (j : Int) == -1) = false from beq_eq_false_iff_ne.2 h3] at h4
            have h5 : rdOf false s (j : Int) = true := by
              cases e : rdOf false s (j : Int) with
              | true => rfl
              | false => rw [e] at h4; simp at h4
            have := hrd j hj h5
            omega
        refine ⟨fun j hj1 hj2 => ?_, fun j hj1 hj2 => ?_⟩
        · have := h1 j hj1 hj2
          have h3 := hr j (by omega)
          simp only [nodeAt_beq, Bool.and_eq_true, Bool.or_eq_true, Bool.not_eq_true', beq_eq_false_iff_ne, beq_iff_eq] at this
          simp only [nodeS, Bool.and_eq_true, decide_eq_true_eq, Bool.or_eq_true, Bool.not_eq_true', beq_eq_false_iff_ne, beq_iff_eq]
          refine ⟨⟨⟨this.1.1, this.1.2⟩, h3⟩, ?_⟩
          have e := this.1.2
          rcases this.2 with h4 | h4
          · left
            intro h5
            rw [show ((j : Int) == 0) = true from beq_iff_eq.2 h5] at e
            exact h4 (beq_iff_eq.1 e)
          · exact .inr h4
        · have := h2 j hj1 hj2
          rw [Bool.and_eq_true] at this ⊢
          rw [ch_agree l (rng hr) (j : Int) (inn j (by omega))]
          refine ⟨?_, this.2⟩
          have h3 := hr j (by omega)
          have h4 := this.1
          rw [beq_iff_eq]
          by_cases h5 : par l (j : Int) ≥ 0
          · rw [decide_eq_true h5]
            rw [show (par l (j : Int) == -1) = false from beq_eq_false_iff_ne.2 (by omega)] at h4
            cases e : rdOf false s (j : Int) with
            | true => rfl
            | false => rw [e] at h4; simp at h4
          · rw [decide_eq_false h5]
            rw [show (par l (j : Int) == -1) = true from beq_iff_eq.2 (by omega)] at h4
            cases e : rdOf false s (j : Int) with
            | false => rfl
            | true => rw [e] at h4; simp at h4

end Go.Proofs.Ytpmcmooaokkojaa.M

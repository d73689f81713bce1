/- Walks of the program's functions, by the small machine. -/
import Derived.Test.YthbhbncaapnebaaQ2
import Derived.Test.YthbhbncaapnebaaL0
namespace Go.Proofs.Ythbhbncaapnebaa.M
open Go
set_option maxHeartbeats 1000000
set_option maxRecDepth 20000
set_option linter.unusedVariables false
set_option linter.unusedSimpArgs false
theorem rowGet {α : Type} (E : α → List V) (xs : List α) (i : Nat) (h : i < xs.length) : (xs.map E)[Int.toNat (i : Int)]? = some (E xs[i]) := by simp [h]
/-- An element, or what stands for none. -/
def rdD {α : Type} [Inhabited α] (xs : List α) (n : Int) : α := xs.getD n.toNat default
theorem rdD_nat {α : Type} [Inhabited α] (xs : List α) (i : Nat) (h : i < xs.length) : rdD xs (i : Int) = xs[i] := by
  unfold rdD; simp [List.getD_eq_getElem?_getD, h]
theorem rowGetI {α : Type} [Inhabited α] (E : α → List V) (xs : List α) (n : Int) (h0 : 0 ≤ n) (h : n < xs.length) : (xs.map E)[n.toNat]? = some (E (rdD xs n)) := by
  unfold rdD
  have : n.toNat < xs.length := by omega
  simp [List.getD_eq_getElem?_getD, this]
theorem cellGet {α : Type} (E : α → List V) (xs : List α) (i k : Nat) (h : i < xs.length) : cellAt (xs.map E) i k = (E xs[i])[k]? := by simp [cellAt, h]
abbrev rowI (a : List Int) : Row := a.map (eInt .i64)
abbrev rowU (a : List Int) : Row := a.map (eInt .u8)
abbrev rowS (a : List ByteArray) : Row := a.map eStr
theorem setCell_map {α : Type} (E : α → List V) (xs : List α) (i k : Nat) (v : V) (y : α) (h : i < xs.length) (hy : (E xs[i]).set k v = E y) : setCell (xs.map E) i k v = (xs.set i y).map E := by
  unfold setCell
  refine List.ext_getElem? fun j => ?_
  rw [List.getElem?_modify, List.getElem?_map, List.getElem?_map, List.getElem?_set]
  by_cases hj : i = j
  · subst hj; simp [h, hy]
  · simp [hj]
theorem drop_cons {α : Type} (xs : List α) (i : Nat) (h : i < xs.length) : xs.drop i = xs[i] :: xs.drop (i + 1) := List.drop_eq_getElem_cons h
instance : Inhabited ByteArray := ⟨.empty⟩
theorem takeAll {α : Type} (E : α → List V) (xs : List α) : List.take xs.length (List.drop 0 (xs.map E)) = xs.map E := by rw [List.drop_zero, ← List.length_map (f := E), List.take_length]
theorem takeAll2 {α : Type} (E : α → List V) (xs : List α) : List.take (xs.map E).length (List.drop 0 (xs.map E)) = xs.map E := by rw [List.drop_zero, List.take_length]
theorem app_one {α : Type} (E : α → List V) (xs : List α) (x : α) {n : Nat} {R : Row} (hn : n = xs.length) (hR : R = [E x]) : List.take n (List.drop 0 (xs.map E)) ++ List.take 1 (List.drop 0 R) = (xs ++ [x]).map E := by
  subst hn hR
  rw [takeAll]; simp
theorem filter_keep {α : Type} (p : α → Bool) (xs : List α) (i : Nat) (h : i < xs.length) (hp : p xs[i] = true) : (xs.take (i + 1)).filter p = (xs.take i).filter p ++ [xs[i]] := by
  rw [List.take_succ_eq_append_getElem h, List.filter_append]; simp [hp]
theorem filter_drop {α : Type} (p : α → Bool) (xs : List α) (i : Nat) (h : i < xs.length) (hp : p xs[i] = false) : (xs.take (i + 1)).filter p = (xs.take i).filter p := by
  rw [List.take_succ_eq_append_getElem h, List.filter_append]; simp [hp]
theorem filter_le {α : Type} (p : α → Bool) (xs : List α) (i : Nat) (h : i ≤ xs.length) : ((xs.take i).filter p).length ≤ i := Nat.le_trans (List.length_filter_le _ _) (by simp; omega)
theorem slEq {b : Nat} {q : Path} {s o n m : Nat} (h : n = m) : V.sl b q s o n = V.sl b q s o m := by rw [h]
theorem boxEq {t : Bool} {s : Nat} {xs ys : Row} (h : xs = ys) : some (t, s, xs) = some (t, s, ys) := by rw [h]
theorem setCellM {α : Type} (E : α → List V) (xs ys : List α) {i i' k : Nat} {v : V} (w : V) (y : α) (hi : i = i') (h : i' < xs.length) (hv : v = w) (hy : (E xs[i']).set k w = E y) (he : xs.set i' y = ys) : setCell (xs.map E) i k v = ys.map E := by
  subst hi hv he; exact setCell_map E xs i k v y h hy
theorem take_app {α : Type} (E : α → List V) (xs : List α) (R : Row) : List.take xs.length (List.drop 0 (xs.map E ++ R)) = xs.map E := by rw [List.drop_zero, List.take_append_of_le_length (by simp), ← List.length_map (f := E), List.take_length]
theorem take_app2 {α : Type} (E : α → List V) (xs ys : List α) : List.take xs.length (List.drop 0 (List.map E (xs ++ ys))) = xs.map E := by rw [List.map_append]; exact take_app E xs _

-- FN impl.inRange
theorem F_i_inRange (n a b : Int) : Fn pg 29 [.lit (.int .i64 n), .lit (.int .i64 a), .lit (.int .i64 b)] [] (.lit (.bool (decide (a ≤ n) && decide (n ≤ b)))) [] := by
  refine Fn.ofN [0,1,2,6] [] Try.func29 (by rfl) rfl (by show 3 ≤ 15; decide) (by rfl) ?_
  repeat' ((conv => whnf); first | (refine iteB_dec (fun h => ?_) (fun h => ?_) <;> (try simp (disch := (first | omega | fail)) only [modAt, List.length_take, List.length_map, List.length_append, List.length_set, List.length_replicate] at h)) | fail)
  all_goals ((refine .mk ⟨trivial, [], ⟨rfl, ?_⟩, List.nodup_nil, rfl, trivial⟩; show V.lit _ = V.lit _); first | (simp_all []; done) | (simp_all []; omega) | fail)
-- FN spec.l1In
theorem F_s_l1In (n a b : Int) : Fn pg 25 [.lit (.int .i64 n), .lit (.int .i64 a), .lit (.int .i64 b)] [] (.lit (.bool (decide (a ≤ n) && decide (n ≤ b)))) [] := by
  refine Fn.ofN [0,1,2,6] [] Try.func25 (by rfl) rfl (by show 3 ≤ 15; decide) (by rfl) ?_
  repeat' ((conv => whnf); first | (refine iteB_dec (fun h => ?_) (fun h => ?_) <;> (try simp (disch := (first | omega | fail)) only [modAt, List.length_take, List.length_map, List.length_append, List.length_set, List.length_replicate] at h)) | fail)
  all_goals ((refine .mk ⟨trivial, [], ⟨rfl, ?_⟩, List.nodup_nil, rfl, trivial⟩; show V.lit _ = V.lit _); first | (simp_all []; done) | (simp_all []; omega) | fail)
def isBlank (x : Int) : Bool := decide (x = 9) || decide (x = 10) || decide (x = 12) || decide (x = 32)
def isOuter (x : Int) : Bool := isBlank x || decide (x = 47) || decide (x = 62) || decide (x = 0) || (decide (65 ≤ x) && decide (x ≤ 90))
def pointOk (x : Int) : Bool := (decide (0 ≤ x) && decide (x ≤ 1114111)) && !(decide (55296 ≤ x) && decide (x ≤ 57343))
def form (b : Int) : Nat := if b < 128 then 1 else if 194 ≤ b ∧ b ≤ 223 then 2 else if 224 ≤ b ∧ b ≤ 239 then 3 else if 240 ≤ b ∧ b ≤ 244 then 4 else 0
def lowOf (f : Int) (k : Int) : Int := if k = 1 then (if f = 224 then 160 else if f = 240 then 144 else 128) else 128
def highOf (f : Int) (k : Int) : Int := if k = 1 then (if f = 237 then 159 else if f = 244 then 143 else 191) else 191
def fits (f : Int) (k : Int) (b : Int) : Bool := decide (lowOf f k ≤ b) && decide (b ≤ highOf f k)

def idxI (v : Int) : List Int → Int → Int
  | [], _ => -1
  | x :: r, k => if v = x then k else idxI v r (k + 1)
def indexOf (xs : List Int) (v : Int) : Int := idxI v xs 0

/-- The first i of a list, then what stands for none. -/
def rowsPart {α : Type} (E : α → List V) (z : List V) (xs : List α) (i : Nat) : Row := (xs.take i).map E ++ List.replicate (xs.length - i) z
theorem rowsPart_get {α : Type} (E : α → List V) (z : List V) (xs : List α) (i j : Nat) : (rowsPart E z xs i)[j]? = if j < i then (xs[j]?).map E else if j < xs.length then some z else none := by
  unfold rowsPart
  by_cases h : j < i
  · rw [if_pos h]
    by_cases h2 : j < xs.length
    · rw [List.getElem?_append_left (by simp; omega), List.getElem?_map, List.getElem?_take, if_pos h]
    · rw [List.getElem?_eq_none (by simp; omega), List.getElem?_eq_none (by omega)]; rfl
  · rw [if_neg h]
    by_cases h2 : i ≤ xs.length
    · rw [List.getElem?_append_right (by simp; omega), List.getElem?_replicate, List.length_map, List.length_take, show min i xs.length = i by omega]
      by_cases h3 : j < xs.length
      · rw [if_pos h3, if_pos (by omega)]
      · rw [if_neg h3, if_neg (by omega)]
    · rw [List.getElem?_eq_none (by simp; omega), if_neg (by omega)]
theorem len_rowsPart {α : Type} (E : α → List V) (z : List V) (xs : List α) (i : Nat) (h : i ≤ xs.length) : (rowsPart E z xs i).length = xs.length := by simp [rowsPart]; omega
theorem rowsPart_succ {α : Type} (E : α → List V) (z : List V) (xs : List α) (i : Nat) (h : i < xs.length) : (rowsPart E z xs i).set i (E xs[i]) = rowsPart E z xs (i + 1) := by
  refine List.ext_getElem? fun j => ?_
  rw [List.getElem?_set, rowsPart_get, rowsPart_get, len_rowsPart E z xs i (by omega)]
  by_cases hj : i = j
  · subst hj
    rw [if_pos rfl, if_pos h, if_pos (by omega), List.getElem?_eq_getElem h]; rfl
  · rw [if_neg hj]
    by_cases h1 : j < i
    · rw [if_pos h1, if_pos (by omega)]
    · rw [if_neg h1]
      by_cases h2 : j < xs.length
      · rw [if_neg (by omega : ¬ j < i + 1)]
      · rw [if_neg (by omega : ¬ j < i + 1)]
theorem rowsPart_all {α : Type} (E : α → List V) (z : List V) (xs : List α) : rowsPart E z xs xs.length = xs.map E := by simp [rowsPart]
theorem rowsPart_zero {α : Type} (E : α → List V) (z : List V) (xs : List α) : rowsPart E z xs 0 = List.replicate xs.length z := by simp [rowsPart]
theorem rowsPart_z {α : Type} (E : α → List V) (z : List V) (xs : List α) (i : Nat) (h : i < xs.length) : (rowsPart E z xs i)[i]? = some z := by rw [rowsPart_get, if_neg (by omega), if_pos h]
theorem setCell_at {xs : Row} {i : Nat} {r : List V} (h : xs[i]? = some r) (k : Nat) (v : V) : setCell xs i k v = xs.set i (r.set k v) := by
  unfold setCell
  refine List.ext_getElem? fun j => ?_
  rw [List.getElem?_modify, List.getElem?_set]
  have hlt := (List.getElem?_eq_some_iff.1 h).1
  by_cases hj : i = j
  · subst hj; rw [h]; simp [hlt]
  · simp [hj]
theorem rowGet_set {xs : Row} {i : Nat} {r : List V} (h : i < xs.length) : (xs.set i r)[i]? = some r := by simp [h]
theorem outOk_new {ds : List Nat} {B : Bs} {b s d : Nat} {xs : Row} (hb : (decide (b < 500)) = false) (hd : ds[b - 500]? = some d) (hB : B d = some (false, s, xs)) : outOk ds B (b, false, s, xs) := by
  unfold outOk outId
  rw [if_neg (of_decide_eq_false hb)]
  simp only [hd, Option.bind_some, hB]
  exact ⟨rfl, fun h => by cases h⟩
theorem outOk_top {ds : List Nat} {B : Bs} {b s : Nat} {xs : Row} (hb : (decide (b < 500)) = true) (hB : B b = some (true, s, xs)) (hx : xs.map (renL (outName ds)) = xs) (hk : (xs.all fun c => namesL (knows ds) c) = true) : outOk ds B (b, true, s, xs) := by
  unfold outOk outId
  rw [if_pos (of_decide_eq_true hb)]
  simp only [Option.bind_some, hB]
  exact ⟨by rw [renBx, hx]; rfl, fun _ => hk⟩
theorem outOk_old {ds : List Nat} {B : Bs} {b s : Nat} {xs : Row} (hb : (decide (b < 500)) = true) (hB : B b = some (false, s, xs)) : outOk ds B (b, false, s, xs) := by
  unfold outOk outId
  rw [if_pos (of_decide_eq_true hb)]
  simp only [Option.bind_some, hB]
  exact ⟨rfl, fun h => by cases h⟩
theorem cell_part {α : Type} (E : α → List V) (z : List V) (xs : List α) (i k : Nat) (v : V) (h : i < xs.length) (hz : z[k]? = some v) : cellAt (rowsPart E z xs i) i k = some v := by
  rw [cellAt_of (rowsPart_z E z xs i h), hz]
theorem get_setC {R : Row} {i k k' : Nat} {v w : V} (hk : (decide (k = k')) = false) (h : cellAt R i k' = some w) : cellAt (setCell R i k v) i k' = some w := by
  unfold cellAt setCell at *
  rw [List.getElem?_modify]
  cases hR : R[i]? with
  | none => rw [hR] at h; cases h
  | some r =>
    rw [hR] at h
    simp only [Option.bind_some, Option.map_some, Option.map_eq_map, if_true] at *
    rw [List.getElem?_set, if_neg (of_decide_eq_false hk)]; exact h
theorem len_setCell (xs : Row) (i k : Nat) (v : V) : (setCell xs i k v).length = xs.length := by unfold setCell; simp
theorem setCell_set {xs : Row} {i k : Nat} {r : List V} {v : V} (h : i < xs.length) : setCell (xs.set i r) i k v = xs.set i (r.set k v) := by
  rw [setCell_at (rowGet_set h), List.set_set]
def setCs (R : Row) (i : Nat) : List (Nat × V) → Row
  | [] => R
  | (k, v) :: r => setCs (setCell R i k v) i r
def setVs (r : List V) : List (Nat × V) → List V
  | [] => r
  | (k, v) :: u => setVs (r.set k v) u
theorem setCs_set {R : Row} {i : Nat} : ∀ {u : List (Nat × V)} {r : List V}, R[i]? = some r → setCs R i u = R.set i (setVs r u)
  | [], r, h => by
    unfold setCs setVs
    refine List.ext_getElem? fun j => ?_
    rw [List.getElem?_set]
    by_cases hj : i = j
    · subst hj; rw [h]; simp [(List.getElem?_eq_some_iff.1 h).1]
    · rw [if_neg hj]
  | (k, v) :: u, r, h => by
    simp only [setCs, setVs]
    rw [setCell_at h, setCs_set (rowGet_set (List.getElem?_eq_some_iff.1 h).1), List.set_set]
theorem setCs_map {α : Type} (E : α → List V) (L ys : List α) {i i' : Nat} {u : List (Nat × V)} (y : α) (hi : i = i') (h : i' < L.length) (hy : setVs (E L[i']) u = E y) (he : L.set i' y = ys) : setCs (L.map E) i u = ys.map E := by
  subst hi he
  rw [setCs_set (r := E L[i]) (by simp [h]), hy, List.map_set]
theorem get_setR {R : Row} {i k : Nat} {v : V} {r : List V} (h : R[i]? = some r) : (setCell R i k v)[i]? = some (r.set k v) := by
  unfold setCell
  rw [List.getElem?_modify, h]; simp
theorem get_mapR {α : Type} (E : α → List V) (L : List α) (i : Nat) (h : i < L.length) : (L.map E)[((i : Nat) : Int).toNat + 0]? = some (E L[i]) := by
  rw [Int.toNat_natCast, Nat.add_zero]; simp [h]
theorem get_mapC {α : Type} (E : α → List V) (L : List α) (i k : Nat) (v : V) (h : i < L.length) (hv : (E L[i])[k]? = some v) : cellAt (L.map E) (((i : Nat) : Int).toNat + 0) k = some v := by
  rw [Int.toNat_natCast, Nat.add_zero, cellGet _ _ _ _ h, hv]
theorem get_mapIC {α : Type} (E : α → List V) (L : List α) (n : Int) (k : Nat) (v : V) (h : n.toNat < L.length) (hv : (E L[n.toNat])[k]? = some v) : cellAt (L.map E) (n.toNat + 0) k = some v := by
  rw [Nat.add_zero, cellGet _ _ _ _ h, hv]
theorem get_partC {α : Type} (E : α → List V) (z : List V) (xs : List α) (i k : Nat) (v : V) (h : i < xs.length) (hz : z[k]? = some v) : cellAt (rowsPart E z xs i) (((i : Nat) : Int).toNat + 0) k = some v := by
  rw [Int.toNat_natCast, Nat.add_zero]; exact cell_part E z xs i k v h hz
-- FN laws.toStringS
theorem F_l_toStringS (xs : List ByteArray) (hx : xs.length * 16 ≤ 140737488351232) : Fn pg 27 [.imm 1 (rowS xs)] [] (.sl 500 [] 1 0 xs.length) [(500, false, 1, rowS xs)] := by
  refine Fn.ofN [0,2,3,4,11] [1002,1007] Try.func27 (by rfl) rfl (by show 1 ≤ 22; decide) (by rfl) ?_
  repeat' ((conv => whnf); first | (refine And.intro (by first | exact True.intro | omega | (simp (disch := (first | omega | fail)) only [modAt, List.length_take, List.length_map, List.length_append, List.length_set, List.length_replicate, len_rowsPart, len_setCell]; first | omega | fail) | fail) ?_) | fail)
  refine ⟨Nat, fun i => i ≤ xs.length, fun i => [(0, .imm 1 (rowS xs)), (3, .sl 1007 [] 1 0 xs.length), (4, .lit (.int .i64 i))], fun i => [(1007, false, 1, rowsPart eStr [.lit (.string .empty)] xs i)], fun i => xs.length - i, ⟨[], 0, by omega, ⟨rfl, rfl⟩, ⟨by first | rfl | fail, ?_, by first | rfl | fail, trivial⟩, ?_, trivial⟩, ?_⟩
  · show V.sl 1007 [] 1 0 _ = V.sl 1007 [] 1 0 _
    rw [Int.toNat_natCast, List.length_map]
  · show some (false, 1, _) = some (false, 1, rowsPart eStr [.lit (.string .empty)] xs 0)
    rw [Int.toNat_natCast, List.length_map, rowsPart_zero]
  intro i hi
  repeat' ((conv => whnf); first | (refine iteB_dec (fun h => ?_) (fun h => ?_) <;> (try simp (disch := (first | omega | fail)) only [modAt, List.length_take, List.length_map, List.length_append, List.length_set, List.length_replicate, len_rowsPart, len_setCell] at h)) | (refine wrapB_i64 (by first | omega | fail) (by first | omega | fail) ?_) | (refine And.intro (by first | exact True.intro | omega | (simp (disch := (first | omega | fail)) only [modAt, List.length_take, List.length_map, List.length_append, List.length_set, List.length_replicate, len_rowsPart, len_setCell]; first | omega | fail) | fail) ?_) | (refine Exists.intro _ (And.intro (rowGet _ _ _ (by omega)) ?_)) | (refine Exists.intro _ (And.intro (by first | exact (get_partC _ _ _ _ _ _ (by first | omega | fail) (by exact rfl)) | fail) ?_)) | fail)
  · refine ⟨[], i + 1, by omega, ⟨⟨rfl, rfl⟩, ⟨by first | rfl | fail, by first | rfl | fail, by first | rfl | fail, trivial⟩, ?_, trivial⟩, by first | (dsimp only; omega) | fail⟩
    show some (false, 1, setCell (rowsPart eStr [.lit (.string .empty)] xs i) i 0 _) = some (false, 1, rowsPart eStr [.lit (.string .empty)] xs (i + 1))
    rw [setCell_at (rowsPart_z _ _ _ _ (by omega)), ← rowsPart_succ _ _ _ _ (by omega)]; rfl
  · have hi' : i = xs.length := by omega
    subst hi'
    refine .mk ⟨trivial, [1007], ⟨rfl, ?_⟩, by simp, rfl, ?_⟩
    · rfl
    refine ⟨?_, trivial⟩
    refine outOk_new (d := 1007) (by decide) rfl ?_
    show some (false, 1, rowsPart _ _ xs xs.length) = some (false, 1, rowS xs)
    rw [rowsPart_all]

def eqL {α : Type} [DecidableEq α] : List α → List α → Bool
  | [], [] => true
  | x :: r, y :: s => decide (x = y) && eqL r s
  | _, _ => false
theorem eqL_eq {α : Type} [DecidableEq α] : ∀ (a b : List α), eqL a b = decide (a = b) := by
  intro a
  induction a with
  | nil => intro b; cases b <;> simp [eqL]
  | cons x r ih => intro b; cases b <;> simp [eqL, ih]
theorem eq_step {α : Type} {a b : List α} {i : Nat} (h1 : i < a.length) (h2 : i < b.length) (he : a[i] = b[i]) (ht : a.take i = b.take i) : a.take (i + 1) = b.take (i + 1) := by
  rw [List.take_succ_eq_append_getElem h1, List.take_succ_eq_append_getElem h2, ht, he]
theorem eq_all {α : Type} {a b : List α} {i : Nat} (h1 : a.length ≤ i) (h : a.length = b.length) (ht : a.take i = b.take i) : a = b := by
  rw [List.take_of_length_le h1, List.take_of_length_le (by omega)] at ht; exact ht
theorem ne_at {α : Type} {a b : List α} {i : Nat} (h1 : i < a.length) (h2 : i < b.length) (he : a[i] ≠ b[i]) : a ≠ b := fun e => by subst e; exact he rfl
-- FN laws.eqStringS
theorem F_l_eqStringS (a b : List ByteArray) (ha : a.length ≤ 140737488351232) (hb : b.length ≤ 140737488351232) : Fn pg 32 [.imm 1 (rowS a), .imm 1 (rowS b)] [] (.lit (.bool (decide (a = b)))) [] := by
  refine Fn.ofN [0,1,4,5,10,14,25] [] Try.func32 (by rfl) rfl (by show 2 ≤ 26; decide) (by rfl) ?_
  repeat' ((conv => whnf); first | (refine iteB_dec (fun h => ?_) (fun h => ?_) <;> (try simp (disch := (first | omega | fail)) only [modAt, List.length_take, List.length_map, List.length_append, List.length_set, List.length_replicate, len_rowsPart, len_setCell] at h)) | fail)
  · (refine .mk ⟨trivial, [], ⟨rfl, ?_⟩, List.nodup_nil, rfl, trivial⟩; show V.lit _ = V.lit _)
    have : a ≠ b := fun e => by subst e; omega
    simp [this]
  refine ⟨Nat, fun i => i ≤ a.length ∧ a.take i = b.take i, fun i => [(0, .imm 1 (rowS a)), (1, .imm 1 (rowS b)), (5, .lit (.int .i64 i))], fun i => [], fun i => a.length - i, ⟨[], 0, by simp, ⟨rfl, rfl⟩, ⟨by first | rfl | fail, by first | rfl | fail, by first | rfl | fail, trivial⟩, trivial⟩, ?_⟩
  intro i ⟨hi, ht⟩
  repeat' ((conv => whnf); first | (refine iteB_dec (fun h => ?_) (fun h => ?_) <;> (try simp (disch := (first | omega | fail)) only [modAt, List.length_take, List.length_map, List.length_append, List.length_set, List.length_replicate, len_rowsPart, len_setCell] at h)) | (refine wrapB_i64 (by first | omega | fail) (by first | omega | fail) ?_) | (refine And.intro (by first | exact True.intro | omega | fail) ?_) | (refine Exists.intro _ (And.intro (rowGet _ _ _ (by omega)) ?_)) | (refine Or.inl (And.intro (by decide +kernel) ?_)) | fail)
  · (refine .mk ⟨trivial, [], ⟨rfl, ?_⟩, List.nodup_nil, rfl, trivial⟩; show V.lit _ = V.lit _)
    simp only [V.lit.injEq, Value.bool.injEq]
    rw [decide_eq_false (ne_at (i := i) (by omega) (by omega) (by assumption))]
  · exact ⟨[], i + 1, ⟨by omega, eq_step (by omega) (by omega) (by simp_all) ht⟩, ⟨⟨rfl, rfl⟩, ⟨by first | rfl | fail, by first | rfl | fail, by first | rfl | fail, trivial⟩, trivial⟩, by first | (dsimp only; omega) | fail⟩
  · (refine .mk ⟨trivial, [], ⟨rfl, ?_⟩, List.nodup_nil, rfl, trivial⟩; show V.lit _ = V.lit _)
    have : a = b := eq_all (by omega) (by omega) ht
    simp [this]
/-- A list whose first i are marked. -/
def marks {α : Type} (f : Int → α) (k : Int) (a : List α) (i : Nat) : List α := (List.range i).map (fun (j : Nat) => f (k + (j : Int))) ++ a.drop i
theorem len_marks {α : Type} (f : Int → α) (k : Int) (a : List α) (i : Nat) (h : i ≤ a.length) : (marks f k a i).length = a.length := by simp [marks]; omega
theorem marks_succ {α : Type} (f : Int → α) (k : Int) (a : List α) (i : Nat) (h : i < a.length) : (marks f k a i).set i (f (k + (i : Int))) = marks f k a (i + 1) := by
  unfold marks
  refine List.ext_getElem? fun j => ?_
  rw [List.getElem?_set]
  by_cases hj : i = j
  · subst hj
    simp [List.range_succ]; omega
  · rcases Nat.lt_or_ge j i with h1 | h1
    · simp [hj, List.getElem?_append_left, h1, show j < i + 1 by omega]
    · rw [List.getElem?_append_right (by simp; omega), List.getElem?_append_right (by simp; omega)]
      simp [hj]
      congr 1; omega
theorem marks_zero {α : Type} (f : Int → α) (k : Int) (a : List α) : marks f k a 0 = a := by simp [marks]
def markL {α : Type} (f : Int → α) (k : Int) (n : Nat) : List α := (List.range n).map fun (j : Nat) => f (k + (j : Int))
theorem len_markL {α : Type} (f : Int → α) (k : Int) (n : Nat) : (markL f k n).length = n := by simp [markL]
theorem take_marks {α : Type} (E : α → List V) (f : Int → α) (k : Int) (a : List α) (n : Nat) : List.take n (List.drop 0 (List.map E (marks f k a n))) = List.map E (markL f k n) := by
  rw [List.drop_zero, marks, List.map_append, List.take_append_of_le_length (by simp), List.take_of_length_le (by simp)]; rfl
def heldL {α : Type} [DecidableEq α] (f : Int → α) (k : Int) : List α → Int
  | [] => k
  | x :: r => if x = f k then heldL f (k + 1) r else -1
theorem heldL_markL {α : Type} [DecidableEq α] (f : Int → α) (k : Int) (n : Nat) : heldL f k (markL f k n) = k + n := by
  have : ∀ (m : Nat) (k : Int), heldL f k ((List.range m).map fun (j : Nat) => f (k + (j : Int))) = k + m := by
    intro m
    induction m with
    | zero => intro k; simp [heldL]
    | succ m ih =>
      intro k
      rw [List.range_succ_eq_map, List.map_cons, List.map_map]
      simp only [heldL, Function.comp_def]
      rw [if_pos (by simp)]
      have := ih (k + 1)
      simp only [Int.natCast_succ] at *
      rw [show (fun (x : Nat) => f (k + ((x : Int) + 1))) = fun (x : Nat) => f (k + 1 + (x : Int)) by funext x; congr 1; omega, this]; omega
  exact this n k

theorem litOne {n : Nat} {xs : Row} {c : Value} (hn : n = 1) (hx : xs = [[.lit c]]) (h : c.oneCell' = true) : litRow n xs := by
  subst hn hx
  intro x hx; cases List.mem_singleton.1 hx; exact ⟨rfl, fun y hy => by cases List.mem_singleton.1 hy; exact ⟨_, rfl, h⟩⟩
theorem litTwo {n : Nat} {xs : Row} {c d : Value} (hn : n = 2) (hx : xs = [[.lit c, .lit d]]) (h : c.oneCell' = true) (h2 : d.oneCell' = true) : litRow n xs := by
  subst hn hx
  intro x hx; cases List.mem_singleton.1 hx; exact ⟨rfl, fun y hy => by
    rcases List.mem_cons.1 hy with rfl | hy
    · exact ⟨_, rfl, h⟩
    · cases List.mem_singleton.1 hy; exact ⟨_, rfl, h2⟩⟩
theorem litI (xs : List Int) : litRow 1 (rowI xs) := by
  intro x hx
  obtain ⟨n, _, rfl⟩ := List.mem_map.1 hx
  exact ⟨rfl, fun c hc => by simp [eInt] at hc; subst hc; exact ⟨_, rfl, rfl⟩⟩
theorem litU (xs : List Int) : litRow 1 (rowU xs) := by
  intro x hx
  obtain ⟨n, _, rfl⟩ := List.mem_map.1 hx
  exact ⟨rfl, fun c hc => by simp [eInt] at hc; subst hc; exact ⟨_, rfl, rfl⟩⟩
theorem litS (xs : List ByteArray) : litRow 1 (rowS xs) := by
  intro x hx
  obtain ⟨n, _, rfl⟩ := List.mem_map.1 hx
  exact ⟨rfl, fun c hc => by simp [eStr] at hc; subst hc; exact ⟨_, rfl, rfl⟩⟩


theorem wrap64 {n : Int} (h0 : -9223372036854775808 ≤ n) (h1 : n ≤ 9223372036854775807) : IntKind.i64.wrap n = n := by rw [IntKind.wrap_i64]; omega
def dig (n : Nat) (s : ByteArray) : ByteArray := if h : n = 0 then s else dig (n / 10) (ByteArray.mk #[UInt8.ofNat (48 + n % 10)] ++ s)
  termination_by n
/-- A number as a mark's text. -/
def markT (k : Int) : ByteArray := if k ≤ 0 then ByteArray.mk #[109, 48] else ByteArray.mk #[109] ++ dig k.toNat .empty
theorem byte_row (m : Nat) (h : m < 256) : [[V.lit (.int .u8 (m : Int))]] = byR (unbyR [[V.lit (.int .u8 (m : Int))]]) := by
  simp [byR, unbyR, byteOf1]; omega
-- FN laws.markText
theorem F_l_markText (k : Int) (hk2 : k ≤ 4611686018427387904) : Fn pg 57 [.lit (.int .i64 k)] [] (.lit (.string (markT k))) [] := by
  refine Fn.ofN [0,2,3,5,7] [1011,1012,1013] Try.func57 (by rfl) rfl (by show 1 ≤ 20; decide) (by rfl) ?_
  repeat' ((conv => whnf); first | (refine iteB_dec (fun h => ?_) (fun h => ?_) <;> (try simp (disch := (first | omega | fail)) only [modAt, List.length_take, List.length_map, List.length_append, List.length_set, List.length_replicate, len_rowsPart, len_setCell, len_marks, len_markL] at h)) | fail)
  · (refine .mk ⟨trivial, [], ⟨rfl, ?_⟩, List.nodup_nil, rfl, trivial⟩; show V.lit _ = V.lit _)
    rw [markT, if_pos (by assumption)]
  have h0 : ¬ k ≤ 0 := by assumption
  refine ⟨Nat × ByteArray, fun x => x.1 < 10 ^ (19 - x.2.size) ∧ x.2.size ≤ 19 ∧ dig k.toNat .empty = dig x.1 x.2, fun x => [(0, .lit (.int .i64 x.1)), (3, .lit (.string x.2))], fun _ => [], fun x => x.1, ⟨[], (k.toNat, .empty), ⟨by show k.toNat < 10 ^ 19; omega, Nat.zero_le _, rfl⟩, ⟨rfl, rfl⟩, ⟨by show V.lit (.int .i64 k) = V.lit (.int .i64 ((k.toNat : Nat) : Int)); rw [Int.toNat_of_nonneg (by omega)], rfl, trivial⟩, trivial⟩, ?_⟩
  intro (n, s) ⟨hn, hs, hd⟩
  dsimp only at hn hs hd
  have hs' : 0 < n → s.size < 19 := by
    intro hpos
    rcases Nat.lt_or_ge s.size 19 with h | h
    · exact h
    · have : 19 - s.size = 0 := by omega
      rw [this] at hn; omega
  have hbig : n < 10 ^ 19 := Nat.lt_of_lt_of_le hn (Nat.pow_le_pow_right (by decide) (by omega))
  repeat' ((conv => whnf); first | (refine iteB_dec (fun h => ?_) (fun h => ?_) <;> (try simp (disch := (first | omega | fail)) only [modAt, List.length_take, List.length_map, List.length_append, List.length_set, List.length_replicate, len_rowsPart, len_setCell, len_marks, len_markL] at h)) | (refine WrapB.mk ?_) | (refine And.intro (by first | exact True.intro | exact Nat.le_refl _ | fail) ?_) | fail)
  · have hpos : 0 < n := by simpa using ‹0 < ((n, s).1 : Int)›
    have hss := hs' hpos
    conv => whnf
    have hc : IntKind.u8.wrap (IntKind.i64.wrap (48 + (n : Int).tmod 10)) = ((48 + n % 10 : Nat) : Int) := by
      rw [Int.tmod_eq_emod_of_nonneg (by omega), wrap64 (by omega) (by omega), IntKind.wrap_u8]; omega
    refine And.intro ?_ ?_
    · show [[V.lit (.int .u8 (IntKind.u8.wrap (IntKind.i64.wrap (48 + (n : Int).tmod 10))))]] = byR (unbyR [[V.lit (.int .u8 (IntKind.u8.wrap (IntKind.i64.wrap (48 + (n : Int).tmod 10))))]])
      rw [hc]
      exact byte_row _ (by omega)
    conv => whnf
    refine And.intro ?_ ?_
    · show 1 + s.size ≤ 9223372036854775807
      omega
    conv => whnf
    have hsz : (ByteArray.mk #[UInt8.ofNat (48 + n % 10)] ++ s).size = 1 + s.size := by rw [ByteArray.size_append]; rfl
    refine ⟨[], (n / 10, ByteArray.mk #[UInt8.ofNat (48 + n % 10)] ++ s), ⟨?_, ?_, ?_⟩, ⟨⟨rfl, rfl⟩, ⟨?_, ?_, trivial⟩, trivial⟩, ?_⟩
    · show n / 10 < 10 ^ (19 - (ByteArray.mk #[UInt8.ofNat (48 + n % 10)] ++ s).size)
      rw [hsz]
      refine Nat.div_lt_of_lt_mul ?_
      have : 10 ^ (19 - s.size) = 10 * 10 ^ (19 - (1 + s.size)) := by rw [show 19 - s.size = (19 - (1 + s.size)) + 1 by omega, Nat.pow_succ, Nat.mul_comm]
      omega
    · show (ByteArray.mk #[UInt8.ofNat (48 + n % 10)] ++ s).size ≤ 19
      rw [hsz]; omega
    · show dig k.toNat .empty = dig (n / 10) (ByteArray.mk #[UInt8.ofNat (48 + n % 10)] ++ s)
      rw [hd]
      conv => lhs; rw [dig]
      rw [dif_neg (by omega)]
    · show V.lit (.int .i64 (IntKind.i64.wrap ((n : Int).tdiv 10))) = V.lit (.int .i64 ((n / 10 : Nat) : Int))
      rw [Int.tdiv_eq_ediv_of_nonneg (by omega), wrap64 (by omega) (by omega)]; rfl
    · show V.lit (.string (⟨#[UInt8.ofNat (Int.toNat (IntKind.u8.wrap (IntKind.i64.wrap (48 + (n : Int).tmod 10))))]⟩ ++ s)) = V.lit (.string (ByteArray.mk #[UInt8.ofNat (48 + n % 10)] ++ s))
      rw [hc, Int.toNat_natCast]
    · show n / 10 < n
      omega
  · have h0' : n = 0 := by
      have h : ¬ (0 < ((n, s).1 : Int)) := by assumption
      simp at h; omega
    subst h0'
    conv => whnf
    refine And.intro ?_ ?_
    · show 1 + s.size ≤ 9223372036854775807
      omega
    conv => whnf
    (refine .mk ⟨trivial, [], ⟨rfl, ?_⟩, List.nodup_nil, rfl, trivial⟩; show V.lit _ = V.lit _)
    show V.lit (.string (ByteArray.mk #[109] ++ s)) = V.lit (.string (markT k))
    rw [markT, if_neg h0, hd, dig, dif_pos rfl]
-- FN laws.markStringS
theorem F_l_markStringS (a : List ByteArray) (n : Nat) (k : Int) (hn : n ≤ a.length) (ha : n ≤ 140737488351232) (hk : 0 ≤ k) (hk2 : k ≤ 4470000000000000000) : Fn pg 34 [.sl 0 [] 1 0 n, .lit (.int .i64 k)] [(0, false, 1, rowS a)] (.lit (.int .i64 (k + n))) [(0, false, 1, rowS (marks markT k a n))] := by
  refine Fn.ofN [0,1,4,5,9] [0] Try.func34 (by rfl) rfl (by show 2 ≤ 20; decide) (by rfl) ?_
  repeat' ((conv => whnf); first | (refine iteB_dec (fun h => ?_) (fun h => ?_) <;> (try simp (disch := (first | omega | fail)) only [modAt, List.length_take, List.length_map, List.length_append, List.length_set, List.length_replicate, len_rowsPart, len_setCell, len_marks, len_markL] at h)) | fail)
  refine ⟨Nat, fun i => i ≤ n, fun i => [(0, .sl 0 [] 1 0 n), (1, .lit (.int .i64 (k + i))), (5, .lit (.int .i64 i))], fun i => [(0, false, 1, rowS (marks markT k a i))], fun i => n - i, ⟨[], 0, by omega, ⟨rfl, rfl⟩, ⟨by first | rfl | fail, by first | (show V.lit (Value.int _ _) = V.lit (Value.int _ _); first | (congr 2; first | omega | fail) | fail) | fail, by first | rfl | fail, trivial⟩, ⟨by show some (false, 1, rowS a) = some (false, 1, rowS (marks markT k a 0)); rw [marks_zero], trivial⟩⟩, ?_⟩
  intro i hi
  repeat' ((conv => whnf); first | (refine iteB_dec (fun h => ?_) (fun h => ?_) <;> (try simp (disch := (first | omega | fail)) only [modAt, List.length_take, List.length_map, List.length_append, List.length_set, List.length_replicate, len_rowsPart, len_setCell, len_marks, len_markL] at h)) | (refine wrapB_i64 (by first | omega | fail) (by first | omega | fail) ?_) | (refine And.intro (by first | exact True.intro | omega | (simp (disch := (first | omega | fail)) only [modAt, List.length_take, List.length_map, List.length_append, List.length_set, List.length_replicate, len_rowsPart, len_setCell, len_marks, len_markL]; first | omega | fail) | fail) ?_) | (refine Exists.intro _ (And.intro (by first | exact (get_mapIC _ _ _ _ _ (by first | (simp (disch := (first | omega | fail)) only [modAt, List.length_take, List.length_map, List.length_append, List.length_set, List.length_replicate, len_rowsPart, len_setCell, len_marks, len_markL]; first | omega | fail) | fail) (by exact rfl)) | fail) ?_)) | (refine Or.inl ?_; apply callV_i; (repeat ((conv => whnf); first | refine And.intro (by first | omega | fail) ?_ | fail)); ((conv => whnf); first | exact FnB.mk (F_l_markText _ (by first | omega | fail)) | fail); refine ⟨rfl, rfl, ?_⟩) | fail)
  · have hml : i < (marks markT k a i).length := by rw [len_marks _ _ _ _ (by omega)]; omega
    refine ⟨[], i + 1, by omega, ⟨⟨rfl, rfl⟩, ⟨by first | rfl | fail, by first | (show V.lit (Value.int _ _) = V.lit (Value.int _ _); first | (congr 2; first | omega | fail) | fail) | fail, by first | rfl | fail, trivial⟩, boxEq (setCellM eStr _ _ (.lit (.string (markT (k + (i : Int))))) (markT (k + (i : Int))) rfl hml rfl rfl (marks_succ markT k a i (by omega))), trivial⟩, by first | (dsimp only; omega) | fail⟩
  · have hi' : i = n := by omega
    subst hi'
    refine .mk ⟨trivial, [], ⟨rfl, ?_⟩, List.nodup_nil, rfl, ?_⟩
    · rfl
    exact ⟨outOk_old (b := 0) (by decide) rfl, trivial⟩
-- FN laws.heldStringS
theorem F_l_heldStringS (a : List ByteArray) (k : Int) (ha : a.length ≤ 140737488351232) (hk : 0 ≤ k) (hk2 : k ≤ 4470000000000000000) : Fn pg 36 [.imm 1 (rowS a), .lit (.int .i64 k)] [] (.lit (.int .i64 (heldL markT k a))) [] := by
  refine Fn.ofN [0,1,4,5,9,18] [] Try.func36 (by rfl) rfl (by show 2 ≤ 22; decide) (by rfl) ?_
  repeat' ((conv => whnf); first | (refine iteB_dec (fun h => ?_) (fun h => ?_) <;> (try simp (disch := (first | omega | fail)) only [modAt, List.length_take, List.length_map, List.length_append, List.length_set, List.length_replicate, len_rowsPart, len_setCell, len_marks, len_markL] at h)) | fail)
  refine ⟨Nat, fun i => i ≤ a.length ∧ heldL markT k a = heldL markT (k + i) (a.drop i), fun i => [(0, .imm 1 (rowS a)), (1, .lit (.int .i64 (k + i))), (5, .lit (.int .i64 i))], fun i => [], fun i => a.length - i, ⟨[], 0, by simp, ⟨rfl, rfl⟩, ⟨by first | rfl | fail, by first | (show V.lit (Value.int _ _) = V.lit (Value.int _ _); first | (congr 2; first | omega | fail) | fail) | fail, by first | rfl | fail, trivial⟩, trivial⟩, ?_⟩
  intro i ⟨hi, hh⟩
  repeat' ((conv => whnf); first | (refine iteB_dec (fun h => ?_) (fun h => ?_) <;> (try simp (disch := (first | omega | fail)) only [modAt, List.length_take, List.length_map, List.length_append, List.length_set, List.length_replicate, len_rowsPart, len_setCell, len_marks, len_markL] at h)) | (refine wrapB_i64 (by first | omega | fail) (by first | omega | fail) ?_) | (refine And.intro (by first | exact True.intro | omega | fail) ?_) | (refine Exists.intro _ (And.intro (rowGet _ _ _ (by omega)) ?_)) | (refine Or.inl (And.intro (by decide +kernel) ?_)) | (apply callQ_i; (repeat ((conv => whnf); first | refine And.intro (by first | omega | fail) ?_ | fail)); ((conv => whnf); apply Exists.intro; (first | exact FnB.mk (F_l_markText _ (by first | omega | fail)) | fail))) | fail)
  · rw [drop_cons _ _ (by omega)] at hh
    (refine .mk ⟨trivial, [], ⟨rfl, ?_⟩, List.nodup_nil, rfl, trivial⟩; show V.lit _ = V.lit _)
    simp_all [heldL]
  · rw [drop_cons _ _ (by omega)] at hh
    refine ⟨[], i + 1, ⟨by omega, ?_⟩, ⟨⟨rfl, rfl⟩, ⟨by first | rfl | fail, by first | (show V.lit (Value.int _ _) = V.lit (Value.int _ _); first | (congr 2; first | omega | fail) | fail) | fail, by first | rfl | fail, trivial⟩, trivial⟩, by first | (dsimp only; omega) | fail⟩
    rw [hh, show (k + ((i + 1 : Nat) : Int)) = k + i + 1 by omega]
    simp_all [heldL]
  · rw [List.drop_of_length_le (by omega)] at hh
    (refine .mk ⟨trivial, [], ⟨rfl, ?_⟩, List.nodup_nil, rfl, trivial⟩; show V.lit _ = V.lit _)
    simp only [heldL] at hh
    rw [hh]
    first | done | fail
-- FN laws.heldStringS
theorem F_l_heldStringS_marked (n : Nat) (k : Int) (ha : n ≤ 140737488351232) (hk : 0 ≤ k) (hk2 : k ≤ 4470000000000000000) : Fn pg 36 [.imm 1 (rowS (markL markT k n)), .lit (.int .i64 k)] [] (.lit (.int .i64 (k + n))) [] := by
  have := F_l_heldStringS (markL markT k n) k (by rw [len_markL]; exact ha) hk hk2
  rwa [heldL_markL] at this

end Go.Proofs.Ythbhbncaapnebaa.M

/- Walks of the program's functions, by the small machine: what one law's proof needs. -/
import Derived.Test.YtpmcmooaokkojaaQ2
import Derived.Test.YtpmcmooaokkojaaL0
namespace Go.Proofs.Ytpmcmooaokkojaa.M
open Go
set_option maxHeartbeats 1000000
set_option maxRecDepth 20000
set_option linter.unusedVariables false
set_option linter.unusedSimpArgs false
theorem rowGet {α : Type} (E : α → List V) (xs : List α) (i : Nat) (h : i < xs.length) : (xs.map E)[Int.toNat (i : Int)]? = some (E xs[i]) := by simp [h]
theorem cellGet {α : Type} (E : α → List V) (xs : List α) (i k : Nat) (h : i < xs.length) : cellAt (xs.map E) i k = (E xs[i])[k]? := by simp [cellAt, h]
abbrev rowI (a : List Int) : Row := a.map (eInt .i64)
theorem setCell_map {α : Type} (E : α → List V) (xs : List α) (i k : Nat) (v : V) (y : α) (h : i < xs.length) (hy : (E xs[i]).set k v = E y) : setCell (xs.map E) i k v = (xs.set i y).map E := by
  unfold setCell
  refine List.ext_getElem? fun j => ?_
  rw [List.getElem?_modify, List.getElem?_map, List.getElem?_map, List.getElem?_set]
  by_cases hj : i = j
  · subst hj; simp [h, hy]
  · simp [hj]
theorem drop_cons {α : Type} (xs : List α) (i : Nat) (h : i < xs.length) : xs.drop i = xs[i] :: xs.drop (i + 1) := List.drop_eq_getElem_cons h
instance : Inhabited ByteArray := ⟨.empty⟩
theorem boxEq {t : Bool} {s : Nat} {xs ys : Row} (h : xs = ys) : some (t, s, xs) = some (t, s, ys) := by rw [h]
theorem setCellM {α : Type} (E : α → List V) (xs ys : List α) {i i' k : Nat} {v : V} (w : V) (y : α) (hi : i = i') (h : i' < xs.length) (hv : v = w) (hy : (E xs[i']).set k w = E y) (he : xs.set i' y = ys) : setCell (xs.map E) i k v = ys.map E := by
  subst hi hv he; exact setCell_map E xs i k v y h hy
/-- The first i of a list, then what stands for none. -/
def rowsPart {α : Type} (E : α → List V) (z : List V) (xs : List α) (i : Nat) : Row := (xs.take i).map E ++ List.replicate (xs.length - i) z
theorem len_rowsPart {α : Type} (E : α → List V) (z : List V) (xs : List α) (i : Nat) (h : i ≤ xs.length) : (rowsPart E z xs i).length = xs.length := by simp [rowsPart]; omega
theorem setCell_at {xs : Row} {i : Nat} {r : List V} (h : xs[i]? = some r) (k : Nat) (v : V) : setCell xs i k v = xs.set i (r.set k v) := by
  unfold setCell
  refine List.ext_getElem? fun j => ?_
  rw [List.getElem?_modify, List.getElem?_set]
  have hlt := (List.getElem?_eq_some_iff.1 h).1
  by_cases hj : i = j
  · subst hj; rw [h]; simp [hlt]
  · simp [hj]
theorem rowGet_set {xs : Row} {i : Nat} {r : List V} (h : i < xs.length) : (xs.set i r)[i]? = some r := by simp [h]
theorem outOk_new {ds : List Nat} {B : Bs} {b s d : Nat} {xs : Row} (hb : (decide (b < 500)) = false) (hd : ds[b - 500]? = some d) (hB : B d = some (false, s, xs)) : outOk ds B (b, false, s, xs) := by
  unfold outOk outId
  rw [if_neg (of_decide_eq_false hb)]
  simp only [hd, Option.bind_some, hB]
  exact ⟨rfl, fun h => by cases h⟩
theorem outOk_old {ds : List Nat} {B : Bs} {b s : Nat} {xs : Row} (hb : (decide (b < 500)) = true) (hB : B b = some (false, s, xs)) : outOk ds B (b, false, s, xs) := by
  unfold outOk outId
  rw [if_pos (of_decide_eq_true hb)]
  simp only [Option.bind_some, hB]
  exact ⟨rfl, fun h => by cases h⟩
theorem get_setC {R : Row} {i k k' : Nat} {v w : V} (hk : (decide (k = k')) = false) (h : cellAt R i k' = some w) : cellAt (setCell R i k v) i k' = some w := by
  unfold cellAt setCell at *
  rw [List.getElem?_modify]
  cases hR : R[i]? with
  | none => rw [hR] at h; cases h
  | some r =>
    rw [hR] at h
    simp only [Option.bind_some, Option.map_some, Option.map_eq_map, if_true] at *
    rw [List.getElem?_set, if_neg (of_decide_eq_false hk)]; exact h
theorem len_setCell (xs : Row) (i k : Nat) (v : V) : (setCell xs i k v).length = xs.length := by unfold setCell; simp
def setCs (R : Row) (i : Nat) : List (Nat × V) → Row
  | [] => R
  | (k, v) :: r => setCs (setCell R i k v) i r
def setVs (r : List V) : List (Nat × V) → List V
  | [] => r
  | (k, v) :: u => setVs (r.set k v) u
theorem setCs_set {R : Row} {i : Nat} : ∀ {u : List (Nat × V)} {r : List V}, R[i]? = some r → setCs R i u = R.set i (setVs r u)
  | [], r, h => by
    unfold setCs setVs
    refine List.ext_getElem? fun j => ?_
    rw [List.getElem?_set]
    by_cases hj : i = j
    · subst hj; rw [h]; simp [(List.getElem?_eq_some_iff.1 h).1]
    · rw [if_neg hj]
  | (k, v) :: u, r, h => by
    simp only [setCs, setVs]
    rw [setCell_at h, setCs_set (rowGet_set (List.getElem?_eq_some_iff.1 h).1), List.set_set]
theorem setCs_map {α : Type} (E : α → List V) (L ys : List α) {i i' : Nat} {u : List (Nat × V)} (y : α) (hi : i = i') (h : i' < L.length) (hy : setVs (E L[i']) u = E y) (he : L.set i' y = ys) : setCs (L.map E) i u = ys.map E := by
  subst hi he
  rw [setCs_set (r := E L[i]) (by simp [h]), hy, List.map_set]
theorem get_setR {R : Row} {i k : Nat} {v : V} {r : List V} (h : R[i]? = some r) : (setCell R i k v)[i]? = some (r.set k v) := by
  unfold setCell
  rw [List.getElem?_modify, h]; simp
theorem get_mapIC {α : Type} (E : α → List V) (L : List α) (n : Int) (k : Nat) (v : V) (h : n.toNat < L.length) (hv : (E L[n.toNat])[k]? = some v) : cellAt (L.map E) (n.toNat + 0) k = some v := by
  rw [Nat.add_zero, cellGet _ _ _ _ h, hv]
theorem eq_step {α : Type} {a b : List α} {i : Nat} (h1 : i < a.length) (h2 : i < b.length) (he : a[i] = b[i]) (ht : a.take i = b.take i) : a.take (i + 1) = b.take (i + 1) := by
  rw [List.take_succ_eq_append_getElem h1, List.take_succ_eq_append_getElem h2, ht, he]
theorem eq_all {α : Type} {a b : List α} {i : Nat} (h1 : a.length ≤ i) (h : a.length = b.length) (ht : a.take i = b.take i) : a = b := by
  rw [List.take_of_length_le h1, List.take_of_length_le (by omega)] at ht; exact ht
theorem ne_at {α : Type} {a b : List α} {i : Nat} (h1 : i < a.length) (h2 : i < b.length) (he : a[i] ≠ b[i]) : a ≠ b := fun e => by subst e; exact he rfl
theorem F_l_eqIntS (a b : List Int) (ha : a.length ≤ 140737488351232) (hb : b.length ≤ 140737488351232) : Fn pg 25 [.imm 1 (rowI a), .imm 1 (rowI b)] [] (.lit (.bool (decide (a = b)))) [] := by
  refine Fn.ofN [0,1,4,5,10,14,25] [] Try.func25 (by rfl) rfl (by show 2 ≤ 26; decide) (by rfl) ?_
  repeat' ((conv => whnf); first | (refine iteB_dec (fun h => ?_) (fun h => ?_) <;> (try simp (disch := (first | omega | fail)) only [modAt, List.length_take, List.length_drop, List.length_map, List.length_append, List.length_set, List.length_replicate, len_rowsPart, len_setCell] at h)) | fail)
  · (refine .mk ⟨trivial, [], ⟨rfl, ?_⟩, List.nodup_nil, rfl, trivial⟩; show V.lit _ = V.lit _)
    have : a ≠ b := fun e => by subst e; omega
    simp [this]
  refine ⟨Nat, fun i => i ≤ a.length ∧ a.take i = b.take i, fun i => [(0, .imm 1 (rowI a)), (1, .imm 1 (rowI b)), (5, .lit (.int .i64 i))], fun i => [], fun i => a.length - i, ⟨[], 0, by simp, ⟨rfl, rfl⟩, ⟨by first | rfl | fail, by first | rfl | fail, by first | rfl | fail, trivial⟩, trivial⟩, ?_⟩
  intro i ⟨hi, ht⟩
  repeat' ((conv => whnf); first | (refine iteB_dec (fun h => ?_) (fun h => ?_) <;> (try simp (disch := (first | omega | fail)) only [modAt, List.length_take, List.length_drop, List.length_map, List.length_append, List.length_set, List.length_replicate, len_rowsPart, len_setCell] at h)) | (refine wrapB_i64 (by first | omega | fail) (by first | omega | fail) ?_) | (refine And.intro (by first | exact True.intro | omega | fail) ?_) | (refine Exists.intro _ (And.intro (rowGet _ _ _ (by omega)) ?_)) | (refine Or.inl (And.intro (by decide +kernel) ?_)) | fail)
  · (refine .mk ⟨trivial, [], ⟨rfl, ?_⟩, List.nodup_nil, rfl, trivial⟩; show V.lit _ = V.lit _)
    simp only [V.lit.injEq, Value.bool.injEq]
    rw [decide_eq_false (ne_at (i := i) (by omega) (by omega) (by assumption))]
  · exact ⟨[], i + 1, ⟨by omega, eq_step (by omega) (by omega) (by simp_all) ht⟩, ⟨⟨rfl, rfl⟩, ⟨by first | rfl | fail, by first | rfl | fail, by first | rfl | fail, trivial⟩, trivial⟩, by first | (dsimp only; omega) | fail⟩
  · (refine .mk ⟨trivial, [], ⟨rfl, ?_⟩, List.nodup_nil, rfl, trivial⟩; show V.lit _ = V.lit _)
    have : a = b := eq_all (by omega) (by omega) ht
    simp [this]
/-- A list whose first i are marked. -/
def marks {α : Type} (f : Int → α) (k : Int) (a : List α) (i : Nat) : List α := (List.range i).map (fun (j : Nat) => f (k + (j : Int))) ++ a.drop i
theorem len_marks {α : Type} (f : Int → α) (k : Int) (a : List α) (i : Nat) (h : i ≤ a.length) : (marks f k a i).length = a.length := by simp [marks]; omega
theorem marks_succ {α : Type} (f : Int → α) (k : Int) (a : List α) (i : Nat) (h : i < a.length) : (marks f k a i).set i (f (k + (i : Int))) = marks f k a (i + 1) := by
  unfold marks
  refine List.ext_getElem? fun j => ?_
  rw [List.getElem?_set]
  by_cases hj : i = j
  · subst hj
    simp [List.range_succ]; omega
  · rcases Nat.lt_or_ge j i with h1 | h1
    · simp [hj, List.getElem?_append_left, h1, show j < i + 1 by omega]
    · rw [List.getElem?_append_right (by simp; omega), List.getElem?_append_right (by simp; omega)]
      simp [hj]
      congr 1; omega
theorem marks_zero {α : Type} (f : Int → α) (k : Int) (a : List α) : marks f k a 0 = a := by simp [marks]
def markL {α : Type} (f : Int → α) (k : Int) (n : Nat) : List α := (List.range n).map fun (j : Nat) => f (k + (j : Int))
theorem len_markL {α : Type} (f : Int → α) (k : Int) (n : Nat) : (markL f k n).length = n := by simp [markL]
def heldL {α : Type} [DecidableEq α] (f : Int → α) (k : Int) : List α → Int
  | [] => k
  | x :: r => if x = f k then heldL f (k + 1) r else -1
theorem heldL_markL {α : Type} [DecidableEq α] (f : Int → α) (k : Int) (n : Nat) : heldL f k (markL f k n) = k + n := by
  have : ∀ (m : Nat) (k : Int), heldL f k ((List.range m).map fun (j : Nat) => f (k + (j : Int))) = k + m := by
    intro m
    induction m with
    | zero => intro k; simp [heldL]
    | succ m ih =>
      intro k
      rw [List.range_succ_eq_map, List.map_cons, List.map_map]
      simp only [heldL, Function.comp_def]
      rw [if_pos (by simp)]
      have := ih (k + 1)
      simp only [Int.natCast_succ] at *
      rw [show (fun (x : Nat) => f (k + ((x : Int) + 1))) = fun (x : Nat) => f (k + 1 + (x : Int)) by funext x; congr 1; omega, this]; omega
  exact this n k

theorem wrap64 {n : Int} (h0 : -9223372036854775808 ≤ n) (h1 : n ≤ 9223372036854775807) : IntKind.i64.wrap n = n := by rw [IntKind.wrap_i64]; omega
def dig (n : Nat) (s : ByteArray) : ByteArray := if h : n = 0 then s else dig (n / 10) (ByteArray.mk #[UInt8.ofNat (48 + n % 10)] ++ s)
  termination_by n
/-- A number as a mark's text. -/
def markT (k : Int) : ByteArray := if k ≤ 0 then ByteArray.mk #[109, 48] else ByteArray.mk #[109] ++ dig k.toNat .empty
theorem byte_row (m : Nat) (h : m < 256) : [[V.lit (.int .u8 (m : Int))]] = byR (unbyR [[V.lit (.int .u8 (m : Int))]]) := by
  simp [byR, unbyR, byteOf1]; omega
theorem F_l_markText (k : Int) (hk2 : k ≤ 4611686018427387904) : Fn pg 60 [.lit (.int .i64 k)] [] (.lit (.string (markT k))) [] := by
  refine Fn.ofN [0,2,3,5,7] [1011,1012,1013] Try.func60 (by rfl) rfl (by show 1 ≤ 20; decide) (by rfl) ?_
  repeat' ((conv => whnf); first | (refine iteB_dec (fun h => ?_) (fun h => ?_) <;> (try simp (disch := (first | omega | fail)) only [modAt, List.length_take, List.length_drop, List.length_map, List.length_append, List.length_set, List.length_replicate, len_rowsPart, len_setCell, len_marks, len_markL] at h)) | fail)
  · (refine .mk ⟨trivial, [], ⟨rfl, ?_⟩, List.nodup_nil, rfl, trivial⟩; show V.lit _ = V.lit _)
    rw [markT, if_pos (by assumption)]
  have h0 : ¬ k ≤ 0 := by assumption
  refine ⟨Nat × ByteArray, fun x => x.1 < 10 ^ (19 - x.2.size) ∧ x.2.size ≤ 19 ∧ dig k.toNat .empty = dig x.1 x.2, fun x => [(0, .lit (.int .i64 x.1)), (3, .lit (.string x.2))], fun _ => [], fun x => x.1, ⟨[], (k.toNat, .empty), ⟨by show k.toNat < 10 ^ 19; omega, Nat.zero_le _, rfl⟩, ⟨rfl, rfl⟩, ⟨by show V.lit (.int .i64 k) = V.lit (.int .i64 ((k.toNat : Nat) : Int)); rw [Int.toNat_of_nonneg (by omega)], rfl, trivial⟩, trivial⟩, ?_⟩
  intro (n, s) ⟨hn, hs, hd⟩
  dsimp only at hn hs hd
  have hs' : 0 < n → s.size < 19 := by
    intro hpos
    rcases Nat.lt_or_ge s.size 19 with h | h
    · exact h
    · have : 19 - s.size = 0 := by omega
      rw [this] at hn; omega
  have hbig : n < 10 ^ 19 := Nat.lt_of_lt_of_le hn (Nat.pow_le_pow_right (by decide) (by omega))
  repeat' ((conv => whnf); first | (refine iteB_dec (fun h => ?_) (fun h => ?_) <;> (try simp (disch := (first | omega | fail)) only [modAt, List.length_take, List.length_drop, List.length_map, List.length_append, List.length_set, List.length_replicate, len_rowsPart, len_setCell, len_marks, len_markL] at h)) | (refine WrapB.mk ?_) | (refine And.intro (by first | exact True.intro | exact Nat.le_refl _ | fail) ?_) | fail)
  · have hpos : 0 < n := by simpa using ‹0 < ((n, s).1 : Int)›
    have hss := hs' hpos
    conv => whnf
    have hc : IntKind.u8.wrap (IntKind.i64.wrap (48 + (n : Int).tmod 10)) = ((48 + n % 10 : Nat) : Int) := by
      rw [Int.tmod_eq_emod_of_nonneg (by omega), wrap64 (by omega) (by omega), IntKind.wrap_u8]; omega
    refine And.intro ?_ ?_
    · show [[V.lit (.int .u8 (IntKind.u8.wrap (IntKind.i64.wrap (48 + (n : Int).tmod 10))))]] = byR (unbyR [[V.lit (.int .u8 (IntKind.u8.wrap (IntKind.i64.wrap (48 + (n : Int).tmod 10))))]])
      rw [hc]
      exact byte_row _ (by omega)
    conv => whnf
    refine And.intro ?_ ?_
    · show 1 + s.size ≤ 9223372036854775807
      omega
    conv => whnf
    have hsz : (ByteArray.mk #[UInt8.ofNat (48 + n % 10)] ++ s).size = 1 + s.size := by rw [ByteArray.size_append]; rfl
    refine ⟨[], (n / 10, ByteArray.mk #[UInt8.ofNat (48 + n % 10)] ++ s), ⟨?_, ?_, ?_⟩, ⟨⟨rfl, rfl⟩, ⟨?_, ?_, trivial⟩, trivial⟩, ?_⟩
    · show n / 10 < 10 ^ (19 - (ByteArray.mk #[UInt8.ofNat (48 + n % 10)] ++ s).size)
      rw [hsz]
      refine Nat.div_lt_of_lt_mul ?_
      have : 10 ^ (19 - s.size) = 10 * 10 ^ (19 - (1 + s.size)) := by rw [show 19 - s.size = (19 - (1 + s.size)) + 1 by omega, Nat.pow_succ, Nat.mul_comm]
      omega
    · show (ByteArray.mk #[UInt8.ofNat (48 + n % 10)] ++ s).size ≤ 19
      rw [hsz]; omega
    · show dig k.toNat .empty = dig (n / 10) (ByteArray.mk #[UInt8.ofNat (48 + n % 10)] ++ s)
      rw [hd]
      conv => lhs; rw [dig]
      rw [dif_neg (by omega)]
    · show V.lit (.int .i64 (IntKind.i64.wrap ((n : Int).tdiv 10))) = V.lit (.int .i64 ((n / 10 : Nat) : Int))
      rw [Int.tdiv_eq_ediv_of_nonneg (by omega), wrap64 (by omega) (by omega)]; rfl
    · show V.lit (.string (⟨#[UInt8.ofNat (Int.toNat (IntKind.u8.wrap (IntKind.i64.wrap (48 + (n : Int).tmod 10))))]⟩ ++ s)) = V.lit (.string (ByteArray.mk #[UInt8.ofNat (48 + n % 10)] ++ s))
      rw [hc, Int.toNat_natCast]
    · show n / 10 < n
      omega
  · have h0' : n = 0 := by
      have h : ¬ (0 < ((n, s).1 : Int)) := by assumption
      simp at h; omega
    subst h0'
    conv => whnf
    refine And.intro ?_ ?_
    · show 1 + s.size ≤ 9223372036854775807
      omega
    conv => whnf
    (refine .mk ⟨trivial, [], ⟨rfl, ?_⟩, List.nodup_nil, rfl, trivial⟩; show V.lit _ = V.lit _)
    show V.lit (.string (ByteArray.mk #[109] ++ s)) = V.lit (.string (markT k))
    rw [markT, if_neg h0, hd, dig, dif_pos rfl]
theorem F_l_markIntS (a : List Int) (n : Nat) (k : Int) (hn : n ≤ a.length) (ha : n ≤ 140737488351232) (hk : 0 ≤ k) (hk2 : k ≤ 4470000000000000000) : Fn pg 26 [.sl 0 [] 1 0 n, .lit (.int .i64 k)] [(0, false, 1, rowI a)] (.lit (.int .i64 (k + n))) [(0, false, 1, rowI (marks id k a n))] := by
  refine Fn.ofN [0,1,4,5,9] [0] Try.func26 (by rfl) rfl (by show 2 ≤ 19; decide) (by rfl) ?_
  repeat' ((conv => whnf); first | (refine iteB_dec (fun h => ?_) (fun h => ?_) <;> (try simp (disch := (first | omega | fail)) only [modAt, List.length_take, List.length_drop, List.length_map, List.length_append, List.length_set, List.length_replicate, len_rowsPart, len_setCell, len_marks, len_markL] at h)) | fail)
  refine ⟨Nat, fun i => i ≤ n, fun i => [(0, .sl 0 [] 1 0 n), (1, .lit (.int .i64 (k + i))), (5, .lit (.int .i64 i))], fun i => [(0, false, 1, rowI (marks id k a i))], fun i => n - i, ⟨[], 0, by omega, ⟨rfl, rfl⟩, ⟨by first | rfl | fail, by first | (show V.lit (Value.int _ _) = V.lit (Value.int _ _); first | (congr 2; first | omega | fail) | fail) | fail, by first | rfl | fail, trivial⟩, ⟨by show some (false, 1, rowI a) = some (false, 1, rowI (marks id k a 0)); rw [marks_zero], trivial⟩⟩, ?_⟩
  intro i hi
  repeat' ((conv => whnf); first | (refine iteB_dec (fun h => ?_) (fun h => ?_) <;> (try simp (disch := (first | omega | fail)) only [modAt, List.length_take, List.length_drop, List.length_map, List.length_append, List.length_set, List.length_replicate, len_rowsPart, len_setCell, len_marks, len_markL] at h)) | (refine wrapB_i64 (by first | omega | fail) (by first | omega | fail) ?_) | (refine And.intro (by first | exact True.intro | omega | (simp (disch := (first | omega | fail)) only [modAt, List.length_take, List.length_drop, List.length_map, List.length_append, List.length_set, List.length_replicate, len_rowsPart, len_setCell, len_marks, len_markL]; first | omega | fail) | fail) ?_) | (refine Exists.intro _ (And.intro (by first | exact (get_mapIC _ _ _ _ _ (by first | (simp (disch := (first | omega | fail)) only [modAt, List.length_take, List.length_drop, List.length_map, List.length_append, List.length_set, List.length_replicate, len_rowsPart, len_setCell, len_marks, len_markL]; first | omega | fail) | fail) (by exact rfl)) | fail) ?_)) | fail)
  · have hml : i < (marks id k a i).length := by rw [len_marks _ _ _ _ (by omega)]; omega
    refine ⟨[], i + 1, by omega, ⟨⟨rfl, rfl⟩, ⟨by first | rfl | fail, by first | (show V.lit (Value.int _ _) = V.lit (Value.int _ _); first | (congr 2; first | omega | fail) | fail) | fail, by first | rfl | fail, trivial⟩, boxEq (setCellM (eInt .i64) _ _ (.lit (.int .i64 (k + (i : Int)))) (id (k + (i : Int))) rfl hml rfl rfl (marks_succ id k a i (by omega))), trivial⟩, by first | (dsimp only; omega) | fail⟩
  · have hi' : i = n := by omega
    subst hi'
    refine .mk ⟨trivial, [], ⟨rfl, ?_⟩, List.nodup_nil, rfl, ?_⟩
    · rfl
    exact ⟨outOk_old (b := 0) (by decide) rfl, trivial⟩
theorem F_l_heldIntS (a : List Int) (k : Int) (ha : a.length ≤ 140737488351232) (hk : 0 ≤ k) (hk2 : k ≤ 4470000000000000000) : Fn pg 27 [.imm 1 (rowI a), .lit (.int .i64 k)] [] (.lit (.int .i64 (heldL id k a))) [] := by
  refine Fn.ofN [0,1,4,5,9,17] [] Try.func27 (by rfl) rfl (by show 2 ≤ 21; decide) (by rfl) ?_
  repeat' ((conv => whnf); first | (refine iteB_dec (fun h => ?_) (fun h => ?_) <;> (try simp (disch := (first | omega | fail)) only [modAt, List.length_take, List.length_drop, List.length_map, List.length_append, List.length_set, List.length_replicate, len_rowsPart, len_setCell, len_marks, len_markL] at h)) | fail)
  refine ⟨Nat, fun i => i ≤ a.length ∧ heldL id k a = heldL id (k + i) (a.drop i), fun i => [(0, .imm 1 (rowI a)), (1, .lit (.int .i64 (k + i))), (5, .lit (.int .i64 i))], fun i => [], fun i => a.length - i, ⟨[], 0, by simp, ⟨rfl, rfl⟩, ⟨by first | rfl | fail, by first | (show V.lit (Value.int _ _) = V.lit (Value.int _ _); first | (congr 2; first | omega | fail) | fail) | fail, by first | rfl | fail, trivial⟩, trivial⟩, ?_⟩
  intro i ⟨hi, hh⟩
  repeat' ((conv => whnf); first | (refine iteB_dec (fun h => ?_) (fun h => ?_) <;> (try simp (disch := (first | omega | fail)) only [modAt, List.length_take, List.length_drop, List.length_map, List.length_append, List.length_set, List.length_replicate, len_rowsPart, len_setCell, len_marks, len_markL] at h)) | (refine wrapB_i64 (by first | omega | fail) (by first | omega | fail) ?_) | (refine And.intro (by first | exact True.intro | omega | fail) ?_) | (refine Exists.intro _ (And.intro (rowGet _ _ _ (by omega)) ?_)) | fail)
  · rw [drop_cons _ _ (by omega)] at hh
    (refine .mk ⟨trivial, [], ⟨rfl, ?_⟩, List.nodup_nil, rfl, trivial⟩; show V.lit _ = V.lit _)
    simp_all [heldL]
  · rw [drop_cons _ _ (by omega)] at hh
    refine ⟨[], i + 1, ⟨by omega, ?_⟩, ⟨⟨rfl, rfl⟩, ⟨by first | rfl | fail, by first | (show V.lit (Value.int _ _) = V.lit (Value.int _ _); first | (congr 2; first | omega | fail) | fail) | fail, by first | rfl | fail, trivial⟩, trivial⟩, by first | (dsimp only; omega) | fail⟩
    rw [hh, show (k + ((i + 1 : Nat) : Int)) = k + i + 1 by omega]
    simp_all [heldL]
  · rw [List.drop_of_length_le (by omega)] at hh
    (refine .mk ⟨trivial, [], ⟨rfl, ?_⟩, List.nodup_nil, rfl, trivial⟩; show V.lit _ = V.lit _)
    simp only [heldL] at hh
    rw [hh]
    first | done | fail
theorem F_l_heldIntS_marked (n : Nat) (k : Int) (ha : n ≤ 140737488351232) (hk : 0 ≤ k) (hk2 : k ≤ 4470000000000000000) : Fn pg 27 [.imm 1 (rowI (markL id k n)), .lit (.int .i64 k)] [] (.lit (.int .i64 (k + n))) [] := by
  have := F_l_heldIntS (markL id k n) k (by rw [len_markL]; exact ha) hk hk2
  rwa [heldL_markL] at this


/-- Attributes, puts. -/
abbrev At := ByteArray × ByteArray
def eAt (p : At) : List V := [.lit (.string p.1), .lit (.string p.2)]
abbrev rowA (a : List At) : Row := a.map eAt
instance : Inhabited At := ⟨(.empty, .empty)⟩
abbrev Pt := Int × ByteArray
instance : Inhabited Pt := ⟨(0, .empty)⟩
theorem F_l_eqAttr (p q : At) : Fn pg 91 [.agg (eAt p), .agg (eAt q)] [] (.lit (.bool (decide (p = q)))) [] := by
  refine Fn.ofN [0,1,2,3,4,9,14] [1002,1003] Try.func91 (by rfl) rfl (by show 2 ≤ 15; decide) (by rfl) ?_
  repeat' ((conv => whnf); first | (refine iteB_dec (fun h => ?_) (fun h => ?_) <;> (try simp (disch := (first | omega | fail)) only [modAt, List.length_take, List.length_drop, List.length_map, List.length_append, List.length_set, List.length_replicate, len_rowsPart, len_setCell, len_marks, len_markL] at h)) | (refine Exists.intro _ (And.intro rfl ?_)) | fail)
  all_goals ((refine .mk ⟨trivial, [], ⟨rfl, ?_⟩, List.nodup_nil, rfl, trivial⟩; show V.lit _ = V.lit _); simp only [V.lit.injEq, Value.bool.injEq]; obtain ⟨p1, p2⟩ := p; obtain ⟨q1, q2⟩ := q; simp_all)
theorem F_l_eqAttrS (a b : List At) (ha : a.length ≤ 140737488351232) (hb : b.length ≤ 140737488351232) : Fn pg 80 [.imm 2 (rowA a), .imm 2 (rowA b)] [] (.lit (.bool (decide (a = b)))) [] := by
  refine Fn.ofN [0,1,4,5,10,14,26] [] Try.func80 (by rfl) rfl (by show 2 ≤ 27; decide) (by rfl) ?_
  repeat' ((conv => whnf); first | (refine iteB_dec (fun h => ?_) (fun h => ?_) <;> (try simp (disch := (first | omega | fail)) only [modAt, List.length_take, List.length_drop, List.length_map, List.length_append, List.length_set, List.length_replicate, len_rowsPart, len_setCell, len_marks, len_markL] at h)) | fail)
  · (refine .mk ⟨trivial, [], ⟨rfl, ?_⟩, List.nodup_nil, rfl, trivial⟩; show V.lit _ = V.lit _)
    have : a ≠ b := fun e => by subst e; omega
    simp [this]
  refine ⟨Nat, fun i => i ≤ a.length ∧ a.take i = b.take i, fun i => [(0, .imm 2 (rowA a)), (1, .imm 2 (rowA b)), (5, .lit (.int .i64 i))], fun i => [], fun i => a.length - i, ⟨[], 0, by simp, ⟨rfl, rfl⟩, ⟨by first | rfl | fail, by first | rfl | fail, by first | rfl | fail, trivial⟩, trivial⟩, ?_⟩
  intro i ⟨hi, ht⟩
  repeat' ((conv => whnf); first | (refine iteB_dec (fun h => ?_) (fun h => ?_) <;> (try simp (disch := (first | omega | fail)) only [modAt, List.length_take, List.length_drop, List.length_map, List.length_append, List.length_set, List.length_replicate, len_rowsPart, len_setCell, len_marks, len_markL] at h)) | (refine iteB_not ?_) | (refine wrapB_i64 (by first | omega | fail) (by first | omega | fail) ?_) | (refine And.intro (by first | exact True.intro | omega | fail) ?_) | (refine Exists.intro _ (And.intro (rowGet _ _ _ (by omega)) ?_)) | (refine Or.inl (And.intro (by decide +kernel) ?_)) | (apply callQ_i; (repeat ((conv => whnf); first | refine And.intro (by first | omega | fail) ?_ | fail)); ((conv => whnf); apply Exists.intro; (first | exact FnB.mk (F_l_eqAttr _ _) | fail))) | fail)
  · exact ⟨[], i + 1, ⟨by omega, eq_step (by omega) (by omega) (by simp_all) ht⟩, ⟨⟨rfl, rfl⟩, ⟨by first | rfl | fail, by first | rfl | fail, by first | rfl | fail, trivial⟩, trivial⟩, by first | (dsimp only; omega) | fail⟩
  · (refine .mk ⟨trivial, [], ⟨rfl, ?_⟩, List.nodup_nil, rfl, trivial⟩; show V.lit _ = V.lit _)
    simp only [V.lit.injEq, Value.bool.injEq]
    rw [decide_eq_false (ne_at (i := i) (by omega) (by omega) (by simp_all))]
  · (refine .mk ⟨trivial, [], ⟨rfl, ?_⟩, List.nodup_nil, rfl, trivial⟩; show V.lit _ = V.lit _)
    have : a = b := eq_all (by omega) (by omega) ht
    simp [this]
/-- Marks, each by what stands there. -/
def mkL {α : Type} (f : Int → α → α) (st : α → Nat) (k : Int) : List α → List α
  | [] => []
  | x :: r => f k x :: mkL f st (k + st x) r
def stL {α : Type} (st : α → Nat) : List α → Nat
  | [] => 0
  | x :: r => st x + stL st r
theorem len_mkL {α : Type} (f : Int → α → α) (st : α → Nat) (k : Int) (l : List α) : (mkL f st k l).length = l.length := by
  induction l generalizing k with
  | nil => rfl
  | cons x r ih => simp [mkL, ih]
theorem stL_append {α : Type} (st : α → Nat) (l r : List α) : stL st (l ++ r) = stL st l + stL st r := by
  induction l with
  | nil => simp [stL]
  | cons x l ih => simp [stL, ih]; omega
theorem mkL_append {α : Type} (f : Int → α → α) (st : α → Nat) (k : Int) (l r : List α) : mkL f st k (l ++ r) = mkL f st k l ++ mkL f st (k + stL st l) r := by
  induction l generalizing k with
  | nil => simp [mkL, stL]
  | cons x l ih => simp only [List.cons_append, mkL, stL, ih]; congr 3; omega
def marksN {α : Type} (f : Int → α → α) (st : α → Nat) (k : Int) (a : List α) (i : Nat) : List α := mkL f st k (a.take i) ++ a.drop i
theorem len_marksN {α : Type} (f : Int → α → α) (st : α → Nat) (k : Int) (a : List α) (i : Nat) : (marksN f st k a i).length = a.length := by
  simp [marksN, len_mkL]; omega
theorem marksN_zero {α : Type} (f : Int → α → α) (st : α → Nat) (k : Int) (a : List α) : marksN f st k a 0 = a := by simp [marksN, mkL]
theorem stL_succ {α : Type} (st : α → Nat) (a : List α) (i : Nat) (h : i < a.length) : stL st (a.take (i + 1)) = stL st (a.take i) + st a[i] := by
  rw [List.take_succ_eq_append_getElem h, stL_append]; rfl
theorem marksN_get {α : Type} (f : Int → α → α) (st : α → Nat) (k : Int) (a : List α) (i : Nat) (h : i < a.length) : (marksN f st k a i)[i]? = some a[i] := by
  unfold marksN
  rw [List.getElem?_append_right (by simp [len_mkL]; omega), len_mkL, List.length_take, Nat.min_eq_left (by omega), Nat.sub_self, List.getElem?_drop, Nat.add_zero, List.getElem?_eq_getElem h]
theorem marksN_succ {α : Type} (f : Int → α → α) (st : α → Nat) (k : Int) (a : List α) (i : Nat) (h : i < a.length) : (marksN f st k a i).set i (f (k + stL st (a.take i)) a[i]) = marksN f st k a (i + 1) := by
  unfold marksN
  rw [List.take_succ_eq_append_getElem h, mkL_append, List.set_append_right _ _ (by simp [len_mkL]; omega), len_mkL, List.length_take, Nat.min_eq_left (by omega), Nat.sub_self, drop_cons _ _ h, List.set_cons_zero]
  simp [mkL]
def heldG {α : Type} (hd : Int → α → Int) (k : Int) : List α → Int
  | [] => k
  | x :: r => if hd k x < 0 then -1 else heldG hd (hd k x) r
theorem heldG_mkL {α : Type} (hd : Int → α → Int) (f : Int → α → α) (st : α → Nat) (hh : ∀ (k : Int) (x : α), 0 ≤ k → hd k (f k x) = k + st x) : ∀ (l : List α) (k : Int), 0 ≤ k → heldG hd k (mkL f st k l) = k + stL st l := by
  intro l
  induction l with
  | nil => intro k _; simp [mkL, heldG, stL]
  | cons x r ih =>
    intro k hk
    simp only [mkL, heldG, stL]
    rw [hh k x hk, if_neg (by omega), ih _ (by omega)]; omega
theorem get_marksNC {α : Type} (E : α → List V) (f : Int → α → α) (st : α → Nat) (k : Int) (a : List α) (i j : Nat) (v : V) (h : i < a.length) (hv : (E a[i])[j]? = some v) : cellAt (List.map E (marksN f st k a i)) (((i : Nat) : Int).toNat + 0) j = some v := by
  rw [Int.toNat_natCast, Nat.add_zero]
  unfold cellAt
  rw [List.getElem?_map, marksN_get _ _ _ _ _ h]; exact hv
theorem get_marksNR {α : Type} (E : α → List V) (f : Int → α → α) (st : α → Nat) (k : Int) (a : List α) (i : Nat) (h : i < a.length) : (List.map E (marksN f st k a i))[((i : Nat) : Int).toNat + 0]? = some (E a[i]) := by
  rw [Int.toNat_natCast, Nat.add_zero, List.getElem?_map, marksN_get _ _ _ _ _ h]; rfl
def mkAt (k : Int) (_ : At) : At := (markT k, markT (k + 1))
def two {α : Type} (_ : α) : Nat := 2
theorem stL_two {α : Type} (l : List α) : stL two l = 2 * l.length := by
  induction l with
  | nil => rfl
  | cons x r ih => simp only [stL, two, ih, List.length_cons]; omega
theorem F_l_markAttrS (a : List At) (n : Nat) (k : Int) (hn : n ≤ a.length) (ha : n ≤ 140737488351232) (hk : 0 ≤ k) (hk2 : k ≤ 4470000000000000000) : Fn pg 61 [.sl 0 [] 2 0 n, .lit (.int .i64 k)] [(0, false, 2, rowA a)] (.lit (.int .i64 (k + stL two (a.take n)))) [(0, false, 2, rowA (marksN mkAt two k a n))] := by
  refine Fn.ofN [0,1,4,5,9] [0] Try.func61 (by rfl) rfl (by show 2 ≤ 29; decide) (by rfl) ?_
  repeat' ((conv => whnf); first | (refine iteB_dec (fun h => ?_) (fun h => ?_) <;> (try simp (disch := (first | omega | fail)) only [modAt, List.length_take, List.length_drop, List.length_map, List.length_append, List.length_set, List.length_replicate, len_rowsPart, len_setCell, len_marks, len_markL, len_mkL, len_marksN] at h)) | fail)
  refine ⟨Nat, fun i => i ≤ n, fun i => [(0, .sl 0 [] 2 0 n), (1, .lit (.int .i64 (k + stL two (a.take i)))), (5, .lit (.int .i64 i))], fun i => [(0, false, 2, rowA (marksN mkAt two k a i))], fun i => n - i, ⟨[], 0, by omega, ⟨rfl, rfl⟩, ⟨by first | rfl | fail, by simp [stL]; rfl, by first | rfl | fail, trivial⟩, ⟨boxEq (congrArg rowA (marksN_zero _ _ _ _).symm), trivial⟩⟩, ?_⟩
  intro i hi
  have hst : stL two (a.take i) = 2 * i := by rw [stL_two, List.length_take]; omega
  repeat' ((conv => whnf); first | (refine iteB_dec (fun h => ?_) (fun h => ?_) <;> (try simp (disch := (first | omega | fail)) only [modAt, List.length_take, List.length_drop, List.length_map, List.length_append, List.length_set, List.length_replicate, len_rowsPart, len_setCell, len_marks, len_markL, len_mkL, len_marksN] at h)) | (refine wrapB_i64 (by first | omega | fail) (by first | omega | fail) ?_) | (refine And.intro (by first | exact True.intro | omega | (simp (disch := (first | omega | fail)) only [modAt, List.length_take, List.length_drop, List.length_map, List.length_append, List.length_set, List.length_replicate, len_rowsPart, len_setCell, len_marks, len_markL, len_mkL, len_marksN]; first | omega | fail) | fail) ?_) | (refine Exists.intro _ (And.intro (by first | exact (get_marksNC _ _ _ _ _ _ _ _ (by first | omega | fail) (by exact rfl)) | exact (get_setC (by decide) (get_marksNC _ _ _ _ _ _ _ _ (by first | omega | fail) (by exact rfl))) | fail) ?_)) | (refine Or.inl ?_; apply callV_i; (repeat ((conv => whnf); first | refine And.intro (by first | omega | fail) ?_ | fail)); ((conv => whnf); first | exact FnB.mk (F_l_markText _ (by first | omega | fail)) | fail); refine ⟨rfl, rfl, ?_⟩) | fail)
  · have hml : i < (marksN mkAt two k a i).length := by rw [len_marksN]; omega
    have hs1 := stL_succ two a i (by omega)
    have hge : (marksN mkAt two k a i)[i] = a[i]'(by omega) := Option.some.inj ((List.getElem?_eq_getElem hml).symm.trans (marksN_get _ _ _ _ _ (by omega)))
    refine ⟨[], i + 1, by omega, ⟨⟨rfl, rfl⟩, ⟨by first | rfl | fail, by rw [hs1]; (show V.lit (.int .i64 _) = V.lit (.int .i64 _)); congr 2; simp only [two]; omega, by first | rfl | fail, trivial⟩, ⟨boxEq ?_, trivial⟩⟩, by first | (dsimp only; omega) | fail⟩
    show setCs (List.map eAt (marksN mkAt two k a i)) (Int.toNat (i : Int) + 0) [(0, _), (1, _)] = List.map eAt (marksN mkAt two k a (i + 1))
    exact setCs_map eAt _ _ (mkAt (k + stL two (a.take i)) (a[i]'(by omega))) rfl hml rfl (marksN_succ _ _ _ _ _ (by omega))
  · have hi' : i = n := by omega
    subst hi'
    refine .mk ⟨trivial, [], ⟨rfl, ?_⟩, List.nodup_nil, rfl, ?_⟩
    · rfl
    exact ⟨outOk_old (b := 0) (by decide) rfl, trivial⟩
theorem marksN_all {α : Type} (f : Int → α → α) (st : α → Nat) (k : Int) (a : List α) : marksN f st k a a.length = mkL f st k a := by simp [marksN]
theorem marks_all {α : Type} (f : Int → α) (k : Int) (a : List α) : marks f k a a.length = markL f k a.length := by simp [marks, markL]
theorem F_l_markAttrS_all (a : List At) (n : Nat) (k : Int) (hn : n = a.length) (ha : n ≤ 140737488351232) (hk : 0 ≤ k) (hk2 : k ≤ 4470000000000000000) : Fn pg 61 [.sl 0 [] 2 0 n, .lit (.int .i64 k)] [(0, false, 2, rowA a)] (.lit (.int .i64 (k + 2 * a.length))) [(0, false, 2, rowA (mkL mkAt two k a))] := by
  have h := F_l_markAttrS a n k (by omega) ha hk hk2
  subst hn
  rw [List.take_length, marksN_all, stL_two] at h
  exact h
theorem F_l_markIntS_all (a : List Int) (n : Nat) (k : Int) (hn : n = a.length) (ha : n ≤ 140737488351232) (hk : 0 ≤ k) (hk2 : k ≤ 4470000000000000000) : Fn pg 26 [.sl 0 [] 1 0 n, .lit (.int .i64 k)] [(0, false, 1, rowI a)] (.lit (.int .i64 (k + a.length))) [(0, false, 1, rowI (markL id k a.length))] := by
  have h := F_l_markIntS a n k (by omega) ha hk hk2
  subst hn
  rw [marks_all] at h
  exact h
def hdAt (k : Int) (x : At) : Int := if x.1 = markT k then (if x.2 = markT (k + 1) then k + 1 + 1 else -1) else -1
theorem hdAt_mk (k : Int) (x : At) (h : 0 ≤ k) : hdAt k (mkAt k x) = k + two x := by simp [hdAt, mkAt, two]; omega
theorem F_l_heldAttrS (a : List At) (k : Int) (ha : a.length ≤ 140737488351232) (hk : 0 ≤ k) (hk2 : k ≤ 4470000000000000000) : Fn pg 62 [.imm 2 (rowA a), .lit (.int .i64 k)] [] (.lit (.int .i64 (heldG hdAt k a))) [] := by
  refine Fn.ofN [0,1,4,5,9,19,29] [] Try.func62 (by rfl) rfl (by show 2 ≤ 33; decide) (by rfl) ?_
  repeat' ((conv => whnf); first | (refine iteB_dec (fun h => ?_) (fun h => ?_) <;> (try simp (disch := (first | omega | fail)) only [modAt, List.length_take, List.length_drop, List.length_map, List.length_append, List.length_set, List.length_replicate, len_rowsPart, len_setCell, len_marks, len_markL, len_mkL, len_marksN] at h)) | fail)
  refine ⟨Nat, fun i => i ≤ a.length ∧ heldG hdAt k a = heldG hdAt (k + 2 * i) (a.drop i), fun i => [(0, .imm 2 (rowA a)), (1, .lit (.int .i64 (k + 2 * i))), (5, .lit (.int .i64 i))], fun i => [], fun i => a.length - i, ⟨[], 0, by simp, ⟨rfl, rfl⟩, ⟨by first | rfl | fail, by first | (show V.lit (Value.int _ _) = V.lit (Value.int _ _); first | (congr 2; first | omega | fail) | fail) | fail, by first | rfl | fail, trivial⟩, trivial⟩, ?_⟩
  intro i ⟨hi, hh⟩
  repeat' ((conv => whnf); first | (refine iteB_dec (fun h => ?_) (fun h => ?_) <;> (try simp (disch := (first | omega | fail)) only [modAt, List.length_take, List.length_drop, List.length_map, List.length_append, List.length_set, List.length_replicate, len_rowsPart, len_setCell, len_marks, len_markL, len_mkL, len_marksN] at h)) | (refine wrapB_i64 (by first | omega | fail) (by first | omega | fail) ?_) | (refine And.intro (by first | exact True.intro | omega | fail) ?_) | (refine Exists.intro _ (And.intro (rowGet _ _ _ (by omega)) ?_)) | (refine Or.inl (And.intro (by decide +kernel) ?_)) | (apply callQ_i; (repeat ((conv => whnf); first | refine And.intro (by first | omega | fail) ?_ | fail)); ((conv => whnf); apply Exists.intro; (first | exact FnB.mk (F_l_markText _ (by first | omega | fail)) | fail))) | fail)
  · rw [drop_cons _ _ (by omega)] at hh
    (refine .mk ⟨trivial, [], ⟨rfl, ?_⟩, List.nodup_nil, rfl, trivial⟩; show V.lit _ = V.lit _)
    rw [hh]; simp_all [heldG, hdAt]
  · rw [drop_cons _ _ (by omega)] at hh
    (refine .mk ⟨trivial, [], ⟨rfl, ?_⟩, List.nodup_nil, rfl, trivial⟩; show V.lit _ = V.lit _)
    rw [hh]; simp_all [heldG, hdAt]
  · rw [drop_cons _ _ (by omega)] at hh
    refine ⟨[], i + 1, ⟨by omega, ?_⟩, ⟨⟨rfl, rfl⟩, ⟨by first | rfl | fail, by first | (show V.lit (Value.int _ _) = V.lit (Value.int _ _); first | (congr 2; first | omega | fail) | fail) | fail, by first | rfl | fail, trivial⟩, trivial⟩, by first | (dsimp only; omega) | fail⟩
    have e1 : hdAt (k + 2 * i) (a[i]'(by omega)) = k + 2 * ((i + 1 : Nat) : Int) := by simp_all [hdAt]; omega
    rw [hh]; simp only [heldG]; rw [e1, if_neg (by omega)]
  · rw [List.drop_of_length_le (by omega)] at hh
    (refine .mk ⟨trivial, [], ⟨rfl, ?_⟩, List.nodup_nil, rfl, trivial⟩; show V.lit _ = V.lit _)
    rw [hh]; simp only [heldG]
    first | done | fail
theorem F_l_heldAttrS_marked (a : List At) (k : Int) (ha : a.length ≤ 140737488351232) (hk : 0 ≤ k) (hk2 : k ≤ 4470000000000000000) : Fn pg 62 [.imm 2 (rowA (mkL mkAt two k a)), .lit (.int .i64 k)] [] (.lit (.int .i64 (k + stL two a))) [] := by
  have := F_l_heldAttrS (mkL mkAt two k a) k (by rw [len_mkL]; exact ha) hk hk2
  rwa [heldG_mkL hdAt mkAt two hdAt_mk a k hk] at this


/-- Nodes: kind, name, attributes, text, parent, kids. -/
abbrev Nd := Int × ByteArray × List At × ByteArray × Int × List Int
def eNd (p : Nd) : List V := [.lit (.int .i64 p.1), .lit (.string p.2.1), .own 2 (rowA p.2.2.1), .lit (.string p.2.2.2.1), .lit (.int .i64 p.2.2.2.2.1), .own 1 (rowI p.2.2.2.2.2)]
def sNd (p : Nd) : List V := [.lit (.int .i64 p.1), .lit (.string p.2.1), .imm 2 (rowA p.2.2.1), .lit (.string p.2.2.2.1), .lit (.int .i64 p.2.2.2.2.1), .imm 1 (rowI p.2.2.2.2.2)]
abbrev rowN (a : List Nd) : Row := a.map eNd
instance : DecidableEq Nd := fun p q => inferInstance
instance : DecidableEq (List Nd) := fun p q => inferInstance
instance : Inhabited Nd := ⟨(0, .empty, [], .empty, 0, [])⟩
/-- What is bounded of a node. -/
def ndOk (p : Nd) : Prop := p.2.1.size ≤ 140737488351232 ∧ (p.2.2.1.length * 32 ≤ 140737488351232 ∧ ∀ x ∈ p.2.2.1, x.1.size ≤ 140737488351232 ∧ x.2.size ≤ 140737488351232) ∧ p.2.2.2.1.size ≤ 140737488351232 ∧ p.2.2.2.2.2.length * 8 ≤ 140737488351232
abbrev sTr (t : List Nd) : V := .agg [.imm 6 (rowN t)]
theorem F_l_eqNode (p q : Nd) (hp : ndOk p) (hq : ndOk q) : Fn pg 59 [.agg (sNd p), .agg (sNd q)] [] (.lit (.bool (decide (p = q)))) [] := by
  obtain ⟨h1, ⟨h2, h3⟩, h4, h5⟩ := hp
  obtain ⟨g1, ⟨g2, g3⟩, g4, g5⟩ := hq
  refine Fn.ofN [0,1,2,3,4,9,14,20,25,30,36] [1002,1003] Try.func59 (by rfl) rfl (by show 2 ≤ 37; decide) (by rfl) ?_
  repeat' ((conv => whnf); first | (refine iteB_dec (fun h => ?_) (fun h => ?_) <;> (try simp (disch := (first | omega | fail)) only [modAt, List.length_take, List.length_drop, List.length_map, List.length_append, List.length_set, List.length_replicate, len_rowsPart, len_setCell, len_marks, len_markL, len_mkL, len_marksN] at h)) | (refine iteB_not ?_) | (refine Exists.intro _ (And.intro rfl ?_)) | (refine Or.inl ?_; apply callV_i; (repeat ((conv => whnf); first | refine And.intro (by first | omega | fail) ?_ | fail)); ((conv => whnf); first | exact FnB.mk (F_l_eqIntS _ _ (by first | omega | fail) (by first | omega | fail)) | exact FnB.mk (F_l_eqAttrS _ _ (by first | omega | fail) (by first | omega | fail)) | fail); refine ⟨rfl, rfl, ?_⟩) | fail)
  all_goals ((refine .mk ⟨trivial, [], ⟨rfl, ?_⟩, List.nodup_nil, rfl, trivial⟩; show V.lit _ = V.lit _); obtain ⟨a1, a2, a3, a4, a5, a6⟩ := p; obtain ⟨b1, b2, b3, b4, b5, b6⟩ := q; simp_all)
theorem F_l_eqNodeS (a b : List Nd) (ha : a.length ≤ 140737488351232) (hb : b.length ≤ 140737488351232) (hp : ∀ x ∈ a, ndOk x) (hq : ∀ x ∈ b, ndOk x) : Fn pg 38 [.imm 6 (rowN a), .imm 6 (rowN b)] [] (.lit (.bool (decide (a = b)))) [] := by
  refine Fn.ofN [0,1,4,5,10,14,26] [] Try.func38 (by rfl) rfl (by show 2 ≤ 27; decide) (by rfl) ?_
  repeat' ((conv => whnf); first | (refine iteB_dec (fun h => ?_) (fun h => ?_) <;> (try simp (disch := (first | omega | fail)) only [modAt, List.length_take, List.length_drop, List.length_map, List.length_append, List.length_set, List.length_replicate, len_rowsPart, len_setCell, len_marks, len_markL, len_mkL, len_marksN] at h)) | fail)
  · (refine .mk ⟨trivial, [], ⟨rfl, ?_⟩, List.nodup_nil, rfl, trivial⟩; show V.lit _ = V.lit _)
    have : a ≠ b := fun e => by subst e; omega
    simp [this]
  refine ⟨Nat, fun i => i ≤ a.length ∧ a.take i = b.take i, fun i => [(0, .imm 6 (rowN a)), (1, .imm 6 (rowN b)), (5, .lit (.int .i64 i))], fun i => [], fun i => a.length - i, ⟨[], 0, by simp, ⟨rfl, rfl⟩, ⟨by first | rfl | fail, by first | rfl | fail, by first | rfl | fail, trivial⟩, trivial⟩, ?_⟩
  intro i ⟨hi, ht⟩
  by_cases hlt : i < a.length
  · have hpi := hp _ (List.getElem_mem hlt)
    have hqi := hq _ (List.getElem_mem (show i < b.length by omega))
    repeat' ((conv => whnf); first | (refine iteB_dec (fun h => ?_) (fun h => ?_) <;> (try simp (disch := (first | omega | fail)) only [modAt, List.length_take, List.length_drop, List.length_map, List.length_append, List.length_set, List.length_replicate, len_rowsPart, len_setCell, len_marks, len_markL, len_mkL, len_marksN] at h)) | (refine iteB_not ?_) | (refine wrapB_i64 (by first | omega | fail) (by first | omega | fail) ?_) | (refine And.intro (by first | exact True.intro | omega | fail) ?_) | (refine Exists.intro _ (And.intro (rowGet _ _ _ (by omega)) ?_)) | (refine Or.inl (And.intro (by decide +kernel) ?_)) | (apply callQ_i; (repeat ((conv => whnf); first | refine And.intro (by first | omega | fail) ?_ | fail)); ((conv => whnf); apply Exists.intro; (first | exact FnB.mk (F_l_eqNode _ _ (by first | omega | fail) (by first | omega | fail)) | fail))) | fail)
    · exact ⟨[], i + 1, ⟨by omega, eq_step (by omega) (by omega) (by simp_all) ht⟩, ⟨⟨rfl, rfl⟩, ⟨by first | rfl | fail, by first | rfl | fail, by first | rfl | fail, trivial⟩, trivial⟩, by first | (dsimp only; omega) | fail⟩
    · (refine .mk ⟨trivial, [], ⟨rfl, ?_⟩, List.nodup_nil, rfl, trivial⟩; show V.lit _ = V.lit _)
      simp only [V.lit.injEq, Value.bool.injEq]
      rw [decide_eq_false (ne_at (i := i) (by omega) (by omega) (by first | assumption | fail))]
    · exfalso; omega
  · repeat' ((conv => whnf); first | (refine iteB_dec (fun h => ?_) (fun h => ?_) <;> (try simp (disch := (first | omega | fail)) only [modAt, List.length_take, List.length_drop, List.length_map, List.length_append, List.length_set, List.length_replicate, len_rowsPart, len_setCell, len_marks, len_markL, len_mkL, len_marksN] at h)) | (refine iteB_not ?_) | (refine wrapB_i64 (by first | omega | fail) (by first | omega | fail) ?_) | (refine And.intro (by first | exact True.intro | omega | fail) ?_) | (refine Exists.intro _ (And.intro (rowGet _ _ _ (by omega)) ?_)) | (refine Or.inl (And.intro (by decide +kernel) ?_)) | (apply callQ_i; (repeat ((conv => whnf); first | refine And.intro (by first | omega | fail) ?_ | fail)); ((conv => whnf); apply Exists.intro; (first | exact FnB.mk (F_l_eqNode _ _ (by first | omega | fail) (by first | omega | fail)) | fail))) | fail)
    all_goals first | (exfalso; omega) | skip | fail
    (refine .mk ⟨trivial, [], ⟨rfl, ?_⟩, List.nodup_nil, rfl, trivial⟩; show V.lit _ = V.lit _)
    have : a = b := eq_all (by omega) (by omega) ht
    simp [this]
theorem F_l_eqTree (a b : List Nd) (ha : a.length ≤ 140737488351232) (hb : b.length ≤ 140737488351232) (hp : ∀ x ∈ a, ndOk x) (hq : ∀ x ∈ b, ndOk x) : Fn pg 16 [sTr a, sTr b] [] (.lit (.bool (decide (a = b)))) [] := by
  refine Fn.ofN [0,1,2,3,4,10] [1002,1003] Try.func16 (by rfl) rfl (by show 2 ≤ 11; decide) (by rfl) ?_
  repeat' ((conv => whnf); first | (refine iteB_dec (fun h => ?_) (fun h => ?_) <;> (try simp (disch := (first | omega | fail)) only [modAt, List.length_take, List.length_drop, List.length_map, List.length_append, List.length_set, List.length_replicate, len_rowsPart, len_setCell, len_marks, len_markL, len_mkL, len_marksN] at h)) | (refine iteB_not ?_) | (refine Exists.intro _ (And.intro rfl ?_)) | (refine Or.inl ?_; apply callV_i; (repeat ((conv => whnf); first | refine And.intro (by first | omega | fail) ?_ | fail)); ((conv => whnf); first | exact FnB.mk (F_l_eqNodeS _ _ (by first | omega | fail) (by first | omega | fail) (by first | omega | fail) (by first | omega | fail)) | fail); refine ⟨rfl, rfl, ?_⟩) | fail)
  all_goals ((refine .mk ⟨trivial, [], ⟨rfl, ?_⟩, List.nodup_nil, rfl, trivial⟩; show V.lit _ = V.lit _); simp_all)


theorem stL_take_le {α : Type} (st : α → Nat) (a : List α) (i : Nat) : stL st (a.take i) ≤ stL st a := by
  have := stL_append st (a.take i) (a.drop i)
  rw [List.take_append_drop] at this; omega
def stNd (p : Nd) : Nat := 4 + 2 * p.2.2.1.length + p.2.2.2.2.2.length
def mkNd (k : Int) (p : Nd) : Nd := (k, markT (k + 1), mkL mkAt two (k + 1 + 1) p.2.2.1, markT (k + 1 + 1 + 2 * p.2.2.1.length), k + 1 + 1 + 2 * p.2.2.1.length + 1, markL id (k + 1 + 1 + 2 * p.2.2.1.length + 1 + 1) p.2.2.2.2.2.length)
theorem F_l_markNodeS (a : List Nd) (n : Nat) (k : Int) (hn : n ≤ a.length) (ha : n ≤ 140737488351232) (hk : 0 ≤ k) (hk2 : k + stL stNd a ≤ 4460000000000000000) (hp : ∀ x ∈ a, x.2.2.1.length ≤ 140737488351232 ∧ x.2.2.2.2.2.length ≤ 140737488351232) : Fn pg 39 [.sl 0 [] 6 0 n, .lit (.int .i64 k)] [(0, false, 6, rowN a)] (.lit (.int .i64 (k + stL stNd (a.take n)))) [(0, false, 6, rowN (marksN mkNd stNd k a n))] := by
  refine Fn.ofN [0,1,4,5,9] [0] Try.func39 (by rfl) rfl (by show 2 ≤ 57; decide) (by rfl) ?_
  repeat' ((conv => whnf); first | (refine iteB_dec (fun h => ?_) (fun h => ?_) <;> (try simp (disch := (first | omega | fail)) only [modAt, List.length_take, List.length_drop, List.length_map, List.length_append, List.length_set, List.length_replicate, len_rowsPart, len_setCell, len_marks, len_markL, len_mkL, len_marksN] at h)) | fail)
  refine ⟨Nat, fun i => i ≤ n, fun i => [(0, .sl 0 [] 6 0 n), (1, .lit (.int .i64 (k + stL stNd (a.take i)))), (5, .lit (.int .i64 i))], fun i => [(0, false, 6, rowN (marksN mkNd stNd k a i))], fun i => n - i, ⟨[], 0, by omega, ⟨rfl, rfl⟩, ⟨by first | rfl | fail, by simp [stL]; rfl, by first | rfl | fail, trivial⟩, ⟨boxEq (congrArg rowN (marksN_zero _ _ _ _).symm), trivial⟩⟩, ?_⟩
  intro i hi
  by_cases hlt : i < n
  · have hst := stL_succ stNd a i (by omega)
    have hle := stL_take_le stNd a (i + 1)
    have hpi := hp _ (List.getElem_mem (show i < a.length by omega))
    have h2a := stL_two (a[i]'(by omega)).2.2.1
    have hal : stNd (a[i]'(by omega)) = 4 + 2 * (a[i]'(by omega)).2.2.1.length + (a[i]'(by omega)).2.2.2.2.2.length := rfl
    repeat' ((conv => whnf); first | (refine iteB_dec (fun h => ?_) (fun h => ?_) <;> (try simp (disch := (first | omega | fail)) only [modAt, List.length_take, List.length_drop, List.length_map, List.length_append, List.length_set, List.length_replicate, len_rowsPart, len_setCell, len_marks, len_markL, len_mkL, len_marksN] at h)) | (refine wrapB_i64 (by first | omega | fail) (by first | omega | fail) ?_) | (refine And.intro (by first | exact True.intro | omega | (simp (disch := (first | omega | fail)) only [modAt, List.length_take, List.length_drop, List.length_map, List.length_append, List.length_set, List.length_replicate, len_rowsPart, len_setCell, len_marks, len_markL, len_mkL, len_marksN]; first | omega | fail) | fail) ?_) | (refine Exists.intro _ (And.intro (by first | exact (get_marksNC _ _ _ _ _ _ _ _ (by first | omega | fail) (by exact rfl)) | exact (get_setC (by decide) (get_marksNC _ _ _ _ _ _ _ _ (by first | omega | fail) (by exact rfl))) | exact (get_setC (by decide) (get_setC (by decide) (get_setC (by decide) (get_marksNC _ _ _ _ _ _ _ _ (by first | omega | fail) (by exact rfl))))) | exact (get_setC (by decide) (get_setC (by decide) (get_setC (by decide) (get_setC (by decide) (get_marksNC _ _ _ _ _ _ _ _ (by first | omega | fail) (by exact rfl)))))) | fail) ?_)) | (refine Exists.intro _ (And.intro (by first | exact (get_setR (get_setR (get_marksNR _ _ _ _ _ _ (by first | omega | fail)))) | exact (get_setR (get_setR (get_setR (get_setR (get_setR (get_marksNR _ _ _ _ _ _ (by first | omega | fail))))))) | fail) ?_)) | (refine Or.inl ?_; apply callV_i; (repeat ((conv => whnf); first | refine And.intro (by first | omega | fail) ?_ | fail)); ((conv => whnf); first | exact FnB.mk (F_l_markText _ (by first | omega | fail)) | fail); refine ⟨rfl, rfl, ?_⟩) | (refine Or.inr (Or.inr (callO_ok ?_)); (conv => whnf); refine Exists.intro _ (And.intro (by first | exact (get_setC (by decide) (get_setC (by decide) (get_marksNC _ _ _ _ _ _ _ _ (by first | omega | fail) (by exact rfl)))) | exact (get_setC (by decide) (get_setC (by decide) (get_setC (by decide) (get_setC (by decide) (get_setC (by decide) (get_marksNC _ _ _ _ _ _ _ _ (by first | omega | fail) (by exact rfl))))))) | fail) ?_); apply Exists.intro; apply Exists.intro; apply And.intro; (first | exact FnB.mk (F_l_markIntS_all _ _ _ (by first | (simp_all; done) | fail) (by first | (simp; omega) | fail) (by first | omega | fail) (by first | omega | fail)) | exact FnB.mk (F_l_markAttrS_all _ _ _ (by first | (simp_all; done) | fail) (by first | (simp; omega) | fail) (by first | omega | fail) (by first | omega | fail)) | fail); refine And.intro (by first | (simp (disch := (first | omega | fail)) only [modAt, List.length_take, List.length_drop, List.length_map, List.length_append, List.length_set, List.length_replicate, len_rowsPart, len_setCell, len_marks, len_markL, len_mkL, len_marksN]; first | done | fail) | fail) ?_) | fail)
    all_goals first | (exfalso; omega) | skip | fail
    have hml : i < (marksN mkNd stNd k a i).length := by rw [len_marksN]; omega
    have hge : (marksN mkNd stNd k a i)[i] = a[i]'(by omega) := Option.some.inj ((List.getElem?_eq_getElem hml).symm.trans (marksN_get _ _ _ _ _ (by omega)))
    refine ⟨[], i + 1, by omega, ⟨⟨rfl, rfl⟩, ⟨by first | rfl | fail, by rw [hst]; (show V.lit (.int .i64 _) = V.lit (.int .i64 _)); congr 2; omega, by first | rfl | fail, trivial⟩, ⟨boxEq ?_, trivial⟩⟩, by first | (dsimp only; omega) | fail⟩
    show setCs (List.map eNd (marksN mkNd stNd k a i)) (Int.toNat (i : Int) + 0) [(0, _), (1, _), (2, _), (3, _), (4, _), (5, _)] = List.map eNd (marksN mkNd stNd k a (i + 1))
    exact setCs_map eNd _ _ (mkNd (k + stL stNd (a.take i)) (a[i]'(by omega))) rfl hml rfl (marksN_succ _ _ _ _ _ (by omega))
  · obtain rfl : i = n := by omega
    repeat' ((conv => whnf); first | (refine iteB_dec (fun h => ?_) (fun h => ?_) <;> (try simp (disch := (first | omega | fail)) only [modAt, List.length_take, List.length_drop, List.length_map, List.length_append, List.length_set, List.length_replicate, len_rowsPart, len_setCell, len_marks, len_markL, len_mkL, len_marksN] at h)) | (refine wrapB_i64 (by first | omega | fail) (by first | omega | fail) ?_) | (refine And.intro (by first | exact True.intro | omega | fail) ?_) | (refine Exists.intro _ (And.intro (by first | exact (get_marksNC _ _ _ _ _ _ _ _ (by first | omega | fail) (by exact rfl)) | exact (get_setC (by decide) (get_marksNC _ _ _ _ _ _ _ _ (by first | omega | fail) (by exact rfl))) | exact (get_setC (by decide) (get_setC (by decide) (get_setC (by decide) (get_marksNC _ _ _ _ _ _ _ _ (by first | omega | fail) (by exact rfl))))) | exact (get_setC (by decide) (get_setC (by decide) (get_setC (by decide) (get_setC (by decide) (get_marksNC _ _ _ _ _ _ _ _ (by first | omega | fail) (by exact rfl)))))) | fail) ?_)) | (refine Exists.intro _ (And.intro (by first | exact (get_setR (get_setR (get_marksNR _ _ _ _ _ _ (by first | omega | fail)))) | exact (get_setR (get_setR (get_setR (get_setR (get_setR (get_marksNR _ _ _ _ _ _ (by first | omega | fail))))))) | fail) ?_)) | (refine Or.inl ?_; apply callV_i; (repeat ((conv => whnf); first | refine And.intro (by first | omega | fail) ?_ | fail)); ((conv => whnf); first | exact FnB.mk (F_l_markText _ (by first | omega | fail)) | fail); refine ⟨rfl, rfl, ?_⟩) | (refine Or.inr (Or.inr (callO_ok ?_)); (conv => whnf); refine Exists.intro _ (And.intro (by first | exact (get_setC (by decide) (get_setC (by decide) (get_marksNC _ _ _ _ _ _ _ _ (by first | omega | fail) (by exact rfl)))) | exact (get_setC (by decide) (get_setC (by decide) (get_setC (by decide) (get_setC (by decide) (get_setC (by decide) (get_marksNC _ _ _ _ _ _ _ _ (by first | omega | fail) (by exact rfl))))))) | fail) ?_); apply Exists.intro; apply Exists.intro; apply And.intro; (first | exact FnB.mk (F_l_markIntS_all _ _ _ (by first | omega | fail) (by first | omega | fail) (by first | omega | fail) (by first | omega | fail)) | exact FnB.mk (F_l_markAttrS_all _ _ _ (by first | omega | fail) (by first | omega | fail) (by first | omega | fail) (by first | omega | fail)) | fail); refine And.intro (by first | omega | fail) ?_) | fail)
    all_goals first | (exfalso; omega) | skip | fail
    refine .mk ⟨trivial, [], ⟨rfl, ?_⟩, List.nodup_nil, rfl, ?_⟩
    · rfl
    exact ⟨outOk_old (b := 0) (by decide) rfl, trivial⟩
theorem F_l_markTree (a : List Nd) (n : Nat) (k : Int) (hn : n ≤ a.length) (ha : n ≤ 140737488351232) (hk : 0 ≤ k) (hk2 : k + stL stNd a ≤ 4460000000000000000) (hp : ∀ x ∈ a, x.2.2.1.length ≤ 140737488351232 ∧ x.2.2.2.2.2.length ≤ 140737488351232) : Fn pg 17 [.agg [.sl 0 [] 6 0 n], .lit (.int .i64 k)] [(0, false, 6, rowN a)] (.lit (.int .i64 (k + stL stNd (a.take n)))) [(0, false, 6, rowN (marksN mkNd stNd k a n))] := by
  refine Fn.ofN [0,1,2,4] [0,1002] Try.func17 (by rfl) rfl (by show 2 ≤ 10; decide) (by rfl) ?_
  repeat' ((conv => whnf); first | (refine Exists.intro _ (And.intro rfl ?_)) | (refine And.intro (by first | exact True.intro | (simp (disch := (first | omega | fail)) only [modAt, List.length_take, List.length_drop, List.length_map, List.length_append, List.length_set, List.length_replicate, len_rowsPart, len_setCell, len_marks, len_markL, len_mkL, len_marksN]; first | done | fail) | fail) ?_) | (refine Or.inr (Or.inr (callA_ok ?_)); (conv => whnf); apply Exists.intro; apply Exists.intro; apply And.intro; (repeat ((conv => whnf); first | refine And.intro (by first | omega | fail) ?_ | fail)); ((conv => whnf); first | exact FnB.mk (F_l_markNodeS _ _ _ (by first | omega | fail) (by first | omega | fail) (by first | omega | fail) (by first | omega | fail) (by first | omega | fail)) | fail); refine ⟨rfl, ?_⟩) | fail)
  refine .mk ⟨trivial, [], ⟨rfl, ?_⟩, List.nodup_nil, rfl, ?_⟩
  · rfl
  · exact ⟨outOk_old (b := 0) (by decide) rfl, trivial⟩
theorem get_mkL {α : Type} (E : α → List V) (f : Int → α → α) (st : α → Nat) (k : Int) (a : List α) (i : Nat) (h : i < a.length) : (List.map E (mkL f st k a))[((i : Nat) : Int).toNat]? = some (E (f (k + stL st (a.take i)) a[i])) := by
  have hm : ∀ (a : List α) (k : Int) (i : Nat) (h : i < a.length), (mkL f st k a)[i]? = some (f (k + stL st (a.take i)) a[i]) := by
    intro a
    induction a with
    | nil => intro k i h; simp at h
    | cons x r ih =>
      intro k i h
      cases i with
      | zero => simp [mkL, stL]
      | succ i =>
        simp only [mkL, List.getElem?_cons_succ, List.take_succ_cons, stL, List.getElem_cons_succ]
        rw [ih (k + st x) i (by simpa using h)]
        congr 2; omega
  rw [Int.toNat_natCast, List.getElem?_map, hm a k i h]; rfl
theorem F_l_heldNodeS_marked (a : List Nd) (k : Int) (ha : a.length ≤ 140737488351232) (hk : 0 ≤ k) (hk2 : k + stL stNd a ≤ 4460000000000000000) (hp : ∀ x ∈ a, x.2.2.1.length ≤ 140737488351232 ∧ x.2.2.2.2.2.length ≤ 140737488351232) : Fn pg 40 [.imm 6 (rowN (mkL mkNd stNd k a)), .lit (.int .i64 k)] [] (.lit (.int .i64 (k + stL stNd a))) [] := by
  refine Fn.ofN [0,1,4,5,9,18,28,39,47,56,67] [] Try.func40 (by rfl) rfl (by show 2 ≤ 69; decide) (by rfl) ?_
  repeat' ((conv => whnf); first | (refine iteB_dec (fun h => ?_) (fun h => ?_) <;> (try simp (disch := (first | omega | fail)) only [modAt, List.length_take, List.length_drop, List.length_map, List.length_append, List.length_set, List.length_replicate, len_rowsPart, len_setCell, len_marks, len_markL, len_mkL, len_marksN] at h)) | fail)
  refine ⟨Nat, fun i => i ≤ a.length, fun i => [(0, .imm 6 (rowN (mkL mkNd stNd k a))), (1, .lit (.int .i64 (k + stL stNd (a.take i)))), (5, .lit (.int .i64 i))], fun i => [], fun i => a.length - i, ⟨[], 0, by omega, ⟨rfl, rfl⟩, ⟨by first | rfl | fail, by simp [stL]; rfl, by first | rfl | fail, trivial⟩, trivial⟩, ?_⟩
  intro i hi
  by_cases hlt : i < a.length
  · have hst := stL_succ stNd a i (by omega)
    have hle := stL_take_le stNd a (i + 1)
    have hpi := hp _ (List.getElem_mem hlt)
    have h2a := stL_two a[i].2.2.1
    have hal : stNd a[i] = 4 + 2 * a[i].2.2.1.length + a[i].2.2.2.2.2.length := rfl
    have hH : Fn pg 27 [.imm 1 (rowI (mkNd (k + stL stNd (a.take i)) a[i]).2.2.2.2.2), .lit (.int .i64 (k + stL stNd (a.take i) + 1 + 1 + stL two a[i].2.2.1 + 1 + 1))] [] (.lit (.int .i64 (k + stL stNd (a.take i) + 1 + 1 + stL two a[i].2.2.1 + 1 + 1 + a[i].2.2.2.2.2.length))) [] := by
      show Fn pg _ [.imm 1 (rowI (markL id (k + stL stNd (a.take i) + 1 + 1 + 2 * a[i].2.2.1.length + 1 + 1) a[i].2.2.2.2.2.length)), _] [] _ []
      rw [show (k + stL stNd (a.take i) + 1 + 1 + 2 * a[i].2.2.1.length + 1 + 1 : Int) = k + stL stNd (a.take i) + 1 + 1 + stL two a[i].2.2.1 + 1 + 1 by omega]
      exact F_l_heldIntS_marked _ _ (by omega) (by omega) (by omega)
    have m1 : (mkNd (k + stL stNd (a.take i)) a[i]).1 = k + stL stNd (a.take i) := rfl
    have m2 : (mkNd (k + stL stNd (a.take i)) a[i]).2.1 = markT (k + stL stNd (a.take i) + 1) := rfl
    have m3 : (mkNd (k + stL stNd (a.take i)) a[i]).2.2.2.1 = markT (k + stL stNd (a.take i) + 1 + 1 + stL two a[i].2.2.1) := by
      show markT (k + stL stNd (a.take i) + 1 + 1 + 2 * a[i].2.2.1.length) = _
      congr 1; omega
    have m4 : (mkNd (k + stL stNd (a.take i)) a[i]).2.2.2.2.1 = k + stL stNd (a.take i) + 1 + 1 + stL two a[i].2.2.1 + 1 := by
      show k + stL stNd (a.take i) + 1 + 1 + 2 * a[i].2.2.1.length + 1 = _
      omega
    repeat' ((conv => whnf); first | (refine iteB_dec (fun h => ?_) (fun h => ?_) <;> (try simp (disch := (first | omega | fail)) only [modAt, List.length_take, List.length_drop, List.length_map, List.length_append, List.length_set, List.length_replicate, len_rowsPart, len_setCell, len_marks, len_markL, len_mkL, len_marksN] at h) <;> (try (exfalso; omega))) | (refine wrapB_i64 (by first | omega | fail) (by first | omega | fail) ?_) | (refine And.intro (by first | exact True.intro | omega | fail) ?_) | (refine Exists.intro _ (And.intro (get_mkL _ _ _ _ _ _ (by first | omega | fail)) ?_)) | (refine Or.inl (And.intro (by decide +kernel) ?_)) | (apply callQ_i; (repeat ((conv => whnf); first | refine And.intro (by first | omega | fail) ?_ | fail)); ((conv => whnf); apply Exists.intro; (first | exact FnB.mk (F_l_markText _ (by first | omega | fail)) | fail))) | (refine Or.inl ?_; apply callV_i; (repeat ((conv => whnf); first | refine And.intro (by first | omega | fail) ?_ | fail)); ((conv => whnf); first | exact FnB.mk (hH) | exact FnB.mk (F_l_heldAttrS_marked _ _ (by first | omega | fail) (by first | omega | fail) (by first | omega | fail)) | fail); refine ⟨rfl, rfl, ?_⟩) | fail)
    all_goals first | (exact absurd m2 (by assumption)) | (exact absurd m3 (by assumption)) | skip | fail
    exact ⟨[], i + 1, by omega, ⟨⟨rfl, rfl⟩, ⟨by first | rfl | fail, by rw [hst]; (show V.lit (.int .i64 _) = V.lit (.int .i64 _)); congr 2; omega, by first | rfl | fail, trivial⟩, trivial⟩, by first | (dsimp only; omega) | fail⟩
  · obtain rfl : i = a.length := by omega
    repeat' ((conv => whnf); first | (refine iteB_dec (fun h => ?_) (fun h => ?_) <;> (try simp (disch := (first | omega | fail)) only [modAt, List.length_take, List.length_drop, List.length_map, List.length_append, List.length_set, List.length_replicate, len_rowsPart, len_setCell, len_marks, len_markL, len_mkL, len_marksN] at h)) | (refine wrapB_i64 (by first | omega | fail) (by first | omega | fail) ?_) | (refine And.intro (by first | exact True.intro | omega | fail) ?_) | (refine Exists.intro _ (And.intro (get_mkL _ _ _ _ _ _ (by first | omega | fail)) ?_)) | (refine Or.inl (And.intro (by decide +kernel) ?_)) | (apply callQ_i; (repeat ((conv => whnf); first | refine And.intro (by first | omega | fail) ?_ | fail)); ((conv => whnf); apply Exists.intro; (first | exact FnB.mk (F_l_markText _ (by first | omega | fail)) | fail))) | (refine Or.inl ?_; apply callV_i; (repeat ((conv => whnf); first | refine And.intro (by first | omega | fail) ?_ | fail)); ((conv => whnf); first | exact FnB.mk (F_l_heldIntS _ _ (by first | omega | fail) (by first | omega | fail) (by first | omega | fail)) | exact FnB.mk (F_l_heldAttrS_marked _ _ (by first | omega | fail) (by first | omega | fail) (by first | omega | fail)) | fail); refine ⟨rfl, rfl, ?_⟩) | fail)
    all_goals first | (exfalso; omega) | skip | fail
    (refine .mk ⟨trivial, [], ⟨rfl, ?_⟩, List.nodup_nil, rfl, trivial⟩; show V.lit _ = V.lit _)
    rw [List.take_length]
theorem F_l_heldTree_marked (a : List Nd) (k : Int) (ha : a.length ≤ 140737488351232) (hk : 0 ≤ k) (hk2 : k + stL stNd a ≤ 4460000000000000000) (hp : ∀ x ∈ a, x.2.2.1.length ≤ 140737488351232 ∧ x.2.2.2.2.2.length ≤ 140737488351232) : Fn pg 18 [.agg [.imm 6 (rowN (mkL mkNd stNd k a))], .lit (.int .i64 k)] [] (.lit (.int .i64 (k + stL stNd a))) [] := by
  have hN := F_l_heldNodeS_marked a k ha hk hk2 hp
  refine Fn.ofN [0,1,2,4,10] [1002] Try.func18 (by rfl) rfl (by show 2 ≤ 12; decide) (by rfl) ?_
  repeat' ((conv => whnf); first | (refine iteB_dec (fun h => ?_) (fun h => ?_) <;> (try simp (disch := (first | omega | fail)) only [modAt, List.length_take, List.length_drop, List.length_map, List.length_append, List.length_set, List.length_replicate, len_rowsPart, len_setCell, len_marks, len_markL, len_mkL, len_marksN] at h) <;> (try (exfalso; omega))) | (refine Exists.intro _ (And.intro rfl ?_)) | (refine Or.inl ?_; apply callV_i; (repeat ((conv => whnf); first | refine And.intro (by first | omega | fail) ?_ | fail)); ((conv => whnf); first | exact FnB.mk (hN) | fail); refine ⟨rfl, rfl, ?_⟩) | fail)
  all_goals ((refine .mk ⟨trivial, [], ⟨rfl, ?_⟩, List.nodup_nil, rfl, trivial⟩; show V.lit _ = V.lit _); rfl)


def nd0 : Nd := (1, .empty, [], .empty, -1, [])
def restB : List V := [.lit (.int .i64 1), .lit (.int .i64 1), .lit (.int .i64 (-1)), .lit (.int .i64 1), .lit (.string .empty), .lit (.bool false), .lit (.int .i64 0)]
theorem ok0 : ∀ x ∈ [nd0], ndOk x := by
  intro x hx
  rw [List.mem_singleton] at hx
  subst hx
  refine ⟨?_, ⟨?_, fun x h => (by cases h)⟩, ?_, ?_⟩ <;> decide
theorem F_s_TreeNew : Fn pg 23 [] [] (.agg [.sl 500 [] 6 0 1]) [(500, false, 6, rowN [nd0])] := by
  refine Fn.ofN [0] [1000,1002] Try.func23 (by rfl) rfl (by show 0 ≤ 4; decide) (by rfl) ?_
  repeat' ((conv => whnf); first | (refine Exists.intro _ (And.intro rfl ?_)) | (refine And.intro (by first | exact True.intro | decide +kernel | fail) ?_) | fail)
  refine .mk ⟨trivial, [1002], ⟨rfl, ?_⟩, by simp, rfl, ?_⟩
  · rfl
  · exact ⟨outOk_new (d := 1002) (by decide) rfl rfl, trivial⟩
theorem F_i_TreeNew : Fn pg 24 [] [] (.agg [.sl 500 [] 6 0 1]) [(500, false, 6, rowN [nd0])] := by
  refine Fn.ofN [0] [1000,1002] Try.func24 (by rfl) rfl (by show 0 ≤ 4; decide) (by rfl) ?_
  repeat' ((conv => whnf); first | (refine Exists.intro _ (And.intro rfl ?_)) | (refine And.intro (by first | exact True.intro | decide +kernel | fail) ?_) | fail)
  refine .mk ⟨trivial, [1002], ⟨rfl, ?_⟩, by simp, rfl, ?_⟩
  · rfl
  · exact ⟨outOk_new (d := 1002) (by decide) rfl rfl, trivial⟩
theorem F_i_BuildNew : Fn pg 8 [] [] (.agg (.sl 500 [] 6 0 1 :: .imm 1 [] :: .imm 1 [] :: restB)) [(500, false, 6, rowN [nd0])] := by
  refine Fn.ofN [0] [1000,1001] Try.func8 (by rfl) rfl (by show 0 ≤ 3; decide) (by rfl) ?_
  repeat' ((conv => whnf); first | (refine Exists.intro _ (And.intro rfl ?_)) | (refine And.intro (by first | exact True.intro | decide +kernel | fail) ?_) | (refine Or.inl ?_; apply callV_i; (repeat ((conv => whnf); first | refine And.intro (by first | (with_reducible exact Nat.le_refl _) | fail) ?_ | fail)); ((conv => whnf); first | exact FnB.mk (F_i_TreeNew ) | fail); refine ⟨rfl, rfl, ?_⟩) | fail)
  refine .mk ⟨trivial, [1001], ⟨rfl, ?_⟩, by simp, rfl, ?_⟩
  · rfl
  · exact ⟨outOk_new (d := 1001) (by decide) rfl rfl, trivial⟩
theorem F_s_BuildNew : Fn pg 7 [] [] (.agg (.sl 500 [] 6 0 1 :: .imm 1 [] :: .imm 1 [] :: restB)) [(500, false, 6, rowN [nd0])] := by
  refine Fn.ofN [0] [1000,1001] Try.func7 (by rfl) rfl (by show 0 ≤ 3; decide) (by rfl) ?_
  repeat' ((conv => whnf); first | (refine Exists.intro _ (And.intro rfl ?_)) | (refine And.intro (by first | exact True.intro | decide +kernel | fail) ?_) | (refine Or.inl ?_; apply callV_i; (repeat ((conv => whnf); first | refine And.intro (by first | (with_reducible exact Nat.le_refl _) | fail) ?_ | fail)); ((conv => whnf); first | exact FnB.mk (F_s_TreeNew ) | fail); refine ⟨rfl, rfl, ?_⟩) | fail)
  refine .mk ⟨trivial, [1001], ⟨rfl, ?_⟩, by simp, rfl, ?_⟩
  · rfl
  · exact ⟨outOk_new (d := 1001) (by decide) rfl rfl, trivial⟩
theorem F_l_markIntS_nil (k : Int) : Fn pg 26 [.imm 1 [], .lit (.int .i64 k)] [] (.lit (.int .i64 k)) [] := by
  refine Fn.ofN [0,1,4,5,9] [] Try.func26 (by rfl) rfl (by show 2 ≤ 19; decide) (by rfl) ?_
  repeat' ((conv => whnf); first | (refine iteB_dec (fun h => ?_) (fun h => ?_) <;> (try simp (disch := (first | omega | fail)) only [modAt, List.length_take, List.length_drop, List.length_map, List.length_append, List.length_set, List.length_replicate, len_rowsPart, len_setCell, len_marks, len_markL, len_mkL, len_marksN] at h) <;> (try (exfalso; omega))) | fail)
  refine ⟨Unit, fun _ => True, fun _ => [(0, .imm 1 []), (1, .lit (.int .i64 k)), (5, .lit (.int .i64 0))], fun _ => [], fun _ => 0, ⟨[], (), trivial, ⟨rfl, rfl⟩, ⟨by first | rfl | fail, by first | rfl | fail, by first | rfl | fail, trivial⟩, trivial⟩, ?_⟩
  intro _ _
  repeat' ((conv => whnf); first | (refine iteB_dec (fun h => ?_) (fun h => ?_) <;> (try simp (disch := (first | omega | fail)) only [modAt, List.length_take, List.length_drop, List.length_map, List.length_append, List.length_set, List.length_replicate, len_rowsPart, len_setCell, len_marks, len_markL, len_mkL, len_marksN] at h) <;> (try (exfalso; omega))) | fail)
  all_goals ((refine .mk ⟨trivial, [], ⟨rfl, ?_⟩, List.nodup_nil, rfl, trivial⟩; show V.lit _ = V.lit _); rfl)
theorem F_l_heldIntS_nil (k : Int) : Fn pg 27 [.imm 1 [], .lit (.int .i64 k)] [] (.lit (.int .i64 k)) [] := by
  refine Fn.ofN [0,1,4,5,9,17] [] Try.func27 (by rfl) rfl (by show 2 ≤ 21; decide) (by rfl) ?_
  repeat' ((conv => whnf); first | (refine iteB_dec (fun h => ?_) (fun h => ?_) <;> (try simp (disch := (first | omega | fail)) only [modAt, List.length_take, List.length_drop, List.length_map, List.length_append, List.length_set, List.length_replicate, len_rowsPart, len_setCell, len_marks, len_markL, len_mkL, len_marksN] at h) <;> (try (exfalso; omega))) | fail)
  refine ⟨Unit, fun _ => True, fun _ => [(0, .imm 1 []), (1, .lit (.int .i64 k)), (5, .lit (.int .i64 0))], fun _ => [], fun _ => 0, ⟨[], (), trivial, ⟨rfl, rfl⟩, ⟨by first | rfl | fail, by first | rfl | fail, by first | rfl | fail, trivial⟩, trivial⟩, ?_⟩
  intro _ _
  repeat' ((conv => whnf); first | (refine iteB_dec (fun h => ?_) (fun h => ?_) <;> (try simp (disch := (first | omega | fail)) only [modAt, List.length_take, List.length_drop, List.length_map, List.length_append, List.length_set, List.length_replicate, len_rowsPart, len_setCell, len_marks, len_markL, len_mkL, len_marksN] at h) <;> (try (exfalso; omega))) | fail)
  all_goals ((refine .mk ⟨trivial, [], ⟨rfl, ?_⟩, List.nodup_nil, rfl, trivial⟩; show V.lit _ = V.lit _); rfl)
theorem F_l_eqBuild_new : Fn pg 9 [.agg (.imm 6 (rowN [nd0]) :: .imm 1 [] :: .imm 1 [] :: restB), .agg (.imm 6 (rowN [nd0]) :: .imm 1 [] :: .imm 1 [] :: restB)] [] (.lit (.bool true)) [] := by
  have hT := F_l_eqTree [nd0] [nd0] (by decide) (by decide) ok0 ok0
  have hI := F_l_eqIntS [] [] (by decide) (by decide)
  rw [decide_eq_true rfl] at hT hI
  refine Fn.ofN [0,1,2,3,4,10,16,22,27,32,37,42,47,52,57] [1002,1003] Try.func9 (by rfl) rfl (by show 2 ≤ 58; decide) (by rfl) ?_
  repeat' ((conv => whnf); first | (refine Exists.intro _ (And.intro rfl ?_)) | (refine Or.inl ?_; apply callV_i; (repeat ((conv => whnf); first | refine And.intro (by first | omega | fail) ?_ | fail)); ((conv => whnf); first | exact FnB.mk (hT) | exact FnB.mk (hI) | fail); refine ⟨rfl, rfl, ?_⟩) | fail)
  all_goals ((refine .mk ⟨trivial, [], ⟨rfl, ?_⟩, List.nodup_nil, rfl, trivial⟩; show V.lit _ = V.lit _); rfl)
theorem F_l_markBuild_new : Fn pg 10 [.agg (.sl 0 [] 6 0 1 :: .imm 1 [] :: .imm 1 [] :: restB), .lit (.int .i64 1)] [(0, false, 6, rowN [nd0])] (.lit (.int .i64 5)) [(0, false, 6, rowN (mkL mkNd stNd 1 [nd0]))] := by
  have hM := F_l_markTree [nd0] 1 1 (by decide) (by decide) (by decide) (by decide) (fun x hx => by rw [List.mem_singleton] at hx; subst hx; decide)
  rw [show marksN mkNd stNd 1 [nd0] 1 = mkL mkNd stNd 1 [nd0] from marksN_all mkNd stNd 1 [nd0]] at hM
  have hI := F_l_markIntS_nil 5
  refine Fn.ofN [0,1,2,4] [0,1002] Try.func10 (by rfl) rfl (by show 2 ≤ 18; decide) (by rfl) ?_
  repeat' ((conv => whnf); first | (refine Exists.intro _ (And.intro rfl ?_)) | (refine And.intro (by first | exact True.intro | decide +kernel | fail) ?_) | (refine Or.inl ?_; apply callV_i; (repeat ((conv => whnf); first | refine And.intro (by first | omega | (simp (disch := (first | omega | fail)) only [List.length_cons, List.length_nil, modAt, List.length_take, List.length_drop, List.length_map, List.length_append, List.length_set, List.length_replicate, len_rowsPart, len_setCell, len_marks, len_markL, len_mkL, len_marksN]; first | omega | fail) | fail) ?_ | fail)); ((conv => whnf); first | exact FnB.mk (hI) | fail); refine ⟨rfl, rfl, ?_⟩) | (refine Or.inr (Or.inr (callA_ok ?_)); (conv => whnf); apply Exists.intro; apply Exists.intro; apply And.intro; (repeat ((conv => whnf); first | refine And.intro (by first | omega | fail) ?_ | fail)); ((conv => whnf); first | exact FnB.mk (hM) | fail); refine ⟨rfl, ?_⟩) | fail)
  refine .mk ⟨trivial, [], ⟨rfl, ?_⟩, List.nodup_nil, rfl, ?_⟩
  · rfl
  · exact ⟨outOk_old (b := 0) (by decide) rfl, trivial⟩
theorem F_l_heldBuild_new : Fn pg 11 [.agg (.imm 6 (rowN (mkL mkNd stNd 1 [nd0])) :: .imm 1 [] :: .imm 1 [] :: restB), .lit (.int .i64 1)] [] (.lit (.int .i64 5)) [] := by
  have hM := F_l_heldTree_marked [nd0] 1 (by decide) (by decide) (by decide) (fun x hx => by rw [List.mem_singleton] at hx; subst hx; decide)
  have hI := F_l_heldIntS_nil 5
  refine Fn.ofN [0,1,2,4,10,16,22] [1002] Try.func11 (by rfl) rfl (by show 2 ≤ 24; decide) (by rfl) ?_
  repeat' ((conv => whnf); first | (refine Exists.intro _ (And.intro rfl ?_)) | (refine Or.inl ?_; apply callV_i; (repeat ((conv => whnf); first | refine And.intro (by first | omega | fail) ?_ | fail)); ((conv => whnf); first | exact FnB.mk (hM) | exact FnB.mk (hI) | fail); refine ⟨rfl, rfl, ?_⟩) | fail)
  all_goals ((refine .mk ⟨trivial, [], ⟨rfl, ?_⟩, List.nodup_nil, rfl, trivial⟩; show V.lit _ = V.lit _); rfl)
theorem F_l_FnExactBuildNew : Fn pg 3 [] [] (.lit (.bool true)) [] := by
  refine Fn.ofN [0,1,2,3,4,5,11,19,22,27,32,35] [1001,1002,1005,1006,1007,1023,2006,2007,2023,3006,3007,3023] Try.func3 (by rfl) rfl (by show 0 ≤ 36; decide) (by rfl) ?_
  repeat' ((conv => whnf); first | (refine Exists.intro _ (And.intro rfl ?_)) | (refine And.intro (by first | exact True.intro | decide +kernel | fail) ?_) | (refine Or.inl ?_; apply callV_i; (repeat ((conv => whnf); first | refine And.intro (by first | (simp (disch := (first | omega | fail)) only [List.length_cons, List.length_nil, modAt, List.length_take, List.length_drop, List.length_map, List.length_append, List.length_set, List.length_replicate, len_rowsPart, len_setCell, len_marks, len_markL, len_mkL, len_marksN]; first | omega | fail) | fail) ?_ | fail)); ((conv => whnf); first | exact FnB.mk (F_i_BuildNew) | exact FnB.mk (F_s_BuildNew) | exact FnB.mk (F_l_eqBuild_new) | exact FnB.mk (F_l_heldBuild_new) | fail); refine ⟨rfl, rfl, ?_⟩) | (refine Or.inr (Or.inr (callA_ok ?_)); (conv => whnf); apply Exists.intro; apply Exists.intro; apply And.intro; (repeat ((conv => whnf); first | refine And.intro (by first | (with_reducible exact Nat.le_refl _) | fail) ?_ | fail)); ((conv => whnf); first | exact FnB.mk (F_l_markBuild_new) | fail); refine ⟨rfl, ?_⟩) | fail)
  all_goals first | (refine .mk ⟨trivial, [], ⟨rfl, rfl⟩, List.nodup_nil, rfl, trivial⟩) | fail


end Go.Proofs.Ytpmcmooaokkojaa.M

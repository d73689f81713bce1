/- Walks of the program's functions, by the small machine. -/
import Derived.Test.YthbhbncaapnebaaWE
namespace Go.Proofs.Ythbhbncaapnebaa.M
open Go
set_option maxHeartbeats 1000000
set_option maxRecDepth 20000
set_option linter.unusedVariables false
set_option linter.unusedSimpArgs false

def isSec (x : Int) : Bool := decide (0 ≤ x) && decide (x ≤ 129)
def putOk (p : Pt) : Bool := isSec p.1 && decide (p.2.size = 64)
def dskOk (d : Dk) : Bool := decide (d.1.length = 130) && decide (d.2.length ≤ 200) && d.1.all (fun s => decide (s.size = 64)) && d.2.all putOk
-- FN impl.isSector
theorem F_i_isSector (x : Int) : Fn pg 47 [.lit (.int .i64 x)] [] (.lit (.bool (isSec x))) [] := by
  refine Fn.ofN [0,2] [] Try.func47 (by rfl) rfl (by show 1 ≤ 5; decide) (by rfl) ?_
  repeat' ((conv => whnf); first | (refine Or.inl ?_; apply callV_i; (repeat ((conv => whnf); first | refine And.intro (by first | exact Nat.le_refl _ | fail) ?_ | fail)); ((conv => whnf); first | exact FnB.mk (F_i_inRange _ _ _) | fail); refine ⟨rfl, rfl, ?_⟩) | fail)
  all_goals ((refine .mk ⟨trivial, [], ⟨rfl, ?_⟩, List.nodup_nil, rfl, trivial⟩; show V.lit _ = V.lit _); first | (simp_all [isSec]; done) | fail)
-- FN spec.l15Sector
theorem F_s_l15Sector (x : Int) : Fn pg 46 [.lit (.int .i64 x)] [] (.lit (.bool (isSec x))) [] := by
  refine Fn.ofN [0,2] [] Try.func46 (by rfl) rfl (by show 1 ≤ 5; decide) (by rfl) ?_
  repeat' ((conv => whnf); first | (refine Or.inl ?_; apply callV_i; (repeat ((conv => whnf); first | refine And.intro (by first | exact Nat.le_refl _ | fail) ?_ | fail)); ((conv => whnf); first | exact FnB.mk (F_s_l1In _ _ _) | fail); refine ⟨rfl, rfl, ?_⟩) | fail)
  all_goals ((refine .mk ⟨trivial, [], ⟨rfl, ?_⟩, List.nodup_nil, rfl, trivial⟩; show V.lit _ = V.lit _); first | (simp_all [isSec]; done) | fail)
theorem all_step {α : Type} {p : α → Bool} {xs : List α} {i : Nat} (h : i < xs.length) (ht : (xs.take i).all p = true) (hp : p xs[i] = true) : (xs.take (i + 1)).all p = true := by
  rw [List.take_succ_eq_append_getElem h, List.all_append, ht]; simp [hp]
theorem all_fail {α : Type} {p : α → Bool} {xs : List α} {i : Nat} (h : i < xs.length) (hp : p xs[i] = false) : xs.all p = false := by
  rw [← Bool.not_eq_true, List.all_eq_true]; intro hh; have := hh _ (List.getElem_mem h); simp_all
theorem all_end {α : Type} {p : α → Bool} {xs : List α} {i : Nat} (h : xs.length ≤ i) (ht : (xs.take i).all p = true) : xs.all p = true := by
  rwa [List.take_of_length_le h] at ht
-- FN impl.DiskOk
theorem F_i_DiskOk (d : Dk) (hx : d.1.length ≤ 140737488351232) (hy : d.2.length ≤ 140737488351232) : Fn pg 19 [.agg [.imm 1 (rowS d.1), .imm 2 (rowP d.2)]] [] (.lit (.bool (dskOk d))) [] := by
  refine Fn.ofN [0,1,2,4,6,8,9,10,11,16,19,20,21,22,34] [1001,1006] Try.func19 (by rfl) rfl (by show 1 ≤ 46; decide) (by rfl) ?_
  repeat' ((conv => whnf); first | (refine Exists.intro _ (And.intro rfl ?_)) | fail)
  refine ⟨Nat, fun i => i ≤ d.1.length ∧ (d.1.take i).all (fun s => decide (s.size = 64)) = true, fun i => [(0, .agg [.imm 1 (rowS d.1), .imm 2 (rowP d.2)]), (1, .ptr 1001 [] 2 0 0), (8, .imm 1 (rowS d.1)), (9, .lit (.int .i64 d.1.length)), (10, .lit (.int .i64 i))], fun _ => [(1001, true, 2, [[.imm 1 (rowS d.1), .imm 2 (rowP d.2)]])], fun i => d.1.length - i, ⟨[], 0, by simp, ⟨rfl, rfl⟩, ⟨by first | rfl | fail, by first | rfl | fail, by first | rfl | fail, by first | (show V.lit (Value.int _ _) = V.lit (Value.int _ _); first | (congr 2; first | (simp only [List.length_map]; done) | fail) | fail) | fail, by first | rfl | fail, trivial⟩, ⟨rfl, trivial⟩⟩, ?_⟩
  intro i ⟨hi, hh⟩
  repeat' ((conv => whnf); first | (refine iteB_dec (fun h => ?_) (fun h => ?_) <;> (try simp (disch := (first | omega | fail)) only [modAt, List.length_take, List.length_map, List.length_append, List.length_set, List.length_replicate, len_rowsPart, len_setCell, len_marks, len_markL, len_mkL, len_marksN] at h)) | (refine Exists.intro _ (And.intro rfl ?_)) | (refine wrapB_i64 (by first | omega | fail) (by first | omega | fail) ?_) | (refine And.intro (by first | exact True.intro | omega | fail) ?_) | (refine Exists.intro _ (And.intro (rowGet _ _ _ (by omega)) ?_)) | fail)
  · (refine .mk ⟨trivial, [], ⟨rfl, ?_⟩, List.nodup_nil, rfl, trivial⟩; show V.lit _ = V.lit _)
    simp only [V.lit.injEq, Value.bool.injEq]
    have := all_fail (p := fun s : ByteArray => decide (s.size = 64)) (xs := d.1) (i := i) (by omega) (decide_eq_false (by omega))
    simp [dskOk, this]
  · exact ⟨[], i + 1, ⟨by omega, all_step (by omega) hh (decide_eq_true (by omega))⟩, ⟨⟨rfl, rfl⟩, ⟨by first | rfl | fail, by first | rfl | fail, by first | rfl | fail, by first | rfl | fail, by first | rfl | fail, trivial⟩, ⟨rfl, trivial⟩⟩, by first | (dsimp only; omega) | fail⟩
  have h1 := all_end (by omega) hh
  refine ⟨Nat, fun i => i ≤ d.2.length ∧ (d.2.take i).all putOk = true, fun i => [(0, .agg [.imm 1 (rowS d.1), .imm 2 (rowP d.2)]), (1, .ptr 1001 [] 2 0 0), (19, .imm 2 (rowP d.2)), (20, .lit (.int .i64 d.2.length)), (21, .lit (.int .i64 i))], fun _ => [(1001, true, 2, [[.imm 1 (rowS d.1), .imm 2 (rowP d.2)]])], fun i => d.2.length - i, ⟨[], 0, by simp, ⟨rfl, rfl⟩, ⟨by first | rfl | fail, by first | rfl | fail, by first | rfl | fail, by first | (show V.lit (Value.int _ _) = V.lit (Value.int _ _); first | (congr 2; first | (simp only [List.length_map]; done) | fail) | fail) | fail, by first | rfl | fail, trivial⟩, ⟨rfl, trivial⟩⟩, ?_⟩
  intro j ⟨hj, hh2⟩
  repeat' ((conv => whnf); first | (refine iteB_dec (fun h => ?_) (fun h => ?_) <;> (try simp (disch := (first | omega | fail)) only [modAt, List.length_take, List.length_map, List.length_append, List.length_set, List.length_replicate, len_rowsPart, len_setCell, len_marks, len_markL, len_mkL, len_marksN] at h)) | (refine iteB_not ?_) | (refine iteB_of (fun h => ?_) (fun h => ?_)) | (refine Exists.intro _ (And.intro rfl ?_)) | (refine wrapB_i64 (by first | omega | fail) (by first | omega | fail) ?_) | (refine And.intro (by first | exact True.intro | exact Nat.le_refl _ | omega | fail) ?_) | (refine Exists.intro _ (And.intro (rowGet _ _ _ (by omega)) ?_)) | (refine Or.inl ?_; apply callV_i; (repeat ((conv => whnf); first | refine And.intro (by first | omega | fail) ?_ | fail)); ((conv => whnf); first | exact FnB.mk (F_i_isSector _) | fail); refine ⟨rfl, rfl, ?_⟩) | fail)
  all_goals first
    | exact ⟨[], j + 1, ⟨by omega, all_step (by omega) hh2 (by simp [putOk, *]; omega)⟩, ⟨⟨rfl, rfl⟩, ⟨by first | rfl | fail, by first | rfl | fail, by first | rfl | fail, by first | rfl | fail, by first | rfl | fail, trivial⟩, ⟨rfl, trivial⟩⟩, by first | (dsimp only; omega) | fail⟩
    | ((refine .mk ⟨trivial, [], ⟨rfl, ?_⟩, List.nodup_nil, rfl, trivial⟩; show V.lit _ = V.lit _); rw [show dskOk d = false from by
        have := all_fail (p := putOk) (xs := d.2) (i := j) (by omega) (by simp [putOk, *]; try omega)
        simp [dskOk, this]]; done)
    | skip
  all_goals
    have h2 := all_end (by omega) hh2
    ((refine .mk ⟨trivial, [], ⟨rfl, ?_⟩, List.nodup_nil, rfl, trivial⟩; show V.lit _ = V.lit _); simp only [V.lit.injEq, Value.bool.injEq]; simp only [dskOk, h1, h2, Bool.and_true]; rw [Bool.eq_iff_iff]; simp only [Bool.and_eq_true, decide_eq_true_eq, List.length_map, Bool.false_eq_true]; grind)
-- FN spec.DiskOk
theorem F_s_DiskOk (d : Dk) (hx : d.1.length ≤ 140737488351232) (hy : d.2.length ≤ 140737488351232) : Fn pg 24 [.agg [.imm 1 (rowS d.1), .imm 2 (rowP d.2)]] [] (.lit (.bool (dskOk d))) [] := by
  refine Fn.ofN [0,1,2,3,4,14,19,28,33,53] [1001] Try.func24 (by rfl) rfl (by show 1 ≤ 54; decide) (by rfl) ?_
  repeat' ((conv => whnf); first | (refine iteB_dec (fun h => ?_) (fun h => ?_) <;> (try simp (disch := (first | omega | fail)) only [modAt, List.length_take, List.length_map, List.length_append, List.length_set, List.length_replicate, len_rowsPart, len_setCell, len_marks, len_markL, len_mkL, len_marksN] at h)) | (refine Exists.intro _ (And.intro rfl ?_)) | fail)
  all_goals try ((refine .mk ⟨trivial, [], ⟨rfl, ?_⟩, List.nodup_nil, rfl, trivial⟩; show V.lit _ = V.lit _); simp only [V.lit.injEq, Value.bool.injEq]; simp only [dskOk]; simp_all <;> omega)
  refine ⟨Nat, fun i => i ≤ d.1.length ∧ (d.1.take i).all (fun s => decide (s.size = 64)) = true, fun i => [(0, .agg [.imm 1 (rowS d.1), .imm 2 (rowP d.2)]), (1, .ptr 1001 [] 2 0 0), (3, .lit (.int .i64 i))], fun _ => [(1001, true, 2, [[.imm 1 (rowS d.1), .imm 2 (rowP d.2)]])], fun i => d.1.length - i, ⟨[], 0, by simp, ⟨rfl, rfl⟩, ⟨by first | rfl | fail, by first | rfl | fail, by first | rfl | fail, trivial⟩, ⟨rfl, trivial⟩⟩, ?_⟩
  intro i ⟨hi, hh⟩
  repeat' ((conv => whnf); first | (refine iteB_dec (fun h => ?_) (fun h => ?_) <;> (try simp (disch := (first | omega | fail)) only [modAt, List.length_take, List.length_map, List.length_append, List.length_set, List.length_replicate, len_rowsPart, len_setCell, len_marks, len_markL, len_mkL, len_marksN] at h)) | (refine Exists.intro _ (And.intro rfl ?_)) | (refine wrapB_i64 (by first | omega | fail) (by first | omega | fail) ?_) | (refine And.intro (by first | exact True.intro | omega | fail) ?_) | (refine Exists.intro _ (And.intro (rowGet _ _ _ (by omega)) ?_)) | fail)
  · (refine .mk ⟨trivial, [], ⟨rfl, ?_⟩, List.nodup_nil, rfl, trivial⟩; show V.lit _ = V.lit _)
    simp only [V.lit.injEq, Value.bool.injEq]
    have := all_fail (p := fun s : ByteArray => decide (s.size = 64)) (xs := d.1) (i := i) (by omega) (decide_eq_false (by omega))
    simp [dskOk, this]
  · exact ⟨[], i + 1, ⟨by omega, all_step (by omega) hh (decide_eq_true (by omega))⟩, ⟨⟨rfl, rfl⟩, ⟨by first | rfl | fail, by first | rfl | fail, by first | rfl | fail, trivial⟩, ⟨rfl, trivial⟩⟩, by first | (dsimp only; omega) | fail⟩
  have h1 := all_end (by omega) hh
  refine ⟨Nat, fun i => i ≤ d.2.length ∧ (d.2.take i).all putOk = true, fun i => [(0, .agg [.imm 1 (rowS d.1), .imm 2 (rowP d.2)]), (1, .ptr 1001 [] 2 0 0), (4, .lit (.int .i64 i))], fun _ => [(1001, true, 2, [[.imm 1 (rowS d.1), .imm 2 (rowP d.2)]])], fun i => d.2.length - i, ⟨[], 0, by simp, ⟨rfl, rfl⟩, ⟨by first | rfl | fail, by first | rfl | fail, by first | rfl | fail, trivial⟩, ⟨rfl, trivial⟩⟩, ?_⟩
  intro j ⟨hj, hh2⟩
  repeat' ((conv => whnf); first | (refine iteB_dec (fun h => ?_) (fun h => ?_) <;> (try simp (disch := (first | omega | fail)) only [modAt, List.length_take, List.length_map, List.length_append, List.length_set, List.length_replicate, len_rowsPart, len_setCell, len_marks, len_markL, len_mkL, len_marksN] at h)) | (refine iteB_not ?_) | (refine iteB_of (fun h => ?_) (fun h => ?_)) | (refine Exists.intro _ (And.intro rfl ?_)) | (refine wrapB_i64 (by first | omega | fail) (by first | omega | fail) ?_) | (refine And.intro (by first | exact True.intro | omega | fail) ?_) | (refine Exists.intro _ (And.intro (rowGet _ _ _ (by omega)) ?_)) | (refine Or.inl ?_; apply callV_i; (repeat ((conv => whnf); first | refine And.intro (by first | omega | fail) ?_ | fail)); ((conv => whnf); first | exact FnB.mk (F_s_l15Sector _) | fail); refine ⟨rfl, rfl, ?_⟩) | fail)
  all_goals first
    | exact ⟨[], j + 1, ⟨by omega, all_step (by omega) hh2 (by simp [putOk, *]; omega)⟩, ⟨⟨rfl, rfl⟩, ⟨by first | rfl | fail, by first | rfl | fail, by first | rfl | fail, trivial⟩, ⟨rfl, trivial⟩⟩, by first | (dsimp only; omega) | fail⟩
    | ((refine .mk ⟨trivial, [], ⟨rfl, ?_⟩, List.nodup_nil, rfl, trivial⟩; show V.lit _ = V.lit _); rw [show dskOk d = false from by
        have := all_fail (p := putOk) (xs := d.2) (i := j) (by omega) (by simp [putOk, *]; try omega)
        simp [dskOk, this]]; done)
    | skip
  all_goals
    have h2 := all_end (by omega) hh2
    ((refine .mk ⟨trivial, [], ⟨rfl, ?_⟩, List.nodup_nil, rfl, trivial⟩; show V.lit _ = V.lit _); simp only [V.lit.injEq, Value.bool.injEq]; simp only [dskOk, h1, h2, Bool.and_true]; rw [Bool.eq_iff_iff]; simp only [Bool.and_eq_true, decide_eq_true_eq, List.length_map, Bool.false_eq_true]; grind)
/-- What is put. -/
def donePt (S : List ByteArray) (p : Pt) : List ByteArray := S.set p.1.toNat p.2
def doneL (w : Nat → Bool) : List ByteArray → List Pt → Nat → List ByteArray
  | S, [], _ => S
  | S, p :: r, k => doneL w (if w k = true then donePt S p else S) r (k + 1)
theorem doneL_length (w : Nat → Bool) (L : List Pt) : ∀ (S : List ByteArray) (k : Nat), (doneL w S L k).length = S.length := by
  induction L with
  | nil => intro S k; rfl
  | cons p r ih => intro S k; rw [doneL, ih]; split <;> simp [donePt]
theorem doneL_append (w : Nat → Bool) (L R : List Pt) : ∀ (S : List ByteArray) (k : Nat), doneL w S (L ++ R) k = doneL w (doneL w S L k) R (k + L.length) := by
  induction L with
  | nil => intro S k; rfl
  | cons p r ih => intro S k; simp only [List.cons_append, doneL, ih, List.length_cons]; congr 1; omega
theorem doneL_succ (w : Nat → Bool) (S : List ByteArray) (L : List Pt) (i : Nat) (h : i < L.length) : doneL w S (L.take (i + 1)) 0 = if w i = true then donePt (doneL w S (L.take i) 0) L[i] else doneL w S (L.take i) 0 := by
  rw [List.take_succ_eq_append_getElem h, doneL_append, List.length_take, Nat.min_eq_left (by omega)]
  simp [doneL]
-- FN slices.Clone[[]string,string]
theorem F_slices_Clone_string_string (xs : List ByteArray) (hx : xs.length * 16 ≤ 140737488351232) : Fn pg 55 [.imm 1 (rowS xs)] [] (.sl 500 [] 1 0 xs.length) [(500, false, 1, rowS xs)] := by
  refine Fn.ofN [0,2,4] [1002,1005,1007] Try.func55 (by rfl) rfl (by show 1 ≤ 8; decide) (by rfl) ?_
  repeat' ((conv => whnf); first | (refine And.intro (by first | exact True.intro | exact Nat.le_refl _ | (simp (disch := (first | omega | fail)) only [modAt, List.length_take, List.length_map, List.length_append, List.length_set, List.length_replicate, len_rowsPart, len_setCell, len_marks, len_markL, len_mkL, len_marksN]; first | omega | fail) | (apply litS; (repeat rfl); done) | fail) ?_) | (intro b hb; cases b <;> simp only [reduceCtorEq, forall_const, false_implies, List.length_map] at hb) | fail)
  · refine .mk ⟨trivial, [1005], ⟨rfl, ?_⟩, by simp, rfl, ?_⟩
    · show V.sl 500 [] 1 0 _ = V.sl 500 [] 1 0 _
      congr 1; simp
    refine ⟨?_, trivial⟩
    exact outOk_new (d := 1005) (by decide) rfl rfl
  · have : xs = [] := List.eq_nil_of_length_eq_zero (by simpa using hb)
    subst this
    refine .mk ⟨trivial, [1002], ⟨rfl, ?_⟩, by simp, rfl, ?_⟩
    · rfl
    exact ⟨outOk_new (d := 1002) (by decide) rfl rfl, trivial⟩
-- FN slices.Clone[[]impl.Put,impl.Put]
theorem F_slices_Clone_i_Put_i_Put (xs : List Pt) (hx : xs.length * 24 ≤ 140737488351232) : Fn pg 62 [.imm 2 (rowP xs)] [] (.sl 500 [] 2 0 xs.length) [(500, false, 2, rowP xs)] := by
  refine Fn.ofN [0,2,4] [1002,1005,1007] Try.func62 (by rfl) rfl (by show 1 ≤ 8; decide) (by rfl) ?_
  repeat' ((conv => whnf); first | (refine And.intro (by first | exact True.intro | exact Nat.le_refl _ | (simp (disch := (first | omega | fail)) only [modAt, List.length_take, List.length_map, List.length_append, List.length_set, List.length_replicate, len_rowsPart, len_setCell, len_marks, len_markL, len_mkL, len_marksN]; first | omega | fail) | (apply litP; (repeat rfl); done) | fail) ?_) | (intro b hb; cases b <;> simp only [reduceCtorEq, forall_const, false_implies, List.length_map] at hb) | fail)
  · refine .mk ⟨trivial, [1005], ⟨rfl, ?_⟩, by simp, rfl, ?_⟩
    · show V.sl 500 [] 2 0 _ = V.sl 500 [] 2 0 _
      congr 1; simp
    refine ⟨?_, trivial⟩
    exact outOk_new (d := 1005) (by decide) rfl rfl
  · have : xs = [] := List.eq_nil_of_length_eq_zero (by simpa using hb)
    subst this
    refine .mk ⟨trivial, [1002], ⟨rfl, ?_⟩, by simp, rfl, ?_⟩
    · rfl
    exact ⟨outOk_new (d := 1002) (by decide) rfl rfl, trivial⟩
-- FN impl.DiskSync$1
theorem F_i_DiskSync_1 (x : Int) : Fn pg 52 [.lit (.int .i64 x)] [] (.lit (.bool true)) [] := by
  refine Fn.ofN [2] [] Try.func52 (by rfl) rfl (by show 1 ≤ 3; decide) (by rfl) ?_
  repeat' ((conv => whnf); first | (refine iteB_dec (fun h => ?_) (fun h => ?_) <;> (try simp (disch := (first | omega | fail)) only [modAt, List.length_take, List.length_map, List.length_append, List.length_set, List.length_replicate, len_rowsPart, len_setCell, len_marks, len_markL, len_mkL, len_marksN] at h)) | fail)
  all_goals ((refine .mk ⟨trivial, [], ⟨rfl, ?_⟩, List.nodup_nil, rfl, trivial⟩; show V.lit _ = V.lit _); first | (simp_all []; done) | fail)
-- FN impl.settled
theorem F_i_settled (d : Dk) (f : Nat) (w : Nat → Bool) (hx : d.1.length * 16 ≤ 140737488351232) (hy : d.2.length ≤ 140737488351232) (hd : ∀ p ∈ d.2, 0 ≤ p.1 ∧ p.1 < d.1.length) (hf : ∀ i : Nat, i < d.2.length → Fn pg f [.lit (.int .i64 i)] [] (.lit (.bool (w i))) []) : Fn pg 30 [.agg [.imm 1 (rowS d.1), .imm 2 (rowP d.2)], .lit (.func (.func f) #[] #[])] [] (.agg [.sl 500 [] 1 0 d.1.length, .imm 2 []]) [(500, false, 1, rowS (doneL w d.1 d.2 0))] := by
  refine Fn.ofN [0,1,2,4,5,6,7,13,14,15,16,22] [1002,1004,1005,1007,1010] Try.func30 (by rfl) rfl (by show 2 ≤ 32; decide) (by rfl) ?_
  repeat' ((conv => whnf); first | (refine Exists.intro _ (And.intro rfl ?_)) | (refine And.intro (by first | exact True.intro | exact Nat.le_refl _ | fail) ?_) | (refine Or.inl ?_; apply callV_i; (repeat ((conv => whnf); first | refine And.intro (by first | omega | fail) ?_ | fail)); ((conv => whnf); first | exact FnB.mk (F_slices_Clone_string_string _ (by first | omega | fail)) | fail); refine ⟨rfl, rfl, ?_⟩) | fail)
  refine ⟨Nat, fun i => i ≤ d.2.length, fun i => [(0, .agg [.imm 1 (rowS d.1), .imm 2 (rowP d.2)]), (1, .lit (.func (.func f) #[] #[])), (2, .ptr 1002 [] 2 0 0), (4, .ptr 1004 [] 2 0 0), (5, .ptr 1005 [] 2 0 0), (13, .imm 2 (rowP d.2)), (14, .lit (.int .i64 d.2.length)), (15, .lit (.int .i64 i))], fun i => [(1002, true, 2, [[.imm 1 (rowS d.1), .imm 2 (rowP d.2)]]), (1004, true, 2, [[.own 1 [], .own 2 []]]), (1005, true, 2, [[.sl 1010 [] 1 0 d.1.length, .own 2 []]]), (1010, false, 1, rowS (doneL w d.1 (d.2.take i) 0))], fun i => d.2.length - i, ⟨[], 0, by omega, ⟨rfl, rfl⟩, ⟨by first | rfl | fail, by first | rfl | fail, by first | rfl | fail, by first | rfl | fail, by first | rfl | fail, by first | rfl | fail, by first | (show V.lit (Value.int _ _) = V.lit (Value.int _ _); first | (congr 2; first | (simp only [List.length_map]; done) | fail) | fail) | fail, by first | rfl | fail, trivial⟩, ⟨rfl, rfl, rfl, rfl, trivial⟩⟩, ?_⟩
  intro i hi
  have hl := doneL_length w (d.2.take i) d.1 0
  by_cases hlt : i < d.2.length
  · obtain ⟨hp, hp2⟩ := hd _ (List.getElem_mem hlt)
    have hds := doneL_succ w d.1 d.2 i hlt
    repeat' ((conv => whnf); first | (refine iteB_dec (fun h => ?_) (fun h => ?_) <;> (try simp (disch := (first | omega | fail)) only [modAt, List.length_take, List.length_map, List.length_append, List.length_set, List.length_replicate, len_rowsPart, len_setCell, len_marks, len_markL, len_mkL, len_marksN] at h)) | (refine iteB_of (fun h => ?_) (fun h => ?_)) | (refine Exists.intro _ (And.intro rfl ?_)) | (refine wrapB_i64 (by first | omega | fail) (by first | omega | fail) ?_) | (refine And.intro (by first | exact True.intro | exact Nat.le_refl _ | omega | (simp (disch := (first | omega | fail)) only [modAt, List.length_take, List.length_map, List.length_append, List.length_set, List.length_replicate, len_rowsPart, len_setCell, len_marks, len_markL, len_mkL, len_marksN]; first | omega | fail) | fail) ?_) | (refine Exists.intro _ (And.intro (rowGet _ _ _ (by omega)) ?_)) | (refine Exists.intro _ (And.intro (by first | exact (get_mapIC _ _ _ _ _ (by first | omega | fail) (by exact rfl)) | fail) ?_)) | (refine Or.inl ?_; apply callV_i; (repeat ((conv => whnf); first | refine And.intro (by first | omega | fail) ?_ | fail)); ((conv => whnf); first | exact FnB.mk ((hf _ (by omega))) | fail); refine ⟨rfl, rfl, ?_⟩) | fail)
    · exact ⟨[], i + 1, by omega, ⟨⟨rfl, rfl⟩, ⟨by first | rfl | fail, by first | rfl | fail, by first | rfl | fail, by first | rfl | fail, by first | rfl | fail, by first | rfl | fail, by first | rfl | fail, by first | rfl | fail, trivial⟩, ⟨rfl, rfl, rfl, boxEq (setCellM eStr _ _ (.lit (.string d.2[i].2)) d.2[i].2 rfl (by omega) rfl rfl (by rw [hds, if_pos (by assumption)]; rfl)), trivial⟩⟩, by first | (dsimp only; omega) | fail⟩
    · exact ⟨[], i + 1, by omega, ⟨⟨rfl, rfl⟩, ⟨by first | rfl | fail, by first | rfl | fail, by first | rfl | fail, by first | rfl | fail, by first | rfl | fail, by first | rfl | fail, by first | rfl | fail, by first | rfl | fail, trivial⟩, ⟨rfl, rfl, rfl, boxEq (congrArg rowS (by rw [hds, if_neg (by simp_all)])), trivial⟩⟩, by first | (dsimp only; omega) | fail⟩
    · exfalso; omega
  · obtain rfl : i = d.2.length := by omega
    repeat' ((conv => whnf); first | (refine iteB_dec (fun h => ?_) (fun h => ?_) <;> (try simp (disch := (first | omega | fail)) only [modAt, List.length_take, List.length_map, List.length_append, List.length_set, List.length_replicate, len_rowsPart, len_setCell, len_marks, len_markL, len_mkL, len_marksN] at h)) | (refine Exists.intro _ (And.intro rfl ?_)) | (refine And.intro (by first | exact True.intro | exact Nat.le_refl _ | omega | fail) ?_) | (refine Exists.intro _ (And.intro (rowGet _ _ _ (by omega)) ?_)) | fail)
    all_goals first | (exfalso; omega) | skip | fail
    refine .mk ⟨trivial, [1010], ⟨rfl, ?_⟩, by simp, rfl, ?_⟩
    · rfl
    exact ⟨outOk_new (d := 1010) (by decide) rfl (boxEq (congrArg rowS (by rw [List.take_length]))), trivial⟩

end Go.Proofs.Ythbhbncaapnebaa.M

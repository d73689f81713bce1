/- Walks of the program's functions, by the small machine. -/
import Derived.Test.YthbhbncaapnebaaWA
namespace Go.Proofs.Ythbhbncaapnebaa.M
open Go
set_option maxHeartbeats 1000000
set_option maxRecDepth 20000
set_option linter.unusedVariables false
set_option linter.unusedSimpArgs false

/-- Attributes, puts. -/
abbrev At := ByteArray × ByteArray
def eAt (p : At) : List V := [.lit (.string p.1), .lit (.string p.2)]
abbrev rowA (a : List At) : Row := a.map eAt
instance : Inhabited At := ⟨(.empty, .empty)⟩
abbrev Pt := Int × ByteArray
def ePt (p : Pt) : List V := [.lit (.int .i64 p.1), .lit (.string p.2)]
abbrev rowP (a : List Pt) : Row := a.map ePt
instance : Inhabited Pt := ⟨(0, .empty)⟩
theorem litA (xs : List At) : litRow 2 (rowA xs) := by
  intro x hx
  obtain ⟨n, _, rfl⟩ := List.mem_map.1 hx
  refine ⟨rfl, fun c hc => ?_⟩
  simp [eAt] at hc
  rcases hc with rfl | rfl <;> exact ⟨_, rfl, rfl⟩
theorem litP (xs : List Pt) : litRow 2 (rowP xs) := by
  intro x hx
  obtain ⟨n, _, rfl⟩ := List.mem_map.1 hx
  refine ⟨rfl, fun c hc => ?_⟩
  simp [ePt] at hc
  rcases hc with rfl | rfl <;> exact ⟨_, rfl, rfl⟩
-- FN laws.toPut
theorem F_l_toPut (p : Pt) : Fn pg 54 [.agg (ePt p)] [] (.agg (ePt p)) [] := by
  refine Fn.ofN [0,1,2,3] [1001,1002,1003] Try.func54 (by rfl) rfl (by show 1 ≤ 11; decide) (by rfl) ?_
  repeat' ((conv => whnf); first | (refine Exists.intro _ (And.intro rfl ?_)) | (refine And.intro (by first | exact True.intro | exact Nat.le_refl _ | fail) ?_) | fail)
  all_goals (refine .mk ⟨trivial, [], ⟨rfl, rfl⟩, List.nodup_nil, rfl, trivial⟩)
-- FN laws.eqPut
theorem F_l_eqPut (p q : Pt) : Fn pg 56 [.agg (ePt p), .agg (ePt q)] [] (.lit (.bool (decide (p = q)))) [] := by
  refine Fn.ofN [0,1,2,3,4,9,14] [1002,1003] Try.func56 (by rfl) rfl (by show 2 ≤ 15; decide) (by rfl) ?_
  repeat' ((conv => whnf); first | (refine iteB_dec (fun h => ?_) (fun h => ?_) <;> (try simp (disch := (first | omega | fail)) only [modAt, List.length_take, List.length_map, List.length_append, List.length_set, List.length_replicate, len_rowsPart, len_setCell, len_marks, len_markL] at h)) | (refine Exists.intro _ (And.intro rfl ?_)) | fail)
  all_goals ((refine .mk ⟨trivial, [], ⟨rfl, ?_⟩, List.nodup_nil, rfl, trivial⟩; show V.lit _ = V.lit _); simp only [V.lit.injEq, Value.bool.injEq]; obtain ⟨p1, p2⟩ := p; obtain ⟨q1, q2⟩ := q; simp_all)
-- FN laws.toPutS
theorem F_l_toPutS (xs : List Pt) (hx : xs.length * 24 ≤ 140737488351232) : Fn pg 28 [.imm 2 (rowP xs)] [] (.sl 500 [] 2 0 xs.length) [(500, false, 2, rowP xs)] := by
  refine Fn.ofN [0,2,3,4,11] [1002,1007] Try.func28 (by rfl) rfl (by show 1 ≤ 23; decide) (by rfl) ?_
  repeat' ((conv => whnf); first | (refine And.intro (by first | exact True.intro | omega | (simp (disch := (first | omega | fail)) only [modAt, List.length_take, List.length_map, List.length_append, List.length_set, List.length_replicate, len_rowsPart, len_setCell, len_marks, len_markL]; first | omega | fail) | fail) ?_) | fail)
  refine ⟨Nat, fun i => i ≤ xs.length, fun i => [(0, .imm 2 (rowP xs)), (3, .sl 1007 [] 2 0 xs.length), (4, .lit (.int .i64 i))], fun i => [(1007, false, 2, rowsPart ePt [.lit (.int .i64 0), .lit (.string .empty)] xs i)], fun i => xs.length - i, ⟨[], 0, by omega, ⟨rfl, rfl⟩, ⟨by first | rfl | fail, ?_, by first | rfl | fail, trivial⟩, ?_, trivial⟩, ?_⟩
  · show V.sl 1007 [] 2 0 _ = V.sl 1007 [] 2 0 _
    rw [Int.toNat_natCast, List.length_map]
  · show some (false, 2, _) = some (false, 2, rowsPart ePt [.lit (.int .i64 0), .lit (.string .empty)] xs 0)
    rw [Int.toNat_natCast, List.length_map, rowsPart_zero]
  intro i hi
  repeat' ((conv => whnf); first | (refine iteB_dec (fun h => ?_) (fun h => ?_) <;> (try simp (disch := (first | omega | fail)) only [modAt, List.length_take, List.length_map, List.length_append, List.length_set, List.length_replicate, len_rowsPart, len_setCell, len_marks, len_markL] at h)) | (refine wrapB_i64 (by first | omega | fail) (by first | omega | fail) ?_) | (refine And.intro (by first | exact True.intro | omega | (simp (disch := (first | omega | fail)) only [modAt, List.length_take, List.length_map, List.length_append, List.length_set, List.length_replicate, len_rowsPart, len_setCell, len_marks, len_markL]; first | omega | fail) | fail) ?_) | (refine Exists.intro _ (And.intro (rowGet _ _ _ (by omega)) ?_)) | (refine Exists.intro _ (And.intro (by first | exact (get_partC _ _ _ _ _ _ (by first | omega | fail) (by exact rfl)) | exact (get_setC (by decide) (get_partC _ _ _ _ _ _ (by first | omega | fail) (by exact rfl))) | fail) ?_)) | (refine Or.inl ?_; apply callV_i; (repeat ((conv => whnf); first | refine And.intro (by first | omega | fail) ?_ | fail)); ((conv => whnf); first | exact FnB.mk (F_l_toPut _) | fail); refine ⟨rfl, rfl, ?_⟩) | fail)
  · refine ⟨[], i + 1, by omega, ⟨⟨rfl, rfl⟩, ⟨by first | rfl | fail, by first | rfl | fail, by first | rfl | fail, trivial⟩, ?_, trivial⟩, by first | (dsimp only; omega) | fail⟩
    show some (false, 2, setCell (setCell (rowsPart ePt [.lit (.int .i64 0), .lit (.string .empty)] xs i) i 0 _) i 1 _) = some (false, 2, rowsPart ePt [.lit (.int .i64 0), .lit (.string .empty)] xs (i + 1))
    rw [setCell_at (rowsPart_z _ _ _ _ (by omega)), setCell_set (by rw [len_rowsPart _ _ _ _ (by omega)]; omega), ← rowsPart_succ _ _ _ _ (by omega)]; rfl
  · have hi' : i = xs.length := by omega
    subst hi'
    refine .mk ⟨trivial, [1007], ⟨rfl, ?_⟩, by simp, rfl, ?_⟩
    · rfl
    refine ⟨?_, trivial⟩
    refine outOk_new (d := 1007) (by decide) rfl ?_
    show some (false, 2, rowsPart _ _ xs xs.length) = some (false, 2, rowP xs)
    rw [rowsPart_all]
-- FN laws.eqPutS
theorem F_l_eqPutS (a b : List Pt) (ha : a.length ≤ 140737488351232) (hb : b.length ≤ 140737488351232) : Fn pg 33 [.imm 2 (rowP a), .imm 2 (rowP b)] [] (.lit (.bool (decide (a = b)))) [] := by
  refine Fn.ofN [0,1,4,5,10,14,26] [] Try.func33 (by rfl) rfl (by show 2 ≤ 27; decide) (by rfl) ?_
  repeat' ((conv => whnf); first | (refine iteB_dec (fun h => ?_) (fun h => ?_) <;> (try simp (disch := (first | omega | fail)) only [modAt, List.length_take, List.length_map, List.length_append, List.length_set, List.length_replicate, len_rowsPart, len_setCell, len_marks, len_markL] at h)) | fail)
  · (refine .mk ⟨trivial, [], ⟨rfl, ?_⟩, List.nodup_nil, rfl, trivial⟩; show V.lit _ = V.lit _)
    have : a ≠ b := fun e => by subst e; omega
    simp [this]
  refine ⟨Nat, fun i => i ≤ a.length ∧ a.take i = b.take i, fun i => [(0, .imm 2 (rowP a)), (1, .imm 2 (rowP b)), (5, .lit (.int .i64 i))], fun i => [], fun i => a.length - i, ⟨[], 0, by simp, ⟨rfl, rfl⟩, ⟨by first | rfl | fail, by first | rfl | fail, by first | rfl | fail, trivial⟩, trivial⟩, ?_⟩
  intro i ⟨hi, ht⟩
  repeat' ((conv => whnf); first | (refine iteB_dec (fun h => ?_) (fun h => ?_) <;> (try simp (disch := (first | omega | fail)) only [modAt, List.length_take, List.length_map, List.length_append, List.length_set, List.length_replicate, len_rowsPart, len_setCell, len_marks, len_markL] at h)) | (refine iteB_not ?_) | (refine wrapB_i64 (by first | omega | fail) (by first | omega | fail) ?_) | (refine And.intro (by first | exact True.intro | omega | fail) ?_) | (refine Exists.intro _ (And.intro (rowGet _ _ _ (by omega)) ?_)) | (refine Or.inl (And.intro (by decide +kernel) ?_)) | (apply callQ_i; (repeat ((conv => whnf); first | refine And.intro (by first | omega | fail) ?_ | fail)); ((conv => whnf); apply Exists.intro; (first | exact FnB.mk (F_l_eqPut _ _) | fail))) | fail)
  · exact ⟨[], i + 1, ⟨by omega, eq_step (by omega) (by omega) (by simp_all) ht⟩, ⟨⟨rfl, rfl⟩, ⟨by first | rfl | fail, by first | rfl | fail, by first | rfl | fail, trivial⟩, trivial⟩, by first | (dsimp only; omega) | fail⟩
  · (refine .mk ⟨trivial, [], ⟨rfl, ?_⟩, List.nodup_nil, rfl, trivial⟩; show V.lit _ = V.lit _)
    simp only [V.lit.injEq, Value.bool.injEq]
    rw [decide_eq_false (ne_at (i := i) (by omega) (by omega) (by simp_all))]
  · (refine .mk ⟨trivial, [], ⟨rfl, ?_⟩, List.nodup_nil, rfl, trivial⟩; show V.lit _ = V.lit _)
    have : a = b := eq_all (by omega) (by omega) ht
    simp [this]
def szL {α : Type} (sz : α → Int → Int) : List α → Int → Int
  | [], l => l
  | x :: r, l => if sz x l < 0 then -1 else szL sz r (sz x l)
def szS {α : Type} (sz : α → Int → Int) (xs : List α) (l : Int) : Int := if l - xs.length < 0 then -1 else szL sz xs (l - xs.length)
def szStr (s : ByteArray) (l : Int) : Int := l - s.size
def szAt (a : At) (l : Int) : Int := if l - a.1.size < 0 then -1 else if l - a.1.size - a.2.size < 0 then -1 else l - a.1.size - a.2.size
def szPt (a : Pt) (l : Int) : Int := if l - a.2.size < 0 then -1 else l - a.2.size
-- FN laws.szPut
theorem F_l_szPut (p : Pt) (l : Int) (hl : 0 ≤ l) (hl2 : l ≤ 140737488351232) (hp : p.2.size ≤ 140737488351232) : Fn pg 53 [.agg (ePt p), .lit (.int .i64 l)] [] (.lit (.int .i64 (szPt p l))) [] := by
  refine Fn.ofN [0,1,2,4,11] [1002] Try.func53 (by rfl) rfl (by show 2 ≤ 13; decide) (by rfl) ?_
  repeat' ((conv => whnf); first | (refine iteB_dec (fun h => ?_) (fun h => ?_) <;> (try simp (disch := (first | omega | fail)) only [modAt, List.length_take, List.length_map, List.length_append, List.length_set, List.length_replicate, len_rowsPart, len_setCell, len_marks, len_markL] at h)) | (refine Exists.intro _ (And.intro rfl ?_)) | (refine wrapB_i64 (by first | omega | fail) (by first | omega | fail) ?_) | fail)
  all_goals ((refine .mk ⟨trivial, [], ⟨rfl, ?_⟩, List.nodup_nil, rfl, trivial⟩; show V.lit _ = V.lit _); unfold szPt; congr 2; grind)
theorem le_szAt (p : At) (l : Int) (h : 0 ≤ l) : szAt p l ≤ l := by unfold szAt; grind
theorem le_szStr (p : ByteArray) (l : Int) (h : 0 ≤ l) : szStr p l ≤ l := by unfold szStr; omega
theorem le_szPt (p : Pt) (l : Int) (h : 0 ≤ l) : szPt p l ≤ l := by unfold szPt; grind
-- FN laws.szPutS
theorem F_l_szPutS (xs : List Pt) (l : Int) (hx : xs.length ≤ 140737488351232) (hl : 0 ≤ l) (hl2 : l ≤ 140737488351232) (hp : ∀ x ∈ xs, x.2.size ≤ 140737488351232) : Fn pg 23 [.imm 2 (rowP xs), .lit (.int .i64 l)] [] (.lit (.int .i64 (szS szPt xs l))) [] := by
  refine Fn.ofN [0,1,4,5,11,15,25] [] Try.func23 (by rfl) rfl (by show 2 ≤ 27; decide) (by rfl) ?_
  repeat' ((conv => whnf); first | (refine iteB_dec (fun h => ?_) (fun h => ?_) <;> (try simp (disch := (first | omega | fail)) only [modAt, List.length_take, List.length_map, List.length_append, List.length_set, List.length_replicate, len_rowsPart, len_setCell, len_marks, len_markL] at h)) | (refine wrapB_i64 (by first | (simp (disch := (first | omega | fail)) only [modAt, List.length_take, List.length_map, List.length_append, List.length_set, List.length_replicate, len_rowsPart, len_setCell, len_marks, len_markL]; first | omega | fail) | fail) (by first | omega | fail) ?_) | fail)
  · (refine .mk ⟨trivial, [], ⟨rfl, ?_⟩, List.nodup_nil, rfl, trivial⟩; show V.lit _ = V.lit _)
    unfold szS
    rw [if_pos (by omega)]
  have h0 : ¬ l - (xs.length : Int) < 0 := by assumption
  refine ⟨Nat × Int, fun x => x.1 ≤ xs.length ∧ 0 ≤ x.2 ∧ x.2 ≤ 140737488351232 ∧ szS szPt xs l = szL szPt (xs.drop x.1) x.2, fun x => [(0, .imm 2 (rowP xs)), (1, .lit (.int .i64 x.2)), (5, .lit (.int .i64 x.1))], fun _ => [], fun x => xs.length - x.1, ⟨[], (0, l - xs.length), ⟨by simp, by dsimp only; omega, by dsimp only; omega, by simp [szS, h0]⟩, ⟨rfl, rfl⟩, ⟨by first | rfl | fail, by show V.lit (.int .i64 (l - List.length (List.map _ xs))) = _; rw [List.length_map]; rfl, by first | rfl | fail, trivial⟩, trivial⟩, ?_⟩
  intro (i, m) ⟨hi, hm, hm2, hh⟩
  dsimp only at hi hm hm2 hh
  have hq : ∀ h : i < xs.length, szPt xs[i] m ≤ m := fun h => le_szPt _ _ hm
  have hy : ∀ h : i < xs.length, (fun x : Pt => x.2.size ≤ 140737488351232) xs[i] := fun h => hp _ (List.getElem_mem h)
  by_cases hlt : i < xs.length
  · have hy2 := hy hlt
    try dsimp only at hy2
    have h1 := hq hlt
    rw [drop_cons _ _ hlt] at hh
    repeat' ((conv => whnf); first | (refine iteB_dec (fun h => ?_) (fun h => ?_) <;> (try simp (disch := (first | omega | fail)) only [modAt, List.length_take, List.length_map, List.length_append, List.length_set, List.length_replicate, len_rowsPart, len_setCell, len_marks, len_markL] at h)) | (refine wrapB_i64 (by first | omega | fail) (by first | omega | fail) ?_) | (refine And.intro (by first | exact True.intro | omega | fail) ?_) | (refine Exists.intro _ (And.intro (rowGet _ _ _ (by omega)) ?_)) | (refine Or.inl ?_; apply callV_i; (repeat ((conv => whnf); first | refine And.intro (by first | omega | fail) ?_ | fail)); ((conv => whnf); first | exact FnB.mk (F_l_szPut _ _ (by first | omega | fail) (by first | omega | fail) (by first | omega | fail)) | fail); refine ⟨rfl, rfl, ?_⟩) | fail)
    · (refine .mk ⟨trivial, [], ⟨rfl, ?_⟩, List.nodup_nil, rfl, trivial⟩; show V.lit _ = V.lit _)
      rw [hh]; simp only [szL]; rw [if_pos (by first | assumption | fail)]
    · have hn : ¬ szPt xs[i] m < 0 := by first | assumption | fail
      refine ⟨[], (i + 1, szPt xs[i] m), ⟨by dsimp only; omega, by dsimp only; omega, by dsimp only; omega, ?_⟩, ⟨⟨rfl, rfl⟩, ⟨by first | rfl | fail, rfl, by first | rfl | fail, trivial⟩, trivial⟩, by first | (dsimp only; omega) | fail⟩
      rw [hh]; simp only [szL]; rw [if_neg hn]
    · exfalso; omega
  · rw [List.drop_of_length_le (by omega)] at hh
    repeat' ((conv => whnf); first | (refine iteB_dec (fun h => ?_) (fun h => ?_) <;> (try simp (disch := (first | omega | fail)) only [modAt, List.length_take, List.length_map, List.length_append, List.length_set, List.length_replicate, len_rowsPart, len_setCell, len_marks, len_markL] at h)) | (refine wrapB_i64 (by first | omega | fail) (by first | omega | fail) ?_) | (refine And.intro (by first | exact True.intro | omega | fail) ?_) | (refine Exists.intro _ (And.intro (rowGet _ _ _ (by omega)) ?_)) | (refine Or.inl ?_; apply callV_i; (repeat ((conv => whnf); first | refine And.intro (by first | omega | fail) ?_ | fail)); ((conv => whnf); first | exact FnB.mk (F_l_szPut _ _ (by first | omega | fail) (by first | omega | fail) (by first | omega | fail)) | fail); refine ⟨rfl, rfl, ?_⟩) | fail)
    all_goals first | (exfalso; omega) | skip | fail
    (refine .mk ⟨trivial, [], ⟨rfl, ?_⟩, List.nodup_nil, rfl, trivial⟩; show V.lit _ = V.lit _)
    rw [hh]; rfl
-- FN laws.szStringS
theorem F_l_szStringS (xs : List ByteArray) (l : Int) (hx : xs.length ≤ 140737488351232) (hl : 0 ≤ l) (hl2 : l ≤ 140737488351232) (hp : ∀ x ∈ xs, x.size ≤ 140737488351232) : Fn pg 22 [.imm 1 (rowS xs), .lit (.int .i64 l)] [] (.lit (.int .i64 (szS szStr xs l))) [] := by
  refine Fn.ofN [0,1,4,5,11,15,26] [] Try.func22 (by rfl) rfl (by show 2 ≤ 28; decide) (by rfl) ?_
  repeat' ((conv => whnf); first | (refine iteB_dec (fun h => ?_) (fun h => ?_) <;> (try simp (disch := (first | omega | fail)) only [modAt, List.length_take, List.length_map, List.length_append, List.length_set, List.length_replicate, len_rowsPart, len_setCell, len_marks, len_markL] at h)) | (refine wrapB_i64 (by first | (simp (disch := (first | omega | fail)) only [modAt, List.length_take, List.length_map, List.length_append, List.length_set, List.length_replicate, len_rowsPart, len_setCell, len_marks, len_markL]; first | omega | fail) | fail) (by first | omega | fail) ?_) | fail)
  · (refine .mk ⟨trivial, [], ⟨rfl, ?_⟩, List.nodup_nil, rfl, trivial⟩; show V.lit _ = V.lit _)
    unfold szS
    rw [if_pos (by omega)]
  have h0 : ¬ l - (xs.length : Int) < 0 := by assumption
  refine ⟨Nat × Int, fun x => x.1 ≤ xs.length ∧ 0 ≤ x.2 ∧ x.2 ≤ 140737488351232 ∧ szS szStr xs l = szL szStr (xs.drop x.1) x.2, fun x => [(0, .imm 1 (rowS xs)), (1, .lit (.int .i64 x.2)), (5, .lit (.int .i64 x.1))], fun _ => [], fun x => xs.length - x.1, ⟨[], (0, l - xs.length), ⟨by simp, by dsimp only; omega, by dsimp only; omega, by simp [szS, h0]⟩, ⟨rfl, rfl⟩, ⟨by first | rfl | fail, by show V.lit (.int .i64 (l - List.length (List.map _ xs))) = _; rw [List.length_map]; rfl, by first | rfl | fail, trivial⟩, trivial⟩, ?_⟩
  intro (i, m) ⟨hi, hm, hm2, hh⟩
  dsimp only at hi hm hm2 hh
  have hq : ∀ h : i < xs.length, szStr xs[i] m ≤ m := fun h => le_szStr _ _ hm
  have hy : ∀ h : i < xs.length, (fun x : ByteArray => x.size ≤ 140737488351232) xs[i] := fun h => hp _ (List.getElem_mem h)
  by_cases hlt : i < xs.length
  · have hy2 := hy hlt
    try dsimp only at hy2
    have h1 := hq hlt
    rw [drop_cons _ _ hlt] at hh
    repeat' ((conv => whnf); first | (refine iteB_dec (fun h => ?_) (fun h => ?_) <;> (try simp (disch := (first | omega | fail)) only [modAt, List.length_take, List.length_map, List.length_append, List.length_set, List.length_replicate, len_rowsPart, len_setCell, len_marks, len_markL] at h)) | (refine wrapB_i64 (by first | omega | (simp (disch := (first | omega | fail)) only [modAt, List.length_take, List.length_map, List.length_append, List.length_set, List.length_replicate, len_rowsPart, len_setCell, len_marks, len_markL]; first | omega | fail) | fail) (by first | omega | fail) ?_) | (refine And.intro (by first | exact True.intro | omega | fail) ?_) | (refine Exists.intro _ (And.intro (rowGet _ _ _ (by omega)) ?_)) | fail)
    · (refine .mk ⟨trivial, [], ⟨rfl, ?_⟩, List.nodup_nil, rfl, trivial⟩; show V.lit _ = V.lit _)
      rw [hh]; simp only [szL]; rw [if_pos (by first | assumption | fail)]
    · have hn : ¬ szStr xs[i] m < 0 := by first | assumption | fail
      refine ⟨[], (i + 1, szStr xs[i] m), ⟨by dsimp only; omega, by dsimp only; omega, by dsimp only; omega, ?_⟩, ⟨⟨rfl, rfl⟩, ⟨by first | rfl | fail, rfl, by first | rfl | fail, trivial⟩, trivial⟩, by first | (dsimp only; omega) | fail⟩
      rw [hh]; simp only [szL]; rw [if_neg hn]
    · exfalso; omega
  · rw [List.drop_of_length_le (by omega)] at hh
    repeat' ((conv => whnf); first | (refine iteB_dec (fun h => ?_) (fun h => ?_) <;> (try simp (disch := (first | omega | fail)) only [modAt, List.length_take, List.length_map, List.length_append, List.length_set, List.length_replicate, len_rowsPart, len_setCell, len_marks, len_markL] at h)) | (refine wrapB_i64 (by first | omega | fail) (by first | omega | fail) ?_) | (refine And.intro (by first | exact True.intro | omega | fail) ?_) | (refine Exists.intro _ (And.intro (rowGet _ _ _ (by omega)) ?_)) | fail)
    all_goals first | (exfalso; omega) | skip | fail
    (refine .mk ⟨trivial, [], ⟨rfl, ?_⟩, List.nodup_nil, rfl, trivial⟩; show V.lit _ = V.lit _)
    rw [hh]; rfl
/-- Marks, each by what stands there. -/
def mkL {α : Type} (f : Int → α → α) (st : α → Nat) (k : Int) : List α → List α
  | [] => []
  | x :: r => f k x :: mkL f st (k + st x) r
def stL {α : Type} (st : α → Nat) : List α → Nat
  | [] => 0
  | x :: r => st x + stL st r
theorem len_mkL {α : Type} (f : Int → α → α) (st : α → Nat) (k : Int) (l : List α) : (mkL f st k l).length = l.length := by
  induction l generalizing k with
  | nil => rfl
  | cons x r ih => simp [mkL, ih]
theorem stL_append {α : Type} (st : α → Nat) (l r : List α) : stL st (l ++ r) = stL st l + stL st r := by
  induction l with
  | nil => simp [stL]
  | cons x l ih => simp [stL, ih]; omega
theorem mkL_append {α : Type} (f : Int → α → α) (st : α → Nat) (k : Int) (l r : List α) : mkL f st k (l ++ r) = mkL f st k l ++ mkL f st (k + stL st l) r := by
  induction l generalizing k with
  | nil => simp [mkL, stL]
  | cons x l ih => simp only [List.cons_append, mkL, stL, ih]; congr 3; omega
def marksN {α : Type} (f : Int → α → α) (st : α → Nat) (k : Int) (a : List α) (i : Nat) : List α := mkL f st k (a.take i) ++ a.drop i
theorem len_marksN {α : Type} (f : Int → α → α) (st : α → Nat) (k : Int) (a : List α) (i : Nat) : (marksN f st k a i).length = a.length := by
  simp [marksN, len_mkL]; omega
theorem marksN_zero {α : Type} (f : Int → α → α) (st : α → Nat) (k : Int) (a : List α) : marksN f st k a 0 = a := by simp [marksN, mkL]
theorem stL_succ {α : Type} (st : α → Nat) (a : List α) (i : Nat) (h : i < a.length) : stL st (a.take (i + 1)) = stL st (a.take i) + st a[i] := by
  rw [List.take_succ_eq_append_getElem h, stL_append]; rfl
theorem marksN_get {α : Type} (f : Int → α → α) (st : α → Nat) (k : Int) (a : List α) (i : Nat) (h : i < a.length) : (marksN f st k a i)[i]? = some a[i] := by
  unfold marksN
  rw [List.getElem?_append_right (by simp [len_mkL]; omega), len_mkL, List.length_take, Nat.min_eq_left (by omega), Nat.sub_self, List.getElem?_drop, Nat.add_zero, List.getElem?_eq_getElem h]
theorem marksN_succ {α : Type} (f : Int → α → α) (st : α → Nat) (k : Int) (a : List α) (i : Nat) (h : i < a.length) : (marksN f st k a i).set i (f (k + stL st (a.take i)) a[i]) = marksN f st k a (i + 1) := by
  unfold marksN
  rw [List.take_succ_eq_append_getElem h, mkL_append, List.set_append_right _ _ (by simp [len_mkL]; omega), len_mkL, List.length_take, Nat.min_eq_left (by omega), Nat.sub_self, drop_cons _ _ h, List.set_cons_zero]
  simp [mkL]
theorem take_marksN {α : Type} (E : α → List V) (f : Int → α → α) (st : α → Nat) (k : Int) (a : List α) (n : Nat) (h : n ≤ a.length) : List.take n (List.drop 0 (List.map E (marksN f st k a n))) = List.map E (mkL f st k (a.take n)) := by
  rw [List.drop_zero, marksN, List.map_append, List.take_append_of_le_length (by simp [len_mkL]; omega), List.take_of_length_le (by simp [len_mkL]; omega)]
def heldG {α : Type} (hd : Int → α → Int) (k : Int) : List α → Int
  | [] => k
  | x :: r => if hd k x < 0 then -1 else heldG hd (hd k x) r
theorem heldG_mkL {α : Type} (hd : Int → α → Int) (f : Int → α → α) (st : α → Nat) (hh : ∀ (k : Int) (x : α), 0 ≤ k → hd k (f k x) = k + st x) : ∀ (l : List α) (k : Int), 0 ≤ k → heldG hd k (mkL f st k l) = k + stL st l := by
  intro l
  induction l with
  | nil => intro k _; simp [mkL, heldG, stL]
  | cons x r ih =>
    intro k hk
    simp only [mkL, heldG, stL]
    rw [hh k x hk, if_neg (by omega), ih _ (by omega)]; omega
theorem get_marksNC {α : Type} (E : α → List V) (f : Int → α → α) (st : α → Nat) (k : Int) (a : List α) (i j : Nat) (v : V) (h : i < a.length) (hv : (E a[i])[j]? = some v) : cellAt (List.map E (marksN f st k a i)) (((i : Nat) : Int).toNat + 0) j = some v := by
  rw [Int.toNat_natCast, Nat.add_zero]
  unfold cellAt
  rw [List.getElem?_map, marksN_get _ _ _ _ _ h]; exact hv
theorem get_marksNR {α : Type} (E : α → List V) (f : Int → α → α) (st : α → Nat) (k : Int) (a : List α) (i : Nat) (h : i < a.length) : (List.map E (marksN f st k a i))[((i : Nat) : Int).toNat + 0]? = some (E a[i]) := by
  rw [Int.toNat_natCast, Nat.add_zero, List.getElem?_map, marksN_get _ _ _ _ _ h]; rfl
def mkAt (k : Int) (_ : At) : At := (markT k, markT (k + 1))
def mkPt (k : Int) (_ : Pt) : Pt := (k, markT (k + 1))
def two {α : Type} (_ : α) : Nat := 2
theorem stL_two {α : Type} (l : List α) : stL two l = 2 * l.length := by
  induction l with
  | nil => rfl
  | cons x r ih => simp only [stL, two, ih, List.length_cons]; omega
-- FN laws.markPutS
theorem F_l_markPutS (a : List Pt) (n : Nat) (k : Int) (hn : n ≤ a.length) (ha : n ≤ 140737488351232) (hk : 0 ≤ k) (hk2 : k ≤ 4470000000000000000) : Fn pg 35 [.sl 0 [] 2 0 n, .lit (.int .i64 k)] [(0, false, 2, rowP a)] (.lit (.int .i64 (k + stL two (a.take n)))) [(0, false, 2, rowP (marksN mkPt two k a n))] := by
  refine Fn.ofN [0,1,4,5,9] [0] Try.func35 (by rfl) rfl (by show 2 ≤ 28; decide) (by rfl) ?_
  repeat' ((conv => whnf); first | (refine iteB_dec (fun h => ?_) (fun h => ?_) <;> (try simp (disch := (first | omega | fail)) only [modAt, List.length_take, List.length_map, List.length_append, List.length_set, List.length_replicate, len_rowsPart, len_setCell, len_marks, len_markL, len_mkL, len_marksN] at h)) | fail)
  refine ⟨Nat, fun i => i ≤ n, fun i => [(0, .sl 0 [] 2 0 n), (1, .lit (.int .i64 (k + stL two (a.take i)))), (5, .lit (.int .i64 i))], fun i => [(0, false, 2, rowP (marksN mkPt two k a i))], fun i => n - i, ⟨[], 0, by omega, ⟨rfl, rfl⟩, ⟨by first | rfl | fail, by simp [stL]; rfl, by first | rfl | fail, trivial⟩, ⟨boxEq (congrArg rowP (marksN_zero _ _ _ _).symm), trivial⟩⟩, ?_⟩
  intro i hi
  have hst : stL two (a.take i) = 2 * i := by rw [stL_two, List.length_take]; omega
  repeat' ((conv => whnf); first | (refine iteB_dec (fun h => ?_) (fun h => ?_) <;> (try simp (disch := (first | omega | fail)) only [modAt, List.length_take, List.length_map, List.length_append, List.length_set, List.length_replicate, len_rowsPart, len_setCell, len_marks, len_markL, len_mkL, len_marksN] at h)) | (refine wrapB_i64 (by first | omega | fail) (by first | omega | fail) ?_) | (refine And.intro (by first | exact True.intro | omega | (simp (disch := (first | omega | fail)) only [modAt, List.length_take, List.length_map, List.length_append, List.length_set, List.length_replicate, len_rowsPart, len_setCell, len_marks, len_markL, len_mkL, len_marksN]; first | omega | fail) | fail) ?_) | (refine Exists.intro _ (And.intro (by first | exact (get_marksNC _ _ _ _ _ _ _ _ (by first | omega | fail) (by exact rfl)) | exact (get_setC (by decide) (get_marksNC _ _ _ _ _ _ _ _ (by first | omega | fail) (by exact rfl))) | fail) ?_)) | (refine Or.inl ?_; apply callV_i; (repeat ((conv => whnf); first | refine And.intro (by first | omega | fail) ?_ | fail)); ((conv => whnf); first | exact FnB.mk (F_l_markText _ (by first | omega | fail)) | fail); refine ⟨rfl, rfl, ?_⟩) | fail)
  · have hml : i < (marksN mkPt two k a i).length := by rw [len_marksN]; omega
    have hs1 := stL_succ two a i (by omega)
    have hge : (marksN mkPt two k a i)[i] = a[i]'(by omega) := Option.some.inj ((List.getElem?_eq_getElem hml).symm.trans (marksN_get _ _ _ _ _ (by omega)))
    refine ⟨[], i + 1, by omega, ⟨⟨rfl, rfl⟩, ⟨by first | rfl | fail, by rw [hs1]; (show V.lit (.int .i64 _) = V.lit (.int .i64 _)); congr 2; simp only [two]; omega, by first | rfl | fail, trivial⟩, ⟨boxEq ?_, trivial⟩⟩, by first | (dsimp only; omega) | fail⟩
    show setCs (List.map ePt (marksN mkPt two k a i)) (Int.toNat (i : Int) + 0) [(0, _), (1, _)] = List.map ePt (marksN mkPt two k a (i + 1))
    exact setCs_map ePt _ _ (mkPt (k + stL two (a.take i)) (a[i]'(by omega))) rfl hml rfl (marksN_succ _ _ _ _ _ (by omega))
  · have hi' : i = n := by omega
    subst hi'
    refine .mk ⟨trivial, [], ⟨rfl, ?_⟩, List.nodup_nil, rfl, ?_⟩
    · rfl
    exact ⟨outOk_old (b := 0) (by decide) rfl, trivial⟩
theorem marksN_all {α : Type} (f : Int → α → α) (st : α → Nat) (k : Int) (a : List α) : marksN f st k a a.length = mkL f st k a := by simp [marksN]
theorem marks_all {α : Type} (f : Int → α) (k : Int) (a : List α) : marks f k a a.length = markL f k a.length := by simp [marks, markL]
def hdAt (k : Int) (x : At) : Int := if x.1 = markT k then (if x.2 = markT (k + 1) then k + 1 + 1 else -1) else -1
def hdPt (k : Int) (x : Pt) : Int := if x.1 = k then (if x.2 = markT (k + 1) then k + 1 + 1 else -1) else -1
theorem hdAt_mk (k : Int) (x : At) (h : 0 ≤ k) : hdAt k (mkAt k x) = k + two x := by simp [hdAt, mkAt, two]; omega
theorem hdPt_mk (k : Int) (x : Pt) (h : 0 ≤ k) : hdPt k (mkPt k x) = k + two x := by simp [hdPt, mkPt, two]; omega
-- FN laws.heldPutS
theorem F_l_heldPutS (a : List Pt) (k : Int) (ha : a.length ≤ 140737488351232) (hk : 0 ≤ k) (hk2 : k ≤ 4470000000000000000) : Fn pg 37 [.imm 2 (rowP a), .lit (.int .i64 k)] [] (.lit (.int .i64 (heldG hdPt k a))) [] := by
  refine Fn.ofN [0,1,4,5,9,18,28] [] Try.func37 (by rfl) rfl (by show 2 ≤ 32; decide) (by rfl) ?_
  repeat' ((conv => whnf); first | (refine iteB_dec (fun h => ?_) (fun h => ?_) <;> (try simp (disch := (first | omega | fail)) only [modAt, List.length_take, List.length_map, List.length_append, List.length_set, List.length_replicate, len_rowsPart, len_setCell, len_marks, len_markL, len_mkL, len_marksN] at h)) | fail)
  refine ⟨Nat, fun i => i ≤ a.length ∧ heldG hdPt k a = heldG hdPt (k + 2 * i) (a.drop i), fun i => [(0, .imm 2 (rowP a)), (1, .lit (.int .i64 (k + 2 * i))), (5, .lit (.int .i64 i))], fun i => [], fun i => a.length - i, ⟨[], 0, by simp, ⟨rfl, rfl⟩, ⟨by first | rfl | fail, by first | (show V.lit (Value.int _ _) = V.lit (Value.int _ _); first | (congr 2; first | omega | fail) | fail) | fail, by first | rfl | fail, trivial⟩, trivial⟩, ?_⟩
  intro i ⟨hi, hh⟩
  repeat' ((conv => whnf); first | (refine iteB_dec (fun h => ?_) (fun h => ?_) <;> (try simp (disch := (first | omega | fail)) only [modAt, List.length_take, List.length_map, List.length_append, List.length_set, List.length_replicate, len_rowsPart, len_setCell, len_marks, len_markL, len_mkL, len_marksN] at h)) | (refine wrapB_i64 (by first | omega | fail) (by first | omega | fail) ?_) | (refine And.intro (by first | exact True.intro | omega | fail) ?_) | (refine Exists.intro _ (And.intro (rowGet _ _ _ (by omega)) ?_)) | (refine Or.inl (And.intro (by decide +kernel) ?_)) | (apply callQ_i; (repeat ((conv => whnf); first | refine And.intro (by first | omega | fail) ?_ | fail)); ((conv => whnf); apply Exists.intro; (first | exact FnB.mk (F_l_markText _ (by first | omega | fail)) | fail))) | fail)
  · rw [drop_cons _ _ (by omega)] at hh
    (refine .mk ⟨trivial, [], ⟨rfl, ?_⟩, List.nodup_nil, rfl, trivial⟩; show V.lit _ = V.lit _)
    rw [hh]; simp_all [heldG, hdPt]
  · rw [drop_cons _ _ (by omega)] at hh
    (refine .mk ⟨trivial, [], ⟨rfl, ?_⟩, List.nodup_nil, rfl, trivial⟩; show V.lit _ = V.lit _)
    rw [hh]; simp_all [heldG, hdPt]
  · rw [drop_cons _ _ (by omega)] at hh
    refine ⟨[], i + 1, ⟨by omega, ?_⟩, ⟨⟨rfl, rfl⟩, ⟨by first | rfl | fail, by first | (show V.lit (Value.int _ _) = V.lit (Value.int _ _); first | (congr 2; first | omega | fail) | fail) | fail, by first | rfl | fail, trivial⟩, trivial⟩, by first | (dsimp only; omega) | fail⟩
    have e1 : hdPt (k + 2 * i) (a[i]'(by omega)) = k + 2 * ((i + 1 : Nat) : Int) := by simp_all [hdPt]; omega
    rw [hh]; simp only [heldG]; rw [e1, if_neg (by omega)]
  · rw [List.drop_of_length_le (by omega)] at hh
    (refine .mk ⟨trivial, [], ⟨rfl, ?_⟩, List.nodup_nil, rfl, trivial⟩; show V.lit _ = V.lit _)
    rw [hh]; simp only [heldG]
    first | done | fail
-- FN laws.heldPutS
theorem F_l_heldPutS_marked (a : List Pt) (k : Int) (ha : a.length ≤ 140737488351232) (hk : 0 ≤ k) (hk2 : k ≤ 4470000000000000000) : Fn pg 37 [.imm 2 (rowP (mkL mkPt two k a)), .lit (.int .i64 k)] [] (.lit (.int .i64 (k + stL two a))) [] := by
  have := F_l_heldPutS (mkL mkPt two k a) k (by rw [len_mkL]; exact ha) hk hk2
  rwa [heldG_mkL hdPt mkPt two hdPt_mk a k hk] at this

end Go.Proofs.Ythbhbncaapnebaa.M

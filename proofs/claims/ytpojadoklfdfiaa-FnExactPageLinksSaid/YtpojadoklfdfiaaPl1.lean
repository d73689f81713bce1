/- Walks of the program's functions, by the small machine: what one law's proof needs. -/
import Derived.Test.YtpojadoklfdfiaaQ2
import Derived.Test.YtpojadoklfdfiaaL0
import Derived.Test.YtpojadoklfdfiaaHS
import Derived.Test.YtpojadoklfdfiaaPl0
namespace Go.Proofs.Ytpojadoklfdfiaa.M
open Go
set_option maxHeartbeats 1000000
set_option maxRecDepth 20000
set_option linter.unusedVariables false
set_option linter.unusedSimpArgs false
theorem lastI_step (l : List Nd) (s : List Bool) (i : Nat) (h : i < l.length) : lastI l s (l.length - i) i = ((!((par l (i : Int) == -1) == rdOf false s (i : Int)) && !chI l (i : Int) l.length (par l (i : Int))) && lastI l s (l.length - (i + 1)) (i + 1)) := by
  rw [show l.length - i = (l.length - (i + 1)) + 1 by omega, lastI]
theorem par_nat (l : List Nd) (i : Nat) (h : i < l.length) : par l (i : Int) = l[i].2.2.2.2.1 := by
  unfold par; rw [show rdD l (i : Int) = l[i] from getD_eq _ l i h]
theorem F_i_Tree_linksOk (l : List Nd) (hl : l.length ≤ 500) (h0 : par l 0 = -1) (hp : ∀ x ∈ l, ndSm x) : Fn pg 89 [.pro [.imm 6 (rowN l)]] [] (.lit (.bool (linksB l))) [] := by
  refine Fn.ofN [0,2,3,4,5,7,8,9,19,20,21,22,27,28,29,30,55,67,68,69,70,89] [1005,1009,1015] Try.func89 (by rfl) rfl (by show 1 ≤ 91; decide) (by rfl) ?_
  repeat' ((conv => whnf); first | (refine And.intro (by first | exact True.intro | omega | (simp (disch := (first | omega | fail)) only [modAt, List.length_take, List.length_drop, List.length_map, List.length_append, List.length_set, List.length_replicate, len_rowsPart, len_setCell, len_marks, len_markL, len_byR, len_mkL, len_marksN, len_bytesI, len_seenI]; first | omega | fail) | fail) ?_) | fail)
  rw [restK_start]
  refine ⟨Nat × List Bool, fun x => (x.1 ≤ l.length ∧ x.2.length = l.length) ∧ restK l 0 (List.replicate l.length false) = restK l x.1 x.2, fun x => [(0, .pro [.imm 6 (rowN l)]), (3, .sl 1015 [] 1 0 l.length), (19, .imm 6 (rowN l)), (20, .lit (.int .i64 l.length)), (21, .lit (.int .i64 x.1))], fun x => [(1015, false, 1, rowI (seenI x.2))], fun x => l.length - x.1, ⟨[], (0, List.replicate l.length false), by simp, ⟨rfl, rfl⟩, ⟨by first | rfl | fail, by first | (exact slEq (by first | (simp; done) | fail)) | fail, by first | rfl | fail, by first | (show V.lit (Value.int _ _) = V.lit (Value.int _ _); first | (congr 2; first | (simp only [List.length_map]; done) | fail) | fail) | fail, by first | rfl | fail, trivial⟩, boxEq ?_, trivial⟩, ?_⟩
  · simp [seenI, eInt, renRow]
  intro y ⟨⟨hi, hs⟩, hh⟩
  by_cases hlt : y.1 < l.length
  · have hpi := hp _ (List.getElem_mem hlt)
    obtain ⟨_, _, _, hkl⟩ := hpi
    replace hh := hh.trans (restK_step l y.1 y.2 hlt)
    repeat' ((conv => whnf); first | (refine iteB_dec (fun h => ?_) (fun h => ?_) <;> (try simp (disch := (first | omega | fail)) only [modAt, List.length_take, List.length_drop, List.length_map, List.length_append, List.length_set, List.length_replicate, len_rowsPart, len_setCell, len_marks, len_markL, len_byR, len_mkL, len_marksN, len_bytesI, len_seenI] at h)) | (refine Exists.intro _ (And.intro rfl ?_)) | (refine And.intro (by first | exact True.intro | exact Nat.le_refl _ | omega | fail) ?_) | (refine Exists.intro _ (And.intro (rowGet _ _ _ (by omega)) ?_)) | fail)
    all_goals first | (exfalso; omega) | skip | fail
    refine ⟨Nat × List Bool, fun x => (x.1 ≤ l[y.1].2.2.2.2.2.length ∧ x.2.length = l.length) ∧ restK l 0 (List.replicate l.length false) = restJ l y.1 (l[y.1].2.2.2.2.2.drop x.1) x.2, fun x => [(0, .pro [.imm 6 (rowN l)]), (3, .sl 1015 [] 1 0 l.length), (4, .lit (.int .i64 y.1)), (19, .imm 6 (rowN l)), (20, .lit (.int .i64 l.length)), (21, .lit (.int .i64 y.1)), (27, .imm 1 (rowI l[y.1].2.2.2.2.2)), (28, .lit (.int .i64 l[y.1].2.2.2.2.2.length)), (29, .lit (.int .i64 x.1))], fun x => [(1015, false, 1, rowI (seenI x.2))], fun x => l[y.1].2.2.2.2.2.length - x.1, ⟨[], (0, y.2), ⟨⟨Nat.zero_le _, hs⟩, hh⟩, ⟨rfl, rfl⟩, ⟨by first | rfl | fail, by first | rfl | fail, by first | rfl | fail, by first | rfl | fail, by first | rfl | fail, by first | rfl | fail, by first | rfl | fail, by first | (show V.lit (Value.int _ _) = V.lit (Value.int _ _); first | (congr 2; first | (simp only [List.length_map]; done) | fail) | fail) | fail, by first | rfl | fail, trivial⟩, boxEq rfl, trivial⟩, ?_⟩
    intro v ⟨⟨hj, hz⟩, hn⟩
    by_cases hlj : v.1 < l[y.1].2.2.2.2.2.length
    · rw [drop_cons _ _ hlj, restJ_consC] at hn
      have hsr := seenI_range v.2 l[y.1].2.2.2.2.2[v.1]
      have hN := F_i_Tree_isNode l l[y.1].2.2.2.2.2[v.1] (by omega)
      by_cases hin : 0 ≤ l[y.1].2.2.2.2.2[v.1] ∧ l[y.1].2.2.2.2.2[v.1] ≤ (l.length : Int) - 1
      · rw [nodeIn_yes hin] at hN
        have hsd := seenI_rd v.2 l[y.1].2.2.2.2.2[v.1] (by omega)
        repeat' ((conv => whnf); first | (refine iteB_dec (fun h => ?_) (fun h => ?_) <;> (try simp (disch := (first | omega | fail)) only [modAt, List.length_take, List.length_drop, List.length_map, List.length_append, List.length_set, List.length_replicate, len_rowsPart, len_setCell, len_marks, len_markL, len_byR, len_mkL, len_marksN, len_bytesI, len_seenI] at h)) | (refine wrapB_i64 (by first | omega | fail) (by first | omega | fail) ?_) | (refine And.intro (by first | exact True.intro | omega | (simp (disch := (first | omega | fail)) only [modAt, List.length_take, List.length_drop, List.length_map, List.length_append, List.length_set, List.length_replicate, len_rowsPart, len_setCell, len_marks, len_markL, len_byR, len_mkL, len_marksN, len_bytesI, len_seenI]; first | omega | fail) | fail) ?_) | (refine Exists.intro _ (And.intro (get_seen _ _ (by first | omega | fail) (by first | omega | fail)) ?_)) | (refine Exists.intro _ (And.intro (rowGet _ _ _ (by omega)) ?_)) | (refine Exists.intro _ (And.intro (rowGetI _ _ _ (by omega) (by omega)) ?_)) | (refine Exists.intro _ (And.intro (by first | exact (get_mapIC _ _ _ _ _ (by first | (simp (disch := (first | omega | fail)) only [modAt, List.length_take, List.length_drop, List.length_map, List.length_append, List.length_set, List.length_replicate, len_rowsPart, len_setCell, len_marks, len_markL, len_byR, len_mkL, len_marksN, len_bytesI, len_seenI]; first | omega | fail) | fail) (by exact rfl)) | fail) ?_)) | (refine Or.inl ?_; apply callV_i; (repeat ((conv => whnf); first | refine And.intro (by first | omega | fail) ?_ | fail)); ((conv => whnf); first | exact FnB.mk (hN) | fail); refine ⟨rfl, rfl, ?_⟩) | fail)
        all_goals first | (exfalso; omega) | skip | fail
        · (refine .mk ⟨trivial, [], ⟨rfl, ?_⟩, List.nodup_nil, rfl, trivial⟩; show V.lit _ = V.lit _)
          rw [hn, kidC_no2 (by assumption)]; rfl
        · (refine .mk ⟨trivial, [], ⟨rfl, ?_⟩, List.nodup_nil, rfl, trivial⟩; show V.lit _ = V.lit _)
          rw [hn, kidC_no3 (by omega) (by assumption)]; rfl
        · rw [kidC_yes h0 (by omega) hin (Decidable.not_not.1 (by assumption)) (by assumption), if_pos rfl] at hn
          refine ⟨[], (v.1 + 1, v.2.set l[y.1].2.2.2.2.2[v.1].toNat true), ⟨⟨by omega, by simpa using hz⟩, hn⟩, ⟨⟨rfl, rfl⟩, ⟨by first | rfl | fail, by first | rfl | fail, by first | rfl | fail, by first | rfl | fail, by first | rfl | fail, by first | rfl | fail, by first | rfl | fail, by first | rfl | fail, by first | rfl | fail, trivial⟩, boxEq ?_, trivial⟩, by first | (dsimp only; omega) | fail⟩
          show setCell (rowI (seenI v.2)) (l[y.1].2.2.2.2.2[v.1].toNat + 0) 0 (.lit (.int .i64 (rdD (seenI v.2) l[y.1].2.2.2.2.2[v.1] + 1))) = rowI (seenI (v.2.set l[y.1].2.2.2.2.2[v.1].toNat true))
          exact seen_store v.2 _ hin.1 (by omega) (by assumption)
      · rw [nodeIn_no hin] at hN
        repeat' ((conv => whnf); first | (refine iteB_dec (fun h => ?_) (fun h => ?_) <;> (try simp (disch := (first | omega | fail)) only [modAt, List.length_take, List.length_drop, List.length_map, List.length_append, List.length_set, List.length_replicate, len_rowsPart, len_setCell, len_marks, len_markL, len_byR, len_mkL, len_marksN, len_bytesI, len_seenI] at h)) | (refine wrapB_i64 (by first | omega | fail) (by first | omega | fail) ?_) | (refine And.intro (by first | exact True.intro | omega | fail) ?_) | (refine Exists.intro _ (And.intro (rowGet _ _ _ (by omega)) ?_)) | (refine Or.inl ?_; apply callV_i; (repeat ((conv => whnf); first | refine And.intro (by first | omega | fail) ?_ | fail)); ((conv => whnf); first | exact FnB.mk (hN) | fail); refine ⟨rfl, rfl, ?_⟩) | fail)
        all_goals first | (exfalso; omega) | skip | fail
        (refine .mk ⟨trivial, [], ⟨rfl, ?_⟩, List.nodup_nil, rfl, trivial⟩; show V.lit _ = V.lit _)
        rw [hn, kidC_no1 hin]; rfl
    · have hjl : v.1 = l[y.1].2.2.2.2.2.length := by omega
      rw [List.drop_of_length_le (by omega), restJ_nil] at hn
      repeat' ((conv => whnf); first | (refine iteB_dec (fun h => ?_) (fun h => ?_) <;> (try simp (disch := (first | omega | fail)) only [modAt, List.length_take, List.length_drop, List.length_map, List.length_append, List.length_set, List.length_replicate, len_rowsPart, len_setCell, len_marks, len_markL, len_byR, len_mkL, len_marksN, len_bytesI, len_seenI] at h)) | (refine iteB_not ?_) | (refine iteB_of (fun h => ?_) (fun h => ?_)) | (refine wrapB_i64 (by first | omega | fail) (by first | omega | fail) ?_) | (refine And.intro (by first | exact True.intro | omega | fail) ?_) | (refine Exists.intro _ (And.intro (get_seen _ _ (by first | omega | fail) (by first | omega | fail)) ?_)) | (refine Exists.intro _ (And.intro (rowGet _ _ _ (by omega)) ?_)) | (refine Exists.intro _ (And.intro (by first | exact (get_mapIC _ _ _ _ _ (by first | omega | fail) (by exact rfl)) | fail) ?_)) | (refine Or.inl ?_; apply callV_i; (repeat ((conv => whnf); first | refine And.intro (by first | omega | fail) ?_ | fail)); ((conv => whnf); first | exact FnB.mk (F_i_Tree_isNode _ _ (by first | omega | fail)) | fail); refine ⟨rfl, rfl, ?_⟩) | fail)
      all_goals first | (exfalso; omega) | skip | fail
      exact ⟨[], (y.1 + 1, v.2), ⟨⟨by omega, hz⟩, hn⟩, ⟨⟨rfl, rfl⟩, ⟨by first | rfl | fail, by first | rfl | fail, by first | rfl | fail, by first | rfl | fail, by first | rfl | fail, trivial⟩, boxEq rfl, trivial⟩, by first | (dsimp only; omega) | fail⟩
  · have hil : y.1 = l.length := by omega
    rw [hil, restK_end] at hh
    repeat' ((conv => whnf); first | (refine iteB_dec (fun h => ?_) (fun h => ?_) <;> (try simp (disch := (first | omega | fail)) only [modAt, List.length_take, List.length_drop, List.length_map, List.length_append, List.length_set, List.length_replicate, len_rowsPart, len_setCell, len_marks, len_markL, len_byR, len_mkL, len_marksN, len_bytesI, len_seenI] at h)) | (refine Exists.intro _ (And.intro rfl ?_)) | (refine And.intro (by first | exact True.intro | exact Nat.le_refl _ | omega | fail) ?_) | (refine Exists.intro _ (And.intro (rowGet _ _ _ (by omega)) ?_)) | fail)
    all_goals first | (exfalso; omega) | skip | fail
    refine ⟨Nat, fun k => k ≤ l.length ∧ restK l 0 (List.replicate l.length false) = lastI l y.2 (l.length - k) k, fun k => [(0, .pro [.imm 6 (rowN l)]), (3, .sl 1015 [] 1 0 l.length), (67, .imm 6 (rowN l)), (68, .lit (.int .i64 l.length)), (69, .lit (.int .i64 k))], fun _ => [(1015, false, 1, rowI (seenI y.2))], fun k => l.length - k, ⟨[], 0, ⟨Nat.zero_le _, hh⟩, ⟨rfl, rfl⟩, ⟨by first | rfl | fail, by first | rfl | fail, by first | rfl | fail, by first | (show V.lit (Value.int _ _) = V.lit (Value.int _ _); first | (congr 2; first | (simp only [List.length_map]; done) | fail) | fail) | fail, by first | rfl | fail, trivial⟩, boxEq rfl, trivial⟩, ?_⟩
    intro k ⟨hk, hn⟩
    by_cases hlk : k < l.length
    · have hA := F_i_Tree_isAbove l k l[k].2.2.2.2.1 (by omega)
      have hsd := seenI_rd y.2 k (by omega)
      have hsr := seenI_range y.2 k
      rw [lastI_step l y.2 k hlk, par_nat l k hlk, seen_dec y.2 k (by omega)] at hn
      repeat' ((conv => whnf); first | (refine iteB_dec (fun h => ?_) (fun h => ?_) <;> (try simp (disch := (first | omega | fail)) only [modAt, List.length_take, List.length_drop, List.length_map, List.length_append, List.length_set, List.length_replicate, len_rowsPart, len_setCell, len_marks, len_markL, len_byR, len_mkL, len_marksN, len_bytesI, len_seenI] at h)) | (refine iteB_of (fun h => ?_) (fun h => ?_)) | (refine Exists.intro _ (And.intro rfl ?_)) | (refine wrapB_i64 (by first | omega | fail) (by first | omega | fail) ?_) | (refine And.intro (by first | exact True.intro | exact Nat.le_refl _ | omega | fail) ?_) | (refine Exists.intro _ (And.intro (get_seen _ _ (by first | omega | fail) (by first | omega | fail)) ?_)) | (refine Exists.intro _ (And.intro (rowGet _ _ _ (by omega)) ?_)) | (refine Or.inl (And.intro (by decide +kernel) ?_)) | (apply callQ_i; (repeat ((conv => whnf); first | refine And.intro (by first | omega | fail) ?_ | fail)); ((conv => whnf); apply Exists.intro; (first | exact FnB.mk (hA) | fail))) | fail)
      all_goals first | (exfalso; omega) | skip | fail
      · (refine .mk ⟨trivial, [], ⟨rfl, ?_⟩, List.nodup_nil, rfl, trivial⟩; show V.lit _ = V.lit _)
        rw [hn, last1 (by assumption)]
      · (refine .mk ⟨trivial, [], ⟨rfl, ?_⟩, List.nodup_nil, rfl, trivial⟩; show V.lit _ = V.lit _)
        rw [hn, last2 (by assumption) (by assumption)]
      · rw [last3 (by assumption) (by assumption)] at hn
        exact ⟨[], k + 1, ⟨by omega, hn⟩, ⟨⟨rfl, rfl⟩, ⟨by first | rfl | fail, by first | rfl | fail, by first | rfl | fail, by first | rfl | fail, by first | rfl | fail, trivial⟩, boxEq rfl, trivial⟩, by first | (dsimp only; omega) | fail⟩
    · obtain rfl : k = l.length := by omega
      rw [Nat.sub_self, lastI] at hn
      repeat' ((conv => whnf); first | (refine iteB_dec (fun h => ?_) (fun h => ?_) <;> (try simp (disch := (first | omega | fail)) only [modAt, List.length_take, List.length_drop, List.length_map, List.length_append, List.length_set, List.length_replicate, len_rowsPart, len_setCell, len_marks, len_markL, len_byR, len_mkL, len_marksN, len_bytesI, len_seenI] at h)) | (refine iteB_of (fun h => ?_) (fun h => ?_)) | (refine Exists.intro _ (And.intro rfl ?_)) | (refine wrapB_i64 (by first | omega | fail) (by first | omega | fail) ?_) | (refine And.intro (by first | exact True.intro | exact Nat.le_refl _ | omega | fail) ?_) | (refine Exists.intro _ (And.intro (get_seen _ _ (by first | omega | fail) (by first | omega | fail)) ?_)) | (refine Exists.intro _ (And.intro (rowGet _ _ _ (by omega)) ?_)) | (refine Or.inl (And.intro (by decide +kernel) ?_)) | (apply callQ_i; (repeat ((conv => whnf); first | refine And.intro (by first | omega | fail) ?_ | fail)); ((conv => whnf); apply Exists.intro; (first | exact FnB.mk (F_i_Tree_isAbove _ _ _ (by first | omega | fail)) | fail))) | fail)
      all_goals first | (exfalso; omega) | skip | fail
      (refine .mk ⟨trivial, [], ⟨rfl, ?_⟩, List.nodup_nil, rfl, trivial⟩; show V.lit _ = V.lit _)
      rw [hn]


theorem nodesI_step (l : List Nd) (i : Nat) (h : i < l.length) : nodesI l (l.length - i) i = (nodeAt l[i] (i : Int) && nodesI l (l.length - (i + 1)) (i + 1)) := by
  rw [show l.length - i = (l.length - (i + 1)) + 1 by omega, nodesI, show rdD l (i : Int) = l[i] from getD_eq _ l i h]
theorem nodeAt_par (l : List Nd) (h : 0 < l.length) (hn : nodeAt l[0] ((0 : Nat) : Int) = true) : par l 0 = -1 := by
  have e : par l 0 = l[0].2.2.2.2.1 := par_nat l 0 h
  rw [e]
  unfold nodeAt at hn
  simp only [Bool.and_eq_true, Bool.or_eq_true, Bool.not_eq_true', decide_eq_false_iff_not, decide_eq_true_eq, beq_iff_eq] at hn
  rcases hn with ⟨⟨_, h1⟩, h2 | h2⟩
  · exfalso
    rw [decide_eq_false h2] at h1
    simp at h1
  · exact h2
theorem F_i_TreeOk (l : List Nd) (hl : l.length ≤ 140737488351232) (hp : ∀ x ∈ l, ndSm x) : Fn pg 56 [sTr l] [] (.lit (.bool (treeI l))) [] := by
  have hI := F_i_inRange (rowN l).length 1 500
  by_cases hr : 1 ≤ l.length ∧ l.length ≤ 500
  · rw [show (decide ((1 : Int) ≤ (rowN l).length) && decide (((rowN l).length : Int) ≤ 500)) = true by simp; omega] at hI
    rw [show treeI l = (nodesI l l.length 0 && linksB l) by unfold treeI; rw [show (decide (1 ≤ l.length) && decide (l.length ≤ 500)) = true by simp; omega]; rfl]
    refine Fn.ofN [0,1,2,3,4,9,11,12,13,14,21] [1001,1004] Try.func56 (by rfl) rfl (by show 1 ≤ 24; decide) (by rfl) ?_
    repeat' ((conv => whnf); first | (refine Exists.intro _ (And.intro rfl ?_)) | (refine Or.inl ?_; apply callV_i; (repeat ((conv => whnf); first | refine And.intro (by first | omega | fail) ?_ | fail)); ((conv => whnf); first | exact FnB.mk (hI) | fail); refine ⟨rfl, rfl, ?_⟩) | fail)
    refine ⟨Nat, fun i => (i ≤ l.length ∧ (0 < i → par l 0 = -1)) ∧ nodesI l l.length 0 = nodesI l (l.length - i) i, fun i => [(1, .ptr 1001 [] 1 0 0), (11, .imm 6 (rowN l)), (12, .lit (.int .i64 l.length)), (13, .lit (.int .i64 i))], fun _ => [(1001, true, 1, [[.imm 6 (rowN l)]])], fun i => l.length - i, ⟨[], 0, by simp, ⟨rfl, rfl⟩, ⟨by first | rfl | fail, by first | rfl | fail, by first | (show V.lit (Value.int _ _) = V.lit (Value.int _ _); first | (congr 2; first | (simp only [List.length_map]; done) | fail) | fail) | fail, by first | rfl | fail, trivial⟩, boxEq rfl, trivial⟩, ?_⟩
    intro i ⟨⟨hi, h0⟩, hh⟩
    by_cases hlt : i < l.length
    · have hN := F_i_nodeOk l[i] i (hp _ (List.getElem_mem hlt))
      rw [nodesI_step l i hlt] at hh
      repeat' ((conv => whnf); first | (refine iteB_dec (fun h => ?_) (fun h => ?_) <;> (try simp (disch := (first | omega | fail)) only [modAt, List.length_take, List.length_drop, List.length_map, List.length_append, List.length_set, List.length_replicate, len_rowsPart, len_setCell, len_marks, len_markL, len_byR, len_mkL, len_marksN, len_bytesI, len_seenI] at h)) | (refine iteB_not ?_) | (refine iteB_of (fun h => ?_) (fun h => ?_)) | (refine Exists.intro _ (And.intro rfl ?_)) | (refine wrapB_i64 (by first | omega | fail) (by first | omega | fail) ?_) | (refine And.intro (by first | exact True.intro | exact Nat.le_refl _ | omega | fail) ?_) | (refine Exists.intro _ (And.intro (rowGet _ _ _ (by omega)) ?_)) | (refine Or.inl ?_; apply callV_i; (repeat ((conv => whnf); first | refine Exists.intro _ (And.intro rfl ?_) | fail)); ((conv => whnf); first | exact FnB.mk (hN) | exact FnB.mk (F_i_Tree_linksOk _ (by first | omega | fail) (by first | omega | fail) (by first | omega | fail)) | fail); refine ⟨rfl, rfl, ?_⟩) | fail)
      all_goals first | (exfalso; omega) | skip | fail
      · rw [show nodeAt l[i] (i : Int) = true by assumption, Bool.true_and] at hh
        refine ⟨[], i + 1, ⟨⟨by omega, fun _ => ?_⟩, hh⟩, ⟨⟨rfl, rfl⟩, ⟨by first | rfl | fail, by first | rfl | fail, by first | rfl | fail, by first | rfl | fail, trivial⟩, boxEq rfl, trivial⟩, by first | (dsimp only; omega) | fail⟩
        by_cases e : i = 0
        · subst e; exact nodeAt_par l hlt (by assumption)
        · exact h0 (by omega)
      · (refine .mk ⟨trivial, [], ⟨rfl, ?_⟩, List.nodup_nil, rfl, trivial⟩; show V.lit _ = V.lit _)
        rw [hh, show nodeAt l[i] (i : Int) = false by assumption]; rfl
    · obtain rfl : i = l.length := by omega
      rw [Nat.sub_self, nodesI] at hh
      have hL := F_i_Tree_linksOk l hr.2 (h0 (by omega)) hp
      repeat' ((conv => whnf); first | (refine iteB_dec (fun h => ?_) (fun h => ?_) <;> (try simp (disch := (first | omega | fail)) only [modAt, List.length_take, List.length_drop, List.length_map, List.length_append, List.length_set, List.length_replicate, len_rowsPart, len_setCell, len_marks, len_markL, len_byR, len_mkL, len_marksN, len_bytesI, len_seenI] at h)) | (refine iteB_not ?_) | (refine iteB_of (fun h => ?_) (fun h => ?_)) | (refine Exists.intro _ (And.intro rfl ?_)) | (refine wrapB_i64 (by first | omega | fail) (by first | omega | fail) ?_) | (refine And.intro (by first | exact True.intro | exact Nat.le_refl _ | omega | fail) ?_) | (refine Exists.intro _ (And.intro (rowGet _ _ _ (by omega)) ?_)) | (refine Or.inl ?_; apply callV_i; (repeat ((conv => whnf); first | refine Exists.intro _ (And.intro rfl ?_) | fail)); ((conv => whnf); first | exact FnB.mk (hL) | exact FnB.mk (F_i_nodeOk _ _ (by first | omega | fail)) | fail); refine ⟨rfl, rfl, ?_⟩) | fail)
      all_goals first | (exfalso; omega) | skip | fail
      (refine .mk ⟨trivial, [], ⟨rfl, ?_⟩, List.nodup_nil, rfl, trivial⟩; show V.lit _ = V.lit _)
      rw [hh]; rfl
  · rw [show treeI l = false by unfold treeI; rw [show (decide (1 ≤ l.length) && decide (l.length ≤ 500)) = false by simp only [Bool.and_eq_false_iff, decide_eq_false_iff_not]; omega]; rfl]
    rw [show (decide ((1 : Int) ≤ (rowN l).length) && decide (((rowN l).length : Int) ≤ 500)) = false by simp; omega] at hI
    refine Fn.ofN [0,1,2,3,4,9,11,12,13,14,21] [1001,1004] Try.func56 (by rfl) rfl (by show 1 ≤ 24; decide) (by rfl) ?_
    repeat' ((conv => whnf); first | (refine Exists.intro _ (And.intro rfl ?_)) | (refine Or.inl ?_; apply callV_i; (repeat ((conv => whnf); first | refine And.intro (by first | omega | fail) ?_ | fail)); ((conv => whnf); first | exact FnB.mk (hI) | fail); refine ⟨rfl, rfl, ?_⟩) | fail)
    all_goals ((refine .mk ⟨trivial, [], ⟨rfl, ?_⟩, List.nodup_nil, rfl, trivial⟩; show V.lit _ = V.lit _); rfl)


abbrev rowBo (s : List Bool) : Row := s.map fun b => [V.lit (.bool b)]
theorem get_bo (s : List Bool) (k : Int) (h0 : 0 ≤ k) (h : k.toNat < s.length) : (rowBo s)[k.toNat + 0]? = some [.lit (.bool (rdOf false s k))] := by
  rw [Nat.add_zero, List.getElem?_map, List.getElem?_eq_getElem h]
  unfold rdOf
  rw [List.getD_eq_getElem?_getD, List.getElem?_eq_getElem h]; rfl
theorem bo_store (s : List Bool) (k : Int) (h0 : 0 ≤ k) (h : k.toNat < s.length) : setCell (rowBo s) (k.toNat + 0) 0 (.lit (.bool true)) = rowBo (s.set k.toNat true) := by
  rw [setCell_at (get_bo s k h0 h)]
  show (rowBo s).set k.toNat [.lit (.bool true)] = _
  unfold rowBo
  rw [List.map_set]
def loopJ (l : List Nd) (i : Nat) (ks : List Int) (s : List Bool) : Bool := match scan l (i : Int) ks s with | none => false | some s => loopS l (l.length - (i + 1)) (i + 1) s
theorem loopS_step (l : List Nd) (i : Nat) (s : List Bool) (h : i < l.length) : loopS l (l.length - i) i s = if nodeS l (i : Int) = true then loopJ l i l[i].2.2.2.2.2 s else false := by
  rw [show l.length - i = (l.length - (i + 1)) + 1 by omega, loopS, show rdD l (i : Int) = l[i] from getD_eq _ l i h]; rfl
theorem loopJ_nil (l : List Nd) (i : Nat) (s : List Bool) : loopJ l i [] s = loopS l (l.length - (i + 1)) (i + 1) s := rfl
theorem loopJ_cons (l : List Nd) (i : Nat) (k : Int) (ks : List Int) (s : List Bool) : loopJ l i (k :: ks) s = if kidC l i s k = true then loopJ l i ks (s.set k.toNat true) else false := by
  unfold loopJ
  rw [scan]
  unfold kidC
  cases ((decide (1 ≤ k) && decide (k ≤ (l.length : Int) - 1)) && (!(rdOf false s k) && par l k == (i : Int))) <;> rfl
theorem nodeS_at (l : List Nd) (i : Nat) (h : i < l.length) : nodeS l (i : Int) = (((nodeB l[i] && (decide (l[i].1 = 1) == decide ((i : Int) = 0))) && (decide (-1 ≤ l[i].2.2.2.2.1) && decide (l[i].2.2.2.2.1 ≤ (l.length : Int) - 1))) && (!decide ((i : Int) = 0) || decide (l[i].2.2.2.2.1 = -1))) := by
  unfold nodeS; rw [par_nat l i h, show rdD l (i : Int) = l[i] from getD_eq _ l i h]; rfl
theorem nodeS_rng (l : List Nd) (i : Nat) (h : i < l.length) (hn : nodeS l (i : Int) = true) : -1 ≤ par l (i : Int) ∧ par l (i : Int) ≤ (l.length : Int) - 1 := by
  unfold nodeS at hn
  simp only [Bool.and_eq_true, decide_eq_true_eq] at hn
  exact hn.1.2
theorem kidS_no1 {l : List Nd} {i : Nat} {s : List Bool} {k : Int} (h : ¬ (1 ≤ k ∧ k ≤ (l.length : Int) - 1)) : kidC l i s k = false := by
  unfold kidC
  rw [show (decide (1 ≤ k) && decide (k ≤ (l.length : Int) - 1)) = false by simp only [Bool.and_eq_false_iff, decide_eq_false_iff_not]; omega]; rfl
theorem kidS_no3 {l : List Nd} {i : Nat} {s : List Bool} {k : Int} (h : rdOf false s k = true) : kidC l i s k = false := by unfold kidC; simp [h]
theorem kidS_yes {l : List Nd} {i : Nat} {s : List Bool} {k : Int} (h : 1 ≤ k ∧ k ≤ (l.length : Int) - 1) (hp : (rdD l k).2.2.2.2.1 = (i : Int)) (hs : rdOf false s k = false) : kidC l i s k = true := by
  unfold kidC par; simp [h.1, h.2, hp, hs]
theorem lastS_step (l : List Nd) (s : List Bool) (i : Nat) (h : i < l.length) : lastS l s (l.length - i) i = ((rdOf false s (i : Int) == decide (l[i].2.2.2.2.1 ≥ 0) && chS l (l.length + 1) (i : Int)) && lastS l s (l.length - (i + 1)) (i + 1)) := by
  rw [show l.length - i = (l.length - (i + 1)) + 1 by omega, lastS, par_nat l i h]
theorem nodeS_no1 {l : List Nd} {i : Nat} (h : i < l.length) (h1 : nodeB l[i] = false) : ¬ nodeS l (i : Int) = true := by rw [nodeS_at l i h, h1]; simp
theorem nodeS_no2 {l : List Nd} {i : Nat} (h : i < l.length) (h1 : ¬ decide (l[i].1 = 1) = decide ((i : Int) = 0)) : ¬ nodeS l (i : Int) = true := by
  rw [nodeS_at l i h, show (decide (l[i].1 = 1) == decide ((i : Int) = 0)) = false from beq_eq_false_iff_ne.2 h1]; simp
theorem nodeS_no3 {l : List Nd} {i : Nat} (h : i < l.length) (h1 : (decide (-1 ≤ l[i].2.2.2.2.1) && decide (l[i].2.2.2.2.1 ≤ (l.length : Int) - 1)) = false) : ¬ nodeS l (i : Int) = true := by rw [nodeS_at l i h, h1]; simp
theorem nodeS_no4 {l : List Nd} {i : Nat} (h : i < l.length) (h1 : (i : Int) = 0) (h2 : ¬ l[i].2.2.2.2.1 = -1) : ¬ nodeS l (i : Int) = true := by rw [nodeS_at l i h, decide_eq_true h1, decide_eq_false h2]; simp
theorem nodeS_yes {l : List Nd} {i : Nat} (h : i < l.length) (h1 : nodeB l[i] = true) (h2 : ¬¬ decide (l[i].1 = 1) = decide ((i : Int) = 0)) (h3 : (decide (-1 ≤ l[i].2.2.2.2.1) && decide (l[i].2.2.2.2.1 ≤ (l.length : Int) - 1)) = true) (h4 : ¬ (i : Int) = 0 ∨ ¬¬ l[i].2.2.2.2.1 = -1) : nodeS l (i : Int) = true := by
  rw [nodeS_at l i h, h1, h3, show (decide (l[i].1 = 1) == decide ((i : Int) = 0)) = true from beq_iff_eq.2 (Decidable.not_not.1 h2)]
  rcases h4 with h4 | h4
  · rw [decide_eq_false h4]; simp
  · rw [decide_eq_true (Decidable.not_not.1 h4)]; simp
theorem chS_up (l : List Nd) (d : Nat) (u : Int) (h : 0 ≤ u) : chS l (d + 1) u = chS l d (rdD l u).2.2.2.2.1 := by rw [chS, if_pos h]; rfl
theorem chS_over (l : List Nd) (u : Int) (h : 0 ≤ u) : chS l 0 u = false := by rw [chS, decide_eq_true h]; rfl
theorem chS_top (l : List Nd) (d : Nat) (u : Int) (h : ¬ 0 ≤ u) : chS l d u = true := by
  cases d with
  | zero => rw [chS, decide_eq_false h]; rfl
  | succ d => rw [chS, if_neg h]
theorem F_s_TreeOk (l : List Nd) (hl : l.length ≤ 140737488351232) (hp : ∀ x ∈ l, ndSm x) : Fn pg 51 [sTr l] [] (.lit (.bool (treeS l))) [] := by
  have hI := F_s_l1In (rowN l).length 1 500
  by_cases hr : 1 ≤ l.length ∧ l.length ≤ 500
  · rw [show (decide ((1 : Int) ≤ (rowN l).length) && decide (((rowN l).length : Int) ≤ 500)) = true by simp; omega] at hI
    rw [show treeS l = loopS l l.length 0 (List.replicate l.length false) by unfold treeS; rw [show (decide (1 ≤ l.length) && decide (l.length ≤ 500)) = true by simp; omega]; rfl]
    refine Fn.ofN [0,1,2,3,4,5,6,7,8,9,10,11,17,22,57,62,90,96,110,113,118] [1001,1006,1019] Try.func51 (by rfl) rfl (by show 1 ≤ 125; decide) (by rfl) ?_
    repeat' ((conv => whnf); first | (refine Exists.intro _ (And.intro rfl ?_)) | (refine And.intro (by first | exact True.intro | omega | (simp (disch := (first | omega | fail)) only [modAt, List.length_take, List.length_drop, List.length_map, List.length_append, List.length_set, List.length_replicate, len_rowsPart, len_setCell, len_marks, len_markL, len_byR, len_mkL, len_marksN, len_bytesI, len_seenI]; first | omega | fail) | fail) ?_) | (refine Or.inl ?_; apply callV_i; (repeat ((conv => whnf); first | refine And.intro (by first | omega | fail) ?_ | fail)); ((conv => whnf); first | exact FnB.mk (hI) | fail); refine ⟨rfl, rfl, ?_⟩) | fail)
    refine ⟨Nat × List Bool, fun x => ((x.1 ≤ l.length ∧ x.2.length = l.length) ∧ ∀ j : Nat, j < x.1 → -1 ≤ par l (j : Int) ∧ par l (j : Int) ≤ (l.length : Int) - 1) ∧ loopS l l.length 0 (List.replicate l.length false) = loopS l (l.length - x.1) x.1 x.2, fun x => [(1, .ptr 1001 [] 1 0 0), (3, .lit (.int .i64 l.length)), (4, .sl 1019 [] 1 0 l.length), (5, .lit (.int .i64 x.1))], fun x => [(1001, true, 1, [[.imm 6 (rowN l)]]), (1019, false, 1, rowBo x.2)], fun x => l.length - x.1, ⟨[], (0, List.replicate l.length false), by simp, ⟨rfl, rfl⟩, ⟨by first | rfl | fail, by first | (show V.lit (Value.int _ _) = V.lit (Value.int _ _); first | (congr 2; first | (simp only [List.length_map]; done) | fail) | fail) | fail, by first | (exact slEq (by first | (simp; done) | fail)) | fail, by first | rfl | fail, trivial⟩, boxEq rfl, boxEq ?_, trivial⟩, ?_⟩
    · simp [renRow]
    intro y ⟨⟨⟨hi, hs⟩, hrg⟩, hh⟩
    by_cases hlt : y.1 < l.length
    · have hN := F_s_l6Node l[y.1] (hp _ (List.getElem_mem hlt))
      replace hh := hh.trans (loopS_step l y.1 y.2 hlt)
      repeat' ((conv => whnf); first | (refine iteB_dec (fun h => ?_) (fun h => ?_) <;> (try simp (disch := (first | omega | fail)) only [modAt, List.length_take, List.length_drop, List.length_map, List.length_append, List.length_set, List.length_replicate, len_rowsPart, len_setCell, len_marks, len_markL, len_byR, len_mkL, len_marksN, len_bytesI, len_seenI] at h) <;> (try (exfalso; omega))) | (refine iteB_not ?_) | (refine iteB_of (fun h => ?_) (fun h => ?_)) | (refine Exists.intro _ (And.intro rfl ?_)) | (refine wrapB_i64 (by first | omega | fail) (by first | omega | fail) ?_) | (refine And.intro (by first | exact True.intro | exact Nat.le_refl _ | omega | fail) ?_) | (refine Exists.intro _ (And.intro (rowGet _ _ _ (by omega)) ?_)) | (refine Or.inl ?_; apply callV_i; (repeat ((conv => whnf); first | refine And.intro (by first | omega | fail) ?_ | fail)); ((conv => whnf); first | exact FnB.mk (hN) | exact FnB.mk (F_s_l1In _ _ _) | fail); refine ⟨rfl, rfl, ?_⟩) | fail)
      all_goals first | skip | fail
      · (refine .mk ⟨trivial, [], ⟨rfl, ?_⟩, List.nodup_nil, rfl, trivial⟩; show V.lit _ = V.lit _)
        rw [hh, if_neg (nodeS_no2 hlt (by assumption))]
      · (refine .mk ⟨trivial, [], ⟨rfl, ?_⟩, List.nodup_nil, rfl, trivial⟩; show V.lit _ = V.lit _)
        rw [hh, if_neg (nodeS_no4 hlt (by assumption) (by assumption))]
      rotate_left 2
      · (refine .mk ⟨trivial, [], ⟨rfl, ?_⟩, List.nodup_nil, rfl, trivial⟩; show V.lit _ = V.lit _)
        rw [hh, if_neg (nodeS_no3 hlt (by assumption))]
      · (refine .mk ⟨trivial, [], ⟨rfl, ?_⟩, List.nodup_nil, rfl, trivial⟩; show V.lit _ = V.lit _)
        rw [hh, if_neg (nodeS_no1 hlt (by assumption))]
      all_goals
        have hS : nodeS l (y.1 : Int) = true := nodeS_yes hlt (by assumption) (by assumption) (by assumption) (by first | exact .inl (by assumption) | exact .inr (by assumption) | fail)
        rw [if_pos hS] at hh
        clear hN
        refine ⟨Nat × List Bool, fun x => (x.1 ≤ l[y.1].2.2.2.2.2.length ∧ x.2.length = l.length) ∧ loopS l l.length 0 (List.replicate l.length false) = loopJ l y.1 (l[y.1].2.2.2.2.2.drop x.1) x.2, fun x => [(1, .ptr 1001 [] 1 0 0), (3, .lit (.int .i64 l.length)), (4, .sl 1019 [] 1 0 l.length), (5, .lit (.int .i64 y.1)), (6, .ptr 1006 [] 6 0 0), (7, .lit (.int .i64 x.1))], fun x => [(1001, true, 1, [[.imm 6 (rowN l)]]), (1019, false, 1, rowBo x.2), (1006, true, 6, [sNd l[y.1]])], fun x => l[y.1].2.2.2.2.2.length - x.1, ⟨[], (0, y.2), ⟨⟨Nat.zero_le _, hs⟩, hh⟩, ⟨rfl, rfl⟩, ⟨by first | rfl | fail, by first | rfl | fail, by first | rfl | fail, by first | rfl | fail, by first | rfl | fail, by first | rfl | fail, trivial⟩, boxEq rfl, boxEq rfl, boxEq rfl, trivial⟩, ?_⟩
        intro v ⟨⟨hj, hz⟩, hn⟩
        have hkl := (hp _ (List.getElem_mem hlt)).2.2.2
        by_cases hlj : v.1 < l[y.1].2.2.2.2.2.length
        · rw [drop_cons _ _ hlj, loopJ_cons] at hn
          have hI2 := F_s_l1In l[y.1].2.2.2.2.2[v.1] 1 ((l.length : Int) - 1)
          by_cases hin : 1 ≤ l[y.1].2.2.2.2.2[v.1] ∧ l[y.1].2.2.2.2.2[v.1] ≤ (l.length : Int) - 1
          · rw [show (decide (1 ≤ l[y.1].2.2.2.2.2[v.1]) && decide (l[y.1].2.2.2.2.2[v.1] ≤ (l.length : Int) - 1)) = true by simp [hin]] at hI2
            repeat' ((conv => whnf); first | (refine iteB_dec (fun h => ?_) (fun h => ?_) <;> (try simp (disch := (first | omega | fail)) only [modAt, List.length_take, List.length_drop, List.length_map, List.length_append, List.length_set, List.length_replicate, len_rowsPart, len_setCell, len_marks, len_markL, len_byR, len_mkL, len_marksN, len_bytesI, len_seenI] at h) <;> (try (exfalso; omega))) | (refine iteB_of (fun h => ?_) (fun h => ?_)) | (refine Exists.intro _ (And.intro rfl ?_)) | (refine wrapB_i64 (by first | omega | fail) (by first | omega | fail) ?_) | (refine And.intro (by first | exact True.intro | omega | (simp (disch := (first | omega | fail)) only [modAt, List.length_take, List.length_drop, List.length_map, List.length_append, List.length_set, List.length_replicate, len_rowsPart, len_setCell, len_marks, len_markL, len_byR, len_mkL, len_marksN, len_bytesI, len_seenI]; first | omega | fail) | fail) ?_) | (refine Exists.intro _ (And.intro (get_bo _ _ (by first | omega | fail) (by first | omega | fail)) ?_)) | (refine Exists.intro _ (And.intro (rowGet _ _ _ (by omega)) ?_)) | (refine Exists.intro _ (And.intro (rowGetI _ _ _ (by omega) (by omega)) ?_)) | (refine Exists.intro _ (And.intro (by first | exact (get_mapIC _ _ _ _ _ (by first | omega | fail) (by exact rfl)) | fail) ?_)) | (refine Or.inl ?_; apply callV_i; (repeat ((conv => whnf); first | refine And.intro (by first | omega | fail) ?_ | fail)); ((conv => whnf); first | exact FnB.mk (hI2) | fail); refine ⟨rfl, rfl, ?_⟩) | fail)
            all_goals first | skip | fail
            · (refine .mk ⟨trivial, [], ⟨rfl, ?_⟩, List.nodup_nil, rfl, trivial⟩; show V.lit _ = V.lit _)
              rw [hn, kidS_no3 (by assumption)]; rfl
            · (refine .mk ⟨trivial, [], ⟨rfl, ?_⟩, List.nodup_nil, rfl, trivial⟩; show V.lit _ = V.lit _)
              rw [hn, kidC_no2 (by assumption)]; rfl
            · rw [kidS_yes hin (Decidable.not_not.1 (by assumption)) (by assumption), if_pos rfl] at hn
              refine ⟨[], (v.1 + 1, v.2.set l[y.1].2.2.2.2.2[v.1].toNat true), ⟨⟨by omega, by simpa using hz⟩, hn⟩, ⟨⟨rfl, rfl⟩, ⟨by first | rfl | fail, by first | rfl | fail, by first | rfl | fail, by first | rfl | fail, by first | rfl | fail, by first | rfl | fail, trivial⟩, boxEq rfl, boxEq ?_, boxEq rfl, trivial⟩, by first | (dsimp only; omega) | fail⟩
              show setCell (rowBo v.2) (l[y.1].2.2.2.2.2[v.1].toNat + 0) 0 (.lit (.bool true)) = rowBo (v.2.set l[y.1].2.2.2.2.2[v.1].toNat true)
              exact bo_store v.2 _ (by omega) (by omega)
          · rw [show (decide (1 ≤ l[y.1].2.2.2.2.2[v.1]) && decide (l[y.1].2.2.2.2.2[v.1] ≤ (l.length : Int) - 1)) = false by simp only [Bool.and_eq_false_iff, decide_eq_false_iff_not]; omega] at hI2
            repeat' ((conv => whnf); first | (refine iteB_dec (fun h => ?_) (fun h => ?_) <;> (try simp (disch := (first | omega | fail)) only [modAt, List.length_take, List.length_drop, List.length_map, List.length_append, List.length_set, List.length_replicate, len_rowsPart, len_setCell, len_marks, len_markL, len_byR, len_mkL, len_marksN, len_bytesI, len_seenI] at h) <;> (try (exfalso; omega))) | (refine Exists.intro _ (And.intro rfl ?_)) | (refine wrapB_i64 (by first | omega | fail) (by first | omega | fail) ?_) | (refine And.intro (by first | exact True.intro | omega | fail) ?_) | (refine Exists.intro _ (And.intro (rowGet _ _ _ (by omega)) ?_)) | (refine Or.inl ?_; apply callV_i; (repeat ((conv => whnf); first | refine And.intro (by first | omega | fail) ?_ | fail)); ((conv => whnf); first | exact FnB.mk (hI2) | fail); refine ⟨rfl, rfl, ?_⟩) | fail)
            all_goals first | skip | fail
            (refine .mk ⟨trivial, [], ⟨rfl, ?_⟩, List.nodup_nil, rfl, trivial⟩; show V.lit _ = V.lit _)
            rw [hn, kidS_no1 hin]; rfl
        · have hjl : v.1 = l[y.1].2.2.2.2.2.length := by omega
          rw [List.drop_of_length_le (by omega), loopJ_nil] at hn
          repeat' ((conv => whnf); first | (refine iteB_dec (fun h => ?_) (fun h => ?_) <;> (try simp (disch := (first | omega | fail)) only [modAt, List.length_take, List.length_drop, List.length_map, List.length_append, List.length_set, List.length_replicate, len_rowsPart, len_setCell, len_marks, len_markL, len_byR, len_mkL, len_marksN, len_bytesI, len_seenI] at h) <;> (try (exfalso; omega))) | (refine Exists.intro _ (And.intro rfl ?_)) | (refine wrapB_i64 (by first | omega | fail) (by first | omega | fail) ?_) | fail)
          all_goals first | skip | fail
          refine ⟨[], (y.1 + 1, v.2), ⟨⟨⟨by omega, hz⟩, fun j hj2 => ?_⟩, hn⟩, ⟨⟨rfl, rfl⟩, ⟨by first | rfl | fail, by first | rfl | fail, by first | rfl | fail, by first | rfl | fail, trivial⟩, boxEq rfl, boxEq rfl, trivial⟩, by first | (dsimp only; omega) | fail⟩
          by_cases e : j = y.1
          · rw [e]; exact nodeS_rng l y.1 hlt hS
          · exact hrg j (by omega)
    · have hil : y.1 = l.length := by omega
      rw [hil, Nat.sub_self, loopS] at hh
      repeat' ((conv => whnf); first | (refine iteB_dec (fun h => ?_) (fun h => ?_) <;> (try simp (disch := (first | omega | fail)) only [modAt, List.length_take, List.length_drop, List.length_map, List.length_append, List.length_set, List.length_replicate, len_rowsPart, len_setCell, len_marks, len_markL, len_byR, len_mkL, len_marksN, len_bytesI, len_seenI] at h) <;> (try (exfalso; omega))) | fail)
      all_goals first | skip | fail
      refine ⟨Nat, fun k => k ≤ l.length ∧ loopS l l.length 0 (List.replicate l.length false) = lastS l y.2 (l.length - k) k, fun k => [(1, .ptr 1001 [] 1 0 0), (3, .lit (.int .i64 l.length)), (4, .sl 1019 [] 1 0 l.length), (9, .lit (.int .i64 k))], fun _ => [(1001, true, 1, [[.imm 6 (rowN l)]]), (1019, false, 1, rowBo y.2)], fun k => l.length - k, ⟨[], 0, ⟨Nat.zero_le _, hh⟩, ⟨rfl, rfl⟩, ⟨by first | rfl | fail, by first | rfl | fail, by first | rfl | fail, by first | rfl | fail, trivial⟩, boxEq rfl, boxEq rfl, trivial⟩, ?_⟩
      intro k ⟨hk, hn⟩
      by_cases hlk : k < l.length
      · rw [lastS_step l y.2 k hlk] at hn
        repeat' ((conv => whnf); first | (refine iteB_dec (fun h => ?_) (fun h => ?_) <;> (try simp (disch := (first | omega | fail)) only [modAt, List.length_take, List.length_drop, List.length_map, List.length_append, List.length_set, List.length_replicate, len_rowsPart, len_setCell, len_marks, len_markL, len_byR, len_mkL, len_marksN, len_bytesI, len_seenI] at h) <;> (try (exfalso; omega))) | (refine Exists.intro _ (And.intro rfl ?_)) | (refine And.intro (by first | exact True.intro | omega | fail) ?_) | (refine Exists.intro _ (And.intro (get_bo _ _ (by first | omega | fail) (by first | omega | fail)) ?_)) | (refine Exists.intro _ (And.intro (rowGet _ _ _ (by omega)) ?_)) | (refine Or.inl (And.intro (by decide +kernel) ?_)) | fail)
        all_goals first | skip | fail
        · (refine .mk ⟨trivial, [], ⟨rfl, ?_⟩, List.nodup_nil, rfl, trivial⟩; show V.lit _ = V.lit _)
          rw [hn, show (rdOf false y.2 (k : Int) == decide (l[k].2.2.2.2.1 ≥ 0)) = false from beq_eq_false_iff_ne.2 (by assumption)]; rfl
        · rw [show (rdOf false y.2 (k : Int) == decide (l[k].2.2.2.2.1 ≥ 0)) = true from beq_iff_eq.2 (Decidable.not_not.1 (by assumption)), Bool.true_and] at hn
          refine ⟨Nat × Int, fun x => ((x.1 ≤ l.length + 1) ∧ -1 ≤ x.2 ∧ x.2 ≤ (l.length : Int) - 1) ∧ loopS l l.length 0 (List.replicate l.length false) = (chS l (l.length + 1 - x.1) x.2 && lastS l y.2 (l.length - (k + 1)) (k + 1)), fun x => [(1, .ptr 1001 [] 1 0 0), (3, .lit (.int .i64 l.length)), (4, .sl 1019 [] 1 0 l.length), (9, .lit (.int .i64 k)), (10, .lit (.int .i64 x.2)), (11, .lit (.int .i64 x.1))], fun _ => [(1001, true, 1, [[.imm 6 (rowN l)]]), (1019, false, 1, rowBo y.2)], fun x => l.length + 1 - x.1, ⟨[], (0, (k : Int)), ⟨⟨Nat.zero_le _, by omega, by omega⟩, hn⟩, ⟨rfl, rfl⟩, ⟨by first | rfl | fail, by first | rfl | fail, by first | rfl | fail, by first | rfl | fail, by first | rfl | fail, by first | rfl | fail, trivial⟩, boxEq rfl, boxEq rfl, trivial⟩, ?_⟩
          intro v ⟨⟨hj, hv1, hv2⟩, hm⟩
          by_cases hu : 0 ≤ v.2
          · have hru : -1 ≤ (rdD l v.2).2.2.2.2.1 ∧ (rdD l v.2).2.2.2.2.1 ≤ (l.length : Int) - 1 := by
              have := hrg v.2.toNat (by omega)
              rw [show ((v.2.toNat : Nat) : Int) = v.2 by omega] at this
              exact this
            by_cases hjn : v.1 ≤ l.length
            · rw [show l.length + 1 - v.1 = (l.length + 1 - (v.1 + 1)) + 1 by omega, chS_up l _ _ hu] at hm
              repeat' ((conv => whnf); first | (refine iteB_dec (fun h => ?_) (fun h => ?_) <;> (try simp (disch := (first | omega | fail)) only [modAt, List.length_take, List.length_drop, List.length_map, List.length_append, List.length_set, List.length_replicate, len_rowsPart, len_setCell, len_marks, len_markL, len_byR, len_mkL, len_marksN, len_bytesI, len_seenI] at h) <;> (try (exfalso; omega))) | (refine Exists.intro _ (And.intro rfl ?_)) | (refine wrapB_i64 (by first | omega | fail) (by first | omega | fail) ?_) | (refine And.intro (by first | exact True.intro | omega | fail) ?_) | (refine Exists.intro _ (And.intro (rowGetI _ _ _ (by omega) (by omega)) ?_)) | fail)
              exact ⟨[], (v.1 + 1, (rdD l v.2).2.2.2.2.1), ⟨⟨by omega, hru⟩, hm⟩, ⟨⟨rfl, rfl⟩, ⟨by first | rfl | fail, by first | rfl | fail, by first | rfl | fail, by first | rfl | fail, by first | rfl | fail, by first | rfl | fail, trivial⟩, boxEq rfl, boxEq rfl, trivial⟩, by first | (dsimp only; omega) | fail⟩
            · rw [show l.length + 1 - v.1 = 0 by omega, chS_over l _ hu] at hm
              repeat' ((conv => whnf); first | (refine iteB_dec (fun h => ?_) (fun h => ?_) <;> (try simp (disch := (first | omega | fail)) only [modAt, List.length_take, List.length_drop, List.length_map, List.length_append, List.length_set, List.length_replicate, len_rowsPart, len_setCell, len_marks, len_markL, len_byR, len_mkL, len_marksN, len_bytesI, len_seenI] at h) <;> (try (exfalso; omega))) | fail)
              (refine .mk ⟨trivial, [], ⟨rfl, ?_⟩, List.nodup_nil, rfl, trivial⟩; show V.lit _ = V.lit _)
              rw [hm]; rfl
          · rw [chS_top l _ _ hu, Bool.true_and] at hm
            repeat' ((conv => whnf); first | (refine iteB_dec (fun h => ?_) (fun h => ?_) <;> (try simp (disch := (first | omega | fail)) only [modAt, List.length_take, List.length_drop, List.length_map, List.length_append, List.length_set, List.length_replicate, len_rowsPart, len_setCell, len_marks, len_markL, len_byR, len_mkL, len_marksN, len_bytesI, len_seenI] at h) <;> (try (exfalso; omega))) | (refine wrapB_i64 (by first | omega | fail) (by first | omega | fail) ?_) | fail)
            exact ⟨[], k + 1, ⟨by omega, hm⟩, ⟨⟨rfl, rfl⟩, ⟨by first | rfl | fail, by first | rfl | fail, by first | rfl | fail, by first | rfl | fail, trivial⟩, boxEq rfl, boxEq rfl, trivial⟩, by first | (dsimp only; omega) | fail⟩
      · obtain rfl : k = l.length := by omega
        rw [Nat.sub_self, lastS] at hn
        repeat' ((conv => whnf); first | (refine iteB_dec (fun h => ?_) (fun h => ?_) <;> (try simp (disch := (first | omega | fail)) only [modAt, List.length_take, List.length_drop, List.length_map, List.length_append, List.length_set, List.length_replicate, len_rowsPart, len_setCell, len_marks, len_markL, len_byR, len_mkL, len_marksN, len_bytesI, len_seenI] at h) <;> (try (exfalso; omega))) | fail)
        all_goals first | skip | fail
        (refine .mk ⟨trivial, [], ⟨rfl, ?_⟩, List.nodup_nil, rfl, trivial⟩; show V.lit _ = V.lit _)
        rw [hn]
  · rw [show treeS l = false by unfold treeS; rw [show (decide (1 ≤ l.length) && decide (l.length ≤ 500)) = false by simp only [Bool.and_eq_false_iff, decide_eq_false_iff_not]; omega]; rfl]
    rw [show (decide ((1 : Int) ≤ (rowN l).length) && decide (((rowN l).length : Int) ≤ 500)) = false by simp; omega] at hI
    refine Fn.ofN [0,1,2,3,4,5,6,7,8,9,10,11,17,22,57,62,90,96,110,113,118] [1001,1006,1019] Try.func51 (by rfl) rfl (by show 1 ≤ 125; decide) (by rfl) ?_
    repeat' ((conv => whnf); first | (refine Exists.intro _ (And.intro rfl ?_)) | (refine Or.inl ?_; apply callV_i; (repeat ((conv => whnf); first | refine And.intro (by first | omega | fail) ?_ | fail)); ((conv => whnf); first | exact FnB.mk (hI) | fail); refine ⟨rfl, rfl, ?_⟩) | fail)
    all_goals ((refine .mk ⟨trivial, [], ⟨rfl, ?_⟩, List.nodup_nil, rfl, trivial⟩; show V.lit _ = V.lit _); rfl)


theorem treeI_len {l : List Nd} (h : treeI l = true) : l.length ≤ 500 ∧ 1 ≤ l.length := by
  unfold treeI at h
  simp only [Bool.and_eq_true, decide_eq_true_eq] at h
  omega
theorem szL_all {α : Type} {Q : α → Prop} (sz : α → Int → Int) (hle : ∀ p l, 0 ≤ l → sz p l ≤ l) (b : Int) (hq : ∀ p l, 0 ≤ l → l ≤ b → 0 ≤ sz p l → Q p) : ∀ (xs : List α) (l : Int), 0 ≤ l → l ≤ b → 0 ≤ szL sz xs l → ∀ x ∈ xs, Q x := by
  intro xs
  induction xs with
  | nil => intro _ _ _ _ x hx; cases hx
  | cons y r ih =>
    intro l h0 h1 h2 x hx
    simp only [szL] at h2
    split at h2
    · omega
    · rename_i h3
      have h4 := hle y l h0
      rcases List.mem_cons.1 hx with rfl | hx
      · exact hq _ l h0 h1 (by omega)
      · exact ih _ (by omega) (by omega) h2 x hx
theorem szAt_sm (a : At) (l : Int) (h0 : 0 ≤ l) (h1 : l ≤ 1048576) (h2 : 0 ≤ szAt a l) : a.1.size ≤ 1048576 ∧ a.2.size ≤ 1048576 := by
  unfold szAt at h2; grind
theorem szNd_sm (p : Nd) (l : Int) (h0 : 0 ≤ l) (h1 : l ≤ 1048576) (h2 : 0 ≤ szNd p l) : ndSm p := by
  have hst := szNd_st p l h0 h2
  have hnn := h2
  unfold szNd at h2
  dsimp only at h2
  split at h2
  · omega
  · rename_i g1
    split at h2
    · omega
    · rename_i g2
      have g3 := szS_le szAt le_szAt p.2.2.1 (l - p.2.1.size) (by omega)
      have g4 : ∀ x ∈ p.2.2.1, x.1.size ≤ 1048576 ∧ x.2.size ≤ 1048576 := by
        unfold szS at g2
        split at g2
        · omega
        · rename_i g5
          exact szL_all szAt le_szAt 1048576 szAt_sm p.2.2.1 (l - p.2.1.size - p.2.2.1.length) (by omega) (by omega) (by omega)
      split at h2
      · omega
      · rename_i g6
        split at h2
        · omega
        · rename_i g7
          have g8 := szI_le p.2.2.2.2.2 (szS szAt p.2.2.1 (l - p.2.1.size) - p.2.2.2.1.size) (by omega)
          refine ⟨by omega, ⟨by omega, fun x hx => ?_⟩, by omega, by omega⟩
          have := g4 x hx
          omega
theorem szTr_sm (t : List Nd) (h : 0 ≤ szTr t 1048576) : ∀ x ∈ t, ndSm x := by
  unfold szTr at h
  split at h
  · omega
  · unfold szS at h
    split at h
    · omega
    · rename_i h3
      exact szL_all szNd szNd_le 1048576 szNd_sm t _ (by omega) (by omega) h
/-- What the law knows of a tree that is handed to it. -/
def trS (t : List Nd) : Prop := t.length * 96 ≤ 140737488351232 ∧ ∀ x ∈ t, (Lit.int .i64 x.1).wf = true ∧ x.2.1.size ≤ 140737488351232 ∧ (x.2.2.1.length * 32 ≤ 140737488351232 ∧ ∀ y ∈ x.2.2.1, y.1.size ≤ 140737488351232 ∧ y.2.size ≤ 140737488351232) ∧ x.2.2.2.1.size ≤ 140737488351232 ∧ (Lit.int .i64 x.2.2.2.2.1).wf = true ∧ (x.2.2.2.2.2.length * 8 ≤ 140737488351232 ∧ ∀ y ∈ x.2.2.2.2.2, (Lit.int .i64 y).wf = true)
theorem trS_ok {t : List Nd} (h : trS t) : ∀ x ∈ t, ndOk x := fun x hx => by
  obtain ⟨_, h2, h3, h4, _, h5, _⟩ := h.2 x hx
  exact ⟨h2, h3, h4, h5⟩
theorem take_markL {α : Type} (E : α → List V) (f : Int → α) (k : Int) (n : Nat) : List.take n (List.drop 0 (List.map E (markL f k n))) = List.map E (markL f k n) := by
  rw [List.drop_zero, List.take_of_length_le (by rw [List.length_map, len_markL]; exact Nat.le_refl _)]
theorem len_appB (a b : ByteArray) : (a ++ b).size = a.size + b.size := ByteArray.size_append
theorem idxF_in {α : Type} (p : α → Bool) : ∀ (l : List α) (k : Int), 0 ≤ k → idxF p l k = -1 ∨ (k ≤ idxF p l k ∧ idxF p l k < k + l.length)
  | [], k, h => .inl rfl
  | x :: r, k, h => by
    have ih := idxF_in p r (k + 1) (by omega)
    simp only [idxF, List.length_cons]
    split <;> omega
def atP (n : ByteArray) (x : At) : Bool := decide (x.1 = n)
def atI (l : List At) (n : ByteArray) : Int := idxF (atP n) l 0
def atHas (l : List At) (n : ByteArray) : Bool := decide (0 ≤ atI l n)
def atVal (l : List At) (n : ByteArray) : ByteArray := if atI l n < 0 then ⟨#[]⟩ else (rdD l (atI l n)).2
theorem F_i_AttrOf (l : List At) (n : ByteArray) (hl : l.length ≤ 140737488351232) : Fn pg 65 [.imm 2 (rowA l), .lit (.string n)] [] (.tup [.lit (.string (atVal l n)), .lit (.bool (atHas l n))]) [] := by
  have hA : Fn pg _ _ _ (.lit (.int .i64 (atI l n))) _ := F_i_attrAt l n hl
  have hb := idxF_in (atP n) l 0 (Int.le_refl _)
  change atI l n = -1 ∨ _ at hb
  by_cases h0 : atI l n < 0
  · rw [show atVal l n = ⟨#[]⟩ from if_pos h0, show atHas l n = false from decide_eq_false (by omega)]
    refine Fn.ofN [0,1,4,5,6,11] [] Try.func65 (by rfl) rfl (by show 2 ≤ 17; decide) (by rfl) ?_
    repeat' ((conv => whnf); first | (refine iteB_dec (fun h => ?_) (fun h => ?_) <;> (try simp (disch := (first | omega | fail)) only [modAt, List.length_take, List.length_drop, List.length_map, List.length_append, List.length_set, List.length_replicate, len_rowsPart, len_setCell, len_marks, len_markL, len_byR, len_mkL, len_marksN, len_bytesI, len_seenI] at h) <;> (try (exfalso; omega))) | (refine Or.inl ?_; apply callV_i; (repeat ((conv => whnf); first | refine And.intro (by first | omega | fail) ?_ | fail)); ((conv => whnf); first | exact FnB.mk (hA) | fail); refine ⟨rfl, rfl, ?_⟩) | fail)
    all_goals (refine .mk ⟨trivial, [], ⟨rfl, ?_⟩, List.nodup_nil, rfl, trivial⟩; rfl)
  · have hb2 : 0 ≤ atI l n ∧ atI l n < (l.length : Int) := by
      rcases hb with hb | hb
      · omega
      · change 0 ≤ atI l n ∧ atI l n < 0 + (l.length : Int) at hb; omega
    rw [show atVal l n = (rdD l (atI l n)).2 from if_neg h0, show atHas l n = true from decide_eq_true (by omega)]
    refine Fn.ofN [0,1,4,5,6,11] [] Try.func65 (by rfl) rfl (by show 2 ≤ 17; decide) (by rfl) ?_
    repeat' ((conv => whnf); first | (refine iteB_dec (fun h => ?_) (fun h => ?_) <;> (try simp (disch := (first | omega | fail)) only [modAt, List.length_take, List.length_drop, List.length_map, List.length_append, List.length_set, List.length_replicate, len_rowsPart, len_setCell, len_marks, len_markL, len_byR, len_mkL, len_marksN, len_bytesI, len_seenI] at h) <;> (try (exfalso; omega))) | (refine And.intro (by first | exact True.intro | omega | fail) ?_) | (refine Exists.intro _ (And.intro (rowGetI _ _ _ (by omega) (by omega)) ?_)) | (refine Or.inl ?_; apply callV_i; (repeat ((conv => whnf); first | refine And.intro (by first | omega | fail) ?_ | fail)); ((conv => whnf); first | exact FnB.mk (hA) | fail); refine ⟨rfl, rfl, ?_⟩) | fail)
    all_goals (refine .mk ⟨trivial, [], ⟨rfl, ?_⟩, List.nodup_nil, rfl, trivial⟩; rfl)
theorem F_s_AttrOf (l : List At) (n : ByteArray) (hl : l.length ≤ 140737488351232) : Fn pg 64 [.imm 2 (rowA l), .lit (.string n)] [] (.tup [.lit (.string (atVal l n)), .lit (.bool (atHas l n))]) [] := by
  have hb := idxF_in (atP n) l 0 (Int.le_refl _)
  change atI l n = -1 ∨ _ at hb
  refine Fn.ofN [0,1,4,5,6,10,19] [] Try.func64 (by rfl) rfl (by show 2 ≤ 25; decide) (by rfl) ?_
  repeat' ((conv => whnf); first | (refine iteB_dec (fun h => ?_) (fun h => ?_) <;> (try simp (disch := (first | omega | fail)) only [modAt, List.length_take, List.length_drop, List.length_map, List.length_append, List.length_set, List.length_replicate, len_rowsPart, len_setCell, len_marks, len_markL, len_byR, len_mkL, len_marksN, len_bytesI, len_seenI] at h) <;> (try (exfalso; omega))) | fail)
  refine ⟨Nat, fun i => i ≤ l.length ∧ atI l n = idxF (atP n) (l.drop i) i, fun i => [(0, .imm 2 (rowA l)), (1, .lit (.string n)), (4, .lit (.string ⟨#[]⟩)), (5, .lit (.bool false)), (6, .lit (.int .i64 i))], fun _ => [], fun i => l.length - i, ⟨[], 0, ⟨Nat.zero_le _, rfl⟩, ⟨rfl, rfl⟩, ⟨by first | rfl | fail, by first | rfl | fail, by first | rfl | fail, by first | rfl | fail, by first | rfl | fail, trivial⟩, trivial⟩, ?_⟩
  intro i ⟨hi, hh⟩
  by_cases hlt : i < l.length
  · rw [drop_cons _ _ hlt, idxF] at hh
    repeat' ((conv => whnf); first | (refine iteB_dec (fun h => ?_) (fun h => ?_) <;> (try simp (disch := (first | omega | fail)) only [modAt, List.length_take, List.length_drop, List.length_map, List.length_append, List.length_set, List.length_replicate, len_rowsPart, len_setCell, len_marks, len_markL, len_byR, len_mkL, len_marksN, len_bytesI, len_seenI] at h) <;> (try (exfalso; omega))) | (refine wrapB_i64 (by first | omega | fail) (by first | omega | fail) ?_) | (refine And.intro (by first | exact True.intro | omega | fail) ?_) | (refine Exists.intro _ (And.intro (rowGet _ _ _ (by omega)) ?_)) | fail)
    · rw [if_pos (show atP n l[i] = true from decide_eq_true (by assumption))] at hh
      refine .mk ⟨trivial, [], ⟨rfl, ?_⟩, List.nodup_nil, rfl, trivial⟩
      show V.tup [V.lit (.string l[i].2), V.lit (.bool true)] = _
      unfold atHas atVal
      rw [if_neg (by omega), decide_eq_true (by omega), hh]
      rw [show rdD l (i : Int) = l[i] from getD_eq _ l i hlt]
    · rw [if_neg (show ¬ atP n l[i] = true from fun e => absurd (of_decide_eq_true e) (by assumption))] at hh
      exact ⟨[], i + 1, ⟨by omega, hh⟩, ⟨⟨rfl, rfl⟩, ⟨by first | rfl | fail, by first | rfl | fail, by first | rfl | fail, by first | rfl | fail, by first | rfl | fail, trivial⟩, trivial⟩, by first | (dsimp only; omega) | fail⟩
  · obtain rfl : i = l.length := by omega
    rw [List.drop_of_length_le (Nat.le_refl _), idxF] at hh
    repeat' ((conv => whnf); first | (refine iteB_dec (fun h => ?_) (fun h => ?_) <;> (try simp (disch := (first | omega | fail)) only [modAt, List.length_take, List.length_drop, List.length_map, List.length_append, List.length_set, List.length_replicate, len_rowsPart, len_setCell, len_marks, len_markL, len_byR, len_mkL, len_marksN, len_bytesI, len_seenI] at h) <;> (try (exfalso; omega))) | fail)
    refine .mk ⟨trivial, [], ⟨rfl, ?_⟩, List.nodup_nil, rfl, trivial⟩
    show V.tup [V.lit (.string ⟨#[]⟩), V.lit (.bool false)] = _
    unfold atHas atVal
    rw [if_pos (by omega), decide_eq_false (by omega)]
def elP (a : ByteArray) (x : Nd) : Bool := decide (x.1 = 3) && decide (x.2.1 = a)
def numsTo (l : List Nd) (a : ByteArray) : Nat → List Int
  | 0 => []
  | i + 1 => if elP a (rdD l (i : Int)) = true then numsTo l a i ++ [(i : Int)] else numsTo l a i
theorem numsTo_yes {l : List Nd} {a : ByteArray} {i : Nat} (h : elP a (rdD l (i : Int)) = true) : numsTo l a (i + 1) = numsTo l a i ++ [(i : Int)] := by rw [numsTo, if_pos h]
theorem numsTo_no {l : List Nd} {a : ByteArray} {i : Nat} (h : ¬ elP a (rdD l (i : Int)) = true) : numsTo l a (i + 1) = numsTo l a i := by rw [numsTo, if_neg h]
theorem numsTo_len (l : List Nd) (a : ByteArray) : ∀ i, (numsTo l a i).length ≤ i
  | 0 => Nat.le_refl _
  | i + 1 => by
    have := numsTo_len l a i
    unfold numsTo
    split
    · simp; omega
    · omega
theorem numsTo_in (l : List Nd) (a : ByteArray) : ∀ i, ∀ x ∈ numsTo l a i, 0 ≤ x ∧ x ≤ (i : Int) - 1
  | 0 => fun x h => by cases h
  | i + 1 => fun x h => by
    have ih := numsTo_in l a i
    unfold numsTo at h
    split at h
    · rcases List.mem_append.1 h with h | h
      · have := ih x h; omega
      · have := List.mem_singleton.1 h; omega
    · have := ih x h; omega
theorem elP_no1 {a : ByteArray} {x : Nd} (h : ¬ x.1 = 3) : ¬ elP a x = true := by unfold elP; rw [decide_eq_false h]; simp
theorem elP_no2 {a : ByteArray} {x : Nd} (h : ¬ x.2.1 = a) : ¬ elP a x = true := by unfold elP; rw [decide_eq_false h]; simp
theorem elP_yes {a : ByteArray} {x : Nd} (h : x.1 = 3) (h2 : x.2.1 = a) : elP a x = true := by unfold elP; rw [decide_eq_true h, decide_eq_true h2]; rfl
def elemV (l : List Nd) (a : ByteArray) : List Int := if treeI l = true then numsTo l a l.length else []
theorem elemV_in {l : List Nd} {a : ByteArray} : ∀ x ∈ elemV l a, 0 ≤ x ∧ x ≤ (l.length : Int) - 1 := by
  unfold elemV
  split
  · exact numsTo_in l a l.length
  · intro x h; cases h
theorem F_i_elements (l : List Nd) (a : ByteArray) (hl : l.length ≤ 140737488351232) (hp : ∀ x ∈ l, ndSm x) : Fn pg 53 [sTr l, .lit (.string a)] [] (.sl 500 [] 1 0 (elemV l a).length) [(500, false, 1, rowI (elemV l a))] := by
  have hT := F_i_TreeOk l hl hp
  unfold elemV
  cases hok : treeI l with
  | true =>
    have h5 := treeI_len hok
    rw [hok] at hT
    rw [if_pos rfl]
    refine Fn.ofN [0,1,2,4,5,6,7,10,12,13,14,15,27] [1002,1004,1005,1007,1030,1031] Try.func53 (by rfl) rfl (by show 2 ≤ 34; decide) (by rfl) ?_
    repeat' ((conv => whnf); first | (refine Exists.intro _ (And.intro rfl ?_)) | (refine Or.inl ?_; apply callV_i; (repeat ((conv => whnf); first | refine And.intro (by first | omega | fail) ?_ | fail)); ((conv => whnf); first | exact FnB.mk (hT) | fail); refine ⟨rfl, rfl, ?_⟩) | fail)
    refine ⟨Nat, fun i => i ≤ l.length, fun i => [(0, .agg [.imm 6 (rowN l)]), (1, .lit (.string a)), (5, .sl 1005 [] 1 0 (numsTo l a i).length), (12, .imm 6 (rowN l)), (13, .lit (.int .i64 l.length)), (14, .lit (.int .i64 i))], fun i => [(1005, false, 1, rowI (numsTo l a i))], fun i => l.length - i, ⟨[], 0, Nat.zero_le _, ⟨rfl, rfl⟩, ⟨by first | rfl | fail, by first | rfl | fail, by first | rfl | fail, by first | rfl | fail, by first | (show V.lit (Value.int _ _) = V.lit (Value.int _ _); first | (congr 2; first | (simp only [List.length_map]; done) | fail) | fail) | fail, by first | rfl | fail, trivial⟩, rfl, trivial⟩, ?_⟩
    intro i hi
    have hnl := numsTo_len l a i
    by_cases hlt : i < l.length
    · have hge : rdD l (i : Int) = l[i] := rdT l i hlt
      repeat' ((conv => whnf); first | (refine iteB_dec (fun h => ?_) (fun h => ?_) <;> (try simp (disch := (first | omega | fail)) only [modAt, List.length_take, List.length_drop, List.length_map, List.length_append, List.length_set, List.length_replicate, len_rowsPart, len_setCell, len_marks, len_markL, len_byR, len_mkL, len_marksN, len_bytesI, len_seenI] at h) <;> (try (exfalso; omega))) | (refine Exists.intro _ (And.intro rfl ?_)) | (refine wrapB_i64 (by first | omega | fail) (by first | omega | fail) ?_) | (refine And.intro (by first | exact True.intro | exact Nat.le_refl _ | omega | (simp (disch := (first | omega | fail)) only [modAt, List.length_take, List.length_drop, List.length_map, List.length_append, List.length_set, List.length_replicate, len_rowsPart, len_setCell, len_marks, len_markL, len_byR, len_mkL, len_marksN, len_bytesI, len_seenI]; first | omega | fail) | (apply litOne; (repeat rfl); done) | fail) ?_) | (refine Exists.intro _ (And.intro (rowGet _ _ _ (by omega)) ?_)) | fail)
      · have hy : numsTo l a (i + 1) = numsTo l a i ++ [(i : Int)] := numsTo_yes (by rw [hge]; exact elP_yes (by assumption) (by assumption))
        have hr : _ = rowI (numsTo l a (i + 1)) := (app_one (eInt .i64) (numsTo l a i) (i : Int) rfl rfl).trans (by rw [hy])
        exact ⟨[], i + 1, by omega, ⟨⟨rfl, rfl⟩, ⟨by first | rfl | fail, by first | rfl | fail, slEq ((congrArg List.length hr).trans (List.length_map _)), by first | rfl | fail, by first | rfl | fail, by first | rfl | fail, trivial⟩, boxEq hr, trivial⟩, by first | (dsimp only; omega) | fail⟩
      · have hy : numsTo l a (i + 1) = numsTo l a i := numsTo_no (by rw [hge]; exact elP_no2 (by assumption))
        exact ⟨[], i + 1, by omega, ⟨⟨rfl, rfl⟩, ⟨by first | rfl | fail, by first | rfl | fail, slEq (by rw [hy]), by first | rfl | fail, by first | rfl | fail, by first | rfl | fail, trivial⟩, boxEq (congrArg rowI hy.symm), trivial⟩, by first | (dsimp only; omega) | fail⟩
      · have hy : numsTo l a (i + 1) = numsTo l a i := numsTo_no (by rw [hge]; exact elP_no1 (by assumption))
        exact ⟨[], i + 1, by omega, ⟨⟨rfl, rfl⟩, ⟨by first | rfl | fail, by first | rfl | fail, slEq (by rw [hy]), by first | rfl | fail, by first | rfl | fail, by first | rfl | fail, trivial⟩, boxEq (congrArg rowI hy.symm), trivial⟩, by first | (dsimp only; omega) | fail⟩
    · obtain rfl : i = l.length := by omega
      repeat' ((conv => whnf); first | (refine iteB_dec (fun h => ?_) (fun h => ?_) <;> (try simp (disch := (first | omega | fail)) only [modAt, List.length_take, List.length_drop, List.length_map, List.length_append, List.length_set, List.length_replicate, len_rowsPart, len_setCell, len_marks, len_markL, len_byR, len_mkL, len_marksN, len_bytesI, len_seenI] at h) <;> (try (exfalso; omega))) | fail)
      refine .mk ⟨trivial, [1005], ⟨rfl, ?_⟩, by simp, rfl, ?_⟩
      · rfl
      · exact ⟨outOk_new (d := 1005) (by decide) rfl rfl, trivial⟩
  | false =>
    rw [hok] at hT
    rw [if_neg (by decide)]
    refine Fn.ofN [0,1,2,4,5,6,7,10,12,13,14,15,27] [1002,1004,1005,1007,1030,1031] Try.func53 (by rfl) rfl (by show 2 ≤ 34; decide) (by rfl) ?_
    repeat' ((conv => whnf); first | (refine Exists.intro _ (And.intro rfl ?_)) | (refine Or.inl ?_; apply callV_i; (repeat ((conv => whnf); first | refine And.intro (by first | omega | fail) ?_ | fail)); ((conv => whnf); first | exact FnB.mk (hT) | fail); refine ⟨rfl, rfl, ?_⟩) | fail)
    refine .mk ⟨trivial, [1004], ⟨rfl, ?_⟩, by simp, rfl, ?_⟩
    · rfl
    · exact ⟨outOk_new (d := 1004) (by decide) rfl rfl, trivial⟩


def hrefS : ByteArray := ⟨#[104, 114, 101, 102]⟩
def aS : ByteArray := ⟨#[97]⟩
def lk1 (l : List Nd) (i : Int) : List ByteArray := if atHas (rdD l i).2.2.1 hrefS = true then [atVal (rdD l i).2.2.1 hrefS] else []
def lkN (l : List Nd) (ns : List Int) : List ByteArray := ns.flatMap (lk1 l)
def linksV (l : List Nd) : List ByteArray := lkN l (elemV l aS)
theorem lkN_app (l : List Nd) (a b : List Int) : lkN l (a ++ b) = lkN l a ++ lkN l b := by unfold lkN; rw [List.flatMap_append]
theorem lkN_yes {l : List Nd} {ns : List Int} {i : Int} (h : atHas (rdD l i).2.2.1 hrefS = true) : lkN l (ns ++ [i]) = lkN l ns ++ [atVal (rdD l i).2.2.1 hrefS] := by
  rw [lkN_app]; congr 1; simp [lkN, lk1, h]
theorem lkN_no {l : List Nd} {ns : List Int} {i : Int} (h : ¬ atHas (rdD l i).2.2.1 hrefS = true) : lkN l (ns ++ [i]) = lkN l ns := by
  rw [lkN_app]; simp [lkN, lk1, h]
theorem lkN_len (l : List Nd) : ∀ ns : List Int, (lkN l ns).length ≤ ns.length
  | [] => Nat.le_refl _
  | x :: r => by
    have := lkN_len l r
    unfold lkN at *
    rw [List.flatMap_cons, List.length_append, List.length_cons]
    have : (lk1 l x).length ≤ 1 := by unfold lk1; split <;> simp
    omega
theorem elemV_len (l : List Nd) (a : ByteArray) : (elemV l a).length ≤ l.length := by
  unfold elemV
  split
  · exact numsTo_len l a l.length
  · exact Nat.zero_le _
theorem nd_attrs {l : List Nd} (hp : ∀ x ∈ l, ndSm x) (i : Int) (h0 : 0 ≤ i) (h1 : i ≤ (l.length : Int) - 1) : (rdD l i).2.2.1.length ≤ 140737488351232 := by
  have : rdD l i ∈ l := by
    unfold rdD
    rw [List.getD_eq_getElem?_getD, List.getElem?_eq_getElem (by omega)]
    exact List.getElem_mem _
  have := hp _ this
  exact this.2.1.1
theorem F_i_PageLinks (l : List Nd) (hl : l.length ≤ 140737488351232) (hp : ∀ x ∈ l, ndSm x) (hm : l.length ≤ 1048576) : Fn pg 28 [sTr l] [] (.sl 500 [] 1 0 (linksV l).length) [(500, false, 1, rowS (linksV l))] := by
  have hE := F_i_elements l aS hl hp
  have hen := elemV_len l aS
  have hei : ∀ x ∈ elemV l aS, 0 ≤ x ∧ x ≤ (l.length : Int) - 1 := elemV_in
  unfold linksV
  generalize elemV l aS = ns at hE hen hei ⊢
  refine Fn.ofN [0,1,2,3,5,6,7,9,10,11,12,25] [1001,1002,1003,1009,1028,1029] Try.func28 (by rfl) rfl (by show 1 ≤ 32; decide) (by rfl) ?_
  repeat' ((conv => whnf); first | (refine Exists.intro _ (And.intro rfl ?_)) | (refine Or.inl ?_; apply callV_i; (repeat ((conv => whnf); first | refine And.intro (by first | omega | fail) ?_ | fail)); ((conv => whnf); first | exact FnB.mk (hE) | fail); refine ⟨rfl, rfl, ?_⟩) | fail)
  refine ⟨Nat, fun i => i ≤ ns.length, fun i => [(1, .ptr 1001 [] 1 0 0), (3, .sl 1003 [] 1 0 (lkN l (ns.take i)).length), (9, .sl 1009 [] 1 0 ns.length), (10, .lit (.int .i64 ns.length)), (11, .lit (.int .i64 i))], fun i => [(1001, true, 1, [[.imm 6 (rowN l)]]), (1003, false, 1, rowS (lkN l (ns.take i))), (1009, false, 1, rowI ns)], fun i => ns.length - i, ⟨[], 0, Nat.zero_le _, ⟨rfl, rfl⟩, ⟨by first | rfl | fail, by first | rfl | fail, by first | rfl | fail, by first | rfl | fail, by first | rfl | fail, trivial⟩, boxEq rfl, rfl, boxEq rfl, trivial⟩, ?_⟩
  intro i hi
  have hll := lkN_len l (ns.take i)
  rw [List.length_take] at hll
  by_cases hlt : i < ns.length
  · have hlt' : ((i : Nat) : Int).toNat + 0 < ns.length := by omega
    have hin := hei (ns[((i : Nat) : Int).toNat + 0]'hlt') (List.getElem_mem _)
    have hat := nd_attrs hp (ns[((i : Nat) : Int).toNat + 0]'hlt') hin.1 hin.2
    have hA := F_i_AttrOf (rdD l (ns[((i : Nat) : Int).toNat + 0]'hlt')).2.2.1 hrefS hat
    have htk : ns.take (i + 1) = ns.take i ++ [ns[((i : Nat) : Int).toNat + 0]'hlt'] := List.take_succ_eq_append_getElem hlt
    repeat' ((conv => whnf); first | (refine iteB_dec (fun h => ?_) (fun h => ?_) <;> (try simp (disch := (first | omega | fail)) only [modAt, List.length_take, List.length_drop, List.length_map, List.length_append, List.length_set, List.length_replicate, len_rowsPart, len_setCell, len_marks, len_markL, len_byR, len_mkL, len_marksN, len_bytesI, len_seenI] at h) <;> (try (exfalso; omega))) | (refine Exists.intro _ (And.intro rfl ?_)) | (refine wrapB_i64 (by first | omega | fail) (by first | omega | fail) ?_) | (refine And.intro (by first | exact True.intro | exact Nat.le_refl _ | omega | (simp (disch := (first | omega | fail)) only [modAt, List.length_take, List.length_drop, List.length_map, List.length_append, List.length_set, List.length_replicate, len_rowsPart, len_setCell, len_marks, len_markL, len_byR, len_mkL, len_marksN, len_bytesI, len_seenI]; first | omega | fail) | (apply litOne; (repeat rfl); done) | fail) ?_) | (refine Exists.intro _ (And.intro (rowGet _ _ _ (by omega)) ?_)) | (refine Exists.intro _ (And.intro (rowGetI _ _ _ (by omega) (by omega)) ?_)) | (refine Or.inl ?_; apply callV_i; (repeat ((conv => whnf); first | refine And.intro (by first | omega | fail) ?_ | fail)); ((conv => whnf); first | exact FnB.mk (hA) | fail); refine ⟨rfl, rfl, ?_⟩) | fail)
    · have hy : lkN l (ns.take (i + 1)) = lkN l (ns.take i) ++ [atVal (rdD l (ns[((i : Nat) : Int).toNat + 0]'hlt')).2.2.1 hrefS] := by rw [htk]; exact lkN_yes (decide_eq_true (by assumption))
      have hr : _ = rowS (lkN l (ns.take (i + 1))) := (app_one eStr (lkN l (ns.take i)) (atVal (rdD l (ns[((i : Nat) : Int).toNat + 0]'hlt')).2.2.1 hrefS) rfl rfl).trans (by rw [hy])
      exact ⟨[], i + 1, by omega, ⟨⟨rfl, rfl⟩, ⟨by first | rfl | fail, slEq ((congrArg List.length hr).trans (List.length_map _)), by first | rfl | fail, by first | rfl | fail, by first | rfl | fail, trivial⟩, boxEq rfl, boxEq hr, boxEq rfl, trivial⟩, by first | (dsimp only; omega) | fail⟩
    · have hy : lkN l (ns.take (i + 1)) = lkN l (ns.take i) := by rw [htk]; exact lkN_no (by unfold atHas; rw [decide_eq_true_eq]; assumption)
      exact ⟨[], i + 1, by omega, ⟨⟨rfl, rfl⟩, ⟨by first | rfl | fail, slEq (by rw [hy]), by first | rfl | fail, by first | rfl | fail, by first | rfl | fail, trivial⟩, boxEq rfl, boxEq (congrArg rowS hy.symm), boxEq rfl, trivial⟩, by first | (dsimp only; omega) | fail⟩
  · obtain rfl : i = ns.length := by omega
    repeat' ((conv => whnf); first | (refine iteB_dec (fun h => ?_) (fun h => ?_) <;> (try simp (disch := (first | omega | fail)) only [modAt, List.length_take, List.length_drop, List.length_map, List.length_append, List.length_set, List.length_replicate, len_rowsPart, len_setCell, len_marks, len_markL, len_byR, len_mkL, len_marksN, len_bytesI, len_seenI] at h) <;> (try (exfalso; omega))) | fail)
    refine .mk ⟨trivial, [1003], ⟨rfl, ?_⟩, by simp, rfl, ?_⟩
    · exact slEq (by rw [List.take_length])
    · exact ⟨outOk_new (d := 1003) (by decide) rfl (boxEq (by rw [List.take_length])), trivial⟩
theorem linksV_true {l : List Nd} (h : treeI l = true) : linksV l = lkN l (numsTo l aS l.length) := by unfold linksV elemV; rw [if_pos h]
theorem linksV_false {l : List Nd} (h : treeI l = false) : linksV l = [] := by unfold linksV elemV; rw [h, if_neg (by decide)]; rfl
theorem F_s_PageLinks (l : List Nd) (hl : l.length ≤ 140737488351232) (hp : ∀ x ∈ l, ndSm x) (hm : l.length ≤ 1048576) : Fn pg 27 [sTr l] [] (.sl 500 [] 1 0 (linksV l).length) [(500, false, 1, rowS (linksV l))] := by
  have hT := F_s_TreeOk l hl hp
  rw [tree_agree] at hT
  cases hok : treeI l with
  | true =>
    rw [hok] at hT
    rw [linksV_true hok]
    refine Fn.ofN [0,1,2,3,4,5,6,16,47] [1001,1002,1007,1050,1051] Try.func27 (by rfl) rfl (by show 1 ≤ 53; decide) (by rfl) ?_
    repeat' ((conv => whnf); first | (refine Exists.intro _ (And.intro rfl ?_)) | (refine And.intro (by first | exact True.intro | fail) ?_) | fail)
    refine ⟨Nat, fun i => i ≤ l.length, fun i => [(1, .ptr 1001 [] 1 0 0), (3, .sl 1007 [] 1 0 (lkN l (numsTo l aS i)).length), (4, .lit (.int .i64 i))], fun i => [(1001, true, 1, [[.imm 6 (rowN l)]]), (1007, false, 1, rowS (lkN l (numsTo l aS i)))], fun i => l.length - i, ⟨[], 0, Nat.zero_le _, ⟨rfl, rfl⟩, ⟨by first | rfl | fail, by first | rfl | fail, by first | rfl | fail, trivial⟩, boxEq rfl, rfl, trivial⟩, ?_⟩
    intro i hi
    have hll := Nat.le_trans (lkN_len l (numsTo l aS i)) (numsTo_len l aS i)
    by_cases hlt : i < l.length
    · have hge : rdD l (i : Int) = l[i] := rdT l i hlt
      have hat := nd_attrs hp (i : Int) (by omega) (by omega)
      rw [hge] at hat
      have hA := F_s_AttrOf l[i].2.2.1 hrefS hat
      have hyes : elP aS l[i] = true → atHas l[i].2.2.1 hrefS = true → lkN l (numsTo l aS (i + 1)) = lkN l (numsTo l aS i) ++ [atVal l[i].2.2.1 hrefS] := fun h1 h2 => by
        rw [← hge] at h1 h2 ⊢
        rw [numsTo_yes h1, lkN_yes h2]
      have hno1 : ¬ elP aS l[i] = true → lkN l (numsTo l aS (i + 1)) = lkN l (numsTo l aS i) := fun h1 => by
        rw [← hge] at h1
        rw [numsTo_no h1]
      have hno2 : ¬ atHas l[i].2.2.1 hrefS = true → lkN l (numsTo l aS (i + 1)) = lkN l (numsTo l aS i) := fun h2 => by
        by_cases h1 : elP aS l[i] = true
        · rw [← hge] at h1 h2
          rw [numsTo_yes h1, lkN_no h2]
        · exact hno1 h1
      repeat' ((conv => whnf); first | (refine iteB_dec (fun h => ?_) (fun h => ?_) <;> (try simp (disch := (first | omega | fail)) only [modAt, List.length_take, List.length_drop, List.length_map, List.length_append, List.length_set, List.length_replicate, len_rowsPart, len_setCell, len_marks, len_markL, len_byR, len_mkL, len_marksN, len_bytesI, len_seenI] at h) <;> (try (exfalso; omega))) | (refine Exists.intro _ (And.intro rfl ?_)) | (refine wrapB_i64 (by first | omega | fail) (by first | omega | fail) ?_) | (refine And.intro (by first | exact True.intro | exact Nat.le_refl _ | omega | (simp (disch := (first | omega | fail)) only [modAt, List.length_take, List.length_drop, List.length_map, List.length_append, List.length_set, List.length_replicate, len_rowsPart, len_setCell, len_marks, len_markL, len_byR, len_mkL, len_marksN, len_bytesI, len_seenI]; first | omega | fail) | (apply litOne; (repeat rfl); done) | fail) ?_) | (refine Exists.intro _ (And.intro (rowGet _ _ _ (by omega)) ?_)) | (refine Or.inl ?_; apply callV_i; (repeat ((conv => whnf); first | refine And.intro (by first | omega | fail) ?_ | fail)); ((conv => whnf); first | exact FnB.mk (hT) | exact FnB.mk (hA) | fail); refine ⟨rfl, rfl, ?_⟩) | fail)
      · have hy := hyes (elP_yes (by assumption) (by assumption)) (decide_eq_true (by assumption))
        have hr : _ = rowS (lkN l (numsTo l aS (i + 1))) := (app_one eStr (lkN l (numsTo l aS i)) (atVal l[i].2.2.1 hrefS) rfl rfl).trans (by rw [hy])
        exact ⟨[], i + 1, by omega, ⟨⟨rfl, rfl⟩, ⟨by first | rfl | fail, slEq ((congrArg List.length hr).trans (List.length_map _)), by first | rfl | fail, trivial⟩, boxEq rfl, boxEq hr, trivial⟩, by first | (dsimp only; omega) | fail⟩
      · have hy := hno1 (elP_no2 (by assumption))
        exact ⟨[], i + 1, by omega, ⟨⟨rfl, rfl⟩, ⟨by first | rfl | fail, slEq (by rw [hy]), by first | rfl | fail, trivial⟩, boxEq rfl, boxEq (congrArg rowS hy.symm), trivial⟩, by first | (dsimp only; omega) | fail⟩
      · have hy := hno1 (elP_no1 (by assumption))
        exact ⟨[], i + 1, by omega, ⟨⟨rfl, rfl⟩, ⟨by first | rfl | fail, slEq (by rw [hy]), by first | rfl | fail, trivial⟩, boxEq rfl, boxEq (congrArg rowS hy.symm), trivial⟩, by first | (dsimp only; omega) | fail⟩
      · have hy := hno2 (by unfold atHas; rw [decide_eq_true_eq]; assumption)
        exact ⟨[], i + 1, by omega, ⟨⟨rfl, rfl⟩, ⟨by first | rfl | fail, slEq (by rw [hy]), by first | rfl | fail, trivial⟩, boxEq rfl, boxEq (congrArg rowS hy.symm), trivial⟩, by first | (dsimp only; omega) | fail⟩
    · obtain rfl : i = l.length := by omega
      repeat' ((conv => whnf); first | (refine iteB_dec (fun h => ?_) (fun h => ?_) <;> (try simp (disch := (first | omega | fail)) only [modAt, List.length_take, List.length_drop, List.length_map, List.length_append, List.length_set, List.length_replicate, len_rowsPart, len_setCell, len_marks, len_markL, len_byR, len_mkL, len_marksN, len_bytesI, len_seenI] at h) <;> (try (exfalso; omega))) | (refine Exists.intro _ (And.intro rfl ?_)) | fail)
      refine .mk ⟨trivial, [1007], ⟨rfl, ?_⟩, by simp, rfl, ?_⟩
      · rfl
      · exact ⟨outOk_new (d := 1007) (by decide) rfl rfl, trivial⟩
  | false =>
    rw [hok] at hT
    rw [linksV_false hok]
    refine Fn.ofN [0,1,2,3,4,5,6,16,47] [1001,1002,1007,1050,1051] Try.func27 (by rfl) rfl (by show 1 ≤ 53; decide) (by rfl) ?_
    repeat' ((conv => whnf); first | (refine Exists.intro _ (And.intro rfl ?_)) | (refine And.intro (by first | exact True.intro | fail) ?_) | fail)
    refine ⟨Unit, fun _ => True, fun _ => [(1, .ptr 1001 [] 1 0 0), (3, .sl 1007 [] 1 0 0), (4, .lit (.int .i64 0))], fun _ => [(1001, true, 1, [[.imm 6 (rowN l)]]), (1007, false, 1, [])], fun _ => 0, ⟨[], (), trivial, ⟨rfl, rfl⟩, ⟨by first | rfl | fail, by first | rfl | fail, by first | rfl | fail, trivial⟩, boxEq rfl, rfl, trivial⟩, ?_⟩
    intro _ _
    by_cases hlt : 0 < l.length
    · repeat' ((conv => whnf); first | (refine iteB_dec (fun h => ?_) (fun h => ?_) <;> (try simp (disch := (first | omega | fail)) only [modAt, List.length_take, List.length_drop, List.length_map, List.length_append, List.length_set, List.length_replicate, len_rowsPart, len_setCell, len_marks, len_markL, len_byR, len_mkL, len_marksN, len_bytesI, len_seenI] at h) <;> (try (exfalso; omega))) | (refine Exists.intro _ (And.intro rfl ?_)) | (refine Or.inl ?_; apply callV_i; (repeat ((conv => whnf); first | refine And.intro (by first | omega | fail) ?_ | fail)); ((conv => whnf); first | exact FnB.mk (hT) | fail); refine ⟨rfl, rfl, ?_⟩) | fail)
      refine .mk ⟨trivial, [1007], ⟨rfl, ?_⟩, by simp, rfl, ?_⟩
      · rfl
      · exact ⟨outOk_new (d := 1007) (by decide) rfl rfl, trivial⟩
    · repeat' ((conv => whnf); first | (refine iteB_dec (fun h => ?_) (fun h => ?_) <;> (try simp (disch := (first | omega | fail)) only [modAt, List.length_take, List.length_drop, List.length_map, List.length_append, List.length_set, List.length_replicate, len_rowsPart, len_setCell, len_marks, len_markL, len_byR, len_mkL, len_marksN, len_bytesI, len_seenI] at h) <;> (try (exfalso; omega))) | (refine Exists.intro _ (And.intro rfl ?_)) | fail)
      refine .mk ⟨trivial, [1007], ⟨rfl, ?_⟩, by simp, rfl, ?_⟩
      · rfl
      · exact ⟨outOk_new (d := 1007) (by decide) rfl rfl, trivial⟩


theorem F_l_FnExactPageLinks (t : List Nd) (ht : trS t) : Fn pg 7 [sTr t] [] (.lit (.bool true)) [] := by
  have ho := trS_ok ht
  obtain ⟨ht, _⟩ := ht
  have hZ := F_l_szTree t 1048576 (by omega) (by decide) (by decide) ho
  by_cases hz : 0 ≤ szTr t 1048576
  · have hsm := szTr_sm t hz
    have hst := (szTr_st t 1048576 (by decide) hz).2
    have hlen : t.length ≤ 1048576 := by
      unfold szTr at hz
      split at hz
      · omega
      · unfold szS at hz
        split at hz
        · omega
        · omega
    have hI := F_i_PageLinks t (by omega) hsm hlen
    have hS := F_s_PageLinks t (by omega) hsm hlen
    have hpl : (linksV t).length ≤ t.length := Nat.le_trans (lkN_len t _) (elemV_len t aS)
    have hE := F_l_eqTree t t (by omega) (by omega) ho ho
    have hF := F_l_eqStringS (linksV t) (linksV t) (by omega) (by omega)
    have hM := F_l_markTree t t.length 1 (Nat.le_refl _) (by omega) (by decide) (by omega) (fun x hx => by have := ho x hx; unfold ndOk at this; omega)
    rw [decide_eq_true rfl] at hE hF
    rw [List.take_length] at hM
    refine Fn.ofN [0,1,2,3,4,5,6,7,8,9,10,15,26,31,42,50,53,60,65,68] [1001,1005,1017,1018,1020,1022,1029,1055,1056] Try.func7 (by rfl) rfl (by show 1 ≤ 69; decide) (by rfl) ?_
    repeat' ((conv => whnf); first | (refine iteB_dec (fun h => ?_) (fun h => ?_) <;> (try simp (disch := (first | omega | fail)) only [modAt, List.length_take, List.length_drop, List.length_map, List.length_append, List.length_set, List.length_replicate, len_rowsPart, len_setCell, len_marks, len_markL, len_byR, len_mkL, len_marksN, len_bytesI, len_seenI, len_appB] at h) <;> (try (exfalso; omega))) | (refine Exists.intro _ (And.intro rfl ?_)) | (refine And.intro (by first | exact True.intro | exact Nat.le_refl _ | (simp (disch := (first | omega | fail)) only [modAt, List.length_take, List.length_drop, List.length_map, List.length_append, List.length_set, List.length_replicate, len_rowsPart, len_setCell, len_marks, len_markL, len_byR, len_mkL, len_marksN, len_bytesI, len_seenI, len_appB]; first | done | fail) | fail) ?_) | (refine Or.inr (Exists.intro 5 (Exists.intro [(0, true), (1, true), (2, false), (3, false), (4, true)] (And.intro (by decide +kernel) ?_)))) | (refine Or.inl ?_; apply callV_i; (repeat ((conv => whnf); first | refine And.intro (by first | omega | (simp (disch := (first | omega | fail)) only [modAt, List.length_take, List.length_drop, List.length_map, List.length_append, List.length_set, List.length_replicate, len_rowsPart, len_setCell, len_marks, len_markL, len_byR, len_mkL, len_marksN, len_bytesI, len_seenI, len_appB]; first | omega | fail) | fail) ?_ | fail)); ((conv => whnf); first | exact FnB.mk (hZ) | exact FnB.mk (F_l_toTree _ (by first | omega | fail) (by first | omega | fail)) | (simp (disch := (first | omega | fail)) only [takeAll, takeAll2, take_app, take_app2, take_marks, take_dropU, take_byR, take_takeU, take_marksN, take_markL]; first | exact FnB.mk (hI) | exact FnB.mk (hS) | exact FnB.mk (hE) | exact FnB.mk (hF) | exact FnB.mk (F_l_heldStringS_marked _ _ (by first | omega | fail) (by first | omega | fail) (by first | omega | fail)) | fail) | fail); refine ⟨rfl, rfl, ?_⟩) | (refine Or.inr (Or.inr (callA_ok ?_)); (conv => whnf); apply Exists.intro; apply Exists.intro; apply And.intro; (repeat ((conv => whnf); first | refine And.intro (by first | omega | fail) ?_ | fail)); ((conv => whnf); first | exact FnB.mk (hM) | exact FnB.mk (F_l_markStringS _ _ _ (by first | omega | fail) (by first | omega | fail) (by first | omega | fail) (by first | omega | fail)) | fail); refine ⟨rfl, ?_⟩) | fail)
    all_goals first | (exact absurd trivial (by assumption)) | skip | fail
    all_goals first | (refine .mk ⟨trivial, [], ⟨rfl, rfl⟩, List.nodup_nil, rfl, trivial⟩) | fail
  · refine Fn.ofN [0,1,2,3,4,5,6,7,8,9,10,15,26,31,42,50,53,60,65,68] [1001,1005,1017,1018,1020,1022,1029,1055,1056] Try.func7 (by rfl) rfl (by show 1 ≤ 69; decide) (by rfl) ?_
    repeat' ((conv => whnf); first | (refine iteB_dec (fun h => ?_) (fun h => ?_) <;> (try simp (disch := (first | omega | fail)) only [modAt, List.length_take, List.length_drop, List.length_map, List.length_append, List.length_set, List.length_replicate, len_rowsPart, len_setCell, len_marks, len_markL, len_byR, len_mkL, len_marksN, len_bytesI, len_seenI, len_appB] at h) <;> (try (exfalso; omega))) | (refine Exists.intro _ (And.intro rfl ?_)) | (refine Or.inl ?_; apply callV_i; (repeat ((conv => whnf); first | refine And.intro (by first | omega | fail) ?_ | fail)); ((conv => whnf); first | exact FnB.mk (hZ) | fail); refine ⟨rfl, rfl, ?_⟩) | fail)
    all_goals first | (refine .mk ⟨trivial, [], ⟨rfl, rfl⟩, List.nodup_nil, rfl, trivial⟩) | fail


end Go.Proofs.Ytpojadoklfdfiaa.M

/- Walks of the program's functions, by the small machine: what one law's proof needs. -/
import Derived.Test.YtpojadoklfdfiaaQ2
import Derived.Test.YtpojadoklfdfiaaL0
import Derived.Test.YtpojadoklfdfiaaHS
import Derived.Test.YtpojadoklfdfiaaPi0
namespace Go.Proofs.Ytpojadoklfdfiaa.M
open Go
set_option maxHeartbeats 1000000
set_option maxRecDepth 20000
set_option linter.unusedVariables false
set_option linter.unusedSimpArgs false
theorem F_i_Tree_linksOk (l : List Nd) (hl : l.length ≤ 500) (h0 : par l 0 = -1) (hp : ∀ x ∈ l, ndSm x) : Fn pg 89 [.pro [.imm 6 (rowN l)]] [] (.lit (.bool (linksB l))) [] := by
  refine Fn.ofN [0,2,3,4,5,7,8,9,19,20,21,22,27,28,29,30,55,67,68,69,70,89] [1005,1009,1015] Try.func89 (by rfl) rfl (by show 1 ≤ 91; decide) (by rfl) ?_
  repeat' ((conv => whnf); first | (refine And.intro (by first | exact True.intro | omega | (simp (disch := (first | omega | fail)) only [modAt, List.length_take, List.length_drop, List.length_map, List.length_append, List.length_set, List.length_replicate, len_rowsPart, len_setCell, len_marks, len_markL, len_byR, len_mkL, len_marksN, len_bytesI, len_seenI]; first | omega | fail) | fail) ?_) | fail)
  rw [restK_start]
  refine ⟨Nat × List Bool, fun x => (x.1 ≤ l.length ∧ x.2.length = l.length) ∧ restK l 0 (List.replicate l.length false) = restK l x.1 x.2, fun x => [(0, .pro [.imm 6 (rowN l)]), (3, .sl 1015 [] 1 0 l.length), (19, .imm 6 (rowN l)), (20, .lit (.int .i64 l.length)), (21, .lit (.int .i64 x.1))], fun x => [(1015, false, 1, rowI (seenI x.2))], fun x => l.length - x.1, ⟨[], (0, List.replicate l.length false), by simp, ⟨rfl, rfl⟩, ⟨by first | rfl | fail, by first | (exact slEq (by first | (simp; done) | fail)) | fail, by first | rfl | fail, by first | (show V.lit (Value.int _ _) = V.lit (Value.int _ _); first | (congr 2; first | (simp only [List.length_map]; done) | fail) | fail) | fail, by first | rfl | fail, trivial⟩, boxEq ?_, trivial⟩, ?_⟩
  · simp [seenI, eInt, renRow]
  intro y ⟨⟨hi, hs⟩, hh⟩
  by_cases hlt : y.1 < l.length
  · have hpi := hp _ (List.getElem_mem hlt)
    obtain ⟨_, _, _, hkl⟩ := hpi
    replace hh := hh.trans (restK_step l y.1 y.2 hlt)
    repeat' ((conv => whnf); first | (refine iteB_dec (fun h => ?_) (fun h => ?_) <;> (try simp (disch := (first | omega | fail)) only [modAt, List.length_take, List.length_drop, List.length_map, List.length_append, List.length_set, List.length_replicate, len_rowsPart, len_setCell, len_marks, len_markL, len_byR, len_mkL, len_marksN, len_bytesI, len_seenI] at h)) | (refine Exists.intro _ (And.intro rfl ?_)) | (refine And.intro (by first | exact True.intro | exact Nat.le_refl _ | omega | fail) ?_) | (refine Exists.intro _ (And.intro (rowGet _ _ _ (by omega)) ?_)) | fail)
    all_goals first | (exfalso; omega) | skip | fail
    refine ⟨Nat × List Bool, fun x => (x.1 ≤ l[y.1].2.2.2.2.2.length ∧ x.2.length = l.length) ∧ restK l 0 (List.replicate l.length false) = restJ l y.1 (l[y.1].2.2.2.2.2.drop x.1) x.2, fun x => [(0, .pro [.imm 6 (rowN l)]), (3, .sl 1015 [] 1 0 l.length), (4, .lit (.int .i64 y.1)), (19, .imm 6 (rowN l)), (20, .lit (.int .i64 l.length)), (21, .lit (.int .i64 y.1)), (27, .imm 1 (rowI l[y.1].2.2.2.2.2)), (28, .lit (.int .i64 l[y.1].2.2.2.2.2.length)), (29, .lit (.int .i64 x.1))], fun x => [(1015, false, 1, rowI (seenI x.2))], fun x => l[y.1].2.2.2.2.2.length - x.1, ⟨[], (0, y.2), ⟨⟨Nat.zero_le _, hs⟩, hh⟩, ⟨rfl, rfl⟩, ⟨by first | rfl | fail, by first | rfl | fail, by first | rfl | fail, by first | rfl | fail, by first | rfl | fail, by first | rfl | fail, by first | rfl | fail, by first | (show V.lit (Value.int _ _) = V.lit (Value.int _ _); first | (congr 2; first | (simp only [List.length_map]; done) | fail) | fail) | fail, by first | rfl | fail, trivial⟩, boxEq rfl, trivial⟩, ?_⟩
    intro v ⟨⟨hj, hz⟩, hn⟩
    by_cases hlj : v.1 < l[y.1].2.2.2.2.2.length
    · rw [drop_cons _ _ hlj, restJ_consC] at hn
      have hsr := seenI_range v.2 l[y.1].2.2.2.2.2[v.1]
      have hN := F_i_Tree_isNode l l[y.1].2.2.2.2.2[v.1] (by omega)
      by_cases hin : 0 ≤ l[y.1].2.2.2.2.2[v.1] ∧ l[y.1].2.2.2.2.2[v.1] ≤ (l.length : Int) - 1
      · rw [nodeIn_yes hin] at hN
        have hsd := seenI_rd v.2 l[y.1].2.2.2.2.2[v.1] (by omega)
        repeat' ((conv => whnf); first | (refine iteB_dec (fun h => ?_) (fun h => ?_) <;> (try simp (disch := (first | omega | fail)) only [modAt, List.length_take, List.length_drop, List.length_map, List.length_append, List.length_set, List.length_replicate, len_rowsPart, len_setCell, len_marks, len_markL, len_byR, len_mkL, len_marksN, len_bytesI, len_seenI] at h)) | (refine wrapB_i64 (by first | omega | fail) (by first | omega | fail) ?_) | (refine And.intro (by first | exact True.intro | omega | (simp (disch := (first | omega | fail)) only [modAt, List.length_take, List.length_drop, List.length_map, List.length_append, List.length_set, List.length_replicate, len_rowsPart, len_setCell, len_marks, len_markL, len_byR, len_mkL, len_marksN, len_bytesI, len_seenI]; first | omega | fail) | fail) ?_) | (refine Exists.intro _ (And.intro (get_seen _ _ (by first | omega | fail) (by first | omega | fail)) ?_)) | (refine Exists.intro _ (And.intro (rowGet _ _ _ (by omega)) ?_)) | (refine Exists.intro _ (And.intro (rowGetI _ _ _ (by omega) (by omega)) ?_)) | (refine Exists.intro _ (And.intro (by first | exact (get_mapIC _ _ _ _ _ (by first | (simp (disch := (first | omega | fail)) only [modAt, List.length_take, List.length_drop, List.length_map, List.length_append, List.length_set, List.length_replicate, len_rowsPart, len_setCell, len_marks, len_markL, len_byR, len_mkL, len_marksN, len_bytesI, len_seenI]; first | omega | fail) | fail) (by exact rfl)) | fail) ?_)) | (refine Or.inl ?_; apply callV_i; (repeat ((conv => whnf); first | refine And.intro (by first | omega | fail) ?_ | fail)); ((conv => whnf); first | exact FnB.mk (hN) | fail); refine ⟨rfl, rfl, ?_⟩) | fail)
        all_goals first | (exfalso; omega) | skip | fail
        · (refine .mk ⟨trivial, [], ⟨rfl, ?_⟩, List.nodup_nil, rfl, trivial⟩; show V.lit _ = V.lit _)
          rw [hn, kidC_no2 (by assumption)]; rfl
        · (refine .mk ⟨trivial, [], ⟨rfl, ?_⟩, List.nodup_nil, rfl, trivial⟩; show V.lit _ = V.lit _)
          rw [hn, kidC_no3 (by omega) (by assumption)]; rfl
        · rw [kidC_yes h0 (by omega) hin (Decidable.not_not.1 (by assumption)) (by assumption), if_pos rfl] at hn
          refine ⟨[], (v.1 + 1, v.2.set l[y.1].2.2.2.2.2[v.1].toNat true), ⟨⟨by omega, by simpa using hz⟩, hn⟩, ⟨⟨rfl, rfl⟩, ⟨by first | rfl | fail, by first | rfl | fail, by first | rfl | fail, by first | rfl | fail, by first | rfl | fail, by first | rfl | fail, by first | rfl | fail, by first | rfl | fail, by first | rfl | fail, trivial⟩, boxEq ?_, trivial⟩, by first | (dsimp only; omega) | fail⟩
          show setCell (rowI (seenI v.2)) (l[y.1].2.2.2.2.2[v.1].toNat + 0) 0 (.lit (.int .i64 (rdD (seenI v.2) l[y.1].2.2.2.2.2[v.1] + 1))) = rowI (seenI (v.2.set l[y.1].2.2.2.2.2[v.1].toNat true))
          exact seen_store v.2 _ hin.1 (by omega) (by assumption)
      · rw [nodeIn_no hin] at hN
        repeat' ((conv => whnf); first | (refine iteB_dec (fun h => ?_) (fun h => ?_) <;> (try simp (disch := (first | omega | fail)) only [modAt, List.length_take, List.length_drop, List.length_map, List.length_append, List.length_set, List.length_replicate, len_rowsPart, len_setCell, len_marks, len_markL, len_byR, len_mkL, len_marksN, len_bytesI, len_seenI] at h)) | (refine wrapB_i64 (by first | omega | fail) (by first | omega | fail) ?_) | (refine And.intro (by first | exact True.intro | omega | fail) ?_) | (refine Exists.intro _ (And.intro (rowGet _ _ _ (by omega)) ?_)) | (refine Or.inl ?_; apply callV_i; (repeat ((conv => whnf); first | refine And.intro (by first | omega | fail) ?_ | fail)); ((conv => whnf); first | exact FnB.mk (hN) | fail); refine ⟨rfl, rfl, ?_⟩) | fail)
        all_goals first | (exfalso; omega) | skip | fail
        (refine .mk ⟨trivial, [], ⟨rfl, ?_⟩, List.nodup_nil, rfl, trivial⟩; show V.lit _ = V.lit _)
        rw [hn, kidC_no1 hin]; rfl
    · have hjl : v.1 = l[y.1].2.2.2.2.2.length := by omega
      rw [List.drop_of_length_le (by omega), restJ_nil] at hn
      repeat' ((conv => whnf); first | (refine iteB_dec (fun h => ?_) (fun h => ?_) <;> (try simp (disch := (first | omega | fail)) only [modAt, List.length_take, List.length_drop, List.length_map, List.length_append, List.length_set, List.length_replicate, len_rowsPart, len_setCell, len_marks, len_markL, len_byR, len_mkL, len_marksN, len_bytesI, len_seenI] at h)) | (refine iteB_not ?_) | (refine iteB_of (fun h => ?_) (fun h => ?_)) | (refine wrapB_i64 (by first | omega | fail) (by first | omega | fail) ?_) | (refine And.intro (by first | exact True.intro | omega | fail) ?_) | (refine Exists.intro _ (And.intro (get_seen _ _ (by first | omega | fail) (by first | omega | fail)) ?_)) | (refine Exists.intro _ (And.intro (rowGet _ _ _ (by omega)) ?_)) | (refine Exists.intro _ (And.intro (by first | exact (get_mapIC _ _ _ _ _ (by first | omega | fail) (by exact rfl)) | fail) ?_)) | (refine Or.inl ?_; apply callV_i; (repeat ((conv => whnf); first | refine And.intro (by first | omega | fail) ?_ | fail)); ((conv => whnf); first | exact FnB.mk (F_i_Tree_isNode _ _ (by first | omega | fail)) | fail); refine ⟨rfl, rfl, ?_⟩) | fail)
      all_goals first | (exfalso; omega) | skip | fail
      exact ⟨[], (y.1 + 1, v.2), ⟨⟨by omega, hz⟩, hn⟩, ⟨⟨rfl, rfl⟩, ⟨by first | rfl | fail, by first | rfl | fail, by first | rfl | fail, by first | rfl | fail, by first | rfl | fail, trivial⟩, boxEq rfl, trivial⟩, by first | (dsimp only; omega) | fail⟩
  · have hil : y.1 = l.length := by omega
    rw [hil, restK_end] at hh
    repeat' ((conv => whnf); first | (refine iteB_dec (fun h => ?_) (fun h => ?_) <;> (try simp (disch := (first | omega | fail)) only [modAt, List.length_take, List.length_drop, List.length_map, List.length_append, List.length_set, List.length_replicate, len_rowsPart, len_setCell, len_marks, len_markL, len_byR, len_mkL, len_marksN, len_bytesI, len_seenI] at h)) | (refine Exists.intro _ (And.intro rfl ?_)) | (refine And.intro (by first | exact True.intro | exact Nat.le_refl _ | omega | fail) ?_) | (refine Exists.intro _ (And.intro (rowGet _ _ _ (by omega)) ?_)) | fail)
    all_goals first | (exfalso; omega) | skip | fail
    refine ⟨Nat, fun k => k ≤ l.length ∧ restK l 0 (List.replicate l.length false) = lastI l y.2 (l.length - k) k, fun k => [(0, .pro [.imm 6 (rowN l)]), (3, .sl 1015 [] 1 0 l.length), (67, .imm 6 (rowN l)), (68, .lit (.int .i64 l.length)), (69, .lit (.int .i64 k))], fun _ => [(1015, false, 1, rowI (seenI y.2))], fun k => l.length - k, ⟨[], 0, ⟨Nat.zero_le _, hh⟩, ⟨rfl, rfl⟩, ⟨by first | rfl | fail, by first | rfl | fail, by first | rfl | fail, by first | (show V.lit (Value.int _ _) = V.lit (Value.int _ _); first | (congr 2; first | (simp only [List.length_map]; done) | fail) | fail) | fail, by first | rfl | fail, trivial⟩, boxEq rfl, trivial⟩, ?_⟩
    intro k ⟨hk, hn⟩
    by_cases hlk : k < l.length
    · have hA := F_i_Tree_isAbove l k l[k].2.2.2.2.1 (by omega)
      have hsd := seenI_rd y.2 k (by omega)
      have hsr := seenI_range y.2 k
      rw [lastI_step l y.2 k hlk, par_nat l k hlk, seen_dec y.2 k (by omega)] at hn
      repeat' ((conv => whnf); first | (refine iteB_dec (fun h => ?_) (fun h => ?_) <;> (try simp (disch := (first | omega | fail)) only [modAt, List.length_take, List.length_drop, List.length_map, List.length_append, List.length_set, List.length_replicate, len_rowsPart, len_setCell, len_marks, len_markL, len_byR, len_mkL, len_marksN, len_bytesI, len_seenI] at h)) | (refine iteB_of (fun h => ?_) (fun h => ?_)) | (refine Exists.intro _ (And.intro rfl ?_)) | (refine wrapB_i64 (by first | omega | fail) (by first | omega | fail) ?_) | (refine And.intro (by first | exact True.intro | exact Nat.le_refl _ | omega | fail) ?_) | (refine Exists.intro _ (And.intro (get_seen _ _ (by first | omega | fail) (by first | omega | fail)) ?_)) | (refine Exists.intro _ (And.intro (rowGet _ _ _ (by omega)) ?_)) | (refine Or.inl (And.intro (by decide +kernel) ?_)) | (apply callQ_i; (repeat ((conv => whnf); first | refine And.intro (by first | omega | fail) ?_ | fail)); ((conv => whnf); apply Exists.intro; (first | exact FnB.mk (hA) | fail))) | fail)
      all_goals first | (exfalso; omega) | skip | fail
      · (refine .mk ⟨trivial, [], ⟨rfl, ?_⟩, List.nodup_nil, rfl, trivial⟩; show V.lit _ = V.lit _)
        rw [hn, last1 (by assumption)]
      · (refine .mk ⟨trivial, [], ⟨rfl, ?_⟩, List.nodup_nil, rfl, trivial⟩; show V.lit _ = V.lit _)
        rw [hn, last2 (by assumption) (by assumption)]
      · rw [last3 (by assumption) (by assumption)] at hn
        exact ⟨[], k + 1, ⟨by omega, hn⟩, ⟨⟨rfl, rfl⟩, ⟨by first | rfl | fail, by first | rfl | fail, by first | rfl | fail, by first | rfl | fail, by first | rfl | fail, trivial⟩, boxEq rfl, trivial⟩, by first | (dsimp only; omega) | fail⟩
    · obtain rfl : k = l.length := by omega
      rw [Nat.sub_self, lastI] at hn
      repeat' ((conv => whnf); first | (refine iteB_dec (fun h => ?_) (fun h => ?_) <;> (try simp (disch := (first | omega | fail)) only [modAt, List.length_take, List.length_drop, List.length_map, List.length_append, List.length_set, List.length_replicate, len_rowsPart, len_setCell, len_marks, len_markL, len_byR, len_mkL, len_marksN, len_bytesI, len_seenI] at h)) | (refine iteB_of (fun h => ?_) (fun h => ?_)) | (refine Exists.intro _ (And.intro rfl ?_)) | (refine wrapB_i64 (by first | omega | fail) (by first | omega | fail) ?_) | (refine And.intro (by first | exact True.intro | exact Nat.le_refl _ | omega | fail) ?_) | (refine Exists.intro _ (And.intro (get_seen _ _ (by first | omega | fail) (by first | omega | fail)) ?_)) | (refine Exists.intro _ (And.intro (rowGet _ _ _ (by omega)) ?_)) | (refine Or.inl (And.intro (by decide +kernel) ?_)) | (apply callQ_i; (repeat ((conv => whnf); first | refine And.intro (by first | omega | fail) ?_ | fail)); ((conv => whnf); apply Exists.intro; (first | exact FnB.mk (F_i_Tree_isAbove _ _ _ (by first | omega | fail)) | fail))) | fail)
      all_goals first | (exfalso; omega) | skip | fail
      (refine .mk ⟨trivial, [], ⟨rfl, ?_⟩, List.nodup_nil, rfl, trivial⟩; show V.lit _ = V.lit _)
      rw [hn]


theorem nodesI_step (l : List Nd) (i : Nat) (h : i < l.length) : nodesI l (l.length - i) i = (nodeAt l[i] (i : Int) && nodesI l (l.length - (i + 1)) (i + 1)) := by
  rw [show l.length - i = (l.length - (i + 1)) + 1 by omega, nodesI, show rdD l (i : Int) = l[i] from getD_eq _ l i h]
theorem nodeAt_par (l : List Nd) (h : 0 < l.length) (hn : nodeAt l[0] ((0 : Nat) : Int) = true) : par l 0 = -1 := by
  have e : par l 0 = l[0].2.2.2.2.1 := par_nat l 0 h
  rw [e]
  unfold nodeAt at hn
  simp only [Bool.and_eq_true, Bool.or_eq_true, Bool.not_eq_true', decide_eq_false_iff_not, decide_eq_true_eq, beq_iff_eq] at hn
  rcases hn with ⟨⟨_, h1⟩, h2 | h2⟩
  · exfalso
    rw [decide_eq_false h2] at h1
    simp at h1
  · exact h2
theorem F_i_TreeOk (l : List Nd) (hl : l.length ≤ 140737488351232) (hp : ∀ x ∈ l, ndSm x) : Fn pg 56 [sTr l] [] (.lit (.bool (treeI l))) [] := by
  have hI := F_i_inRange (rowN l).length 1 500
  by_cases hr : 1 ≤ l.length ∧ l.length ≤ 500
  · rw [show (decide ((1 : Int) ≤ (rowN l).length) && decide (((rowN l).length : Int) ≤ 500)) = true by simp; omega] at hI
    rw [show treeI l = (nodesI l l.length 0 && linksB l) by unfold treeI; rw [show (decide (1 ≤ l.length) && decide (l.length ≤ 500)) = true by simp; omega]; rfl]
    refine Fn.ofN [0,1,2,3,4,9,11,12,13,14,21] [1001,1004] Try.func56 (by rfl) rfl (by show 1 ≤ 24; decide) (by rfl) ?_
    repeat' ((conv => whnf); first | (refine Exists.intro _ (And.intro rfl ?_)) | (refine Or.inl ?_; apply callV_i; (repeat ((conv => whnf); first | refine And.intro (by first | omega | fail) ?_ | fail)); ((conv => whnf); first | exact FnB.mk (hI) | fail); refine ⟨rfl, rfl, ?_⟩) | fail)
    refine ⟨Nat, fun i => (i ≤ l.length ∧ (0 < i → par l 0 = -1)) ∧ nodesI l l.length 0 = nodesI l (l.length - i) i, fun i => [(1, .ptr 1001 [] 1 0 0), (11, .imm 6 (rowN l)), (12, .lit (.int .i64 l.length)), (13, .lit (.int .i64 i))], fun _ => [(1001, true, 1, [[.imm 6 (rowN l)]])], fun i => l.length - i, ⟨[], 0, by simp, ⟨rfl, rfl⟩, ⟨by first | rfl | fail, by first | rfl | fail, by first | (show V.lit (Value.int _ _) = V.lit (Value.int _ _); first | (congr 2; first | (simp only [List.length_map]; done) | fail) | fail) | fail, by first | rfl | fail, trivial⟩, boxEq rfl, trivial⟩, ?_⟩
    intro i ⟨⟨hi, h0⟩, hh⟩
    by_cases hlt : i < l.length
    · have hN := F_i_nodeOk l[i] i (hp _ (List.getElem_mem hlt))
      rw [nodesI_step l i hlt] at hh
      repeat' ((conv => whnf); first | (refine iteB_dec (fun h => ?_) (fun h => ?_) <;> (try simp (disch := (first | omega | fail)) only [modAt, List.length_take, List.length_drop, List.length_map, List.length_append, List.length_set, List.length_replicate, len_rowsPart, len_setCell, len_marks, len_markL, len_byR, len_mkL, len_marksN, len_bytesI, len_seenI] at h)) | (refine iteB_not ?_) | (refine iteB_of (fun h => ?_) (fun h => ?_)) | (refine Exists.intro _ (And.intro rfl ?_)) | (refine wrapB_i64 (by first | omega | fail) (by first | omega | fail) ?_) | (refine And.intro (by first | exact True.intro | exact Nat.le_refl _ | omega | fail) ?_) | (refine Exists.intro _ (And.intro (rowGet _ _ _ (by omega)) ?_)) | (refine Or.inl ?_; apply callV_i; (repeat ((conv => whnf); first | refine Exists.intro _ (And.intro rfl ?_) | fail)); ((conv => whnf); first | exact FnB.mk (hN) | exact FnB.mk (F_i_Tree_linksOk _ (by first | omega | fail) (by first | omega | fail) (by first | omega | fail)) | fail); refine ⟨rfl, rfl, ?_⟩) | fail)
      all_goals first | (exfalso; omega) | skip | fail
      · rw [show nodeAt l[i] (i : Int) = true by assumption, Bool.true_and] at hh
        refine ⟨[], i + 1, ⟨⟨by omega, fun _ => ?_⟩, hh⟩, ⟨⟨rfl, rfl⟩, ⟨by first | rfl | fail, by first | rfl | fail, by first | rfl | fail, by first | rfl | fail, trivial⟩, boxEq rfl, trivial⟩, by first | (dsimp only; omega) | fail⟩
        by_cases e : i = 0
        · subst e; exact nodeAt_par l hlt (by assumption)
        · exact h0 (by omega)
      · (refine .mk ⟨trivial, [], ⟨rfl, ?_⟩, List.nodup_nil, rfl, trivial⟩; show V.lit _ = V.lit _)
        rw [hh, show nodeAt l[i] (i : Int) = false by assumption]; rfl
    · obtain rfl : i = l.length := by omega
      rw [Nat.sub_self, nodesI] at hh
      have hL := F_i_Tree_linksOk l hr.2 (h0 (by omega)) hp
      repeat' ((conv => whnf); first | (refine iteB_dec (fun h => ?_) (fun h => ?_) <;> (try simp (disch := (first | omega | fail)) only [modAt, List.length_take, List.length_drop, List.length_map, List.length_append, List.length_set, List.length_replicate, len_rowsPart, len_setCell, len_marks, len_markL, len_byR, len_mkL, len_marksN, len_bytesI, len_seenI] at h)) | (refine iteB_not ?_) | (refine iteB_of (fun h => ?_) (fun h => ?_)) | (refine Exists.intro _ (And.intro rfl ?_)) | (refine wrapB_i64 (by first | omega | fail) (by first | omega | fail) ?_) | (refine And.intro (by first | exact True.intro | exact Nat.le_refl _ | omega | fail) ?_) | (refine Exists.intro _ (And.intro (rowGet _ _ _ (by omega)) ?_)) | (refine Or.inl ?_; apply callV_i; (repeat ((conv => whnf); first | refine Exists.intro _ (And.intro rfl ?_) | fail)); ((conv => whnf); first | exact FnB.mk (hL) | exact FnB.mk (F_i_nodeOk _ _ (by first | omega | fail)) | fail); refine ⟨rfl, rfl, ?_⟩) | fail)
      all_goals first | (exfalso; omega) | skip | fail
      (refine .mk ⟨trivial, [], ⟨rfl, ?_⟩, List.nodup_nil, rfl, trivial⟩; show V.lit _ = V.lit _)
      rw [hh]; rfl
  · rw [show treeI l = false by unfold treeI; rw [show (decide (1 ≤ l.length) && decide (l.length ≤ 500)) = false by simp only [Bool.and_eq_false_iff, decide_eq_false_iff_not]; omega]; rfl]
    rw [show (decide ((1 : Int) ≤ (rowN l).length) && decide (((rowN l).length : Int) ≤ 500)) = false by simp; omega] at hI
    refine Fn.ofN [0,1,2,3,4,9,11,12,13,14,21] [1001,1004] Try.func56 (by rfl) rfl (by show 1 ≤ 24; decide) (by rfl) ?_
    repeat' ((conv => whnf); first | (refine Exists.intro _ (And.intro rfl ?_)) | (refine Or.inl ?_; apply callV_i; (repeat ((conv => whnf); first | refine And.intro (by first | omega | fail) ?_ | fail)); ((conv => whnf); first | exact FnB.mk (hI) | fail); refine ⟨rfl, rfl, ?_⟩) | fail)
    all_goals ((refine .mk ⟨trivial, [], ⟨rfl, ?_⟩, List.nodup_nil, rfl, trivial⟩; show V.lit _ = V.lit _); rfl)


abbrev rowBo (s : List Bool) : Row := s.map fun b => [V.lit (.bool b)]
theorem get_bo (s : List Bool) (k : Int) (h0 : 0 ≤ k) (h : k.toNat < s.length) : (rowBo s)[k.toNat + 0]? = some [.lit (.bool (rdOf false s k))] := by
  rw [Nat.add_zero, List.getElem?_map, List.getElem?_eq_getElem h]
  unfold rdOf
  rw [List.getD_eq_getElem?_getD, List.getElem?_eq_getElem h]; rfl
theorem bo_store (s : List Bool) (k : Int) (h0 : 0 ≤ k) (h : k.toNat < s.length) : setCell (rowBo s) (k.toNat + 0) 0 (.lit (.bool true)) = rowBo (s.set k.toNat true) := by
  rw [setCell_at (get_bo s k h0 h)]
  show (rowBo s).set k.toNat [.lit (.bool true)] = _
  unfold rowBo
  rw [List.map_set]
def loopJ (l : List Nd) (i : Nat) (ks : List Int) (s : List Bool) : Bool := match scan l (i : Int) ks s with | none => false | some s => loopS l (l.length - (i + 1)) (i + 1) s
theorem loopS_step (l : List Nd) (i : Nat) (s : List Bool) (h : i < l.length) : loopS l (l.length - i) i s = if nodeS l (i : Int) = true then loopJ l i l[i].2.2.2.2.2 s else false := by
  rw [show l.length - i = (l.length - (i + 1)) + 1 by omega, loopS, show rdD l (i : Int) = l[i] from getD_eq _ l i h]; rfl
theorem loopJ_nil (l : List Nd) (i : Nat) (s : List Bool) : loopJ l i [] s = loopS l (l.length - (i + 1)) (i + 1) s := rfl
theorem loopJ_cons (l : List Nd) (i : Nat) (k : Int) (ks : List Int) (s : List Bool) : loopJ l i (k :: ks) s = if kidC l i s k = true then loopJ l i ks (s.set k.toNat true) else false := by
  unfold loopJ
  rw [scan]
  unfold kidC
  cases ((decide (1 ≤ k) && decide (k ≤ (l.length : Int) - 1)) && (!(rdOf false s k) && par l k == (i : Int))) <;> rfl
theorem nodeS_at (l : List Nd) (i : Nat) (h : i < l.length) : nodeS l (i : Int) = (((nodeB l[i] && (decide (l[i].1 = 1) == decide ((i : Int) = 0))) && (decide (-1 ≤ l[i].2.2.2.2.1) && decide (l[i].2.2.2.2.1 ≤ (l.length : Int) - 1))) && (!decide ((i : Int) = 0) || decide (l[i].2.2.2.2.1 = -1))) := by
  unfold nodeS; rw [par_nat l i h, show rdD l (i : Int) = l[i] from getD_eq _ l i h]; rfl
theorem nodeS_rng (l : List Nd) (i : Nat) (h : i < l.length) (hn : nodeS l (i : Int) = true) : -1 ≤ par l (i : Int) ∧ par l (i : Int) ≤ (l.length : Int) - 1 := by
  unfold nodeS at hn
  simp only [Bool.and_eq_true, decide_eq_true_eq] at hn
  exact hn.1.2
theorem kidS_no1 {l : List Nd} {i : Nat} {s : List Bool} {k : Int} (h : ¬ (1 ≤ k ∧ k ≤ (l.length : Int) - 1)) : kidC l i s k = false := by
  unfold kidC
  rw [show (decide (1 ≤ k) && decide (k ≤ (l.length : Int) - 1)) = false by simp only [Bool.and_eq_false_iff, decide_eq_false_iff_not]; omega]; rfl
theorem kidS_no3 {l : List Nd} {i : Nat} {s : List Bool} {k : Int} (h : rdOf false s k = true) : kidC l i s k = false := by unfold kidC; simp [h]
theorem kidS_yes {l : List Nd} {i : Nat} {s : List Bool} {k : Int} (h : 1 ≤ k ∧ k ≤ (l.length : Int) - 1) (hp : (rdD l k).2.2.2.2.1 = (i : Int)) (hs : rdOf false s k = false) : kidC l i s k = true := by
  unfold kidC par; simp [h.1, h.2, hp, hs]
theorem lastS_step (l : List Nd) (s : List Bool) (i : Nat) (h : i < l.length) : lastS l s (l.length - i) i = ((rdOf false s (i : Int) == decide (l[i].2.2.2.2.1 ≥ 0) && chS l (l.length + 1) (i : Int)) && lastS l s (l.length - (i + 1)) (i + 1)) := by
  rw [show l.length - i = (l.length - (i + 1)) + 1 by omega, lastS, par_nat l i h]
theorem nodeS_no1 {l : List Nd} {i : Nat} (h : i < l.length) (h1 : nodeB l[i] = false) : ¬ nodeS l (i : Int) = true := by rw [nodeS_at l i h, h1]; simp
theorem nodeS_no2 {l : List Nd} {i : Nat} (h : i < l.length) (h1 : ¬ decide (l[i].1 = 1) = decide ((i : Int) = 0)) : ¬ nodeS l (i : Int) = true := by
  rw [nodeS_at l i h, show (decide (l[i].1 = 1) == decide ((i : Int) = 0)) = false from beq_eq_false_iff_ne.2 h1]; simp
theorem nodeS_no3 {l : List Nd} {i : Nat} (h : i < l.length) (h1 : (decide (-1 ≤ l[i].2.2.2.2.1) && decide (l[i].2.2.2.2.1 ≤ (l.length : Int) - 1)) = false) : ¬ nodeS l (i : Int) = true := by rw [nodeS_at l i h, h1]; simp
theorem nodeS_no4 {l : List Nd} {i : Nat} (h : i < l.length) (h1 : (i : Int) = 0) (h2 : ¬ l[i].2.2.2.2.1 = -1) : ¬ nodeS l (i : Int) = true := by rw [nodeS_at l i h, decide_eq_true h1, decide_eq_false h2]; simp
theorem nodeS_yes {l : List Nd} {i : Nat} (h : i < l.length) (h1 : nodeB l[i] = true) (h2 : ¬¬ decide (l[i].1 = 1) = decide ((i : Int) = 0)) (h3 : (decide (-1 ≤ l[i].2.2.2.2.1) && decide (l[i].2.2.2.2.1 ≤ (l.length : Int) - 1)) = true) (h4 : ¬ (i : Int) = 0 ∨ ¬¬ l[i].2.2.2.2.1 = -1) : nodeS l (i : Int) = true := by
  rw [nodeS_at l i h, h1, h3, show (decide (l[i].1 = 1) == decide ((i : Int) = 0)) = true from beq_iff_eq.2 (Decidable.not_not.1 h2)]
  rcases h4 with h4 | h4
  · rw [decide_eq_false h4]; simp
  · rw [decide_eq_true (Decidable.not_not.1 h4)]; simp
theorem chS_up (l : List Nd) (d : Nat) (u : Int) (h : 0 ≤ u) : chS l (d + 1) u = chS l d (rdD l u).2.2.2.2.1 := by rw [chS, if_pos h]; rfl
theorem chS_over (l : List Nd) (u : Int) (h : 0 ≤ u) : chS l 0 u = false := by rw [chS, decide_eq_true h]; rfl
theorem chS_top (l : List Nd) (d : Nat) (u : Int) (h : ¬ 0 ≤ u) : chS l d u = true := by
  cases d with
  | zero => rw [chS, decide_eq_false h]; rfl
  | succ d => rw [chS, if_neg h]
theorem F_s_TreeOk (l : List Nd) (hl : l.length ≤ 140737488351232) (hp : ∀ x ∈ l, ndSm x) : Fn pg 51 [sTr l] [] (.lit (.bool (treeS l))) [] := by
  have hI := F_s_l1In (rowN l).length 1 500
  by_cases hr : 1 ≤ l.length ∧ l.length ≤ 500
  · rw [show (decide ((1 : Int) ≤ (rowN l).length) && decide (((rowN l).length : Int) ≤ 500)) = true by simp; omega] at hI
    rw [show treeS l = loopS l l.length 0 (List.replicate l.length false) by unfold treeS; rw [show (decide (1 ≤ l.length) && decide (l.length ≤ 500)) = true by simp; omega]; rfl]
    refine Fn.ofN [0,1,2,3,4,5,6,7,8,9,10,11,17,22,57,62,90,96,110,113,118] [1001,1006,1019] Try.func51 (by rfl) rfl (by show 1 ≤ 125; decide) (by rfl) ?_
    repeat' ((conv => whnf); first | (refine Exists.intro _ (And.intro rfl ?_)) | (refine And.intro (by first | exact True.intro | omega | (simp (disch := (first | omega | fail)) only [modAt, List.length_take, List.length_drop, List.length_map, List.length_append, List.length_set, List.length_replicate, len_rowsPart, len_setCell, len_marks, len_markL, len_byR, len_mkL, len_marksN, len_bytesI, len_seenI]; first | omega | fail) | fail) ?_) | (refine Or.inl ?_; apply callV_i; (repeat ((conv => whnf); first | refine And.intro (by first | omega | fail) ?_ | fail)); ((conv => whnf); first | exact FnB.mk (hI) | fail); refine ⟨rfl, rfl, ?_⟩) | fail)
    refine ⟨Nat × List Bool, fun x => ((x.1 ≤ l.length ∧ x.2.length = l.length) ∧ ∀ j : Nat, j < x.1 → -1 ≤ par l (j : Int) ∧ par l (j : Int) ≤ (l.length : Int) - 1) ∧ loopS l l.length 0 (List.replicate l.length false) = loopS l (l.length - x.1) x.1 x.2, fun x => [(1, .ptr 1001 [] 1 0 0), (3, .lit (.int .i64 l.length)), (4, .sl 1019 [] 1 0 l.length), (5, .lit (.int .i64 x.1))], fun x => [(1001, true, 1, [[.imm 6 (rowN l)]]), (1019, false, 1, rowBo x.2)], fun x => l.length - x.1, ⟨[], (0, List.replicate l.length false), by simp, ⟨rfl, rfl⟩, ⟨by first | rfl | fail, by first | (show V.lit (Value.int _ _) = V.lit (Value.int _ _); first | (congr 2; first | (simp only [List.length_map]; done) | fail) | fail) | fail, by first | (exact slEq (by first | (simp; done) | fail)) | fail, by first | rfl | fail, trivial⟩, boxEq rfl, boxEq ?_, trivial⟩, ?_⟩
    · simp [renRow]
    intro y ⟨⟨⟨hi, hs⟩, hrg⟩, hh⟩
    by_cases hlt : y.1 < l.length
    · have hN := F_s_l6Node l[y.1] (hp _ (List.getElem_mem hlt))
      replace hh := hh.trans (loopS_step l y.1 y.2 hlt)
      repeat' ((conv => whnf); first | (refine iteB_dec (fun h => ?_) (fun h => ?_) <;> (try simp (disch := (first | omega | fail)) only [modAt, List.length_take, List.length_drop, List.length_map, List.length_append, List.length_set, List.length_replicate, len_rowsPart, len_setCell, len_marks, len_markL, len_byR, len_mkL, len_marksN, len_bytesI, len_seenI] at h) <;> (try (exfalso; omega))) | (refine iteB_not ?_) | (refine iteB_of (fun h => ?_) (fun h => ?_)) | (refine Exists.intro _ (And.intro rfl ?_)) | (refine wrapB_i64 (by first | omega | fail) (by first | omega | fail) ?_) | (refine And.intro (by first | exact True.intro | exact Nat.le_refl _ | omega | fail) ?_) | (refine Exists.intro _ (And.intro (rowGet _ _ _ (by omega)) ?_)) | (refine Or.inl ?_; apply callV_i; (repeat ((conv => whnf); first | refine And.intro (by first | omega | fail) ?_ | fail)); ((conv => whnf); first | exact FnB.mk (hN) | exact FnB.mk (F_s_l1In _ _ _) | fail); refine ⟨rfl, rfl, ?_⟩) | fail)
      all_goals first | skip | fail
      · (refine .mk ⟨trivial, [], ⟨rfl, ?_⟩, List.nodup_nil, rfl, trivial⟩; show V.lit _ = V.lit _)
        rw [hh, if_neg (nodeS_no2 hlt (by assumption))]
      · (refine .mk ⟨trivial, [], ⟨rfl, ?_⟩, List.nodup_nil, rfl, trivial⟩; show V.lit _ = V.lit _)
        rw [hh, if_neg (nodeS_no4 hlt (by assumption) (by assumption))]
      rotate_left 2
      · (refine .mk ⟨trivial, [], ⟨rfl, ?_⟩, List.nodup_nil, rfl, trivial⟩; show V.lit _ = V.lit _)
        rw [hh, if_neg (nodeS_no3 hlt (by assumption))]
      · (refine .mk ⟨trivial, [], ⟨rfl, ?_⟩, List.nodup_nil, rfl, trivial⟩; show V.lit _ = V.lit _)
        rw [hh, if_neg (nodeS_no1 hlt (by assumption))]
      all_goals
        have hS : nodeS l (y.1 : Int) = true := nodeS_yes hlt (by assumption) (by assumption) (by assumption) (by first | exact .inl (by assumption) | exact .inr (by assumption) | fail)
        rw [if_pos hS] at hh
        clear hN
        refine ⟨Nat × List Bool, fun x => (x.1 ≤ l[y.1].2.2.2.2.2.length ∧ x.2.length = l.length) ∧ loopS l l.length 0 (List.replicate l.length false) = loopJ l y.1 (l[y.1].2.2.2.2.2.drop x.1) x.2, fun x => [(1, .ptr 1001 [] 1 0 0), (3, .lit (.int .i64 l.length)), (4, .sl 1019 [] 1 0 l.length), (5, .lit (.int .i64 y.1)), (6, .ptr 1006 [] 6 0 0), (7, .lit (.int .i64 x.1))], fun x => [(1001, true, 1, [[.imm 6 (rowN l)]]), (1019, false, 1, rowBo x.2), (1006, true, 6, [sNd l[y.1]])], fun x => l[y.1].2.2.2.2.2.length - x.1, ⟨[], (0, y.2), ⟨⟨Nat.zero_le _, hs⟩, hh⟩, ⟨rfl, rfl⟩, ⟨by first | rfl | fail, by first | rfl | fail, by first | rfl | fail, by first | rfl | fail, by first | rfl | fail, by first | rfl | fail, trivial⟩, boxEq rfl, boxEq rfl, boxEq rfl, trivial⟩, ?_⟩
        intro v ⟨⟨hj, hz⟩, hn⟩
        have hkl := (hp _ (List.getElem_mem hlt)).2.2.2
        by_cases hlj : v.1 < l[y.1].2.2.2.2.2.length
        · rw [drop_cons _ _ hlj, loopJ_cons] at hn
          have hI2 := F_s_l1In l[y.1].2.2.2.2.2[v.1] 1 ((l.length : Int) - 1)
          by_cases hin : 1 ≤ l[y.1].2.2.2.2.2[v.1] ∧ l[y.1].2.2.2.2.2[v.1] ≤ (l.length : Int) - 1
          · rw [show (decide (1 ≤ l[y.1].2.2.2.2.2[v.1]) && decide (l[y.1].2.2.2.2.2[v.1] ≤ (l.length : Int) - 1)) = true by simp [hin]] at hI2
            repeat' ((conv => whnf); first | (refine iteB_dec (fun h => ?_) (fun h => ?_) <;> (try simp (disch := (first | omega | fail)) only [modAt, List.length_take, List.length_drop, List.length_map, List.length_append, List.length_set, List.length_replicate, len_rowsPart, len_setCell, len_marks, len_markL, len_byR, len_mkL, len_marksN, len_bytesI, len_seenI] at h) <;> (try (exfalso; omega))) | (refine iteB_of (fun h => ?_) (fun h => ?_)) | (refine Exists.intro _ (And.intro rfl ?_)) | (refine wrapB_i64 (by first | omega | fail) (by first | omega | fail) ?_) | (refine And.intro (by first | exact True.intro | omega | (simp (disch := (first | omega | fail)) only [modAt, List.length_take, List.length_drop, List.length_map, List.length_append, List.length_set, List.length_replicate, len_rowsPart, len_setCell, len_marks, len_markL, len_byR, len_mkL, len_marksN, len_bytesI, len_seenI]; first | omega | fail) | fail) ?_) | (refine Exists.intro _ (And.intro (get_bo _ _ (by first | omega | fail) (by first | omega | fail)) ?_)) | (refine Exists.intro _ (And.intro (rowGet _ _ _ (by omega)) ?_)) | (refine Exists.intro _ (And.intro (rowGetI _ _ _ (by omega) (by omega)) ?_)) | (refine Exists.intro _ (And.intro (by first | exact (get_mapIC _ _ _ _ _ (by first | omega | fail) (by exact rfl)) | fail) ?_)) | (refine Or.inl ?_; apply callV_i; (repeat ((conv => whnf); first | refine And.intro (by first | omega | fail) ?_ | fail)); ((conv => whnf); first | exact FnB.mk (hI2) | fail); refine ⟨rfl, rfl, ?_⟩) | fail)
            all_goals first | skip | fail
            · (refine .mk ⟨trivial, [], ⟨rfl, ?_⟩, List.nodup_nil, rfl, trivial⟩; show V.lit _ = V.lit _)
              rw [hn, kidS_no3 (by assumption)]; rfl
            · (refine .mk ⟨trivial, [], ⟨rfl, ?_⟩, List.nodup_nil, rfl, trivial⟩; show V.lit _ = V.lit _)
              rw [hn, kidC_no2 (by assumption)]; rfl
            · rw [kidS_yes hin (Decidable.not_not.1 (by assumption)) (by assumption), if_pos rfl] at hn
              refine ⟨[], (v.1 + 1, v.2.set l[y.1].2.2.2.2.2[v.1].toNat true), ⟨⟨by omega, by simpa using hz⟩, hn⟩, ⟨⟨rfl, rfl⟩, ⟨by first | rfl | fail, by first | rfl | fail, by first | rfl | fail, by first | rfl | fail, by first | rfl | fail, by first | rfl | fail, trivial⟩, boxEq rfl, boxEq ?_, boxEq rfl, trivial⟩, by first | (dsimp only; omega) | fail⟩
              show setCell (rowBo v.2) (l[y.1].2.2.2.2.2[v.1].toNat + 0) 0 (.lit (.bool true)) = rowBo (v.2.set l[y.1].2.2.2.2.2[v.1].toNat true)
              exact bo_store v.2 _ (by omega) (by omega)
          · rw [show (decide (1 ≤ l[y.1].2.2.2.2.2[v.1]) && decide (l[y.1].2.2.2.2.2[v.1] ≤ (l.length : Int) - 1)) = false by simp only [Bool.and_eq_false_iff, decide_eq_false_iff_not]; omega] at hI2
            repeat' ((conv => whnf); first | (refine iteB_dec (fun h => ?_) (fun h => ?_) <;> (try simp (disch := (first | omega | fail)) only [modAt, List.length_take, List.length_drop, List.length_map, List.length_append, List.length_set, List.length_replicate, len_rowsPart, len_setCell, len_marks, len_markL, len_byR, len_mkL, len_marksN, len_bytesI, len_seenI] at h) <;> (try (exfalso; omega))) | (refine Exists.intro _ (And.intro rfl ?_)) | (refine wrapB_i64 (by first | omega | fail) (by first | omega | fail) ?_) | (refine And.intro (by first | exact True.intro | omega | fail) ?_) | (refine Exists.intro _ (And.intro (rowGet _ _ _ (by omega)) ?_)) | (refine Or.inl ?_; apply callV_i; (repeat ((conv => whnf); first | refine And.intro (by first | omega | fail) ?_ | fail)); ((conv => whnf); first | exact FnB.mk (hI2) | fail); refine ⟨rfl, rfl, ?_⟩) | fail)
            all_goals first | skip | fail
            (refine .mk ⟨trivial, [], ⟨rfl, ?_⟩, List.nodup_nil, rfl, trivial⟩; show V.lit _ = V.lit _)
            rw [hn, kidS_no1 hin]; rfl
        · have hjl : v.1 = l[y.1].2.2.2.2.2.length := by omega
          rw [List.drop_of_length_le (by omega), loopJ_nil] at hn
          repeat' ((conv => whnf); first | (refine iteB_dec (fun h => ?_) (fun h => ?_) <;> (try simp (disch := (first | omega | fail)) only [modAt, List.length_take, List.length_drop, List.length_map, List.length_append, List.length_set, List.length_replicate, len_rowsPart, len_setCell, len_marks, len_markL, len_byR, len_mkL, len_marksN, len_bytesI, len_seenI] at h) <;> (try (exfalso; omega))) | (refine Exists.intro _ (And.intro rfl ?_)) | (refine wrapB_i64 (by first | omega | fail) (by first | omega | fail) ?_) | fail)
          all_goals first | skip | fail
          refine ⟨[], (y.1 + 1, v.2), ⟨⟨⟨by omega, hz⟩, fun j hj2 => ?_⟩, hn⟩, ⟨⟨rfl, rfl⟩, ⟨by first | rfl | fail, by first | rfl | fail, by first | rfl | fail, by first | rfl | fail, trivial⟩, boxEq rfl, boxEq rfl, trivial⟩, by first | (dsimp only; omega) | fail⟩
          by_cases e : j = y.1
          · rw [e]; exact nodeS_rng l y.1 hlt hS
          · exact hrg j (by omega)
    · have hil : y.1 = l.length := by omega
      rw [hil, Nat.sub_self, loopS] at hh
      repeat' ((conv => whnf); first | (refine iteB_dec (fun h => ?_) (fun h => ?_) <;> (try simp (disch := (first | omega | fail)) only [modAt, List.length_take, List.length_drop, List.length_map, List.length_append, List.length_set, List.length_replicate, len_rowsPart, len_setCell, len_marks, len_markL, len_byR, len_mkL, len_marksN, len_bytesI, len_seenI] at h) <;> (try (exfalso; omega))) | fail)
      all_goals first | skip | fail
      refine ⟨Nat, fun k => k ≤ l.length ∧ loopS l l.length 0 (List.replicate l.length false) = lastS l y.2 (l.length - k) k, fun k => [(1, .ptr 1001 [] 1 0 0), (3, .lit (.int .i64 l.length)), (4, .sl 1019 [] 1 0 l.length), (9, .lit (.int .i64 k))], fun _ => [(1001, true, 1, [[.imm 6 (rowN l)]]), (1019, false, 1, rowBo y.2)], fun k => l.length - k, ⟨[], 0, ⟨Nat.zero_le _, hh⟩, ⟨rfl, rfl⟩, ⟨by first | rfl | fail, by first | rfl | fail, by first | rfl | fail, by first | rfl | fail, trivial⟩, boxEq rfl, boxEq rfl, trivial⟩, ?_⟩
      intro k ⟨hk, hn⟩
      by_cases hlk : k < l.length
      · rw [lastS_step l y.2 k hlk] at hn
        repeat' ((conv => whnf); first | (refine iteB_dec (fun h => ?_) (fun h => ?_) <;> (try simp (disch := (first | omega | fail)) only [modAt, List.length_take, List.length_drop, List.length_map, List.length_append, List.length_set, List.length_replicate, len_rowsPart, len_setCell, len_marks, len_markL, len_byR, len_mkL, len_marksN, len_bytesI, len_seenI] at h) <;> (try (exfalso; omega))) | (refine Exists.intro _ (And.intro rfl ?_)) | (refine And.intro (by first | exact True.intro | omega | fail) ?_) | (refine Exists.intro _ (And.intro (get_bo _ _ (by first | omega | fail) (by first | omega | fail)) ?_)) | (refine Exists.intro _ (And.intro (rowGet _ _ _ (by omega)) ?_)) | (refine Or.inl (And.intro (by decide +kernel) ?_)) | fail)
        all_goals first | skip | fail
        · (refine .mk ⟨trivial, [], ⟨rfl, ?_⟩, List.nodup_nil, rfl, trivial⟩; show V.lit _ = V.lit _)
          rw [hn, show (rdOf false y.2 (k : Int) == decide (l[k].2.2.2.2.1 ≥ 0)) = false from beq_eq_false_iff_ne.2 (by assumption)]; rfl
        · rw [show (rdOf false y.2 (k : Int) == decide (l[k].2.2.2.2.1 ≥ 0)) = true from beq_iff_eq.2 (Decidable.not_not.1 (by assumption)), Bool.true_and] at hn
          refine ⟨Nat × Int, fun x => ((x.1 ≤ l.length + 1) ∧ -1 ≤ x.2 ∧ x.2 ≤ (l.length : Int) - 1) ∧ loopS l l.length 0 (List.replicate l.length false) = (chS l (l.length + 1 - x.1) x.2 && lastS l y.2 (l.length - (k + 1)) (k + 1)), fun x => [(1, .ptr 1001 [] 1 0 0), (3, .lit (.int .i64 l.length)), (4, .sl 1019 [] 1 0 l.length), (9, .lit (.int .i64 k)), (10, .lit (.int .i64 x.2)), (11, .lit (.int .i64 x.1))], fun _ => [(1001, true, 1, [[.imm 6 (rowN l)]]), (1019, false, 1, rowBo y.2)], fun x => l.length + 1 - x.1, ⟨[], (0, (k : Int)), ⟨⟨Nat.zero_le _, by omega, by omega⟩, hn⟩, ⟨rfl, rfl⟩, ⟨by first | rfl | fail, by first | rfl | fail, by first | rfl | fail, by first | rfl | fail, by first | rfl | fail, by first | rfl | fail, trivial⟩, boxEq rfl, boxEq rfl, trivial⟩, ?_⟩
          intro v ⟨⟨hj, hv1, hv2⟩, hm⟩
          by_cases hu : 0 ≤ v.2
          · have hru : -1 ≤ (rdD l v.2).2.2.2.2.1 ∧ (rdD l v.2).2.2.2.2.1 ≤ (l.length : Int) - 1 := by
              have := hrg v.2.toNat (by omega)
              rw [show ((v.2.toNat : Nat) : Int) = v.2 by omega] at this
              exact this
            by_cases hjn : v.1 ≤ l.length
            · rw [show l.length + 1 - v.1 = (l.length + 1 - (v.1 + 1)) + 1 by omega, chS_up l _ _ hu] at hm
              repeat' ((conv => whnf); first | (refine iteB_dec (fun h => ?_) (fun h => ?_) <;> (try simp (disch := (first | omega | fail)) only [modAt, List.length_take, List.length_drop, List.length_map, List.length_append, List.length_set, List.length_replicate, len_rowsPart, len_setCell, len_marks, len_markL, len_byR, len_mkL, len_marksN, len_bytesI, len_seenI] at h) <;> (try (exfalso; omega))) | (refine Exists.intro _ (And.intro rfl ?_)) | (refine wrapB_i64 (by first | omega | fail) (by first | omega | fail) ?_) | (refine And.intro (by first | exact True.intro | omega | fail) ?_) | (refine Exists.intro _ (And.intro (rowGetI _ _ _ (by omega) (by omega)) ?_)) | fail)
              exact ⟨[], (v.1 + 1, (rdD l v.2).2.2.2.2.1), ⟨⟨by omega, hru⟩, hm⟩, ⟨⟨rfl, rfl⟩, ⟨by first | rfl | fail, by first | rfl | fail, by first | rfl | fail, by first | rfl | fail, by first | rfl | fail, by first | rfl | fail, trivial⟩, boxEq rfl, boxEq rfl, trivial⟩, by first | (dsimp only; omega) | fail⟩
            · rw [show l.length + 1 - v.1 = 0 by omega, chS_over l _ hu] at hm
              repeat' ((conv => whnf); first | (refine iteB_dec (fun h => ?_) (fun h => ?_) <;> (try simp (disch := (first | omega | fail)) only [modAt, List.length_take, List.length_drop, List.length_map, List.length_append, List.length_set, List.length_replicate, len_rowsPart, len_setCell, len_marks, len_markL, len_byR, len_mkL, len_marksN, len_bytesI, len_seenI] at h) <;> (try (exfalso; omega))) | fail)
              (refine .mk ⟨trivial, [], ⟨rfl, ?_⟩, List.nodup_nil, rfl, trivial⟩; show V.lit _ = V.lit _)
              rw [hm]; rfl
          · rw [chS_top l _ _ hu, Bool.true_and] at hm
            repeat' ((conv => whnf); first | (refine iteB_dec (fun h => ?_) (fun h => ?_) <;> (try simp (disch := (first | omega | fail)) only [modAt, List.length_take, List.length_drop, List.length_map, List.length_append, List.length_set, List.length_replicate, len_rowsPart, len_setCell, len_marks, len_markL, len_byR, len_mkL, len_marksN, len_bytesI, len_seenI] at h) <;> (try (exfalso; omega))) | (refine wrapB_i64 (by first | omega | fail) (by first | omega | fail) ?_) | fail)
            exact ⟨[], k + 1, ⟨by omega, hm⟩, ⟨⟨rfl, rfl⟩, ⟨by first | rfl | fail, by first | rfl | fail, by first | rfl | fail, by first | rfl | fail, trivial⟩, boxEq rfl, boxEq rfl, trivial⟩, by first | (dsimp only; omega) | fail⟩
      · obtain rfl : k = l.length := by omega
        rw [Nat.sub_self, lastS] at hn
        repeat' ((conv => whnf); first | (refine iteB_dec (fun h => ?_) (fun h => ?_) <;> (try simp (disch := (first | omega | fail)) only [modAt, List.length_take, List.length_drop, List.length_map, List.length_append, List.length_set, List.length_replicate, len_rowsPart, len_setCell, len_marks, len_markL, len_byR, len_mkL, len_marksN, len_bytesI, len_seenI] at h) <;> (try (exfalso; omega))) | fail)
        all_goals first | skip | fail
        (refine .mk ⟨trivial, [], ⟨rfl, ?_⟩, List.nodup_nil, rfl, trivial⟩; show V.lit _ = V.lit _)
        rw [hn]
  · rw [show treeS l = false by unfold treeS; rw [show (decide (1 ≤ l.length) && decide (l.length ≤ 500)) = false by simp only [Bool.and_eq_false_iff, decide_eq_false_iff_not]; omega]; rfl]
    rw [show (decide ((1 : Int) ≤ (rowN l).length) && decide (((rowN l).length : Int) ≤ 500)) = false by simp; omega] at hI
    refine Fn.ofN [0,1,2,3,4,5,6,7,8,9,10,11,17,22,57,62,90,96,110,113,118] [1001,1006,1019] Try.func51 (by rfl) rfl (by show 1 ≤ 125; decide) (by rfl) ?_
    repeat' ((conv => whnf); first | (refine Exists.intro _ (And.intro rfl ?_)) | (refine Or.inl ?_; apply callV_i; (repeat ((conv => whnf); first | refine And.intro (by first | omega | fail) ?_ | fail)); ((conv => whnf); first | exact FnB.mk (hI) | fail); refine ⟨rfl, rfl, ?_⟩) | fail)
    all_goals ((refine .mk ⟨trivial, [], ⟨rfl, ?_⟩, List.nodup_nil, rfl, trivial⟩; show V.lit _ = V.lit _); rfl)


theorem idxI_F (v : Int) : ∀ (l : List Int) (k : Int), idxI v l k = idxF (fun y => decide (v = y)) l k
  | [], _ => rfl
  | x :: r, k => by
    simp only [idxI, idxF, decide_eq_true_eq]
    rw [idxI_F v r]
def rowB (l : List Nd) (a : Int) : Bool := nodeIn l a && decide ((rdD l a).1 = 3)
def hasI (l : List Int) (a : Int) : Bool := l.any fun y => decide (a = y)
def rowFrom (l : List Nd) (ahead : List Int) : List Int → Bool
  | [] => true
  | a :: t => (rowB l a && !hasI ahead a) && rowFrom l (ahead ++ [a]) t
theorem rowFrom_at (l : List Nd) (r : List Int) (i : Nat) (h : i < r.length) : rowFrom l (r.take i) (r.drop i) = ((rowB l r[i] && !hasI (r.take i) r[i]) && rowFrom l (r.take (i + 1)) (r.drop (i + 1))) := by
  rw [drop_cons _ _ h, List.take_succ_eq_append_getElem h]; rfl
theorem rowFrom_end (l : List Nd) (r : List Int) : rowFrom l (r.take r.length) (r.drop r.length) = true := by
  rw [List.drop_of_length_le (Nat.le_refl _)]; rfl
theorem hasI_at (r : List Int) (i k : Nat) (n : Int) (hi : i ≤ r.length) (h : k < i) : hasI ((r.take i).drop k) n = (decide (n = r[k]) || hasI ((r.take i).drop (k + 1)) n) := by
  rw [drop_cons (r.take i) k (by rw [List.length_take]; omega)]
  simp [hasI]
theorem hasI_end (r : List Int) (i : Nat) (n : Int) : hasI ((r.take i).drop i) n = false := by
  rw [List.drop_of_length_le (by rw [List.length_take]; omega)]; rfl
theorem index_at (r : List Int) (i : Nat) (h : i < r.length) : indexOf r r[i] = (i : Int) ↔ hasI (r.take i) r[i] = false := by
  unfold indexOf
  rw [idxI_F]
  exact idx_at (fun y => decide (r[i] = y)) r i h (by simp)
theorem rowB_no1 {l : List Nd} {a : Int} (h : nodeIn l a = false) : rowB l a = false := by unfold rowB; rw [h]; rfl
theorem rowB_no2 {l : List Nd} {a : Int} (h : ¬ (rdD l a).1 = 3) : rowB l a = false := by unfold rowB; rw [decide_eq_false h]; simp
theorem rowB_yes {l : List Nd} {a : Int} (h : nodeIn l a = true) (h2 : (rdD l a).1 = 3) : rowB l a = true := by unfold rowB; rw [h, decide_eq_true h2]; rfl
def stackOk (l : List Nd) (r : List Int) : Bool := treeI l && (decide (r.length ≤ 40) && rowFrom l [] r)
theorem stackOk_long {l : List Nd} {r : List Int} (h : ¬ r.length ≤ 40) : stackOk l r = false := by unfold stackOk; rw [decide_eq_false h]; simp
theorem stackOk_tree {l : List Nd} {r : List Int} (h : treeI l = false) : stackOk l r = false := by unfold stackOk; rw [h]; rfl
theorem stackOk_row {l : List Nd} {r : List Int} (h : r.length ≤ 40) (h2 : treeI l = true) : stackOk l r = rowFrom l [] r := by unfold stackOk; rw [decide_eq_true h, h2]; rfl
theorem F_i_StackOk (l : List Nd) (r : List Int) (hl : l.length ≤ 140737488351232) (hp : ∀ x ∈ l, ndSm x) (hr : r.length ≤ 140737488351232) : Fn pg 21 [sTr l, .imm 1 (rowI r)] [] (.lit (.bool (stackOk l r))) [] := by
  have hT := F_i_TreeOk l hl hp
  refine Fn.ofN [0,1,2,4,5,6,14,15,16,17,18,40] [1002] Try.func21 (by rfl) rfl (by show 2 ≤ 42; decide) (by rfl) ?_
  repeat' ((conv => whnf); first | (refine iteB_dec (fun h => ?_) (fun h => ?_) <;> (try simp (disch := (first | omega | fail)) only [modAt, List.length_take, List.length_drop, List.length_map, List.length_append, List.length_set, List.length_replicate, len_rowsPart, len_setCell, len_marks, len_markL, len_byR, len_mkL, len_marksN, len_bytesI, len_seenI] at h) <;> (try (exfalso; omega))) | (refine iteB_not ?_) | (refine iteB_of (fun h => ?_) (fun h => ?_)) | (refine Exists.intro _ (And.intro rfl ?_)) | (refine Or.inl ?_; apply callV_i; (repeat ((conv => whnf); first | refine And.intro (by first | omega | fail) ?_ | fail)); ((conv => whnf); first | exact FnB.mk (hT) | fail); refine ⟨rfl, rfl, ?_⟩) | fail)
  · (refine .mk ⟨trivial, [], ⟨rfl, ?_⟩, List.nodup_nil, rfl, trivial⟩; show V.lit _ = V.lit _)
    rw [stackOk_long (by omega)]
  rotate_left
  · (refine .mk ⟨trivial, [], ⟨rfl, ?_⟩, List.nodup_nil, rfl, trivial⟩; show V.lit _ = V.lit _)
    rw [stackOk_tree (by assumption)]
  rw [stackOk_row (by omega) (by assumption)]
  refine ⟨Nat, fun i => i ≤ r.length ∧ rowFrom l [] r = rowFrom l (r.take i) (r.drop i), fun i => [(1, .imm 1 (rowI r)), (2, .ptr 1002 [] 1 0 0), (15, .imm 1 (rowI r)), (16, .lit (.int .i64 r.length)), (17, .lit (.int .i64 i))], fun _ => [(1002, true, 1, [[.imm 6 (rowN l)]])], fun i => r.length - i, ⟨[], 0, ⟨Nat.zero_le _, rfl⟩, ⟨rfl, rfl⟩, ⟨by first | rfl | fail, by first | rfl | fail, by first | rfl | fail, by first | (show V.lit (Value.int _ _) = V.lit (Value.int _ _); first | (congr 2; first | (simp only [List.length_map]; done) | fail) | fail) | fail, by first | rfl | fail, trivial⟩, boxEq rfl, trivial⟩, ?_⟩
  intro i ⟨hi, hh⟩
  by_cases hlt : i < r.length
  · rw [rowFrom_at l r i hlt] at hh
    have hN := F_i_Tree_isNode l r[i] hl
    have hX := index_at r i hlt
    by_cases hin : 0 ≤ r[i] ∧ r[i] ≤ (l.length : Int) - 1
    · have hni := nodeIn_yes hin
      rw [hni] at hN
      repeat' ((conv => whnf); first | (refine iteB_dec (fun h => ?_) (fun h => ?_) <;> (try simp (disch := (first | omega | fail)) only [modAt, List.length_take, List.length_drop, List.length_map, List.length_append, List.length_set, List.length_replicate, len_rowsPart, len_setCell, len_marks, len_markL, len_byR, len_mkL, len_marksN, len_bytesI, len_seenI] at h) <;> (try (exfalso; omega))) | (refine Exists.intro _ (And.intro rfl ?_)) | (refine wrapB_i64 (by first | omega | fail) (by first | omega | fail) ?_) | (refine And.intro (by first | exact True.intro | omega | fail) ?_) | (refine Exists.intro _ (And.intro (rowGet _ _ _ (by omega)) ?_)) | (refine Exists.intro _ (And.intro (rowGetI _ _ _ (by omega) (by omega)) ?_)) | (refine Or.inl ?_; apply callV_i; (repeat ((conv => whnf); first | refine Exists.intro _ (And.intro rfl ?_) | fail)); ((conv => whnf); first | exact FnB.mk (hN) | exact FnB.mk (F_slices_Index_int_int _ _ (by first | omega | fail)) | fail); refine ⟨rfl, rfl, ?_⟩) | fail)
      · (refine .mk ⟨trivial, [], ⟨rfl, ?_⟩, List.nodup_nil, rfl, trivial⟩; show V.lit _ = V.lit _)
        rw [hh, rowB_no2 (by assumption)]; rfl
      · (refine .mk ⟨trivial, [], ⟨rfl, ?_⟩, List.nodup_nil, rfl, trivial⟩; show V.lit _ = V.lit _)
        rw [hh, show hasI (r.take i) r[i] = true from by
          cases e : hasI (r.take i) r[i] with
          | true => rfl
          | false => exact absurd (hX.2 e) (by assumption)]
        simp
      · rw [rowB_yes hni (Decidable.not_not.1 (by assumption)), hX.1 (Decidable.not_not.1 (by assumption))] at hh
        exact ⟨[], i + 1, ⟨by omega, hh⟩, ⟨⟨rfl, rfl⟩, ⟨by first | rfl | fail, by first | rfl | fail, by first | rfl | fail, by first | rfl | fail, by first | rfl | fail, trivial⟩, boxEq rfl, trivial⟩, by first | (dsimp only; omega) | fail⟩
    · rw [rowB_no1 (nodeIn_no hin)] at hh
      rw [nodeIn_no hin] at hN
      repeat' ((conv => whnf); first | (refine iteB_dec (fun h => ?_) (fun h => ?_) <;> (try simp (disch := (first | omega | fail)) only [modAt, List.length_take, List.length_drop, List.length_map, List.length_append, List.length_set, List.length_replicate, len_rowsPart, len_setCell, len_marks, len_markL, len_byR, len_mkL, len_marksN, len_bytesI, len_seenI] at h) <;> (try (exfalso; omega))) | (refine And.intro (by first | exact True.intro | omega | fail) ?_) | (refine Exists.intro _ (And.intro (rowGet _ _ _ (by omega)) ?_)) | (refine Or.inl ?_; apply callV_i; (repeat ((conv => whnf); first | refine Exists.intro _ (And.intro rfl ?_) | fail)); ((conv => whnf); first | exact FnB.mk (hN) | fail); refine ⟨rfl, rfl, ?_⟩) | fail)
      (refine .mk ⟨trivial, [], ⟨rfl, ?_⟩, List.nodup_nil, rfl, trivial⟩; show V.lit _ = V.lit _)
      rw [hh]; rfl
  · obtain rfl : i = r.length := by omega
    rw [rowFrom_end] at hh
    repeat' ((conv => whnf); first | (refine iteB_dec (fun h => ?_) (fun h => ?_) <;> (try simp (disch := (first | omega | fail)) only [modAt, List.length_take, List.length_drop, List.length_map, List.length_append, List.length_set, List.length_replicate, len_rowsPart, len_setCell, len_marks, len_markL, len_byR, len_mkL, len_marksN, len_bytesI, len_seenI] at h) <;> (try (exfalso; omega))) | fail)
    (refine .mk ⟨trivial, [], ⟨rfl, ?_⟩, List.nodup_nil, rfl, trivial⟩; show V.lit _ = V.lit _)
    rw [hh]
theorem F_s_l10Element (l : List Nd) (a : Int) (hl : l.length ≤ 140737488351232) : Fn pg 82 [sTr l, .lit (.int .i64 a)] [] (.lit (.bool (rowB l a))) [] := by
  have hN := F_s_l6Has l a hl
  by_cases hin : 0 ≤ a ∧ a ≤ (l.length : Int) - 1
  · rw [nodeIn_yes hin] at hN
    refine Fn.ofN [0,1,2,4] [1002] Try.func82 (by rfl) rfl (by show 2 ≤ 17; decide) (by rfl) ?_
    repeat' ((conv => whnf); first | (refine Exists.intro _ (And.intro rfl ?_)) | (refine And.intro (by first | exact True.intro | omega | fail) ?_) | (refine Exists.intro _ (And.intro (rowGetI _ _ _ (by omega) (by omega)) ?_)) | (refine Or.inl ?_; apply callV_i; (repeat ((conv => whnf); first | refine And.intro (by first | omega | fail) ?_ | fail)); ((conv => whnf); first | exact FnB.mk (hN) | fail); refine ⟨rfl, rfl, ?_⟩) | fail)
    (refine .mk ⟨trivial, [], ⟨rfl, ?_⟩, List.nodup_nil, rfl, trivial⟩; show V.lit _ = V.lit _)
    unfold rowB; rw [nodeIn_yes hin]; rfl
  · rw [nodeIn_no hin] at hN
    rw [rowB_no1 (nodeIn_no hin)]
    refine Fn.ofN [0,1,2,4] [1002] Try.func82 (by rfl) rfl (by show 2 ≤ 17; decide) (by rfl) ?_
    repeat' ((conv => whnf); first | (refine Exists.intro _ (And.intro rfl ?_)) | (refine Or.inl ?_; apply callV_i; (repeat ((conv => whnf); first | refine And.intro (by first | omega | fail) ?_ | fail)); ((conv => whnf); first | exact FnB.mk (hN) | fail); refine ⟨rfl, rfl, ?_⟩) | fail)
    (refine .mk ⟨trivial, [], ⟨rfl, ?_⟩, List.nodup_nil, rfl, trivial⟩; show V.lit _ = V.lit _)
    rfl
theorem F_s_l10Row (l : List Nd) (r : List Int) (hl : l.length ≤ 140737488351232) (hr : r.length ≤ 140737488351232) : Fn pg 55 [sTr l, .imm 1 (rowI r)] [] (.lit (.bool (decide (r.length ≤ 40) && rowFrom l [] r))) [] := by
  refine Fn.ofN [0,1,2,4,5,6,9,13,22,25,36] [1002] Try.func55 (by rfl) rfl (by show 2 ≤ 37; decide) (by rfl) ?_
  repeat' ((conv => whnf); first | (refine iteB_dec (fun h => ?_) (fun h => ?_) <;> (try simp (disch := (first | omega | fail)) only [modAt, List.length_take, List.length_drop, List.length_map, List.length_append, List.length_set, List.length_replicate, len_rowsPart, len_setCell, len_marks, len_markL, len_byR, len_mkL, len_marksN, len_bytesI, len_seenI] at h) <;> (try (exfalso; omega))) | (refine Exists.intro _ (And.intro rfl ?_)) | fail)
  · (refine .mk ⟨trivial, [], ⟨rfl, ?_⟩, List.nodup_nil, rfl, trivial⟩; show V.lit _ = V.lit _)
    rw [decide_eq_false (by omega)]; rfl
  rw [show decide (r.length ≤ 40) = true from decide_eq_true (by omega), Bool.true_and]
  refine ⟨Nat, fun i => i ≤ r.length ∧ rowFrom l [] r = rowFrom l (r.take i) (r.drop i), fun i => [(1, .imm 1 (rowI r)), (2, .ptr 1002 [] 1 0 0), (5, .lit (.int .i64 i))], fun _ => [(1002, true, 1, [[.imm 6 (rowN l)]])], fun i => r.length - i, ⟨[], 0, ⟨Nat.zero_le _, rfl⟩, ⟨rfl, rfl⟩, ⟨by first | rfl | fail, by first | rfl | fail, by first | rfl | fail, trivial⟩, boxEq rfl, trivial⟩, ?_⟩
  intro i ⟨hi, hh⟩
  by_cases hlt : i < r.length
  · rw [rowFrom_at l r i hlt] at hh
    have hE := F_s_l10Element l r[i] hl
    repeat' ((conv => whnf); first | (refine iteB_dec (fun h => ?_) (fun h => ?_) <;> (try simp (disch := (first | omega | fail)) only [modAt, List.length_take, List.length_drop, List.length_map, List.length_append, List.length_set, List.length_replicate, len_rowsPart, len_setCell, len_marks, len_markL, len_byR, len_mkL, len_marksN, len_bytesI, len_seenI] at h) <;> (try (exfalso; omega))) | (refine iteB_not ?_) | (refine iteB_of (fun h => ?_) (fun h => ?_)) | (refine Exists.intro _ (And.intro rfl ?_)) | (refine And.intro (by first | exact True.intro | omega | fail) ?_) | (refine Exists.intro _ (And.intro (rowGet _ _ _ (by omega)) ?_)) | (refine Or.inl (And.intro (by decide +kernel) ?_)) | (apply callQ_i; (repeat ((conv => whnf); first | refine And.intro (by first | omega | fail) ?_ | fail)); ((conv => whnf); apply Exists.intro; (first | exact FnB.mk (hE) | fail))) | fail)
    · rw [show rowB l r[i] = true by assumption, Bool.true_and] at hh
      refine ⟨Nat, fun k => k ≤ i ∧ hasI (r.take i) r[i] = hasI ((r.take i).drop k) r[i], fun k => [(1, .imm 1 (rowI r)), (2, .ptr 1002 [] 1 0 0), (5, .lit (.int .i64 i)), (6, .lit (.int .i64 k))], fun _ => [(1002, true, 1, [[.imm 6 (rowN l)]])], fun k => i - k, ⟨[], 0, ⟨Nat.zero_le _, rfl⟩, ⟨rfl, rfl⟩, ⟨by first | rfl | fail, by first | rfl | fail, by first | rfl | fail, by first | rfl | fail, trivial⟩, boxEq rfl, trivial⟩, ?_⟩
      intro k ⟨hk, hn⟩
      by_cases hlk : k < i
      · rw [hasI_at r i k _ (by omega) hlk] at hn
        repeat' ((conv => whnf); first | (refine iteB_dec (fun h => ?_) (fun h => ?_) <;> (try simp (disch := (first | omega | fail)) only [modAt, List.length_take, List.length_drop, List.length_map, List.length_append, List.length_set, List.length_replicate, len_rowsPart, len_setCell, len_marks, len_markL, len_byR, len_mkL, len_marksN, len_bytesI, len_seenI] at h) <;> (try (exfalso; omega))) | (refine wrapB_i64 (by first | omega | fail) (by first | omega | fail) ?_) | (refine And.intro (by first | exact True.intro | omega | fail) ?_) | (refine Exists.intro _ (And.intro (rowGet _ _ _ (by omega)) ?_)) | (refine Or.inl (And.intro (by decide +kernel) ?_)) | fail)
        · (refine .mk ⟨trivial, [], ⟨rfl, ?_⟩, List.nodup_nil, rfl, trivial⟩; show V.lit _ = V.lit _)
          rw [hh, hn, show decide (r[i] = r[k]) = true from decide_eq_true (by first | exact Eq.symm (by assumption) | fail)]; rfl
        · exact ⟨[], k + 1, ⟨by omega, by rw [hn, show decide (r[i] = r[k]) = false from decide_eq_false (by first | exact fun e => absurd e.symm (by assumption) | fail)]; rfl⟩, ⟨⟨rfl, rfl⟩, ⟨by first | rfl | fail, by first | rfl | fail, by first | rfl | fail, by first | rfl | fail, trivial⟩, boxEq rfl, trivial⟩, by first | (dsimp only; omega) | fail⟩
      · obtain rfl : k = i := by omega
        rw [hasI_end] at hn
        rw [hn] at hh
        repeat' ((conv => whnf); first | (refine iteB_dec (fun h => ?_) (fun h => ?_) <;> (try simp (disch := (first | omega | fail)) only [modAt, List.length_take, List.length_drop, List.length_map, List.length_append, List.length_set, List.length_replicate, len_rowsPart, len_setCell, len_marks, len_markL, len_byR, len_mkL, len_marksN, len_bytesI, len_seenI] at h) <;> (try (exfalso; omega))) | (refine wrapB_i64 (by first | omega | fail) (by first | omega | fail) ?_) | fail)
        exact ⟨[], k + 1, ⟨by omega, hh⟩, ⟨⟨rfl, rfl⟩, ⟨by first | rfl | fail, by first | rfl | fail, by first | rfl | fail, trivial⟩, boxEq rfl, trivial⟩, by first | (dsimp only; omega) | fail⟩
    · (refine .mk ⟨trivial, [], ⟨rfl, ?_⟩, List.nodup_nil, rfl, trivial⟩; show V.lit _ = V.lit _)
      rw [hh, show rowB l r[i] = false by assumption]; rfl
  · obtain rfl : i = r.length := by omega
    rw [rowFrom_end] at hh
    repeat' ((conv => whnf); first | (refine iteB_dec (fun h => ?_) (fun h => ?_) <;> (try simp (disch := (first | omega | fail)) only [modAt, List.length_take, List.length_drop, List.length_map, List.length_append, List.length_set, List.length_replicate, len_rowsPart, len_setCell, len_marks, len_markL, len_byR, len_mkL, len_marksN, len_bytesI, len_seenI] at h) <;> (try (exfalso; omega))) | fail)
    (refine .mk ⟨trivial, [], ⟨rfl, ?_⟩, List.nodup_nil, rfl, trivial⟩; show V.lit _ = V.lit _)
    rw [hh]
theorem F_s_StackOk (l : List Nd) (r : List Int) (hl : l.length ≤ 140737488351232) (hp : ∀ x ∈ l, ndSm x) (hr : r.length ≤ 140737488351232) : Fn pg 19 [sTr l, .imm 1 (rowI r)] [] (.lit (.bool (stackOk l r))) [] := by
  have hT := F_s_TreeOk l hl hp
  have hR := F_s_l10Row l r hl hr
  rw [tree_agree] at hT
  refine Fn.ofN [0,1,2,4] [1002] Try.func19 (by rfl) rfl (by show 2 ≤ 12; decide) (by rfl) ?_
  repeat' ((conv => whnf); first | (refine iteB_of (fun h => ?_) (fun h => ?_)) | (refine Exists.intro _ (And.intro rfl ?_)) | (refine Or.inl ?_; apply callV_i; (repeat ((conv => whnf); first | refine And.intro (by first | omega | fail) ?_ | fail)); ((conv => whnf); first | exact FnB.mk (hT) | exact FnB.mk (hR) | fail); refine ⟨rfl, rfl, ?_⟩) | fail)
  all_goals ((refine .mk ⟨trivial, [], ⟨rfl, ?_⟩, List.nodup_nil, rfl, trivial⟩; show V.lit _ = V.lit _); unfold stackOk; simp_all)


theorem rowFrom_all {l : List Nd} : ∀ (t ahead : List Int), rowFrom l ahead t = true → ∀ a ∈ t, rowB l a = true := by
  intro t
  induction t with
  | nil => intro _ _ a h; cases h
  | cons x t ih =>
    intro ahead h a ha
    simp only [rowFrom, Bool.and_eq_true] at h
    rcases List.mem_cons.1 ha with rfl | ha
    · exact h.1.1
    · exact ih _ h.2 a ha
theorem stackOk_in {l : List Nd} {r : List Int} (h : stackOk l r = true) : ∀ a ∈ r, 0 ≤ a ∧ a ≤ (l.length : Int) - 1 := by
  unfold stackOk at h
  simp only [Bool.and_eq_true] at h
  intro a ha
  have := rowFrom_all r [] h.2.2 a ha
  unfold rowB at this
  rw [Bool.and_eq_true] at this
  exact nodeIn_of this.1
theorem rdD_in {l : List Nd} {r : List Int} (h : ∀ a ∈ r, 0 ≤ a ∧ a ≤ (l.length : Int) - 1) (i : Int) (h0 : 0 ≤ i) (h1 : i < r.length) : 0 ≤ rdD r i ∧ rdD r i ≤ (l.length : Int) - 1 := by
  apply h
  unfold rdD
  rw [List.getD_eq_getElem?_getD, List.getElem?_eq_getElem (by omega)]
  exact List.getElem_mem _
theorem szL_all {α : Type} {Q : α → Prop} (sz : α → Int → Int) (hle : ∀ p l, 0 ≤ l → sz p l ≤ l) (b : Int) (hq : ∀ p l, 0 ≤ l → l ≤ b → 0 ≤ sz p l → Q p) : ∀ (xs : List α) (l : Int), 0 ≤ l → l ≤ b → 0 ≤ szL sz xs l → ∀ x ∈ xs, Q x := by
  intro xs
  induction xs with
  | nil => intro _ _ _ _ x hx; cases hx
  | cons y r ih =>
    intro l h0 h1 h2 x hx
    simp only [szL] at h2
    split at h2
    · omega
    · rename_i h3
      have h4 := hle y l h0
      rcases List.mem_cons.1 hx with rfl | hx
      · exact hq _ l h0 h1 (by omega)
      · exact ih _ (by omega) (by omega) h2 x hx
theorem szAt_sm (a : At) (l : Int) (h0 : 0 ≤ l) (h1 : l ≤ 1048576) (h2 : 0 ≤ szAt a l) : a.1.size ≤ 1048576 ∧ a.2.size ≤ 1048576 := by
  unfold szAt at h2; grind
theorem szNd_sm (p : Nd) (l : Int) (h0 : 0 ≤ l) (h1 : l ≤ 1048576) (h2 : 0 ≤ szNd p l) : ndSm p := by
  have hst := szNd_st p l h0 h2
  have hnn := h2
  unfold szNd at h2
  dsimp only at h2
  split at h2
  · omega
  · rename_i g1
    split at h2
    · omega
    · rename_i g2
      have g3 := szS_le szAt le_szAt p.2.2.1 (l - p.2.1.size) (by omega)
      have g4 : ∀ x ∈ p.2.2.1, x.1.size ≤ 1048576 ∧ x.2.size ≤ 1048576 := by
        unfold szS at g2
        split at g2
        · omega
        · rename_i g5
          exact szL_all szAt le_szAt 1048576 szAt_sm p.2.2.1 (l - p.2.1.size - p.2.2.1.length) (by omega) (by omega) (by omega)
      split at h2
      · omega
      · rename_i g6
        split at h2
        · omega
        · rename_i g7
          have g8 := szI_le p.2.2.2.2.2 (szS szAt p.2.2.1 (l - p.2.1.size) - p.2.2.2.1.size) (by omega)
          refine ⟨by omega, ⟨by omega, fun x hx => ?_⟩, by omega, by omega⟩
          have := g4 x hx
          omega
theorem szTr_sm (t : List Nd) (h : 0 ≤ szTr t 1048576) : ∀ x ∈ t, ndSm x := by
  unfold szTr at h
  split at h
  · omega
  · unfold szS at h
    split at h
    · omega
    · rename_i h3
      exact szL_all szNd szNd_le 1048576 szNd_sm t _ (by omega) (by omega) h
/-- What the law knows of a tree that is handed to it. -/
def trS (t : List Nd) : Prop := t.length * 96 ≤ 140737488351232 ∧ ∀ x ∈ t, (Lit.int .i64 x.1).wf = true ∧ x.2.1.size ≤ 140737488351232 ∧ (x.2.2.1.length * 32 ≤ 140737488351232 ∧ ∀ y ∈ x.2.2.1, y.1.size ≤ 140737488351232 ∧ y.2.size ≤ 140737488351232) ∧ x.2.2.2.1.size ≤ 140737488351232 ∧ (Lit.int .i64 x.2.2.2.2.1).wf = true ∧ (x.2.2.2.2.2.length * 8 ≤ 140737488351232 ∧ ∀ y ∈ x.2.2.2.2.2, (Lit.int .i64 y).wf = true)
def rwS (r : List Int) : Prop := r.length * 8 ≤ 140737488351232 ∧ ∀ y ∈ r, (Lit.int .i64 y).wf = true
theorem trS_ok {t : List Nd} (h : trS t) : ∀ x ∈ t, ndOk x := fun x hx => by
  obtain ⟨_, h2, h3, h4, _, h5, _⟩ := h.2 x hx
  exact ⟨h2, h3, h4, h5⟩
theorem litDT (n m : Nat) (xs : List Int) : litRow 1 (List.drop m (List.take n (rowI xs))) := fun x hx => litI xs x (List.mem_of_mem_take (List.mem_of_mem_drop hx))
def lsImplied : List ByteArray := [⟨#[100, 100]⟩, ⟨#[100, 116]⟩, ⟨#[108, 105]⟩, ⟨#[111, 112, 116, 103, 114, 111, 117, 112]⟩, ⟨#[111, 112, 116, 105, 111, 110]⟩, ⟨#[112]⟩]
def inL (a : ByteArray) (L : List ByteArray) : Bool := L.any fun x => decide (x = a)
theorem bytes_mem (a : ByteArray) (L : List ByteArray) : decide (a.data.toList ∈ L.map (fun x => x.data.toList)) = inL a L := by
  unfold inL
  rw [Bool.eq_iff_iff, List.any_eq_true, decide_eq_true_eq, List.mem_map]
  constructor
  · rintro ⟨x, h, e⟩
    refine ⟨x, h, decide_eq_true ?_⟩
    cases x; cases a
    congr 1
    exact Array.toList_inj.1 e
  · rintro ⟨x, h, e⟩
    exact ⟨x, h, by rw [of_decide_eq_true e]⟩
theorem len_appB (a b : ByteArray) : (a ++ b).size = a.size + b.size := ByteArray.size_append
theorem F_i_isOneOf (a n : ByteArray) (L : List ByteArray) (hJ : 32 :: (n.data.toList ++ [32]) = J (L.map fun x => x.data.toList)) (hW : (L.map fun x => x.data.toList).all (fun w => w.all fun b => b != 32) = true) (hE : (L.all fun x => !x.data.toList.isEmpty) = true) (ha : a.size ≤ 1048576) (hn : n.size ≤ 1048576) : Fn pg 122 [.lit (.string a), .lit (.string n)] [] (.lit (.bool (inL a L))) [] := by
  have hw : ∀ w ∈ L.map (fun x => x.data.toList), (32 : UInt8) ∉ w := by
    intro w hw hb
    have h1 := List.all_eq_true.1 hW w hw
    have h2 := List.all_eq_true.1 h1 32 hb
    simp at h2
  have hC1 := F_strings_Contains a ⟨#[32]⟩ (by omega)
  have hC2 := F_strings_Contains ((⟨#[32]⟩ : ByteArray) ++ n ++ ⟨#[32]⟩) ((⟨#[32]⟩ : ByteArray) ++ a ++ ⟨#[32]⟩) (by simp only [ByteArray.size_append]; have : (⟨#[32]⟩ : ByteArray).size = 1 := rfl; omega)
  have h32 : (⟨#[32]⟩ : ByteArray).size = 1 := rfl
  rw [has_one] at hC1
  refine Fn.ofN [0,1,4,10] [] Try.func122 (by rfl) rfl (by show 2 ≤ 18; decide) (by rfl) ?_
  repeat' ((conv => whnf); first | (refine iteB_dec (fun h => ?_) (fun h => ?_) <;> (try simp (disch := (first | omega | fail)) only [modAt, List.length_take, List.length_drop, List.length_map, List.length_append, List.length_set, List.length_replicate, len_rowsPart, len_setCell, len_marks, len_markL, len_byR, len_mkL, len_marksN, len_bytesI, len_seenI, len_appB] at h) <;> (try (exfalso; omega))) | (refine And.intro (by first | exact True.intro | omega | (simp (disch := (first | omega | fail)) only [modAt, List.length_take, List.length_drop, List.length_map, List.length_append, List.length_set, List.length_replicate, len_rowsPart, len_setCell, len_marks, len_markL, len_byR, len_mkL, len_marksN, len_bytesI, len_seenI, len_appB]; first | omega | fail) | fail) ?_) | (refine Or.inl ?_; apply callV_i; (repeat ((conv => whnf); first | refine And.intro (by first | omega | fail) ?_ | fail)); ((conv => whnf); first | exact FnB.mk (hC1) | exact FnB.mk (hC2) | fail); refine ⟨rfl, rfl, ?_⟩) | fail)
  · (refine .mk ⟨trivial, [], ⟨rfl, ?_⟩, List.nodup_nil, rfl, trivial⟩; show V.lit _ = V.lit _)
    subst h
    rw [← bytes_mem]
    congr 2
    symm
    rw [decide_eq_false_iff_not, List.mem_map]
    rintro ⟨x, h1, h2⟩
    have := List.all_eq_true.1 hE x h1
    rw [show x.data.toList = [] from h2] at this
    cases this
  · (refine .mk ⟨trivial, [], ⟨rfl, ?_⟩, List.nodup_nil, rfl, trivial⟩; show V.lit _ = V.lit _)
    rw [← bytes_mem, decide_eq_false (fun hm => hw _ hm (by assumption))]
  · (refine .mk ⟨trivial, [], ⟨rfl, ?_⟩, List.nodup_nil, rfl, trivial⟩; show V.lit _ = V.lit _)
    have hb : (32 : UInt8) ∉ a.data.toList := by assumption
    have h1 := J_has a.data.toList hb _ hw
    rw [← hJ, bytes_mem] at h1
    have e : ∀ b : ByteArray, ((⟨#[32]⟩ : ByteArray) ++ b ++ ⟨#[32]⟩).data.toList = 32 :: (b.data.toList ++ [32]) := by
      intro b
      simp only [ByteArray.data_append, Array.toList_append]; rfl
    rw [← h1, e, e]
theorem F_i_IsImplied (a : ByteArray) (ha : a.size ≤ 1048576) : Fn pg 104 [.lit (.string a)] [] (.lit (.bool (inL a lsImplied))) [] := by
  refine Fn.ofN [0,2] [] Try.func104 (by rfl) rfl (by show 1 ≤ 5; decide) (by rfl) ?_
  repeat' ((conv => whnf); first | (refine Or.inl ?_; apply callV_i; (repeat ((conv => whnf); first | refine And.intro (by first | omega | fail) ?_ | fail)); ((conv => whnf); first | exact FnB.mk (F_i_isOneOf a _ lsImplied (by decide +kernel) (by decide +kernel) (by decide +kernel) ha (by decide +kernel)) | fail); refine ⟨rfl, rfl, ?_⟩) | fail)
  all_goals ((refine .mk ⟨trivial, [], ⟨rfl, ?_⟩, List.nodup_nil, rfl, trivial⟩; show V.lit _ = V.lit _); rfl)
theorem idxF_iff {α : Type} (p : α → Bool) : ∀ (l : List α) (k : Int), 0 ≤ k → (0 ≤ idxF p l k ↔ l.any p = true)
  | [], k, h => by simp [idxF]
  | x :: r, k, h => by
    have ih := idxF_iff p r (k + 1) (by omega)
    by_cases hp : p x = true
    · rw [idxF, if_pos hp, List.any_cons, hp]; simp [h]
    · rw [idxF, if_neg hp, List.any_cons, (Bool.not_eq_true _).mp hp, Bool.false_or]; exact ih
theorem idxF_any {α : Type} (p : α → Bool) (l : List α) (k : Int) (h : 0 ≤ k) : decide (0 ≤ idxF p l k) = l.any p := by
  rw [Bool.eq_iff_iff, decide_eq_true_eq]; exact idxF_iff p l k h
theorem F_s_l7Find (xs : List ByteArray) (s : ByteArray) (hx : xs.length ≤ 1048576) : Fn pg 134 [.imm 1 (rowS xs), .lit (.string s)] [] (.lit (.int .i64 (idxF (fun x => decide (x = s)) xs 0))) [] := by
  refine Fn.ofN [0,1,4,5,9,17] [] Try.func134 (by rfl) rfl (by show 2 ≤ 19; decide) (by rfl) ?_
  repeat' ((conv => whnf); first | (refine iteB_dec (fun h => ?_) (fun h => ?_) <;> (try simp (disch := (first | omega | fail)) only [modAt, List.length_take, List.length_drop, List.length_map, List.length_append, List.length_set, List.length_replicate, len_rowsPart, len_setCell, len_marks, len_markL, len_byR, len_mkL, len_marksN, len_bytesI, len_seenI, len_appB] at h) <;> (try (exfalso; omega))) | fail)
  refine ⟨Nat, fun i => i ≤ xs.length ∧ idxF (fun x => decide (x = s)) xs 0 = idxF (fun x => decide (x = s)) (xs.drop i) i, fun i => [(0, .imm 1 (rowS xs)), (1, .lit (.string s)), (5, .lit (.int .i64 i))], fun _ => [], fun i => xs.length - i, ⟨[], 0, ⟨Nat.zero_le _, rfl⟩, ⟨rfl, rfl⟩, ⟨by first | rfl | fail, by first | rfl | fail, by first | rfl | fail, trivial⟩, trivial⟩, ?_⟩
  intro i ⟨hi, hh⟩
  by_cases hlt : i < xs.length
  · rw [drop_cons _ _ hlt, idxF] at hh
    repeat' ((conv => whnf); first | (refine iteB_dec (fun h => ?_) (fun h => ?_) <;> (try simp (disch := (first | omega | fail)) only [modAt, List.length_take, List.length_drop, List.length_map, List.length_append, List.length_set, List.length_replicate, len_rowsPart, len_setCell, len_marks, len_markL, len_byR, len_mkL, len_marksN, len_bytesI, len_seenI, len_appB] at h) <;> (try (exfalso; omega))) | (refine wrapB_i64 (by first | omega | fail) (by first | omega | fail) ?_) | (refine And.intro (by first | exact True.intro | omega | fail) ?_) | (refine Exists.intro _ (And.intro (rowGet _ _ _ (by omega)) ?_)) | fail)
    · (refine .mk ⟨trivial, [], ⟨rfl, ?_⟩, List.nodup_nil, rfl, trivial⟩; show V.lit _ = V.lit _)
      rw [hh, if_pos (decide_eq_true (by assumption))]
    · rw [if_neg (fun e => absurd (of_decide_eq_true e) (by assumption))] at hh
      exact ⟨[], i + 1, ⟨by omega, hh⟩, ⟨⟨rfl, rfl⟩, ⟨by first | rfl | fail, by first | rfl | fail, by first | rfl | fail, trivial⟩, trivial⟩, by first | (dsimp only; omega) | fail⟩
  · obtain rfl : i = xs.length := by omega
    rw [List.drop_of_length_le (Nat.le_refl _), idxF] at hh
    repeat' ((conv => whnf); first | (refine iteB_dec (fun h => ?_) (fun h => ?_) <;> (try simp (disch := (first | omega | fail)) only [modAt, List.length_take, List.length_drop, List.length_map, List.length_append, List.length_set, List.length_replicate, len_rowsPart, len_setCell, len_marks, len_markL, len_byR, len_mkL, len_marksN, len_bytesI, len_seenI, len_appB] at h) <;> (try (exfalso; omega))) | fail)
    (refine .mk ⟨trivial, [], ⟨rfl, ?_⟩, List.nodup_nil, rfl, trivial⟩; show V.lit _ = V.lit _)
    rw [hh]
theorem F_s_l8In (xs : List ByteArray) (s : ByteArray) (hx : xs.length ≤ 1048576) : Fn pg 121 [.imm 1 (rowS xs), .lit (.string s)] [] (.lit (.bool (inL s xs))) [] := by
  have hF := F_s_l7Find xs s hx
  have hA := idxF_any (fun x => decide (x = s)) xs 0 (Int.le_refl _)
  refine Fn.ofN [0,1,4] [] Try.func121 (by rfl) rfl (by show 2 ≤ 9; decide) (by rfl) ?_
  repeat' ((conv => whnf); first | (refine Or.inl ?_; apply callV_i; (repeat ((conv => whnf); first | refine And.intro (by first | omega | fail) ?_ | fail)); ((conv => whnf); first | exact FnB.mk (hF) | fail); refine ⟨rfl, rfl, ?_⟩) | fail)
  (refine .mk ⟨trivial, [], ⟨rfl, ?_⟩, List.nodup_nil, rfl, trivial⟩; show V.lit _ = V.lit _)
  rw [hA]; rfl
theorem F_s_IsImplied (a : ByteArray) (ha : a.size ≤ 1048576) : Fn pg 103 [.lit (.string a)] [] (.lit (.bool (inL a lsImplied))) [] := by
  have hL := F_s_l8In lsImplied a (by decide)
  refine Fn.ofN [0,2] [1003] Try.func103 (by rfl) rfl (by show 1 ≤ 6; decide) (by rfl) ?_
  repeat' ((conv => whnf); first | (refine And.intro (by first | exact True.intro | fail) ?_) | (refine Or.inl ?_; apply callV_i; (repeat ((conv => whnf); first | refine And.intro (by first | exact Nat.le_refl _ | omega | fail) ?_ | fail)); ((conv => whnf); first | exact FnB.mk (hL) | fail); refine ⟨rfl, rfl, ?_⟩) | fail)
  all_goals ((refine .mk ⟨trivial, [], ⟨rfl, ?_⟩, List.nodup_nil, rfl, trivial⟩; show V.lit _ = V.lit _); rfl)
theorem nm_at {l : List Nd} (h : ∀ x ∈ l, x.2.1.size ≤ 1048576) (u : Int) (h1 : 0 ≤ u) (h2 : u ≤ (l.length : Int) - 1) : (rdD l u).2.1.size ≤ 1048576 := by
  apply h
  unfold rdD
  rw [List.getD_eq_getElem?_getD, List.getElem?_eq_getElem (by omega)]
  exact List.getElem_mem _
theorem szNd_nm (p : Nd) (l : Int) (h0 : 0 ≤ l) (h1 : l ≤ 1048576) (h2 : 0 ≤ szNd p l) : p.2.1.size ≤ 1048576 := by
  unfold szNd at h2
  dsimp only at h2
  split at h2 <;> omega
theorem szTr_nm (t : List Nd) (h : 0 ≤ szTr t 1048576) : ∀ x ∈ t, x.2.1.size ≤ 1048576 := by
  unfold szTr at h
  split at h
  · omega
  · unfold szS at h
    split at h
    · omega
    · rename_i h3
      exact szL_all szNd szNd_le 1048576 szNd_nm t _ (by omega) (by omega) h
def impQ (l : List Nd) (r : List Int) (b : ByteArray) (i : Int) : Bool := inL (rdD l (rdD r i)).2.1 lsImplied && !decide ((rdD l (rdD r i)).2.1 = b)
def impN (l : List Nd) (r : List Int) (b : ByteArray) : Nat → Nat
  | 0 => 0
  | j + 1 => if 0 < j ∧ impQ l r b (j : Int) = true then impN l r b j else j + 1
theorem impN_pos (l : List Nd) (r : List Int) (b : ByteArray) (j : Nat) (h : 1 < j) : impN l r b j = if impQ l r b ((j : Int) - 1) = true then impN l r b (j - 1) else j := by
  cases j with
  | zero => omega
  | succ j =>
    rw [impN, show (((j + 1 : Nat) : Int) - 1) = (j : Int) by omega, Nat.add_sub_cancel]
    by_cases hb : impQ l r b (j : Int) = true
    · rw [if_pos ⟨by omega, hb⟩, if_pos hb]
    · rw [if_neg (fun e => hb e.2), if_neg hb]
theorem impN_one (l : List Nd) (r : List Int) (b : ByteArray) (j : Nat) (h : ¬ 1 < j) : impN l r b j = j := by
  cases j with
  | zero => rfl
  | succ j => rw [impN, if_neg (fun e => by omega)]
theorem impQ_yes {l : List Nd} {r : List Int} {b : ByteArray} {i : Int} (h : inL (rdD l (rdD r i)).2.1 lsImplied = true) (h2 : ¬ (rdD l (rdD r i)).2.1 = b) : impQ l r b i = true := by unfold impQ; rw [h, decide_eq_false h2]; rfl
theorem impQ_no1 {l : List Nd} {r : List Int} {b : ByteArray} {i : Int} (h : inL (rdD l (rdD r i)).2.1 lsImplied = false) : ¬ impQ l r b i = true := by unfold impQ; rw [h]; simp
theorem impQ_no2 {l : List Nd} {r : List Int} {b : ByteArray} {i : Int} (h : (rdD l (rdD r i)).2.1 = b) : ¬ impQ l r b i = true := by unfold impQ; rw [decide_eq_true h]; simp
theorem rdD_take (r : List Int) (n : Nat) (i : Int) (h0 : 0 ≤ i) (h : i < n) (hn : n ≤ r.length) : rdD (r.take n) i = rdD r i := by
  unfold rdD
  rw [List.getD_eq_getElem?_getD, List.getD_eq_getElem?_getD, List.getElem?_take, if_pos (by omega)]
theorem F_i_Tree_popImplied (l : List Nd) (r : List Int) (b : ByteArray) (hl : l.length ≤ 140737488351232) (hr : r.length ≤ 140737488351232) (hq : ∀ x ∈ l, x.2.1.size ≤ 1048576) (hv : ∀ x ∈ r, 0 ≤ x ∧ x ≤ (l.length : Int) - 1) : Fn pg 80 [.ptr 0 [] 1 0 0, .imm 1 (rowI r), .lit (.string b)] [(0, true, 1, [[.imm 6 (rowN l)]])] (.imm 1 (rowI (r.take (impN l r b r.length)))) [(0, true, 1, [[.imm 6 (rowN l)]])] := by
  refine Fn.ofN [0,1,2,6,7,10,31] [0,1006,1036] Try.func80 (by rfl) rfl (by show 3 ≤ 38; decide) (by rfl) ?_
  repeat' ((conv => whnf); first | (refine iteB_dec (fun h => ?_) (fun h => ?_) <;> (try simp (disch := (first | omega | fail)) only [modAt, List.length_take, List.length_drop, List.length_map, List.length_append, List.length_set, List.length_replicate, len_rowsPart, len_setCell, len_marks, len_markL, len_byR, len_mkL, len_marksN, len_bytesI, len_seenI, len_appB] at h) <;> (try (exfalso; omega))) | fail)
  refine ⟨Nat, fun n => n ≤ r.length ∧ impN l r b r.length = impN l r b n, fun n => [(0, .ptr 0 [] 1 0 0), (1, .imm 1 (rowI (r.take n))), (2, .lit (.string b))], fun _ => [(0, true, 1, [[.imm 6 (rowN l)]])], fun n => n, ⟨[], r.length, ⟨Nat.le_refl _, rfl⟩, ⟨rfl, rfl⟩, ⟨by first | rfl | fail, congrArg (V.imm 1) (by rw [List.take_length]), by first | rfl | fail, trivial⟩, boxEq rfl, trivial⟩, ?_⟩
  intro n ⟨hn, hh⟩
  have hlen : List.length (rowI (r.take n)) = n := by rw [List.length_map, List.length_take]; omega
  have hlen2 : (r.take n).length = n := by rw [List.length_take]; omega
  by_cases h1 : 1 < n
  · have e1 : rdD (r.take n) ((List.length (rowI (r.take n)) : Int) - 1) = rdD r ((n : Int) - 1) := by rw [hlen, rdD_take r n _ (by omega) (by omega) hn]
    have hin : 0 ≤ rdD (r.take n) ((List.length (rowI (r.take n)) : Int) - 1) ∧ rdD (r.take n) ((List.length (rowI (r.take n)) : Int) - 1) ≤ (l.length : Int) - 1 := by rw [e1]; exact rdD_in hv _ (by omega) (by omega)
    have hnm := nm_at hq _ hin.1 hin.2
    have hIF := F_i_IsImplied (rdD l (rdD (r.take n) ((List.length (rowI (r.take n)) : Int) - 1))).2.1 hnm
    rw [impN_pos _ _ _ n h1] at hh
    have e2 : rdD (r.take n) (((min n r.length : Nat) : Int) - 1) = rdD r ((n : Int) - 1) := by rw [Nat.min_eq_left hn, rdD_take r n _ (by omega) (by omega) hn]
    have hcut : List.drop (Int.toNat 0) (List.take ((List.length (rowI (r.take n)) : Int) - 1).toNat (rowI (r.take n))) = rowI (r.take (n - 1)) := by
      rw [hlen, show Int.toNat 0 = 0 from rfl, List.drop_zero, ← List.map_take, List.take_take]
      congr 2
      omega
    repeat' ((conv => whnf); first | (refine iteB_dec (fun h => ?_) (fun h => ?_) <;> (try simp (disch := (first | omega | fail)) only [modAt, List.length_take, List.length_drop, List.length_map, List.length_append, List.length_set, List.length_replicate, len_rowsPart, len_setCell, len_marks, len_markL, len_byR, len_mkL, len_marksN, len_bytesI, len_seenI, len_appB] at h) <;> (try (exfalso; omega))) | (refine iteB_not ?_) | (refine iteB_of (fun h => ?_) (fun h => ?_)) | (refine Exists.intro _ (And.intro rfl ?_)) | (refine wrapB_i64 (by first | omega | fail) (by first | omega | fail) ?_) | (refine And.intro (by first | exact True.intro | decide +kernel | omega | fail) ?_) | (refine Exists.intro _ (And.intro (rowGetI _ _ _ (by omega) (by omega)) ?_)) | (refine Or.inl (And.intro (by decide +kernel) ?_)) | (refine Or.inl ?_; apply callV_i; (repeat ((conv => whnf); first | refine And.intro (by first | omega | fail) ?_ | fail)); ((conv => whnf); first | exact FnB.mk (hIF) | fail); refine ⟨rfl, rfl, ?_⟩) | fail)
    · refine .mk ⟨trivial, [], ⟨rfl, ?_⟩, List.nodup_nil, rfl, ⟨outOk_top (b := 0) (by decide) rfl rfl rfl, trivial⟩⟩
      show V.imm 1 (rowI (r.take n)) = _
      rw [hh, if_neg (impQ_no2 (by rw [← e2]; assumption))]
    · rw [if_pos (impQ_yes (by rw [← e1]; assumption) (by rw [← e2]; assumption))] at hh
      exact ⟨[], n - 1, ⟨by omega, hh⟩, ⟨⟨rfl, rfl⟩, ⟨by first | rfl | fail, congrArg (V.imm 1) hcut, by first | rfl | fail, trivial⟩, boxEq rfl, trivial⟩, by first | (dsimp only; omega) | fail⟩
    · refine .mk ⟨trivial, [], ⟨rfl, ?_⟩, List.nodup_nil, rfl, ⟨outOk_top (b := 0) (by decide) rfl rfl rfl, trivial⟩⟩
      show V.imm 1 (rowI (r.take n)) = _
      rw [hh, if_neg (impQ_no1 (by rw [← e1]; assumption))]
  · rw [impN_one _ _ _ n h1] at hh
    rw [hh]
    repeat' ((conv => whnf); first | (refine iteB_dec (fun h => ?_) (fun h => ?_) <;> (try simp (disch := (first | omega | fail)) only [modAt, List.length_take, List.length_drop, List.length_map, List.length_append, List.length_set, List.length_replicate, len_rowsPart, len_setCell, len_marks, len_markL, len_byR, len_mkL, len_marksN, len_bytesI, len_seenI, len_appB] at h) <;> (try (exfalso; omega))) | fail)
    refine .mk ⟨trivial, [], ⟨rfl, ?_⟩, List.nodup_nil, rfl, ⟨outOk_top (b := 0) (by decide) rfl rfl rfl, trivial⟩⟩
    rfl
theorem F_s_l10Implied (l : List Nd) (r : List Int) (b : ByteArray) (hl : l.length ≤ 140737488351232) (hr : r.length * 8 ≤ 140737488351232) (hq : ∀ x ∈ l, x.2.1.size ≤ 1048576) (hv : ∀ x ∈ r, 0 ≤ x ∧ x ≤ (l.length : Int) - 1) : Fn pg 79 [sTr l, .imm 1 (rowI r), .lit (.string b)] [] (.sl 500 [] 1 0 (r.take (impN l r b r.length)).length) [(500, false, 1, rowI (r.take (impN l r b r.length)))] := by
  refine Fn.ofN [0,1,2,3,6,7,38] [1003,1006,1041,1044,1045] Try.func79 (by rfl) rfl (by show 3 ≤ 46; decide) (by rfl) ?_
  repeat' ((conv => whnf); first | (refine Exists.intro _ (And.intro rfl ?_)) | fail)
  refine ⟨Nat, fun n => n ≤ r.length ∧ impN l r b r.length = impN l r b n, fun n => [(1, .imm 1 (rowI r)), (2, .lit (.string b)), (3, .ptr 1003 [] 1 0 0), (7, .lit (.int .i64 n))], fun _ => [(1003, true, 1, [[.imm 6 (rowN l)]])], fun n => n, ⟨[], r.length, ⟨Nat.le_refl _, rfl⟩, ⟨rfl, rfl⟩, ⟨by first | rfl | fail, by first | rfl | fail, by first | rfl | fail, by first | (show V.lit (Value.int _ _) = V.lit (Value.int _ _); first | (congr 2; first | (simp only [List.length_map]; done) | fail) | fail) | fail, trivial⟩, boxEq rfl, trivial⟩, ?_⟩
  intro n ⟨hn, hh⟩
  by_cases h1 : 1 < n
  · have hin := rdD_in hv ((n : Int) - 1) (by omega) (by omega)
    have hnm := nm_at hq _ hin.1 hin.2
    have hIF := F_s_IsImplied (rdD l (rdD r ((n : Int) - 1))).2.1 hnm
    rw [impN_pos _ _ _ n h1] at hh
    repeat' ((conv => whnf); first | (refine iteB_dec (fun h => ?_) (fun h => ?_) <;> (try simp (disch := (first | omega | fail)) only [modAt, List.length_take, List.length_drop, List.length_map, List.length_append, List.length_set, List.length_replicate, len_rowsPart, len_setCell, len_marks, len_markL, len_byR, len_mkL, len_marksN, len_bytesI, len_seenI, len_appB] at h) <;> (try (exfalso; omega))) | (refine iteB_of (fun h => ?_) (fun h => ?_)) | (refine Exists.intro _ (And.intro rfl ?_)) | (refine wrapB_i64 (by first | omega | fail) (by first | omega | fail) ?_) | (refine And.intro (by first | exact True.intro | exact Nat.le_refl _ | decide +kernel | omega | (simp (disch := (first | omega | fail)) only [modAt, List.length_take, List.length_drop, List.length_map, List.length_append, List.length_set, List.length_replicate, len_rowsPart, len_setCell, len_marks, len_markL, len_byR, len_mkL, len_marksN, len_bytesI, len_seenI, len_appB]; first | omega | fail) | (apply litDT; (repeat rfl); done) | fail) ?_) | (refine Exists.intro _ (And.intro (rowGetI _ _ _ (by omega) (by omega)) ?_)) | (refine Or.inl (And.intro (by decide +kernel) ?_)) | (apply callQ_i; (repeat ((conv => whnf); first | refine And.intro (by first | omega | fail) ?_ | fail)); ((conv => whnf); apply Exists.intro; (first | exact FnB.mk (hIF) | fail))) | fail)
    · rw [if_pos (impQ_yes (by assumption) (by assumption))] at hh
      exact ⟨[], n - 1, ⟨by omega, hh⟩, ⟨⟨rfl, rfl⟩, ⟨by first | rfl | fail, by first | rfl | fail, by first | rfl | fail, by first | (show V.lit (Value.int _ _) = V.lit (Value.int _ _); first | (congr 2; first | omega | fail) | fail) | fail, trivial⟩, boxEq rfl, trivial⟩, by first | (dsimp only; omega) | fail⟩
    · have e : List.drop 0 (List.take (n : Int).toNat (rowI r)) = rowI (r.take n) := by rw [List.drop_zero, ← List.map_take, Int.toNat_natCast]
      refine .mk ⟨trivial, [1041], ⟨rfl, ?_⟩, by simp, rfl, ?_⟩
      · show V.sl 500 [] 1 0 (List.drop 0 (List.take (n : Int).toNat (rowI r))).length = _
        rw [e, List.length_map, hh, if_neg (impQ_no2 (Decidable.not_not.1 (by assumption)))]
      · refine ⟨outOk_new (d := 1041) (by decide) rfl ?_, trivial⟩
        show some (false, 1, List.drop 0 (List.take (n : Int).toNat (rowI r))) = _
        rw [e, hh, if_neg (impQ_no2 (Decidable.not_not.1 (by assumption)))]
    · have e : List.drop 0 (List.take (n : Int).toNat (rowI r)) = rowI (r.take n) := by rw [List.drop_zero, ← List.map_take, Int.toNat_natCast]
      refine .mk ⟨trivial, [1041], ⟨rfl, ?_⟩, by simp, rfl, ?_⟩
      · show V.sl 500 [] 1 0 (List.drop 0 (List.take (n : Int).toNat (rowI r))).length = _
        rw [e, List.length_map, hh, if_neg (impQ_no1 (by assumption))]
      · refine ⟨outOk_new (d := 1041) (by decide) rfl ?_, trivial⟩
        show some (false, 1, List.drop 0 (List.take (n : Int).toNat (rowI r))) = _
        rw [e, hh, if_neg (impQ_no1 (by assumption))]
  · rw [impN_one _ _ _ n h1] at hh
    rw [hh]
    repeat' ((conv => whnf); first | (refine iteB_dec (fun h => ?_) (fun h => ?_) <;> (try simp (disch := (first | omega | fail)) only [modAt, List.length_take, List.length_drop, List.length_map, List.length_append, List.length_set, List.length_replicate, len_rowsPart, len_setCell, len_marks, len_markL, len_byR, len_mkL, len_marksN, len_bytesI, len_seenI, len_appB] at h) <;> (try (exfalso; omega))) | (refine And.intro (by first | exact True.intro | exact Nat.le_refl _ | decide +kernel | omega | (simp (disch := (first | omega | fail)) only [modAt, List.length_take, List.length_drop, List.length_map, List.length_append, List.length_set, List.length_replicate, len_rowsPart, len_setCell, len_marks, len_markL, len_byR, len_mkL, len_marksN, len_bytesI, len_seenI, len_appB]; first | omega | fail) | (apply litDT; (repeat rfl); done) | fail) ?_) | (refine Or.inl (And.intro (by decide +kernel) ?_)) | fail)
    · have e : List.drop 0 (List.take (n : Int).toNat (rowI r)) = rowI (r.take n) := by rw [List.drop_zero, ← List.map_take, Int.toNat_natCast]
      refine .mk ⟨trivial, [1041], ⟨rfl, ?_⟩, by simp, rfl, ?_⟩
      · show V.sl 500 [] 1 0 (List.drop 0 (List.take (n : Int).toNat (rowI r))).length = _
        rw [e, List.length_map]
      · refine ⟨outOk_new (d := 1041) (by decide) rfl ?_, trivial⟩
        show some (false, 1, List.drop 0 (List.take (n : Int).toNat (rowI r))) = _
        rw [e]
def popImpV (l : List Nd) (r : List Int) (b : ByteArray) : List Int := if stackOk l r = true then r.take (impN l r b r.length) else r
theorem F_i_PopImplied (l : List Nd) (r : List Int) (b : ByteArray) (hl : l.length ≤ 140737488351232) (hp : ∀ x ∈ l, ndSm x) (hr : r.length * 8 ≤ 140737488351232) (hq : ∀ x ∈ l, x.2.1.size ≤ 1048576) : Fn pg 44 [sTr l, .imm 1 (rowI r), .lit (.string b)] [] (.sl 500 [] 1 0 (popImpV l r b).length) [(500, false, 1, rowI (popImpV l r b))] := by
  have hS := F_i_StackOk l r hl hp (by omega)
  cases hok : stackOk l r with
  | true =>
    rw [hok] at hS
    rw [show popImpV l r b = r.take (impN l r b r.length) from if_pos hok]
    have hC := F_i_Tree_popImplied l r b hl (by omega) hq (stackOk_in hok)
    have hK := F_slices_Clone_int_int (r.take (impN l r b r.length)) (by rw [List.length_take]; omega)
    refine Fn.ofN [0,1,2,3,6,10] [1003,1006,1012,1015,1016] Try.func44 (by rfl) rfl (by show 3 ≤ 17; decide) (by rfl) ?_
    repeat' ((conv => whnf); first | (refine Exists.intro _ (And.intro rfl ?_)) | (refine And.intro (by first | exact True.intro | (simp (disch := (first | omega | fail)) only [modAt, List.length_take, List.length_drop, List.length_map, List.length_append, List.length_set, List.length_replicate, len_rowsPart, len_setCell, len_marks, len_markL, len_byR, len_mkL, len_marksN, len_bytesI, len_seenI, len_appB]; first | done | fail) | fail) ?_) | (refine Or.inl ?_; apply callV_i; (repeat ((conv => whnf); first | refine Exists.intro _ (And.intro rfl ?_) | fail)); ((conv => whnf); first | exact FnB.mk (hS) | exact FnB.mk (hK) | fail); refine ⟨rfl, rfl, ?_⟩) | (refine Or.inr (Or.inr (callA_ok ?_)); (conv => whnf); apply Exists.intro; apply Exists.intro; apply And.intro; (repeat ((conv => whnf); first | refine And.intro (by first | omega | fail) ?_ | fail)); ((conv => whnf); first | exact FnB.mk (hC) | fail); refine ⟨rfl, ?_⟩) | fail)
    refine .mk ⟨trivial, [1016], ⟨rfl, ?_⟩, by simp, rfl, ?_⟩
    · rfl
    · exact ⟨outOk_new (d := 1016) (by decide) rfl rfl, trivial⟩
  | false =>
    rw [hok] at hS
    rw [show popImpV l r b = r from if_neg (by rw [hok]; decide)]
    refine Fn.ofN [0,1,2,3,6,10] [1003,1006,1012,1015,1016] Try.func44 (by rfl) rfl (by show 3 ≤ 17; decide) (by rfl) ?_
    repeat' ((conv => whnf); first | (refine Exists.intro _ (And.intro rfl ?_)) | (refine Or.inl ?_; apply callV_i; (repeat ((conv => whnf); first | refine And.intro (by first | omega | fail) ?_ | fail)); ((conv => whnf); first | exact FnB.mk (hS) | exact FnB.mk (F_slices_Clone_int_int _ (by first | omega | fail)) | fail); refine ⟨rfl, rfl, ?_⟩) | fail)
    refine .mk ⟨trivial, [1012], ⟨rfl, ?_⟩, by simp, rfl, ?_⟩
    · rfl
    · exact ⟨outOk_new (d := 1012) (by decide) rfl rfl, trivial⟩
theorem F_s_PopImplied (l : List Nd) (r : List Int) (b : ByteArray) (hl : l.length ≤ 140737488351232) (hp : ∀ x ∈ l, ndSm x) (hr : r.length * 8 ≤ 140737488351232) (hq : ∀ x ∈ l, x.2.1.size ≤ 1048576) : Fn pg 43 [sTr l, .imm 1 (rowI r), .lit (.string b)] [] (.sl 500 [] 1 0 (popImpV l r b).length) [(500, false, 1, rowI (popImpV l r b))] := by
  have hS := F_s_StackOk l r hl hp (by omega)
  cases hok : stackOk l r with
  | true =>
    rw [hok] at hS
    rw [show popImpV l r b = r.take (impN l r b r.length) from if_pos hok]
    have hC := F_s_l10Implied l r b hl hr hq (stackOk_in hok)
    refine Fn.ofN [0,1,2,3,6,10] [1003,1006,1011,1013,1017] Try.func43 (by rfl) rfl (by show 3 ≤ 18; decide) (by rfl) ?_
    repeat' ((conv => whnf); first | (refine Exists.intro _ (And.intro rfl ?_)) | (refine Or.inl ?_; apply callV_i; (repeat ((conv => whnf); first | refine And.intro (by first | omega | fail) ?_ | fail)); ((conv => whnf); first | exact FnB.mk (hS) | exact FnB.mk (hC) | fail); refine ⟨rfl, rfl, ?_⟩) | fail)
    refine .mk ⟨trivial, [1017], ⟨rfl, ?_⟩, by simp, rfl, ?_⟩
    · rfl
    · exact ⟨outOk_new (d := 1017) (by decide) rfl rfl, trivial⟩
  | false =>
    rw [hok] at hS
    rw [show popImpV l r b = r from if_neg (by rw [hok]; decide)]
    refine Fn.ofN [0,1,2,3,6,10] [1003,1006,1011,1013,1017] Try.func43 (by rfl) rfl (by show 3 ≤ 18; decide) (by rfl) ?_
    repeat' ((conv => whnf); first | (refine Exists.intro _ (And.intro rfl ?_)) | (refine And.intro (by first | exact True.intro | exact Nat.le_refl _ | (simp (disch := (first | omega | fail)) only [modAt, List.length_take, List.length_drop, List.length_map, List.length_append, List.length_set, List.length_replicate, len_rowsPart, len_setCell, len_marks, len_markL, len_byR, len_mkL, len_marksN, len_bytesI, len_seenI, len_appB]; first | omega | fail) | (apply litI; (repeat rfl); done) | fail) ?_) | (refine Or.inl ?_; apply callV_i; (repeat ((conv => whnf); first | refine And.intro (by first | omega | fail) ?_ | fail)); ((conv => whnf); first | exact FnB.mk (hS) | fail); refine ⟨rfl, rfl, ?_⟩) | fail)
    refine .mk ⟨trivial, [1011], ⟨rfl, ?_⟩, by simp, rfl, ?_⟩
    · show V.sl 500 [] 1 0 (rowI r).length = _
      rw [List.length_map]
    · exact ⟨outOk_new (d := 1011) (by decide) rfl rfl, trivial⟩


theorem take_markL {α : Type} (E : α → List V) (f : Int → α) (k : Int) (n : Nat) : List.take n (List.drop 0 (List.map E (markL f k n))) = List.map E (markL f k n) := by
  rw [List.drop_zero, List.take_of_length_le (by rw [List.length_map, len_markL]; exact Nat.le_refl _)]
theorem F_l_FnExactPopImplied (t : List Nd) (r : List Int) (a : ByteArray) (ht : trS t) (hr : rwS r) : Fn pg 12 [sTr t, .imm 1 (rowI r), .lit (.string a)] [] (.lit (.bool true)) [] := by
  have ho := trS_ok ht
  obtain ⟨ht, _⟩ := ht
  obtain ⟨hr, _⟩ := hr
  have hZ := F_l_szTree t 1048576 (by omega) (by decide) (by decide) ho
  by_cases hz : 0 ≤ szTr t 1048576
  · have hsm := szTr_sm t hz
    have hnm := szTr_nm t hz
    have hst := (szTr_st t 1048576 (by decide) hz).2
    have hI := F_i_PopImplied t r a (by omega) hsm (by omega) hnm
    have hS := F_s_PopImplied t r a (by omega) hsm (by omega) hnm
    have hpl : (popImpV t r a).length ≤ r.length := by
      unfold popImpV
      split
      · rw [List.length_take]; omega
      · omega
    have hE := F_l_eqTree t t (by omega) (by omega) ho ho
    have hF := F_l_eqIntS r r (by omega) (by omega)
    have hF2 := F_l_eqIntS (popImpV t r a) (popImpV t r a) (by omega) (by omega)
    have hM := F_l_markTree t t.length 1 (Nat.le_refl _) (by omega) (by decide) (by omega) (fun x hx => by have := ho x hx; unfold ndOk at this; omega)
    rw [decide_eq_true rfl] at hE hF hF2
    rw [List.take_length] at hM
    refine Fn.ofN [0,1,2,3,6,7,8,9,10,11,12,13,14,15,18,21,26,44,49,54,68,76,79,89,94,97] [1003,1009,1028,1030,1032,1034,1036,1040,1047,1052,1081,1083,1085] Try.func12 (by rfl) rfl (by show 3 ≤ 98; decide) (by rfl) ?_
    repeat' ((conv => whnf); first | (refine iteB_dec (fun h => ?_) (fun h => ?_) <;> (try simp (disch := (first | omega | fail)) only [modAt, List.length_take, List.length_drop, List.length_map, List.length_append, List.length_set, List.length_replicate, len_rowsPart, len_setCell, len_marks, len_markL, len_byR, len_mkL, len_marksN, len_bytesI, len_seenI, len_appB] at h) <;> (try (exfalso; omega))) | (refine Exists.intro _ (And.intro rfl ?_)) | (refine And.intro (by first | exact True.intro | exact Nat.le_refl _ | (simp (disch := (first | omega | fail)) only [modAt, List.length_take, List.length_drop, List.length_map, List.length_append, List.length_set, List.length_replicate, len_rowsPart, len_setCell, len_marks, len_markL, len_byR, len_mkL, len_marksN, len_bytesI, len_seenI, len_appB]; first | done | fail) | fail) ?_) | (refine Or.inr (Exists.intro 5 (Exists.intro [(0, true), (1, true), (2, false), (3, false), (4, true)] (And.intro (by decide +kernel) ?_)))) | (refine Or.inl ?_; apply callV_i; (repeat ((conv => whnf); first | refine And.intro (by first | omega | (simp (disch := (first | omega | fail)) only [modAt, List.length_take, List.length_drop, List.length_map, List.length_append, List.length_set, List.length_replicate, len_rowsPart, len_setCell, len_marks, len_markL, len_byR, len_mkL, len_marksN, len_bytesI, len_seenI, len_appB]; first | omega | fail) | fail) ?_ | fail)); ((conv => whnf); first | exact FnB.mk (hZ) | exact FnB.mk (F_l_toTree _ (by first | omega | fail) (by first | omega | fail)) | exact FnB.mk (F_l_toIntS _ (by first | omega | fail)) | (simp (disch := (first | omega | fail)) only [takeAll, takeAll2, take_app, take_app2, take_marks, take_dropU, take_byR, take_takeU, take_marksN, take_markL]; first | exact FnB.mk (hI) | exact FnB.mk (hS) | exact FnB.mk (hE) | exact FnB.mk (hF) | exact FnB.mk (hF2) | exact FnB.mk (F_l_heldIntS_marked _ _ (by first | omega | fail) (by first | omega | fail) (by first | omega | fail)) | fail) | fail); refine ⟨rfl, rfl, ?_⟩) | (refine Or.inr (Or.inr (callA_ok ?_)); (conv => whnf); apply Exists.intro; apply Exists.intro; apply And.intro; (repeat ((conv => whnf); first | refine And.intro (by first | omega | fail) ?_ | fail)); ((conv => whnf); first | exact FnB.mk (hM) | exact FnB.mk (F_l_markIntS_all _ _ _ (by first | omega | fail) (by first | omega | fail) (by first | omega | fail) (by first | omega | fail)) | fail); refine ⟨rfl, ?_⟩) | fail)
    all_goals first | (exfalso; first | contradiction | fail) | (refine .mk ⟨trivial, [], ⟨rfl, rfl⟩, List.nodup_nil, rfl, trivial⟩) | fail
  · refine Fn.ofN [0,1,2,3,6,7,8,9,10,11,12,13,14,15,18,21,26,44,49,54,68,76,79,89,94,97] [1003,1009,1028,1030,1032,1034,1036,1040,1047,1052,1081,1083,1085] Try.func12 (by rfl) rfl (by show 3 ≤ 98; decide) (by rfl) ?_
    repeat' ((conv => whnf); first | (refine iteB_dec (fun h => ?_) (fun h => ?_) <;> (try simp (disch := (first | omega | fail)) only [modAt, List.length_take, List.length_drop, List.length_map, List.length_append, List.length_set, List.length_replicate, len_rowsPart, len_setCell, len_marks, len_markL, len_byR, len_mkL, len_marksN, len_bytesI, len_seenI, len_appB] at h) <;> (try (exfalso; omega))) | (refine Exists.intro _ (And.intro rfl ?_)) | (refine Or.inl ?_; apply callV_i; (repeat ((conv => whnf); first | refine And.intro (by first | omega | fail) ?_ | fail)); ((conv => whnf); first | exact FnB.mk (hZ) | fail); refine ⟨rfl, rfl, ?_⟩) | fail)
    all_goals first | (refine .mk ⟨trivial, [], ⟨rfl, rfl⟩, List.nodup_nil, rfl, trivial⟩) | fail


end Go.Proofs.Ytpojadoklfdfiaa.M

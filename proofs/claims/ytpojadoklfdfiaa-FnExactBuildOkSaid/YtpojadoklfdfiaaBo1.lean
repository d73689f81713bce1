/- Walks of the program's functions, by the small machine: what one law's proof needs. -/
import Derived.Test.YtpojadoklfdfiaaQ2
import Derived.Test.YtpojadoklfdfiaaL0
import Derived.Test.YtpojadoklfdfiaaHS
import Derived.Test.YtpojadoklfdfiaaBo0
namespace Go.Proofs.Ytpojadoklfdfiaa.M
open Go
set_option maxHeartbeats 1000000
set_option maxRecDepth 20000
set_option linter.unusedVariables false
set_option linter.unusedSimpArgs false
theorem F_s_TreeOk (l : List Nd) (hl : l.length ≤ 140737488351232) (hp : ∀ x ∈ l, ndSm x) : Fn pg 51 [sTr l] [] (.lit (.bool (treeS l))) [] := by
  have hI := F_s_l1In (rowN l).length 1 500
  by_cases hr : 1 ≤ l.length ∧ l.length ≤ 500
  · rw [show (decide ((1 : Int) ≤ (rowN l).length) && decide (((rowN l).length : Int) ≤ 500)) = true by simp; omega] at hI
    rw [show treeS l = loopS l l.length 0 (List.replicate l.length false) by unfold treeS; rw [show (decide (1 ≤ l.length) && decide (l.length ≤ 500)) = true by simp; omega]; rfl]
    refine Fn.ofN [0,1,2,3,4,5,6,7,8,9,10,11,17,22,57,62,90,96,110,113,118] [1001,1006,1019] Try.func51 (by rfl) rfl (by show 1 ≤ 125; decide) (by rfl) ?_
    repeat' ((conv => whnf); first | (refine Exists.intro _ (And.intro rfl ?_)) | (refine And.intro (by first | exact True.intro | omega | (simp (disch := (first | omega | fail)) only [modAt, List.length_take, List.length_drop, List.length_map, List.length_append, List.length_set, List.length_replicate, len_rowsPart, len_setCell, len_marks, len_markL, len_byR, len_mkL, len_marksN, len_bytesI, len_seenI]; first | omega | fail) | fail) ?_) | (refine Or.inl ?_; apply callV_i; (repeat ((conv => whnf); first | refine And.intro (by first | omega | fail) ?_ | fail)); ((conv => whnf); first | exact FnB.mk (hI) | fail); refine ⟨rfl, rfl, ?_⟩) | fail)
    refine ⟨Nat × List Bool, fun x => ((x.1 ≤ l.length ∧ x.2.length = l.length) ∧ ∀ j : Nat, j < x.1 → -1 ≤ par l (j : Int) ∧ par l (j : Int) ≤ (l.length : Int) - 1) ∧ loopS l l.length 0 (List.replicate l.length false) = loopS l (l.length - x.1) x.1 x.2, fun x => [(1, .ptr 1001 [] 1 0 0), (3, .lit (.int .i64 l.length)), (4, .sl 1019 [] 1 0 l.length), (5, .lit (.int .i64 x.1))], fun x => [(1001, true, 1, [[.imm 6 (rowN l)]]), (1019, false, 1, rowBo x.2)], fun x => l.length - x.1, ⟨[], (0, List.replicate l.length false), by simp, ⟨rfl, rfl⟩, ⟨by first | rfl | fail, by first | (show V.lit (Value.int _ _) = V.lit (Value.int _ _); first | (congr 2; first | (simp only [List.length_map]; done) | fail) | fail) | fail, by first | (exact slEq (by first | (simp; done) | fail)) | fail, by first | rfl | fail, trivial⟩, boxEq rfl, boxEq ?_, trivial⟩, ?_⟩
    · simp [renRow]
    intro y ⟨⟨⟨hi, hs⟩, hrg⟩, hh⟩
    by_cases hlt : y.1 < l.length
    · have hN := F_s_l6Node l[y.1] (hp _ (List.getElem_mem hlt))
      replace hh := hh.trans (loopS_step l y.1 y.2 hlt)
      repeat' ((conv => whnf); first | (refine iteB_dec (fun h => ?_) (fun h => ?_) <;> (try simp (disch := (first | omega | fail)) only [modAt, List.length_take, List.length_drop, List.length_map, List.length_append, List.length_set, List.length_replicate, len_rowsPart, len_setCell, len_marks, len_markL, len_byR, len_mkL, len_marksN, len_bytesI, len_seenI] at h) <;> (try (exfalso; omega))) | (refine iteB_not ?_) | (refine iteB_of (fun h => ?_) (fun h => ?_)) | (refine Exists.intro _ (And.intro rfl ?_)) | (refine wrapB_i64 (by first | omega | fail) (by first | omega | fail) ?_) | (refine And.intro (by first | exact True.intro | exact Nat.le_refl _ | omega | fail) ?_) | (refine Exists.intro _ (And.intro (rowGet _ _ _ (by omega)) ?_)) | (refine Or.inl ?_; apply callV_i; (repeat ((conv => whnf); first | refine And.intro (by first | omega | fail) ?_ | fail)); ((conv => whnf); first | exact FnB.mk (hN) | exact FnB.mk (F_s_l1In _ _ _) | fail); refine ⟨rfl, rfl, ?_⟩) | fail)
      all_goals first | skip | fail
      · (refine .mk ⟨trivial, [], ⟨rfl, ?_⟩, List.nodup_nil, rfl, trivial⟩; show V.lit _ = V.lit _)
        rw [hh, if_neg (nodeS_no2 hlt (by assumption))]
      · (refine .mk ⟨trivial, [], ⟨rfl, ?_⟩, List.nodup_nil, rfl, trivial⟩; show V.lit _ = V.lit _)
        rw [hh, if_neg (nodeS_no4 hlt (by assumption) (by assumption))]
      rotate_left 2
      · (refine .mk ⟨trivial, [], ⟨rfl, ?_⟩, List.nodup_nil, rfl, trivial⟩; show V.lit _ = V.lit _)
        rw [hh, if_neg (nodeS_no3 hlt (by assumption))]
      · (refine .mk ⟨trivial, [], ⟨rfl, ?_⟩, List.nodup_nil, rfl, trivial⟩; show V.lit _ = V.lit _)
        rw [hh, if_neg (nodeS_no1 hlt (by assumption))]
      all_goals
        have hS : nodeS l (y.1 : Int) = true := nodeS_yes hlt (by assumption) (by assumption) (by assumption) (by first | exact .inl (by assumption) | exact .inr (by assumption) | fail)
        rw [if_pos hS] at hh
        clear hN
        refine ⟨Nat × List Bool, fun x => (x.1 ≤ l[y.1].2.2.2.2.2.length ∧ x.2.length = l.length) ∧ loopS l l.length 0 (List.replicate l.length false) = loopJ l y.1 (l[y.1].2.2.2.2.2.drop x.1) x.2, fun x => [(1, .ptr 1001 [] 1 0 0), (3, .lit (.int .i64 l.length)), (4, .sl 1019 [] 1 0 l.length), (5, .lit (.int .i64 y.1)), (6, .ptr 1006 [] 6 0 0), (7, .lit (.int .i64 x.1))], fun x => [(1001, true, 1, [[.imm 6 (rowN l)]]), (1019, false, 1, rowBo x.2), (1006, true, 6, [sNd l[y.1]])], fun x => l[y.1].2.2.2.2.2.length - x.1, ⟨[], (0, y.2), ⟨⟨Nat.zero_le _, hs⟩, hh⟩, ⟨rfl, rfl⟩, ⟨by first | rfl | fail, by first | rfl | fail, by first | rfl | fail, by first | rfl | fail, by first | rfl | fail, by first | rfl | fail, trivial⟩, boxEq rfl, boxEq rfl, boxEq rfl, trivial⟩, ?_⟩
        intro v ⟨⟨hj, hz⟩, hn⟩
        have hkl := (hp _ (List.getElem_mem hlt)).2.2.2
        by_cases hlj : v.1 < l[y.1].2.2.2.2.2.length
        · rw [drop_cons _ _ hlj, loopJ_cons] at hn
          have hI2 := F_s_l1In l[y.1].2.2.2.2.2[v.1] 1 ((l.length : Int) - 1)
          by_cases hin : 1 ≤ l[y.1].2.2.2.2.2[v.1] ∧ l[y.1].2.2.2.2.2[v.1] ≤ (l.length : Int) - 1
          · rw [show (decide (1 ≤ l[y.1].2.2.2.2.2[v.1]) && decide (l[y.1].2.2.2.2.2[v.1] ≤ (l.length : Int) - 1)) = true by simp [hin]] at hI2
            repeat' ((conv => whnf); first | (refine iteB_dec (fun h => ?_) (fun h => ?_) <;> (try simp (disch := (first | omega | fail)) only [modAt, List.length_take, List.length_drop, List.length_map, List.length_append, List.length_set, List.length_replicate, len_rowsPart, len_setCell, len_marks, len_markL, len_byR, len_mkL, len_marksN, len_bytesI, len_seenI] at h) <;> (try (exfalso; omega))) | (refine iteB_of (fun h => ?_) (fun h => ?_)) | (refine Exists.intro _ (And.intro rfl ?_)) | (refine wrapB_i64 (by first | omega | fail) (by first | omega | fail) ?_) | (refine And.intro (by first | exact True.intro | omega | (simp (disch := (first | omega | fail)) only [modAt, List.length_take, List.length_drop, List.length_map, List.length_append, List.length_set, List.length_replicate, len_rowsPart, len_setCell, len_marks, len_markL, len_byR, len_mkL, len_marksN, len_bytesI, len_seenI]; first | omega | fail) | fail) ?_) | (refine Exists.intro _ (And.intro (get_bo _ _ (by first | omega | fail) (by first | omega | fail)) ?_)) | (refine Exists.intro _ (And.intro (rowGet _ _ _ (by omega)) ?_)) | (refine Exists.intro _ (And.intro (rowGetI _ _ _ (by omega) (by omega)) ?_)) | (refine Exists.intro _ (And.intro (by first | exact (get_mapIC _ _ _ _ _ (by first | omega | fail) (by exact rfl)) | fail) ?_)) | (refine Or.inl ?_; apply callV_i; (repeat ((conv => whnf); first | refine And.intro (by first | omega | fail) ?_ | fail)); ((conv => whnf); first | exact FnB.mk (hI2) | fail); refine ⟨rfl, rfl, ?_⟩) | fail)
            all_goals first | skip | fail
            · (refine .mk ⟨trivial, [], ⟨rfl, ?_⟩, List.nodup_nil, rfl, trivial⟩; show V.lit _ = V.lit _)
              rw [hn, kidS_no3 (by assumption)]; rfl
            · (refine .mk ⟨trivial, [], ⟨rfl, ?_⟩, List.nodup_nil, rfl, trivial⟩; show V.lit _ = V.lit _)
              rw [hn, kidC_no2 (by assumption)]; rfl
            · rw [kidS_yes hin (Decidable.not_not.1 (by assumption)) (by assumption), if_pos rfl] at hn
              refine ⟨[], (v.1 + 1, v.2.set l[y.1].2.2.2.2.2[v.1].toNat true), ⟨⟨by omega, by simpa using hz⟩, hn⟩, ⟨⟨rfl, rfl⟩, ⟨by first | rfl | fail, by first | rfl | fail, by first | rfl | fail, by first | rfl | fail, by first | rfl | fail, by first | rfl | fail, trivial⟩, boxEq rfl, boxEq ?_, boxEq rfl, trivial⟩, by first | (dsimp only; omega) | fail⟩
              show setCell (rowBo v.2) (l[y.1].2.2.2.2.2[v.1].toNat + 0) 0 (.lit (.bool true)) = rowBo (v.2.set l[y.1].2.2.2.2.2[v.1].toNat true)
              exact bo_store v.2 _ (by omega) (by omega)
          · rw [show (decide (1 ≤ l[y.1].2.2.2.2.2[v.1]) && decide (l[y.1].2.2.2.2.2[v.1] ≤ (l.length : Int) - 1)) = false by simp only [Bool.and_eq_false_iff, decide_eq_false_iff_not]; omega] at hI2
            repeat' ((conv => whnf); first | (refine iteB_dec (fun h => ?_) (fun h => ?_) <;> (try simp (disch := (first | omega | fail)) only [modAt, List.length_take, List.length_drop, List.length_map, List.length_append, List.length_set, List.length_replicate, len_rowsPart, len_setCell, len_marks, len_markL, len_byR, len_mkL, len_marksN, len_bytesI, len_seenI] at h) <;> (try (exfalso; omega))) | (refine Exists.intro _ (And.intro rfl ?_)) | (refine wrapB_i64 (by first | omega | fail) (by first | omega | fail) ?_) | (refine And.intro (by first | exact True.intro | omega | fail) ?_) | (refine Exists.intro _ (And.intro (rowGet _ _ _ (by omega)) ?_)) | (refine Or.inl ?_; apply callV_i; (repeat ((conv => whnf); first | refine And.intro (by first | omega | fail) ?_ | fail)); ((conv => whnf); first | exact FnB.mk (hI2) | fail); refine ⟨rfl, rfl, ?_⟩) | fail)
            all_goals first | skip | fail
            (refine .mk ⟨trivial, [], ⟨rfl, ?_⟩, List.nodup_nil, rfl, trivial⟩; show V.lit _ = V.lit _)
            rw [hn, kidS_no1 hin]; rfl
        · have hjl : v.1 = l[y.1].2.2.2.2.2.length := by omega
          rw [List.drop_of_length_le (by omega), loopJ_nil] at hn
          repeat' ((conv => whnf); first | (refine iteB_dec (fun h => ?_) (fun h => ?_) <;> (try simp (disch := (first | omega | fail)) only [modAt, List.length_take, List.length_drop, List.length_map, List.length_append, List.length_set, List.length_replicate, len_rowsPart, len_setCell, len_marks, len_markL, len_byR, len_mkL, len_marksN, len_bytesI, len_seenI] at h) <;> (try (exfalso; omega))) | (refine Exists.intro _ (And.intro rfl ?_)) | (refine wrapB_i64 (by first | omega | fail) (by first | omega | fail) ?_) | fail)
          all_goals first | skip | fail
          refine ⟨[], (y.1 + 1, v.2), ⟨⟨⟨by omega, hz⟩, fun j hj2 => ?_⟩, hn⟩, ⟨⟨rfl, rfl⟩, ⟨by first | rfl | fail, by first | rfl | fail, by first | rfl | fail, by first | rfl | fail, trivial⟩, boxEq rfl, boxEq rfl, trivial⟩, by first | (dsimp only; omega) | fail⟩
          by_cases e : j = y.1
          · rw [e]; exact nodeS_rng l y.1 hlt hS
          · exact hrg j (by omega)
    · have hil : y.1 = l.length := by omega
      rw [hil, Nat.sub_self, loopS] at hh
      repeat' ((conv => whnf); first | (refine iteB_dec (fun h => ?_) (fun h => ?_) <;> (try simp (disch := (first | omega | fail)) only [modAt, List.length_take, List.length_drop, List.length_map, List.length_append, List.length_set, List.length_replicate, len_rowsPart, len_setCell, len_marks, len_markL, len_byR, len_mkL, len_marksN, len_bytesI, len_seenI] at h) <;> (try (exfalso; omega))) | fail)
      all_goals first | skip | fail
      refine ⟨Nat, fun k => k ≤ l.length ∧ loopS l l.length 0 (List.replicate l.length false) = lastS l y.2 (l.length - k) k, fun k => [(1, .ptr 1001 [] 1 0 0), (3, .lit (.int .i64 l.length)), (4, .sl 1019 [] 1 0 l.length), (9, .lit (.int .i64 k))], fun _ => [(1001, true, 1, [[.imm 6 (rowN l)]]), (1019, false, 1, rowBo y.2)], fun k => l.length - k, ⟨[], 0, ⟨Nat.zero_le _, hh⟩, ⟨rfl, rfl⟩, ⟨by first | rfl | fail, by first | rfl | fail, by first | rfl | fail, by first | rfl | fail, trivial⟩, boxEq rfl, boxEq rfl, trivial⟩, ?_⟩
      intro k ⟨hk, hn⟩
      by_cases hlk : k < l.length
      · rw [lastS_step l y.2 k hlk] at hn
        repeat' ((conv => whnf); first | (refine iteB_dec (fun h => ?_) (fun h => ?_) <;> (try simp (disch := (first | omega | fail)) only [modAt, List.length_take, List.length_drop, List.length_map, List.length_append, List.length_set, List.length_replicate, len_rowsPart, len_setCell, len_marks, len_markL, len_byR, len_mkL, len_marksN, len_bytesI, len_seenI] at h) <;> (try (exfalso; omega))) | (refine Exists.intro _ (And.intro rfl ?_)) | (refine And.intro (by first | exact True.intro | omega | fail) ?_) | (refine Exists.intro _ (And.intro (get_bo _ _ (by first | omega | fail) (by first | omega | fail)) ?_)) | (refine Exists.intro _ (And.intro (rowGet _ _ _ (by omega)) ?_)) | (refine Or.inl (And.intro (by decide +kernel) ?_)) | fail)
        all_goals first | skip | fail
        · (refine .mk ⟨trivial, [], ⟨rfl, ?_⟩, List.nodup_nil, rfl, trivial⟩; show V.lit _ = V.lit _)
          rw [hn, show (rdOf false y.2 (k : Int) == decide (l[k].2.2.2.2.1 ≥ 0)) = false from beq_eq_false_iff_ne.2 (by assumption)]; rfl
        · rw [show (rdOf false y.2 (k : Int) == decide (l[k].2.2.2.2.1 ≥ 0)) = true from beq_iff_eq.2 (Decidable.not_not.1 (by assumption)), Bool.true_and] at hn
          refine ⟨Nat × Int, fun x => ((x.1 ≤ l.length + 1) ∧ -1 ≤ x.2 ∧ x.2 ≤ (l.length : Int) - 1) ∧ loopS l l.length 0 (List.replicate l.length false) = (chS l (l.length + 1 - x.1) x.2 && lastS l y.2 (l.length - (k + 1)) (k + 1)), fun x => [(1, .ptr 1001 [] 1 0 0), (3, .lit (.int .i64 l.length)), (4, .sl 1019 [] 1 0 l.length), (9, .lit (.int .i64 k)), (10, .lit (.int .i64 x.2)), (11, .lit (.int .i64 x.1))], fun _ => [(1001, true, 1, [[.imm 6 (rowN l)]]), (1019, false, 1, rowBo y.2)], fun x => l.length + 1 - x.1, ⟨[], (0, (k : Int)), ⟨⟨Nat.zero_le _, by omega, by omega⟩, hn⟩, ⟨rfl, rfl⟩, ⟨by first | rfl | fail, by first | rfl | fail, by first | rfl | fail, by first | rfl | fail, by first | rfl | fail, by first | rfl | fail, trivial⟩, boxEq rfl, boxEq rfl, trivial⟩, ?_⟩
          intro v ⟨⟨hj, hv1, hv2⟩, hm⟩
          by_cases hu : 0 ≤ v.2
          · have hru : -1 ≤ (rdD l v.2).2.2.2.2.1 ∧ (rdD l v.2).2.2.2.2.1 ≤ (l.length : Int) - 1 := by
              have := hrg v.2.toNat (by omega)
              rw [show ((v.2.toNat : Nat) : Int) = v.2 by omega] at this
              exact this
            by_cases hjn : v.1 ≤ l.length
            · rw [show l.length + 1 - v.1 = (l.length + 1 - (v.1 + 1)) + 1 by omega, chS_up l _ _ hu] at hm
              repeat' ((conv => whnf); first | (refine iteB_dec (fun h => ?_) (fun h => ?_) <;> (try simp (disch := (first | omega | fail)) only [modAt, List.length_take, List.length_drop, List.length_map, List.length_append, List.length_set, List.length_replicate, len_rowsPart, len_setCell, len_marks, len_markL, len_byR, len_mkL, len_marksN, len_bytesI, len_seenI] at h) <;> (try (exfalso; omega))) | (refine Exists.intro _ (And.intro rfl ?_)) | (refine wrapB_i64 (by first | omega | fail) (by first | omega | fail) ?_) | (refine And.intro (by first | exact True.intro | omega | fail) ?_) | (refine Exists.intro _ (And.intro (rowGetI _ _ _ (by omega) (by omega)) ?_)) | fail)
              exact ⟨[], (v.1 + 1, (rdD l v.2).2.2.2.2.1), ⟨⟨by omega, hru⟩, hm⟩, ⟨⟨rfl, rfl⟩, ⟨by first | rfl | fail, by first | rfl | fail, by first | rfl | fail, by first | rfl | fail, by first | rfl | fail, by first | rfl | fail, trivial⟩, boxEq rfl, boxEq rfl, trivial⟩, by first | (dsimp only; omega) | fail⟩
            · rw [show l.length + 1 - v.1 = 0 by omega, chS_over l _ hu] at hm
              repeat' ((conv => whnf); first | (refine iteB_dec (fun h => ?_) (fun h => ?_) <;> (try simp (disch := (first | omega | fail)) only [modAt, List.length_take, List.length_drop, List.length_map, List.length_append, List.length_set, List.length_replicate, len_rowsPart, len_setCell, len_marks, len_markL, len_byR, len_mkL, len_marksN, len_bytesI, len_seenI] at h) <;> (try (exfalso; omega))) | fail)
              (refine .mk ⟨trivial, [], ⟨rfl, ?_⟩, List.nodup_nil, rfl, trivial⟩; show V.lit _ = V.lit _)
              rw [hm]; rfl
          · rw [chS_top l _ _ hu, Bool.true_and] at hm
            repeat' ((conv => whnf); first | (refine iteB_dec (fun h => ?_) (fun h => ?_) <;> (try simp (disch := (first | omega | fail)) only [modAt, List.length_take, List.length_drop, List.length_map, List.length_append, List.length_set, List.length_replicate, len_rowsPart, len_setCell, len_marks, len_markL, len_byR, len_mkL, len_marksN, len_bytesI, len_seenI] at h) <;> (try (exfalso; omega))) | (refine wrapB_i64 (by first | omega | fail) (by first | omega | fail) ?_) | fail)
            exact ⟨[], k + 1, ⟨by omega, hm⟩, ⟨⟨rfl, rfl⟩, ⟨by first | rfl | fail, by first | rfl | fail, by first | rfl | fail, by first | rfl | fail, trivial⟩, boxEq rfl, boxEq rfl, trivial⟩, by first | (dsimp only; omega) | fail⟩
      · obtain rfl : k = l.length := by omega
        rw [Nat.sub_self, lastS] at hn
        repeat' ((conv => whnf); first | (refine iteB_dec (fun h => ?_) (fun h => ?_) <;> (try simp (disch := (first | omega | fail)) only [modAt, List.length_take, List.length_drop, List.length_map, List.length_append, List.length_set, List.length_replicate, len_rowsPart, len_setCell, len_marks, len_markL, len_byR, len_mkL, len_marksN, len_bytesI, len_seenI] at h) <;> (try (exfalso; omega))) | fail)
        all_goals first | skip | fail
        (refine .mk ⟨trivial, [], ⟨rfl, ?_⟩, List.nodup_nil, rfl, trivial⟩; show V.lit _ = V.lit _)
        rw [hn]
  · rw [show treeS l = false by unfold treeS; rw [show (decide (1 ≤ l.length) && decide (l.length ≤ 500)) = false by simp only [Bool.and_eq_false_iff, decide_eq_false_iff_not]; omega]; rfl]
    rw [show (decide ((1 : Int) ≤ (rowN l).length) && decide (((rowN l).length : Int) ≤ 500)) = false by simp; omega] at hI
    refine Fn.ofN [0,1,2,3,4,5,6,7,8,9,10,11,17,22,57,62,90,96,110,113,118] [1001,1006,1019] Try.func51 (by rfl) rfl (by show 1 ≤ 125; decide) (by rfl) ?_
    repeat' ((conv => whnf); first | (refine Exists.intro _ (And.intro rfl ?_)) | (refine Or.inl ?_; apply callV_i; (repeat ((conv => whnf); first | refine And.intro (by first | omega | fail) ?_ | fail)); ((conv => whnf); first | exact FnB.mk (hI) | fail); refine ⟨rfl, rfl, ?_⟩) | fail)
    all_goals ((refine .mk ⟨trivial, [], ⟨rfl, ?_⟩, List.nodup_nil, rfl, trivial⟩; show V.lit _ = V.lit _); rfl)


theorem idxI_F (v : Int) : ∀ (l : List Int) (k : Int), idxI v l k = idxF (fun y => decide (v = y)) l k
  | [], _ => rfl
  | x :: r, k => by
    simp only [idxI, idxF, decide_eq_true_eq]
    rw [idxI_F v r]
def rowB (l : List Nd) (a : Int) : Bool := nodeIn l a && decide ((rdD l a).1 = 3)
def hasI (l : List Int) (a : Int) : Bool := l.any fun y => decide (a = y)
def rowFrom (l : List Nd) (ahead : List Int) : List Int → Bool
  | [] => true
  | a :: t => (rowB l a && !hasI ahead a) && rowFrom l (ahead ++ [a]) t
theorem rowFrom_at (l : List Nd) (r : List Int) (i : Nat) (h : i < r.length) : rowFrom l (r.take i) (r.drop i) = ((rowB l r[i] && !hasI (r.take i) r[i]) && rowFrom l (r.take (i + 1)) (r.drop (i + 1))) := by
  rw [drop_cons _ _ h, List.take_succ_eq_append_getElem h]; rfl
theorem rowFrom_end (l : List Nd) (r : List Int) : rowFrom l (r.take r.length) (r.drop r.length) = true := by
  rw [List.drop_of_length_le (Nat.le_refl _)]; rfl
theorem hasI_at (r : List Int) (i k : Nat) (n : Int) (hi : i ≤ r.length) (h : k < i) : hasI ((r.take i).drop k) n = (decide (n = r[k]) || hasI ((r.take i).drop (k + 1)) n) := by
  rw [drop_cons (r.take i) k (by rw [List.length_take]; omega)]
  simp [hasI]
theorem hasI_end (r : List Int) (i : Nat) (n : Int) : hasI ((r.take i).drop i) n = false := by
  rw [List.drop_of_length_le (by rw [List.length_take]; omega)]; rfl
theorem index_at (r : List Int) (i : Nat) (h : i < r.length) : indexOf r r[i] = (i : Int) ↔ hasI (r.take i) r[i] = false := by
  unfold indexOf
  rw [idxI_F]
  exact idx_at (fun y => decide (r[i] = y)) r i h (by simp)
theorem rowB_no1 {l : List Nd} {a : Int} (h : nodeIn l a = false) : rowB l a = false := by unfold rowB; rw [h]; rfl
theorem rowB_no2 {l : List Nd} {a : Int} (h : ¬ (rdD l a).1 = 3) : rowB l a = false := by unfold rowB; rw [decide_eq_false h]; simp
theorem rowB_yes {l : List Nd} {a : Int} (h : nodeIn l a = true) (h2 : (rdD l a).1 = 3) : rowB l a = true := by unfold rowB; rw [h, decide_eq_true h2]; rfl
def stackOk (l : List Nd) (r : List Int) : Bool := treeI l && (decide (r.length ≤ 40) && rowFrom l [] r)
theorem stackOk_long {l : List Nd} {r : List Int} (h : ¬ r.length ≤ 40) : stackOk l r = false := by unfold stackOk; rw [decide_eq_false h]; simp
theorem stackOk_tree {l : List Nd} {r : List Int} (h : treeI l = false) : stackOk l r = false := by unfold stackOk; rw [h]; rfl
theorem stackOk_row {l : List Nd} {r : List Int} (h : r.length ≤ 40) (h2 : treeI l = true) : stackOk l r = rowFrom l [] r := by unfold stackOk; rw [decide_eq_true h, h2]; rfl
theorem F_i_StackOk (l : List Nd) (r : List Int) (hl : l.length ≤ 140737488351232) (hp : ∀ x ∈ l, ndSm x) (hr : r.length ≤ 140737488351232) : Fn pg 21 [sTr l, .imm 1 (rowI r)] [] (.lit (.bool (stackOk l r))) [] := by
  have hT := F_i_TreeOk l hl hp
  refine Fn.ofN [0,1,2,4,5,6,14,15,16,17,18,40] [1002] Try.func21 (by rfl) rfl (by show 2 ≤ 42; decide) (by rfl) ?_
  repeat' ((conv => whnf); first | (refine iteB_dec (fun h => ?_) (fun h => ?_) <;> (try simp (disch := (first | omega | fail)) only [modAt, List.length_take, List.length_drop, List.length_map, List.length_append, List.length_set, List.length_replicate, len_rowsPart, len_setCell, len_marks, len_markL, len_byR, len_mkL, len_marksN, len_bytesI, len_seenI] at h) <;> (try (exfalso; omega))) | (refine iteB_not ?_) | (refine iteB_of (fun h => ?_) (fun h => ?_)) | (refine Exists.intro _ (And.intro rfl ?_)) | (refine Or.inl ?_; apply callV_i; (repeat ((conv => whnf); first | refine And.intro (by first | omega | fail) ?_ | fail)); ((conv => whnf); first | exact FnB.mk (hT) | fail); refine ⟨rfl, rfl, ?_⟩) | fail)
  · (refine .mk ⟨trivial, [], ⟨rfl, ?_⟩, List.nodup_nil, rfl, trivial⟩; show V.lit _ = V.lit _)
    rw [stackOk_long (by omega)]
  rotate_left
  · (refine .mk ⟨trivial, [], ⟨rfl, ?_⟩, List.nodup_nil, rfl, trivial⟩; show V.lit _ = V.lit _)
    rw [stackOk_tree (by assumption)]
  rw [stackOk_row (by omega) (by assumption)]
  refine ⟨Nat, fun i => i ≤ r.length ∧ rowFrom l [] r = rowFrom l (r.take i) (r.drop i), fun i => [(1, .imm 1 (rowI r)), (2, .ptr 1002 [] 1 0 0), (15, .imm 1 (rowI r)), (16, .lit (.int .i64 r.length)), (17, .lit (.int .i64 i))], fun _ => [(1002, true, 1, [[.imm 6 (rowN l)]])], fun i => r.length - i, ⟨[], 0, ⟨Nat.zero_le _, rfl⟩, ⟨rfl, rfl⟩, ⟨by first | rfl | fail, by first | rfl | fail, by first | rfl | fail, by first | (show V.lit (Value.int _ _) = V.lit (Value.int _ _); first | (congr 2; first | (simp only [List.length_map]; done) | fail) | fail) | fail, by first | rfl | fail, trivial⟩, boxEq rfl, trivial⟩, ?_⟩
  intro i ⟨hi, hh⟩
  by_cases hlt : i < r.length
  · rw [rowFrom_at l r i hlt] at hh
    have hN := F_i_Tree_isNode l r[i] hl
    have hX := index_at r i hlt
    by_cases hin : 0 ≤ r[i] ∧ r[i] ≤ (l.length : Int) - 1
    · have hni := nodeIn_yes hin
      rw [hni] at hN
      repeat' ((conv => whnf); first | (refine iteB_dec (fun h => ?_) (fun h => ?_) <;> (try simp (disch := (first | omega | fail)) only [modAt, List.length_take, List.length_drop, List.length_map, List.length_append, List.length_set, List.length_replicate, len_rowsPart, len_setCell, len_marks, len_markL, len_byR, len_mkL, len_marksN, len_bytesI, len_seenI] at h) <;> (try (exfalso; omega))) | (refine Exists.intro _ (And.intro rfl ?_)) | (refine wrapB_i64 (by first | omega | fail) (by first | omega | fail) ?_) | (refine And.intro (by first | exact True.intro | omega | fail) ?_) | (refine Exists.intro _ (And.intro (rowGet _ _ _ (by omega)) ?_)) | (refine Exists.intro _ (And.intro (rowGetI _ _ _ (by omega) (by omega)) ?_)) | (refine Or.inl ?_; apply callV_i; (repeat ((conv => whnf); first | refine Exists.intro _ (And.intro rfl ?_) | fail)); ((conv => whnf); first | exact FnB.mk (hN) | exact FnB.mk (F_slices_Index_int_int _ _ (by first | omega | fail)) | fail); refine ⟨rfl, rfl, ?_⟩) | fail)
      · (refine .mk ⟨trivial, [], ⟨rfl, ?_⟩, List.nodup_nil, rfl, trivial⟩; show V.lit _ = V.lit _)
        rw [hh, rowB_no2 (by assumption)]; rfl
      · (refine .mk ⟨trivial, [], ⟨rfl, ?_⟩, List.nodup_nil, rfl, trivial⟩; show V.lit _ = V.lit _)
        rw [hh, show hasI (r.take i) r[i] = true from by
          cases e : hasI (r.take i) r[i] with
          | true => rfl
          | false => exact absurd (hX.2 e) (by assumption)]
        simp
      · rw [rowB_yes hni (Decidable.not_not.1 (by assumption)), hX.1 (Decidable.not_not.1 (by assumption))] at hh
        exact ⟨[], i + 1, ⟨by omega, hh⟩, ⟨⟨rfl, rfl⟩, ⟨by first | rfl | fail, by first | rfl | fail, by first | rfl | fail, by first | rfl | fail, by first | rfl | fail, trivial⟩, boxEq rfl, trivial⟩, by first | (dsimp only; omega) | fail⟩
    · rw [rowB_no1 (nodeIn_no hin)] at hh
      rw [nodeIn_no hin] at hN
      repeat' ((conv => whnf); first | (refine iteB_dec (fun h => ?_) (fun h => ?_) <;> (try simp (disch := (first | omega | fail)) only [modAt, List.length_take, List.length_drop, List.length_map, List.length_append, List.length_set, List.length_replicate, len_rowsPart, len_setCell, len_marks, len_markL, len_byR, len_mkL, len_marksN, len_bytesI, len_seenI] at h) <;> (try (exfalso; omega))) | (refine And.intro (by first | exact True.intro | omega | fail) ?_) | (refine Exists.intro _ (And.intro (rowGet _ _ _ (by omega)) ?_)) | (refine Or.inl ?_; apply callV_i; (repeat ((conv => whnf); first | refine Exists.intro _ (And.intro rfl ?_) | fail)); ((conv => whnf); first | exact FnB.mk (hN) | fail); refine ⟨rfl, rfl, ?_⟩) | fail)
      (refine .mk ⟨trivial, [], ⟨rfl, ?_⟩, List.nodup_nil, rfl, trivial⟩; show V.lit _ = V.lit _)
      rw [hh]; rfl
  · obtain rfl : i = r.length := by omega
    rw [rowFrom_end] at hh
    repeat' ((conv => whnf); first | (refine iteB_dec (fun h => ?_) (fun h => ?_) <;> (try simp (disch := (first | omega | fail)) only [modAt, List.length_take, List.length_drop, List.length_map, List.length_append, List.length_set, List.length_replicate, len_rowsPart, len_setCell, len_marks, len_markL, len_byR, len_mkL, len_marksN, len_bytesI, len_seenI] at h) <;> (try (exfalso; omega))) | fail)
    (refine .mk ⟨trivial, [], ⟨rfl, ?_⟩, List.nodup_nil, rfl, trivial⟩; show V.lit _ = V.lit _)
    rw [hh]
theorem F_s_l10Element (l : List Nd) (a : Int) (hl : l.length ≤ 140737488351232) : Fn pg 82 [sTr l, .lit (.int .i64 a)] [] (.lit (.bool (rowB l a))) [] := by
  have hN := F_s_l6Has l a hl
  by_cases hin : 0 ≤ a ∧ a ≤ (l.length : Int) - 1
  · rw [nodeIn_yes hin] at hN
    refine Fn.ofN [0,1,2,4] [1002] Try.func82 (by rfl) rfl (by show 2 ≤ 17; decide) (by rfl) ?_
    repeat' ((conv => whnf); first | (refine Exists.intro _ (And.intro rfl ?_)) | (refine And.intro (by first | exact True.intro | omega | fail) ?_) | (refine Exists.intro _ (And.intro (rowGetI _ _ _ (by omega) (by omega)) ?_)) | (refine Or.inl ?_; apply callV_i; (repeat ((conv => whnf); first | refine And.intro (by first | omega | fail) ?_ | fail)); ((conv => whnf); first | exact FnB.mk (hN) | fail); refine ⟨rfl, rfl, ?_⟩) | fail)
    (refine .mk ⟨trivial, [], ⟨rfl, ?_⟩, List.nodup_nil, rfl, trivial⟩; show V.lit _ = V.lit _)
    unfold rowB; rw [nodeIn_yes hin]; rfl
  · rw [nodeIn_no hin] at hN
    rw [rowB_no1 (nodeIn_no hin)]
    refine Fn.ofN [0,1,2,4] [1002] Try.func82 (by rfl) rfl (by show 2 ≤ 17; decide) (by rfl) ?_
    repeat' ((conv => whnf); first | (refine Exists.intro _ (And.intro rfl ?_)) | (refine Or.inl ?_; apply callV_i; (repeat ((conv => whnf); first | refine And.intro (by first | omega | fail) ?_ | fail)); ((conv => whnf); first | exact FnB.mk (hN) | fail); refine ⟨rfl, rfl, ?_⟩) | fail)
    (refine .mk ⟨trivial, [], ⟨rfl, ?_⟩, List.nodup_nil, rfl, trivial⟩; show V.lit _ = V.lit _)
    rfl
theorem F_s_l10Row (l : List Nd) (r : List Int) (hl : l.length ≤ 140737488351232) (hr : r.length ≤ 140737488351232) : Fn pg 55 [sTr l, .imm 1 (rowI r)] [] (.lit (.bool (decide (r.length ≤ 40) && rowFrom l [] r))) [] := by
  refine Fn.ofN [0,1,2,4,5,6,9,13,22,25,36] [1002] Try.func55 (by rfl) rfl (by show 2 ≤ 37; decide) (by rfl) ?_
  repeat' ((conv => whnf); first | (refine iteB_dec (fun h => ?_) (fun h => ?_) <;> (try simp (disch := (first | omega | fail)) only [modAt, List.length_take, List.length_drop, List.length_map, List.length_append, List.length_set, List.length_replicate, len_rowsPart, len_setCell, len_marks, len_markL, len_byR, len_mkL, len_marksN, len_bytesI, len_seenI] at h) <;> (try (exfalso; omega))) | (refine Exists.intro _ (And.intro rfl ?_)) | fail)
  · (refine .mk ⟨trivial, [], ⟨rfl, ?_⟩, List.nodup_nil, rfl, trivial⟩; show V.lit _ = V.lit _)
    rw [decide_eq_false (by omega)]; rfl
  rw [show decide (r.length ≤ 40) = true from decide_eq_true (by omega), Bool.true_and]
  refine ⟨Nat, fun i => i ≤ r.length ∧ rowFrom l [] r = rowFrom l (r.take i) (r.drop i), fun i => [(1, .imm 1 (rowI r)), (2, .ptr 1002 [] 1 0 0), (5, .lit (.int .i64 i))], fun _ => [(1002, true, 1, [[.imm 6 (rowN l)]])], fun i => r.length - i, ⟨[], 0, ⟨Nat.zero_le _, rfl⟩, ⟨rfl, rfl⟩, ⟨by first | rfl | fail, by first | rfl | fail, by first | rfl | fail, trivial⟩, boxEq rfl, trivial⟩, ?_⟩
  intro i ⟨hi, hh⟩
  by_cases hlt : i < r.length
  · rw [rowFrom_at l r i hlt] at hh
    have hE := F_s_l10Element l r[i] hl
    repeat' ((conv => whnf); first | (refine iteB_dec (fun h => ?_) (fun h => ?_) <;> (try simp (disch := (first | omega | fail)) only [modAt, List.length_take, List.length_drop, List.length_map, List.length_append, List.length_set, List.length_replicate, len_rowsPart, len_setCell, len_marks, len_markL, len_byR, len_mkL, len_marksN, len_bytesI, len_seenI] at h) <;> (try (exfalso; omega))) | (refine iteB_not ?_) | (refine iteB_of (fun h => ?_) (fun h => ?_)) | (refine Exists.intro _ (And.intro rfl ?_)) | (refine And.intro (by first | exact True.intro | omega | fail) ?_) | (refine Exists.intro _ (And.intro (rowGet _ _ _ (by omega)) ?_)) | (refine Or.inl (And.intro (by decide +kernel) ?_)) | (apply callQ_i; (repeat ((conv => whnf); first | refine And.intro (by first | omega | fail) ?_ | fail)); ((conv => whnf); apply Exists.intro; (first | exact FnB.mk (hE) | fail))) | fail)
    · rw [show rowB l r[i] = true by assumption, Bool.true_and] at hh
      refine ⟨Nat, fun k => k ≤ i ∧ hasI (r.take i) r[i] = hasI ((r.take i).drop k) r[i], fun k => [(1, .imm 1 (rowI r)), (2, .ptr 1002 [] 1 0 0), (5, .lit (.int .i64 i)), (6, .lit (.int .i64 k))], fun _ => [(1002, true, 1, [[.imm 6 (rowN l)]])], fun k => i - k, ⟨[], 0, ⟨Nat.zero_le _, rfl⟩, ⟨rfl, rfl⟩, ⟨by first | rfl | fail, by first | rfl | fail, by first | rfl | fail, by first | rfl | fail, trivial⟩, boxEq rfl, trivial⟩, ?_⟩
      intro k ⟨hk, hn⟩
      by_cases hlk : k < i
      · rw [hasI_at r i k _ (by omega) hlk] at hn
        repeat' ((conv => whnf); first | (refine iteB_dec (fun h => ?_) (fun h => ?_) <;> (try simp (disch := (first | omega | fail)) only [modAt, List.length_take, List.length_drop, List.length_map, List.length_append, List.length_set, List.length_replicate, len_rowsPart, len_setCell, len_marks, len_markL, len_byR, len_mkL, len_marksN, len_bytesI, len_seenI] at h) <;> (try (exfalso; omega))) | (refine wrapB_i64 (by first | omega | fail) (by first | omega | fail) ?_) | (refine And.intro (by first | exact True.intro | omega | fail) ?_) | (refine Exists.intro _ (And.intro (rowGet _ _ _ (by omega)) ?_)) | (refine Or.inl (And.intro (by decide +kernel) ?_)) | fail)
        · (refine .mk ⟨trivial, [], ⟨rfl, ?_⟩, List.nodup_nil, rfl, trivial⟩; show V.lit _ = V.lit _)
          rw [hh, hn, show decide (r[i] = r[k]) = true from decide_eq_true (by first | exact Eq.symm (by assumption) | fail)]; rfl
        · exact ⟨[], k + 1, ⟨by omega, by rw [hn, show decide (r[i] = r[k]) = false from decide_eq_false (by first | exact fun e => absurd e.symm (by assumption) | fail)]; rfl⟩, ⟨⟨rfl, rfl⟩, ⟨by first | rfl | fail, by first | rfl | fail, by first | rfl | fail, by first | rfl | fail, trivial⟩, boxEq rfl, trivial⟩, by first | (dsimp only; omega) | fail⟩
      · obtain rfl : k = i := by omega
        rw [hasI_end] at hn
        rw [hn] at hh
        repeat' ((conv => whnf); first | (refine iteB_dec (fun h => ?_) (fun h => ?_) <;> (try simp (disch := (first | omega | fail)) only [modAt, List.length_take, List.length_drop, List.length_map, List.length_append, List.length_set, List.length_replicate, len_rowsPart, len_setCell, len_marks, len_markL, len_byR, len_mkL, len_marksN, len_bytesI, len_seenI] at h) <;> (try (exfalso; omega))) | (refine wrapB_i64 (by first | omega | fail) (by first | omega | fail) ?_) | fail)
        exact ⟨[], k + 1, ⟨by omega, hh⟩, ⟨⟨rfl, rfl⟩, ⟨by first | rfl | fail, by first | rfl | fail, by first | rfl | fail, trivial⟩, boxEq rfl, trivial⟩, by first | (dsimp only; omega) | fail⟩
    · (refine .mk ⟨trivial, [], ⟨rfl, ?_⟩, List.nodup_nil, rfl, trivial⟩; show V.lit _ = V.lit _)
      rw [hh, show rowB l r[i] = false by assumption]; rfl
  · obtain rfl : i = r.length := by omega
    rw [rowFrom_end] at hh
    repeat' ((conv => whnf); first | (refine iteB_dec (fun h => ?_) (fun h => ?_) <;> (try simp (disch := (first | omega | fail)) only [modAt, List.length_take, List.length_drop, List.length_map, List.length_append, List.length_set, List.length_replicate, len_rowsPart, len_setCell, len_marks, len_markL, len_byR, len_mkL, len_marksN, len_bytesI, len_seenI] at h) <;> (try (exfalso; omega))) | fail)
    (refine .mk ⟨trivial, [], ⟨rfl, ?_⟩, List.nodup_nil, rfl, trivial⟩; show V.lit _ = V.lit _)
    rw [hh]
theorem rowFrom_all {l : List Nd} : ∀ (t ahead : List Int), rowFrom l ahead t = true → ∀ a ∈ t, rowB l a = true := by
  intro t
  induction t with
  | nil => intro _ _ a h; cases h
  | cons x t ih =>
    intro ahead h a ha
    simp only [rowFrom, Bool.and_eq_true] at h
    rcases List.mem_cons.1 ha with rfl | ha
    · exact h.1.1
    · exact ih _ h.2 a ha
theorem stackOk_in {l : List Nd} {r : List Int} (h : stackOk l r = true) : ∀ a ∈ r, 0 ≤ a ∧ a ≤ (l.length : Int) - 1 := by
  unfold stackOk at h
  simp only [Bool.and_eq_true] at h
  intro a ha
  have := rowFrom_all r [] h.2.2 a ha
  unfold rowB at this
  rw [Bool.and_eq_true] at this
  exact nodeIn_of this.1
theorem rdD_in {l : List Nd} {r : List Int} (h : ∀ a ∈ r, 0 ≤ a ∧ a ≤ (l.length : Int) - 1) (i : Int) (h0 : 0 ≤ i) (h1 : i < r.length) : 0 ≤ rdD r i ∧ rdD r i ≤ (l.length : Int) - 1 := by
  apply h
  unfold rdD
  rw [List.getD_eq_getElem?_getD, List.getElem?_eq_getElem (by omega)]
  exact List.getElem_mem _
theorem szL_all {α : Type} {Q : α → Prop} (sz : α → Int → Int) (hle : ∀ p l, 0 ≤ l → sz p l ≤ l) (b : Int) (hq : ∀ p l, 0 ≤ l → l ≤ b → 0 ≤ sz p l → Q p) : ∀ (xs : List α) (l : Int), 0 ≤ l → l ≤ b → 0 ≤ szL sz xs l → ∀ x ∈ xs, Q x := by
  intro xs
  induction xs with
  | nil => intro _ _ _ _ x hx; cases hx
  | cons y r ih =>
    intro l h0 h1 h2 x hx
    simp only [szL] at h2
    split at h2
    · omega
    · rename_i h3
      have h4 := hle y l h0
      rcases List.mem_cons.1 hx with rfl | hx
      · exact hq _ l h0 h1 (by omega)
      · exact ih _ (by omega) (by omega) h2 x hx
theorem szAt_sm (a : At) (l : Int) (h0 : 0 ≤ l) (h1 : l ≤ 1048576) (h2 : 0 ≤ szAt a l) : a.1.size ≤ 1048576 ∧ a.2.size ≤ 1048576 := by
  unfold szAt at h2; grind
theorem szNd_sm (p : Nd) (l : Int) (h0 : 0 ≤ l) (h1 : l ≤ 1048576) (h2 : 0 ≤ szNd p l) : ndSm p := by
  have hst := szNd_st p l h0 h2
  have hnn := h2
  unfold szNd at h2
  dsimp only at h2
  split at h2
  · omega
  · rename_i g1
    split at h2
    · omega
    · rename_i g2
      have g3 := szS_le szAt le_szAt p.2.2.1 (l - p.2.1.size) (by omega)
      have g4 : ∀ x ∈ p.2.2.1, x.1.size ≤ 1048576 ∧ x.2.size ≤ 1048576 := by
        unfold szS at g2
        split at g2
        · omega
        · rename_i g5
          exact szL_all szAt le_szAt 1048576 szAt_sm p.2.2.1 (l - p.2.1.size - p.2.2.1.length) (by omega) (by omega) (by omega)
      split at h2
      · omega
      · rename_i g6
        split at h2
        · omega
        · rename_i g7
          have g8 := szI_le p.2.2.2.2.2 (szS szAt p.2.2.1 (l - p.2.1.size) - p.2.2.2.1.size) (by omega)
          refine ⟨by omega, ⟨by omega, fun x hx => ?_⟩, by omega, by omega⟩
          have := g4 x hx
          omega
theorem szTr_sm (t : List Nd) (h : 0 ≤ szTr t 1048576) : ∀ x ∈ t, ndSm x := by
  unfold szTr at h
  split at h
  · omega
  · unfold szS at h
    split at h
    · omega
    · rename_i h3
      exact szL_all szNd szNd_le 1048576 szNd_sm t _ (by omega) (by omega) h
/-- What the law knows of a tree that is handed to it. -/
def trS (t : List Nd) : Prop := t.length * 96 ≤ 140737488351232 ∧ ∀ x ∈ t, (Lit.int .i64 x.1).wf = true ∧ x.2.1.size ≤ 140737488351232 ∧ (x.2.2.1.length * 32 ≤ 140737488351232 ∧ ∀ y ∈ x.2.2.1, y.1.size ≤ 140737488351232 ∧ y.2.size ≤ 140737488351232) ∧ x.2.2.2.1.size ≤ 140737488351232 ∧ (Lit.int .i64 x.2.2.2.2.1).wf = true ∧ (x.2.2.2.2.2.length * 8 ≤ 140737488351232 ∧ ∀ y ∈ x.2.2.2.2.2, (Lit.int .i64 y).wf = true)
def rwS (r : List Int) : Prop := r.length * 8 ≤ 140737488351232 ∧ ∀ y ∈ r, (Lit.int .i64 y).wf = true
theorem trS_ok {t : List Nd} (h : trS t) : ∀ x ∈ t, ndOk x := fun x hx => by
  obtain ⟨_, h2, h3, h4, _, h5, _⟩ := h.2 x hx
  exact ⟨h2, h3, h4, h5⟩
def lsFormat : List ByteArray := [⟨#[97]⟩, ⟨#[98]⟩, ⟨#[98, 105, 103]⟩, ⟨#[99, 111, 100, 101]⟩, ⟨#[101, 109]⟩, ⟨#[102, 111, 110, 116]⟩, ⟨#[105]⟩, ⟨#[110, 111, 98, 114]⟩, ⟨#[115]⟩, ⟨#[115, 109, 97, 108, 108]⟩, ⟨#[115, 116, 114, 105, 107, 101]⟩, ⟨#[115, 116, 114, 111, 110, 103]⟩, ⟨#[116, 116]⟩, ⟨#[117]⟩]
def inL (a : ByteArray) (L : List ByteArray) : Bool := L.any fun x => decide (x = a)
theorem bytes_mem (a : ByteArray) (L : List ByteArray) : decide (a.data.toList ∈ L.map (fun x => x.data.toList)) = inL a L := by
  unfold inL
  rw [Bool.eq_iff_iff, List.any_eq_true, decide_eq_true_eq, List.mem_map]
  constructor
  · rintro ⟨x, h, e⟩
    refine ⟨x, h, decide_eq_true ?_⟩
    cases x; cases a
    congr 1
    exact Array.toList_inj.1 e
  · rintro ⟨x, h, e⟩
    exact ⟨x, h, by rw [of_decide_eq_true e]⟩
theorem len_appB (a b : ByteArray) : (a ++ b).size = a.size + b.size := ByteArray.size_append
theorem F_i_isOneOf (a n : ByteArray) (L : List ByteArray) (hJ : 32 :: (n.data.toList ++ [32]) = J (L.map fun x => x.data.toList)) (hW : (L.map fun x => x.data.toList).all (fun w => w.all fun b => b != 32) = true) (hE : (L.all fun x => !x.data.toList.isEmpty) = true) (ha : a.size ≤ 1048576) (hn : n.size ≤ 1048576) : Fn pg 122 [.lit (.string a), .lit (.string n)] [] (.lit (.bool (inL a L))) [] := by
  have hw : ∀ w ∈ L.map (fun x => x.data.toList), (32 : UInt8) ∉ w := by
    intro w hw hb
    have h1 := List.all_eq_true.1 hW w hw
    have h2 := List.all_eq_true.1 h1 32 hb
    simp at h2
  have hC1 := F_strings_Contains a ⟨#[32]⟩ (by omega)
  have hC2 := F_strings_Contains ((⟨#[32]⟩ : ByteArray) ++ n ++ ⟨#[32]⟩) ((⟨#[32]⟩ : ByteArray) ++ a ++ ⟨#[32]⟩) (by simp only [ByteArray.size_append]; have : (⟨#[32]⟩ : ByteArray).size = 1 := rfl; omega)
  have h32 : (⟨#[32]⟩ : ByteArray).size = 1 := rfl
  rw [has_one] at hC1
  refine Fn.ofN [0,1,4,10] [] Try.func122 (by rfl) rfl (by show 2 ≤ 18; decide) (by rfl) ?_
  repeat' ((conv => whnf); first | (refine iteB_dec (fun h => ?_) (fun h => ?_) <;> (try simp (disch := (first | omega | fail)) only [modAt, List.length_take, List.length_drop, List.length_map, List.length_append, List.length_set, List.length_replicate, len_rowsPart, len_setCell, len_marks, len_markL, len_byR, len_mkL, len_marksN, len_bytesI, len_seenI, len_appB] at h) <;> (try (exfalso; omega))) | (refine And.intro (by first | exact True.intro | omega | (simp (disch := (first | omega | fail)) only [modAt, List.length_take, List.length_drop, List.length_map, List.length_append, List.length_set, List.length_replicate, len_rowsPart, len_setCell, len_marks, len_markL, len_byR, len_mkL, len_marksN, len_bytesI, len_seenI, len_appB]; first | omega | fail) | fail) ?_) | (refine Or.inl ?_; apply callV_i; (repeat ((conv => whnf); first | refine And.intro (by first | omega | fail) ?_ | fail)); ((conv => whnf); first | exact FnB.mk (hC1) | exact FnB.mk (hC2) | fail); refine ⟨rfl, rfl, ?_⟩) | fail)
  · (refine .mk ⟨trivial, [], ⟨rfl, ?_⟩, List.nodup_nil, rfl, trivial⟩; show V.lit _ = V.lit _)
    subst h
    rw [← bytes_mem]
    congr 2
    symm
    rw [decide_eq_false_iff_not, List.mem_map]
    rintro ⟨x, h1, h2⟩
    have := List.all_eq_true.1 hE x h1
    rw [show x.data.toList = [] from h2] at this
    cases this
  · (refine .mk ⟨trivial, [], ⟨rfl, ?_⟩, List.nodup_nil, rfl, trivial⟩; show V.lit _ = V.lit _)
    rw [← bytes_mem, decide_eq_false (fun hm => hw _ hm (by assumption))]
  · (refine .mk ⟨trivial, [], ⟨rfl, ?_⟩, List.nodup_nil, rfl, trivial⟩; show V.lit _ = V.lit _)
    have hb : (32 : UInt8) ∉ a.data.toList := by assumption
    have h1 := J_has a.data.toList hb _ hw
    rw [← hJ, bytes_mem] at h1
    have e : ∀ b : ByteArray, ((⟨#[32]⟩ : ByteArray) ++ b ++ ⟨#[32]⟩).data.toList = 32 :: (b.data.toList ++ [32]) := by
      intro b
      simp only [ByteArray.data_append, Array.toList_append]; rfl
    rw [← h1, e, e]
theorem F_i_IsFormat (a : ByteArray) (ha : a.size ≤ 1048576) : Fn pg 98 [.lit (.string a)] [] (.lit (.bool (inL a lsFormat))) [] := by
  refine Fn.ofN [0,2] [] Try.func98 (by rfl) rfl (by show 1 ≤ 5; decide) (by rfl) ?_
  repeat' ((conv => whnf); first | (refine Or.inl ?_; apply callV_i; (repeat ((conv => whnf); first | refine And.intro (by first | omega | fail) ?_ | fail)); ((conv => whnf); first | exact FnB.mk (F_i_isOneOf a _ lsFormat (by decide +kernel) (by decide +kernel) (by decide +kernel) ha (by decide +kernel)) | fail); refine ⟨rfl, rfl, ?_⟩) | fail)
  all_goals ((refine .mk ⟨trivial, [], ⟨rfl, ?_⟩, List.nodup_nil, rfl, trivial⟩; show V.lit _ = V.lit _); rfl)
theorem idxF_iff {α : Type} (p : α → Bool) : ∀ (l : List α) (k : Int), 0 ≤ k → (0 ≤ idxF p l k ↔ l.any p = true)
  | [], k, h => by simp [idxF]
  | x :: r, k, h => by
    have ih := idxF_iff p r (k + 1) (by omega)
    by_cases hp : p x = true
    · rw [idxF, if_pos hp, List.any_cons, hp]; simp [h]
    · rw [idxF, if_neg hp, List.any_cons, (Bool.not_eq_true _).mp hp, Bool.false_or]; exact ih
theorem idxF_any {α : Type} (p : α → Bool) (l : List α) (k : Int) (h : 0 ≤ k) : decide (0 ≤ idxF p l k) = l.any p := by
  rw [Bool.eq_iff_iff, decide_eq_true_eq]; exact idxF_iff p l k h
theorem F_s_l7Find (xs : List ByteArray) (s : ByteArray) (hx : xs.length ≤ 1048576) : Fn pg 134 [.imm 1 (rowS xs), .lit (.string s)] [] (.lit (.int .i64 (idxF (fun x => decide (x = s)) xs 0))) [] := by
  refine Fn.ofN [0,1,4,5,9,17] [] Try.func134 (by rfl) rfl (by show 2 ≤ 19; decide) (by rfl) ?_
  repeat' ((conv => whnf); first | (refine iteB_dec (fun h => ?_) (fun h => ?_) <;> (try simp (disch := (first | omega | fail)) only [modAt, List.length_take, List.length_drop, List.length_map, List.length_append, List.length_set, List.length_replicate, len_rowsPart, len_setCell, len_marks, len_markL, len_byR, len_mkL, len_marksN, len_bytesI, len_seenI, len_appB] at h) <;> (try (exfalso; omega))) | fail)
  refine ⟨Nat, fun i => i ≤ xs.length ∧ idxF (fun x => decide (x = s)) xs 0 = idxF (fun x => decide (x = s)) (xs.drop i) i, fun i => [(0, .imm 1 (rowS xs)), (1, .lit (.string s)), (5, .lit (.int .i64 i))], fun _ => [], fun i => xs.length - i, ⟨[], 0, ⟨Nat.zero_le _, rfl⟩, ⟨rfl, rfl⟩, ⟨by first | rfl | fail, by first | rfl | fail, by first | rfl | fail, trivial⟩, trivial⟩, ?_⟩
  intro i ⟨hi, hh⟩
  by_cases hlt : i < xs.length
  · rw [drop_cons _ _ hlt, idxF] at hh
    repeat' ((conv => whnf); first | (refine iteB_dec (fun h => ?_) (fun h => ?_) <;> (try simp (disch := (first | omega | fail)) only [modAt, List.length_take, List.length_drop, List.length_map, List.length_append, List.length_set, List.length_replicate, len_rowsPart, len_setCell, len_marks, len_markL, len_byR, len_mkL, len_marksN, len_bytesI, len_seenI, len_appB] at h) <;> (try (exfalso; omega))) | (refine wrapB_i64 (by first | omega | fail) (by first | omega | fail) ?_) | (refine And.intro (by first | exact True.intro | omega | fail) ?_) | (refine Exists.intro _ (And.intro (rowGet _ _ _ (by omega)) ?_)) | fail)
    · (refine .mk ⟨trivial, [], ⟨rfl, ?_⟩, List.nodup_nil, rfl, trivial⟩; show V.lit _ = V.lit _)
      rw [hh, if_pos (decide_eq_true (by assumption))]
    · rw [if_neg (fun e => absurd (of_decide_eq_true e) (by assumption))] at hh
      exact ⟨[], i + 1, ⟨by omega, hh⟩, ⟨⟨rfl, rfl⟩, ⟨by first | rfl | fail, by first | rfl | fail, by first | rfl | fail, trivial⟩, trivial⟩, by first | (dsimp only; omega) | fail⟩
  · obtain rfl : i = xs.length := by omega
    rw [List.drop_of_length_le (Nat.le_refl _), idxF] at hh
    repeat' ((conv => whnf); first | (refine iteB_dec (fun h => ?_) (fun h => ?_) <;> (try simp (disch := (first | omega | fail)) only [modAt, List.length_take, List.length_drop, List.length_map, List.length_append, List.length_set, List.length_replicate, len_rowsPart, len_setCell, len_marks, len_markL, len_byR, len_mkL, len_marksN, len_bytesI, len_seenI, len_appB] at h) <;> (try (exfalso; omega))) | fail)
    (refine .mk ⟨trivial, [], ⟨rfl, ?_⟩, List.nodup_nil, rfl, trivial⟩; show V.lit _ = V.lit _)
    rw [hh]
theorem F_s_l8In (xs : List ByteArray) (s : ByteArray) (hx : xs.length ≤ 1048576) : Fn pg 121 [.imm 1 (rowS xs), .lit (.string s)] [] (.lit (.bool (inL s xs))) [] := by
  have hF := F_s_l7Find xs s hx
  have hA := idxF_any (fun x => decide (x = s)) xs 0 (Int.le_refl _)
  refine Fn.ofN [0,1,4] [] Try.func121 (by rfl) rfl (by show 2 ≤ 9; decide) (by rfl) ?_
  repeat' ((conv => whnf); first | (refine Or.inl ?_; apply callV_i; (repeat ((conv => whnf); first | refine And.intro (by first | omega | fail) ?_ | fail)); ((conv => whnf); first | exact FnB.mk (hF) | fail); refine ⟨rfl, rfl, ?_⟩) | fail)
  (refine .mk ⟨trivial, [], ⟨rfl, ?_⟩, List.nodup_nil, rfl, trivial⟩; show V.lit _ = V.lit _)
  rw [hA]; rfl
theorem F_s_IsFormat (a : ByteArray) (ha : a.size ≤ 1048576) : Fn pg 97 [.lit (.string a)] [] (.lit (.bool (inL a lsFormat))) [] := by
  have hL := F_s_l8In lsFormat a (by decide)
  refine Fn.ofN [0,2] [1003] Try.func97 (by rfl) rfl (by show 1 ≤ 6; decide) (by rfl) ?_
  repeat' ((conv => whnf); first | (refine And.intro (by first | exact True.intro | fail) ?_) | (refine Or.inl ?_; apply callV_i; (repeat ((conv => whnf); first | refine And.intro (by first | exact Nat.le_refl _ | omega | fail) ?_ | fail)); ((conv => whnf); first | exact FnB.mk (hL) | fail); refine ⟨rfl, rfl, ?_⟩) | fail)
  all_goals ((refine .mk ⟨trivial, [], ⟨rfl, ?_⟩, List.nodup_nil, rfl, trivial⟩; show V.lit _ = V.lit _); rfl)
theorem nm_at {l : List Nd} (h : ∀ x ∈ l, x.2.1.size ≤ 1048576) (u : Int) (h1 : 0 ≤ u) (h2 : u ≤ (l.length : Int) - 1) : (rdD l u).2.1.size ≤ 1048576 := by
  apply h
  unfold rdD
  rw [List.getD_eq_getElem?_getD, List.getElem?_eq_getElem (by omega)]
  exact List.getElem_mem _
theorem szNd_nm (p : Nd) (l : Int) (h0 : 0 ≤ l) (h1 : l ≤ 1048576) (h2 : 0 ≤ szNd p l) : p.2.1.size ≤ 1048576 := by
  unfold szNd at h2
  dsimp only at h2
  split at h2 <;> omega
theorem szTr_nm (t : List Nd) (h : 0 ≤ szTr t 1048576) : ∀ x ∈ t, x.2.1.size ≤ 1048576 := by
  unfold szTr at h
  split at h
  · omega
  · unfold szS at h
    split at h
    · omega
    · rename_i h3
      exact szL_all szNd szNd_le 1048576 szNd_nm t _ (by omega) (by omega) h
def fmtB (l : List Nd) (a : Int) : Bool := nodeIn l a && (decide ((rdD l a).1 = 3) && inL (rdD l a).2.1 lsFormat)
def fmtsFrom (l : List Nd) (ahead : List Int) : List Int → Bool
  | [] => true
  | a :: t => (decide (a = -1) || (fmtB l a && !hasI ahead a)) && fmtsFrom l (ahead ++ [a]) t
theorem fmtsFrom_at (l : List Nd) (r : List Int) (i : Nat) (h : i < r.length) : fmtsFrom l (r.take i) (r.drop i) = ((decide (r[i] = -1) || (fmtB l r[i] && !hasI (r.take i) r[i])) && fmtsFrom l (r.take (i + 1)) (r.drop (i + 1))) := by
  rw [drop_cons _ _ h, List.take_succ_eq_append_getElem h]; rfl
theorem fmtsFrom_end (l : List Nd) (r : List Int) : fmtsFrom l (r.take r.length) (r.drop r.length) = true := by
  rw [List.drop_of_length_le (Nat.le_refl _)]; rfl
theorem fmtB_out {l : List Nd} {a : Int} (h : nodeIn l a = false) : fmtB l a = false := by unfold fmtB; rw [h]; rfl
theorem fmtB_kind {l : List Nd} {a : Int} (h : ¬ (rdD l a).1 = 3) : fmtB l a = false := by unfold fmtB; rw [decide_eq_false h]; simp
theorem fmtB_name {l : List Nd} {a : Int} (h : inL (rdD l a).2.1 lsFormat = false) : fmtB l a = false := by unfold fmtB; rw [h]; simp
theorem fmtB_row {l : List Nd} {a : Int} (h : ¬ rowB l a = true) : fmtB l a = false := by
  unfold rowB at h
  rw [(Bool.not_eq_true _)] at h
  unfold fmtB
  rw [← Bool.and_assoc, h]; rfl
theorem fmtB_yes {l : List Nd} {a : Int} (h : nodeIn l a = true) (h1 : (rdD l a).1 = 3) (h2 : inL (rdD l a).2.1 lsFormat = true) : fmtB l a = true := by unfold fmtB; rw [h, decide_eq_true h1, h2]; rfl
theorem F_i_Tree_fmtsOk (l : List Nd) (r : List Int) (hl : l.length ≤ 140737488351232) (hr : r.length ≤ 140737488351232) (hq : ∀ x ∈ l, x.2.1.size ≤ 1048576) : Fn pg 72 [.pro [.imm 6 (rowN l)], .imm 1 (rowI r)] [] (.lit (.bool (decide (r.length ≤ 60) && fmtsFrom l [] r))) [] := by
  refine Fn.ofN [0,1,4,5,6,7,8,9,10,15,49] [] Try.func72 (by rfl) rfl (by show 2 ≤ 54; decide) (by rfl) ?_
  repeat' ((conv => whnf); first | (refine iteB_dec (fun h => ?_) (fun h => ?_) <;> (try simp (disch := (first | omega | fail)) only [modAt, List.length_take, List.length_drop, List.length_map, List.length_append, List.length_set, List.length_replicate, len_rowsPart, len_setCell, len_marks, len_markL, len_byR, len_mkL, len_marksN, len_bytesI, len_seenI, len_appB] at h) <;> (try (exfalso; omega))) | fail)
  refine ⟨Nat, fun i => i ≤ r.length ∧ fmtsFrom l [] r = fmtsFrom l (r.take i) (r.drop i), fun i => [(0, .pro [.imm 6 (rowN l)]), (1, .imm 1 (rowI r)), (7, .imm 1 (rowI r)), (8, .lit (.int .i64 r.length)), (9, .lit (.int .i64 i))], fun _ => [], fun i => r.length - i, ⟨[], 0, ⟨Nat.zero_le _, rfl⟩, ⟨rfl, rfl⟩, ⟨by first | rfl | fail, by first | rfl | fail, by first | rfl | fail, by first | (show V.lit (Value.int _ _) = V.lit (Value.int _ _); first | (congr 2; first | (simp only [List.length_map]; done) | fail) | fail) | fail, by first | rfl | fail, trivial⟩, trivial⟩, ?_⟩
  intro i ⟨hi, hh⟩
  by_cases hlt : i < r.length
  · rw [fmtsFrom_at l r i hlt] at hh
    have hN := F_i_Tree_isNode l r[i] hl
    have hX := index_at r i hlt
    by_cases hb : r[i] = -1
    · rw [decide_eq_true hb, Bool.true_or, Bool.true_and] at hh
      repeat' ((conv => whnf); first | (refine iteB_dec (fun h => ?_) (fun h => ?_) <;> (try simp (disch := (first | omega | fail)) only [modAt, List.length_take, List.length_drop, List.length_map, List.length_append, List.length_set, List.length_replicate, len_rowsPart, len_setCell, len_marks, len_markL, len_byR, len_mkL, len_marksN, len_bytesI, len_seenI, len_appB] at h) <;> (try (exfalso; omega))) | (refine wrapB_i64 (by first | omega | fail) (by first | omega | fail) ?_) | (refine And.intro (by first | exact True.intro | omega | fail) ?_) | (refine Exists.intro _ (And.intro (rowGet _ _ _ (by omega)) ?_)) | fail)
      exact ⟨[], i + 1, ⟨by omega, hh⟩, ⟨⟨rfl, rfl⟩, ⟨by first | rfl | fail, by first | rfl | fail, by first | rfl | fail, by first | rfl | fail, by first | rfl | fail, trivial⟩, trivial⟩, by first | (dsimp only; omega) | fail⟩
    · rw [decide_eq_false hb, Bool.false_or] at hh
      by_cases hin : 0 ≤ r[i] ∧ r[i] ≤ (l.length : Int) - 1
      · have hni := nodeIn_yes hin
        have hnm := nm_at hq r[i] hin.1 hin.2
        have hIF := F_i_IsFormat (rdD l r[i]).2.1 hnm
        rw [hni] at hN
        repeat' ((conv => whnf); first | (refine iteB_dec (fun h => ?_) (fun h => ?_) <;> (try simp (disch := (first | omega | fail)) only [modAt, List.length_take, List.length_drop, List.length_map, List.length_append, List.length_set, List.length_replicate, len_rowsPart, len_setCell, len_marks, len_markL, len_byR, len_mkL, len_marksN, len_bytesI, len_seenI, len_appB] at h) <;> (try (exfalso; omega))) | (refine iteB_not ?_) | (refine iteB_of (fun h => ?_) (fun h => ?_)) | (refine wrapB_i64 (by first | omega | fail) (by first | omega | fail) ?_) | (refine And.intro (by first | exact True.intro | omega | fail) ?_) | (refine Exists.intro _ (And.intro (rowGet _ _ _ (by omega)) ?_)) | (refine Exists.intro _ (And.intro (rowGetI _ _ _ (by omega) (by omega)) ?_)) | (refine Or.inl ?_; apply callV_i; (repeat ((conv => whnf); first | refine And.intro (by first | omega | fail) ?_ | fail)); ((conv => whnf); first | exact FnB.mk (hN) | exact FnB.mk (hIF) | exact FnB.mk (F_slices_Index_int_int _ _ (by first | omega | fail)) | fail); refine ⟨rfl, rfl, ?_⟩) | fail)
        · (refine .mk ⟨trivial, [], ⟨rfl, ?_⟩, List.nodup_nil, rfl, trivial⟩; show V.lit _ = V.lit _)
          rw [hh, fmtB_kind (by assumption)]; simp
        · (refine .mk ⟨trivial, [], ⟨rfl, ?_⟩, List.nodup_nil, rfl, trivial⟩; show V.lit _ = V.lit _)
          rw [hh, show hasI (r.take i) r[i] = true from by
            cases e : hasI (r.take i) r[i] with
            | true => rfl
            | false => exact absurd (hX.2 e) (by assumption)]
          simp
        · rw [fmtB_yes hni (Decidable.not_not.1 (by assumption)) (by assumption), hX.1 (Decidable.not_not.1 (by assumption)), Bool.not_false, Bool.true_and, Bool.true_and] at hh
          exact ⟨[], i + 1, ⟨by omega, hh⟩, ⟨⟨rfl, rfl⟩, ⟨by first | rfl | fail, by first | rfl | fail, by first | rfl | fail, by first | rfl | fail, by first | rfl | fail, trivial⟩, trivial⟩, by first | (dsimp only; omega) | fail⟩
        · (refine .mk ⟨trivial, [], ⟨rfl, ?_⟩, List.nodup_nil, rfl, trivial⟩; show V.lit _ = V.lit _)
          rw [hh, fmtB_name (by assumption)]; simp
      · rw [fmtB_out (nodeIn_no hin)] at hh
        rw [nodeIn_no hin] at hN
        repeat' ((conv => whnf); first | (refine iteB_dec (fun h => ?_) (fun h => ?_) <;> (try simp (disch := (first | omega | fail)) only [modAt, List.length_take, List.length_drop, List.length_map, List.length_append, List.length_set, List.length_replicate, len_rowsPart, len_setCell, len_marks, len_markL, len_byR, len_mkL, len_marksN, len_bytesI, len_seenI, len_appB] at h) <;> (try (exfalso; omega))) | (refine And.intro (by first | exact True.intro | omega | fail) ?_) | (refine Exists.intro _ (And.intro (rowGet _ _ _ (by omega)) ?_)) | (refine Or.inl ?_; apply callV_i; (repeat ((conv => whnf); first | refine And.intro (by first | omega | fail) ?_ | fail)); ((conv => whnf); first | exact FnB.mk (hN) | fail); refine ⟨rfl, rfl, ?_⟩) | fail)
        (refine .mk ⟨trivial, [], ⟨rfl, ?_⟩, List.nodup_nil, rfl, trivial⟩; show V.lit _ = V.lit _)
        rw [hh]; simp
  · obtain rfl : i = r.length := by omega
    rw [fmtsFrom_end] at hh
    repeat' ((conv => whnf); first | (refine iteB_dec (fun h => ?_) (fun h => ?_) <;> (try simp (disch := (first | omega | fail)) only [modAt, List.length_take, List.length_drop, List.length_map, List.length_append, List.length_set, List.length_replicate, len_rowsPart, len_setCell, len_marks, len_markL, len_byR, len_mkL, len_marksN, len_bytesI, len_seenI, len_appB] at h) <;> (try (exfalso; omega))) | fail)
    (refine .mk ⟨trivial, [], ⟨rfl, ?_⟩, List.nodup_nil, rfl, trivial⟩; show V.lit _ = V.lit _)
    rw [hh, Bool.and_true]
    congr 2
    rw [decide_eq_decide]
    simp only [List.length_map]
    exact ⟨fun h => by omega, fun h => by omega⟩
theorem F_s_l11Ok (l : List Nd) (r : List Int) (hl : l.length ≤ 140737488351232) (hr : r.length ≤ 140737488351232) (hq : ∀ x ∈ l, x.2.1.size ≤ 1048576) : Fn pg 71 [sTr l, .imm 1 (rowI r)] [] (.lit (.bool (decide (r.length ≤ 60) && fmtsFrom l [] r))) [] := by
  refine Fn.ofN [0,1,2,4,5,6,9,13,20,40,43,54] [1002] Try.func71 (by rfl) rfl (by show 2 ≤ 55; decide) (by rfl) ?_
  repeat' ((conv => whnf); first | (refine iteB_dec (fun h => ?_) (fun h => ?_) <;> (try simp (disch := (first | omega | fail)) only [modAt, List.length_take, List.length_drop, List.length_map, List.length_append, List.length_set, List.length_replicate, len_rowsPart, len_setCell, len_marks, len_markL, len_byR, len_mkL, len_marksN, len_bytesI, len_seenI, len_appB] at h) <;> (try (exfalso; omega))) | (refine Exists.intro _ (And.intro rfl ?_)) | fail)
  · (refine .mk ⟨trivial, [], ⟨rfl, ?_⟩, List.nodup_nil, rfl, trivial⟩; show V.lit _ = V.lit _)
    rw [decide_eq_false (by omega)]; rfl
  rw [show decide (r.length ≤ 60) = true from decide_eq_true (by omega), Bool.true_and]
  refine ⟨Nat, fun i => i ≤ r.length ∧ fmtsFrom l [] r = fmtsFrom l (r.take i) (r.drop i), fun i => [(1, .imm 1 (rowI r)), (2, .ptr 1002 [] 1 0 0), (5, .lit (.int .i64 i))], fun _ => [(1002, true, 1, [[.imm 6 (rowN l)]])], fun i => r.length - i, ⟨[], 0, ⟨Nat.zero_le _, rfl⟩, ⟨rfl, rfl⟩, ⟨by first | rfl | fail, by first | rfl | fail, by first | rfl | fail, trivial⟩, boxEq rfl, trivial⟩, ?_⟩
  intro i ⟨hi, hh⟩
  by_cases hlt : i < r.length
  · rw [fmtsFrom_at l r i hlt] at hh
    have hE := F_s_l10Element l r[i] hl
    by_cases hb : r[i] = -1
    · rw [decide_eq_true hb, Bool.true_or, Bool.true_and] at hh
      repeat' ((conv => whnf); first | (refine iteB_dec (fun h => ?_) (fun h => ?_) <;> (try simp (disch := (first | omega | fail)) only [modAt, List.length_take, List.length_drop, List.length_map, List.length_append, List.length_set, List.length_replicate, len_rowsPart, len_setCell, len_marks, len_markL, len_byR, len_mkL, len_marksN, len_bytesI, len_seenI, len_appB] at h) <;> (try (exfalso; omega))) | (refine wrapB_i64 (by first | omega | fail) (by first | omega | fail) ?_) | (refine And.intro (by first | exact True.intro | omega | fail) ?_) | (refine Exists.intro _ (And.intro (rowGet _ _ _ (by omega)) ?_)) | fail)
      exact ⟨[], i + 1, ⟨by omega, hh⟩, ⟨⟨rfl, rfl⟩, ⟨by first | rfl | fail, by first | rfl | fail, by first | rfl | fail, trivial⟩, boxEq rfl, trivial⟩, by first | (dsimp only; omega) | fail⟩
    · rw [decide_eq_false hb, Bool.false_or] at hh
      by_cases hrb : rowB l r[i] = true
      · have hin := nodeIn_of (show nodeIn l r[i] = true by unfold rowB at hrb; rw [Bool.and_eq_true] at hrb; exact hrb.1)
        have hni := nodeIn_yes hin
        have hkd : (rdD l r[i]).1 = 3 := by unfold rowB at hrb; rw [Bool.and_eq_true] at hrb; exact of_decide_eq_true hrb.2
        have hnm := nm_at hq r[i] hin.1 hin.2
        have hIF := F_s_IsFormat (rdD l r[i]).2.1 hnm
        rw [hrb] at hE
        repeat' ((conv => whnf); first | (refine iteB_dec (fun h => ?_) (fun h => ?_) <;> (try simp (disch := (first | omega | fail)) only [modAt, List.length_take, List.length_drop, List.length_map, List.length_append, List.length_set, List.length_replicate, len_rowsPart, len_setCell, len_marks, len_markL, len_byR, len_mkL, len_marksN, len_bytesI, len_seenI, len_appB] at h) <;> (try (exfalso; omega))) | (refine iteB_not ?_) | (refine iteB_of (fun h => ?_) (fun h => ?_)) | (refine Exists.intro _ (And.intro rfl ?_)) | (refine And.intro (by first | exact True.intro | omega | fail) ?_) | (refine Exists.intro _ (And.intro (rowGet _ _ _ (by omega)) ?_)) | (refine Exists.intro _ (And.intro (rowGetI _ _ _ (by omega) (by omega)) ?_)) | (refine Or.inl (And.intro (by decide +kernel) ?_)) | (apply callQ_i; (repeat ((conv => whnf); first | refine And.intro (by first | omega | fail) ?_ | fail)); ((conv => whnf); apply Exists.intro; (first | exact FnB.mk (hE) | exact FnB.mk (hIF) | fail))) | fail)
        · rw [fmtB_yes hni hkd (by assumption), Bool.true_and] at hh
          refine ⟨Nat, fun k => k ≤ i ∧ hasI (r.take i) r[i] = hasI ((r.take i).drop k) r[i], fun k => [(1, .imm 1 (rowI r)), (2, .ptr 1002 [] 1 0 0), (5, .lit (.int .i64 i)), (6, .lit (.int .i64 k))], fun _ => [(1002, true, 1, [[.imm 6 (rowN l)]])], fun k => i - k, ⟨[], 0, ⟨Nat.zero_le _, rfl⟩, ⟨rfl, rfl⟩, ⟨by first | rfl | fail, by first | rfl | fail, by first | rfl | fail, by first | rfl | fail, trivial⟩, boxEq rfl, trivial⟩, ?_⟩
          intro k ⟨hk, hn⟩
          by_cases hlk : k < i
          · rw [hasI_at r i k _ (by omega) hlk] at hn
            repeat' ((conv => whnf); first | (refine iteB_dec (fun h => ?_) (fun h => ?_) <;> (try simp (disch := (first | omega | fail)) only [modAt, List.length_take, List.length_drop, List.length_map, List.length_append, List.length_set, List.length_replicate, len_rowsPart, len_setCell, len_marks, len_markL, len_byR, len_mkL, len_marksN, len_bytesI, len_seenI, len_appB] at h) <;> (try (exfalso; omega))) | (refine wrapB_i64 (by first | omega | fail) (by first | omega | fail) ?_) | (refine And.intro (by first | exact True.intro | omega | fail) ?_) | (refine Exists.intro _ (And.intro (rowGet _ _ _ (by omega)) ?_)) | (refine Or.inl (And.intro (by decide +kernel) ?_)) | fail)
            · (refine .mk ⟨trivial, [], ⟨rfl, ?_⟩, List.nodup_nil, rfl, trivial⟩; show V.lit _ = V.lit _)
              rw [hh, hn, show decide (r[i] = r[k]) = true from decide_eq_true (by first | exact Eq.symm (by assumption) | fail)]; rfl
            · exact ⟨[], k + 1, ⟨by omega, by rw [hn, show decide (r[i] = r[k]) = false from decide_eq_false (by first | exact fun e => absurd e.symm (by assumption) | fail)]; rfl⟩, ⟨⟨rfl, rfl⟩, ⟨by first | rfl | fail, by first | rfl | fail, by first | rfl | fail, by first | rfl | fail, trivial⟩, boxEq rfl, trivial⟩, by first | (dsimp only; omega) | fail⟩
          · obtain rfl : k = i := by omega
            rw [hasI_end] at hn
            rw [hn, Bool.not_false, Bool.true_and] at hh
            repeat' ((conv => whnf); first | (refine iteB_dec (fun h => ?_) (fun h => ?_) <;> (try simp (disch := (first | omega | fail)) only [modAt, List.length_take, List.length_drop, List.length_map, List.length_append, List.length_set, List.length_replicate, len_rowsPart, len_setCell, len_marks, len_markL, len_byR, len_mkL, len_marksN, len_bytesI, len_seenI, len_appB] at h) <;> (try (exfalso; omega))) | (refine wrapB_i64 (by first | omega | fail) (by first | omega | fail) ?_) | fail)
            exact ⟨[], k + 1, ⟨by omega, hh⟩, ⟨⟨rfl, rfl⟩, ⟨by first | rfl | fail, by first | rfl | fail, by first | rfl | fail, trivial⟩, boxEq rfl, trivial⟩, by first | (dsimp only; omega) | fail⟩
        · (refine .mk ⟨trivial, [], ⟨rfl, ?_⟩, List.nodup_nil, rfl, trivial⟩; show V.lit _ = V.lit _)
          rw [hh, fmtB_name (by assumption)]; simp
      · rw [fmtB_row hrb] at hh
        rw [(Bool.not_eq_true _).mp hrb] at hE
        repeat' ((conv => whnf); first | (refine iteB_dec (fun h => ?_) (fun h => ?_) <;> (try simp (disch := (first | omega | fail)) only [modAt, List.length_take, List.length_drop, List.length_map, List.length_append, List.length_set, List.length_replicate, len_rowsPart, len_setCell, len_marks, len_markL, len_byR, len_mkL, len_marksN, len_bytesI, len_seenI, len_appB] at h) <;> (try (exfalso; omega))) | (refine Exists.intro _ (And.intro rfl ?_)) | (refine And.intro (by first | exact True.intro | omega | fail) ?_) | (refine Exists.intro _ (And.intro (rowGet _ _ _ (by omega)) ?_)) | (refine Or.inl (And.intro (by decide +kernel) ?_)) | (apply callQ_i; (repeat ((conv => whnf); first | refine And.intro (by first | omega | fail) ?_ | fail)); ((conv => whnf); apply Exists.intro; (first | exact FnB.mk (hE) | fail))) | fail)
        (refine .mk ⟨trivial, [], ⟨rfl, ?_⟩, List.nodup_nil, rfl, trivial⟩; show V.lit _ = V.lit _)
        rw [hh]; rfl
  · obtain rfl : i = r.length := by omega
    rw [fmtsFrom_end] at hh
    repeat' ((conv => whnf); first | (refine iteB_dec (fun h => ?_) (fun h => ?_) <;> (try simp (disch := (first | omega | fail)) only [modAt, List.length_take, List.length_drop, List.length_map, List.length_append, List.length_set, List.length_replicate, len_rowsPart, len_setCell, len_marks, len_markL, len_byR, len_mkL, len_marksN, len_bytesI, len_seenI, len_appB] at h) <;> (try (exfalso; omega))) | fail)
    (refine .mk ⟨trivial, [], ⟨rfl, ?_⟩, List.nodup_nil, rfl, trivial⟩; show V.lit _ = V.lit _)
    rw [hh]
/-- Builds: tree, row, formats, mode, old mode, head, cut, last name, skip, code. -/
abbrev Bd := List Nd × List Int × List Int × Int × Int × Int × Int × ByteArray × Bool × Int
def bdL (d : Bd) : List V := [.lit (.int .i64 d.2.2.2.1), .lit (.int .i64 d.2.2.2.2.1), .lit (.int .i64 d.2.2.2.2.2.1), .lit (.int .i64 d.2.2.2.2.2.2.1), .lit (.string d.2.2.2.2.2.2.2.1), .lit (.bool d.2.2.2.2.2.2.2.2.1), .lit (.int .i64 d.2.2.2.2.2.2.2.2.2)]
def sBd (d : Bd) : List V := .imm 6 (rowN d.1) :: .imm 1 (rowI d.2.1) :: .imm 1 (rowI d.2.2.1) :: bdL d
def bdSz (d : Bd) : Prop := (d.1.length * 96 ≤ 140737488351232 ∧ ∀ x ∈ d.1, ndOk x) ∧ d.2.1.length * 8 ≤ 140737488351232 ∧ d.2.2.1.length * 8 ≤ 140737488351232
theorem F_l_toBuild (d : Bd) (hd : bdSz d) : Fn pg 47 [.agg (sBd d)] [] (.agg (.sl 500 [] 6 0 d.1.length :: .sl 501 [] 1 0 d.2.1.length :: .sl 502 [] 1 0 d.2.2.1.length :: bdL d)) [(500, false, 6, rowN d.1), (501, false, 1, rowI d.2.1), (502, false, 1, rowI d.2.2.1)] := by
  obtain ⟨⟨h1, h2⟩, h3, h4⟩ := hd
  have hT := F_l_toTree d.1 h1 h2
  refine Fn.ofN [0,1,2,3] [1001,1002,1003,1006,1010,1014] Try.func47 (by rfl) rfl (by show 1 ≤ 38; decide) (by rfl) ?_
  repeat' ((conv => whnf); first | (refine Exists.intro _ (And.intro rfl ?_)) | (refine And.intro (by first | exact True.intro | decide +kernel | (simp (disch := (first | omega | fail)) only [List.length_cons, List.length_nil, modAt, List.length_take, List.length_drop, List.length_map, List.length_append, List.length_set, List.length_replicate, len_rowsPart, len_setCell, len_marks, len_markL, len_byR, len_mkL, len_marksN, len_bytesI, len_seenI, len_appB]; first | omega | fail) | fail) ?_) | (refine Or.inl ?_; apply callV_i; (repeat ((conv => whnf); first | refine And.intro (by first | omega | fail) ?_ | fail)); ((conv => whnf); first | exact FnB.mk (hT) | exact FnB.mk (F_l_toIntS _ (by first | omega | fail)) | fail); refine ⟨rfl, rfl, ?_⟩) | fail)
  refine .mk ⟨trivial, [1006, 1010, 1014], ⟨rfl, ?_⟩, by simp, rfl, ?_⟩
  · rfl
  · exact ⟨outOk_new (d := 1006) (by decide) rfl rfl, outOk_new (d := 1010) (by decide) rfl rfl, outOk_new (d := 1014) (by decide) rfl rfl, trivial⟩
def szBd (d : Bd) (l : Int) : Int :=
  if szTr d.1 l < 0 then -1 else
  if szI d.2.1 (szTr d.1 l) < 0 then -1 else
  if szI d.2.2.1 (szI d.2.1 (szTr d.1 l)) < 0 then -1 else
  if szI d.2.2.1 (szI d.2.1 (szTr d.1 l)) - d.2.2.2.2.2.2.2.1.size < 0 then -1 else szI d.2.2.1 (szI d.2.1 (szTr d.1 l)) - d.2.2.2.2.2.2.2.1.size
theorem F_l_eqBuild (d : Bd) (hd : bdSz d) : Fn pg 49 [.agg (sBd d), .agg (sBd d)] [] (.lit (.bool true)) [] := by
  obtain ⟨⟨h1, h2⟩, h3, h4⟩ := hd
  have hT := F_l_eqTree d.1 d.1 (by omega) (by omega) h2 h2
  have hR := F_l_eqIntS d.2.1 d.2.1 (by omega) (by omega)
  have hF := F_l_eqIntS d.2.2.1 d.2.2.1 (by omega) (by omega)
  rw [decide_eq_true rfl] at hT hR hF
  refine Fn.ofN [0,1,2,3,4,10,16,22,27,32,37,42,47,52,57] [1002,1003] Try.func49 (by rfl) rfl (by show 2 ≤ 58; decide) (by rfl) ?_
  repeat' ((conv => whnf); first | (refine iteB_dec (fun h => ?_) (fun h => ?_) <;> (try simp (disch := (first | omega | fail)) only [modAt, List.length_take, List.length_drop, List.length_map, List.length_append, List.length_set, List.length_replicate, len_rowsPart, len_setCell, len_marks, len_markL, len_byR, len_mkL, len_marksN, len_bytesI, len_seenI, len_appB] at h) <;> (try (exfalso; omega))) | (refine Exists.intro _ (And.intro rfl ?_)) | (refine Or.inl ?_; apply callV_i; (repeat ((conv => whnf); first | refine And.intro (by first | omega | fail) ?_ | fail)); ((conv => whnf); first | exact FnB.mk (hT) | exact FnB.mk (hR) | exact FnB.mk (hF) | fail); refine ⟨rfl, rfl, ?_⟩) | fail)
  all_goals first | (exact absurd trivial (by assumption)) | ((refine .mk ⟨trivial, [], ⟨rfl, ?_⟩, List.nodup_nil, rfl, trivial⟩; show V.lit _ = V.lit _); rfl) | fail
def htmlS : ByteArray := ⟨#[104, 116, 109, 108]⟩
def fitsB (d : Bd) : Bool :=
  if d.2.2.2.1 = 7 ∧ ¬ d.2.2.2.2.1 = 4 ∧ ¬ d.2.2.2.2.1 = 5 ∧ ¬ d.2.2.2.2.1 = 6 then false
  else if d.2.2.2.1 = 1 ∨ d.2.2.2.1 = 2 then decide (d.2.1.length = 0)
  else decide (0 < d.2.1.length) && decide ((rdD d.1 (rdD d.2.1 0)).2.1 = htmlS)
theorem F_i_Build_rowFits (d : Bd) (hl : d.1.length ≤ 140737488351232) (hr : d.2.1.length ≤ 140737488351232) (hv : ∀ x ∈ d.2.1, 0 ≤ x ∧ x ≤ (d.1.length : Int) - 1) : Fn pg 83 [.pro (sBd d)] [] (.lit (.bool (fitsB d))) [] := by
  by_cases h0 : 0 < d.2.1.length
  · have hin := rdD_in hv 0 (by omega) (by omega)
    have e0 : d.2.1[nat_lit 0]'h0 = rdD d.2.1 0 := (rdD_nat d.2.1 0 h0).symm
    have hin0 : 0 ≤ d.2.1[nat_lit 0]'h0 ∧ d.2.1[nat_lit 0]'h0 ≤ (d.1.length : Int) - 1 := by rw [e0]; exact hin
    unfold fitsB
    rw [← e0]
    refine Fn.ofN [0,2,28,40] [] Try.func83 (by rfl) rfl (by show 1 ≤ 70; decide) (by rfl) ?_
    repeat' ((conv => whnf); first | (refine iteB_dec (fun h => ?_) (fun h => ?_) <;> (try simp (disch := (first | omega | fail)) only [modAt, List.length_take, List.length_drop, List.length_map, List.length_append, List.length_set, List.length_replicate, len_rowsPart, len_setCell, len_marks, len_markL, len_byR, len_mkL, len_marksN, len_bytesI, len_seenI, len_appB] at h) <;> (try (exfalso; omega))) | (refine And.intro (by first | exact True.intro | decide +kernel | omega | fail) ?_) | (refine Exists.intro _ (And.intro (rowGet _ _ _ (by omega)) ?_)) | (refine Exists.intro _ (And.intro (rowGetI _ _ _ (by omega) (by omega)) ?_)) | (refine Or.inl (And.intro (by decide +kernel) ?_)) | fail)
    all_goals ((refine .mk ⟨trivial, [], ⟨rfl, ?_⟩, List.nodup_nil, rfl, trivial⟩; show V.lit _ = V.lit _); simp_all [htmlS])
  · unfold fitsB
    refine Fn.ofN [0,2,28,40] [] Try.func83 (by rfl) rfl (by show 1 ≤ 70; decide) (by rfl) ?_
    repeat' ((conv => whnf); first | (refine iteB_dec (fun h => ?_) (fun h => ?_) <;> (try simp (disch := (first | omega | fail)) only [modAt, List.length_take, List.length_drop, List.length_map, List.length_append, List.length_set, List.length_replicate, len_rowsPart, len_setCell, len_marks, len_markL, len_byR, len_mkL, len_marksN, len_bytesI, len_seenI, len_appB] at h) <;> (try (exfalso; omega))) | (refine Or.inl (And.intro (by decide +kernel) ?_)) | fail)
    all_goals ((refine .mk ⟨trivial, [], ⟨rfl, ?_⟩, List.nodup_nil, rfl, trivial⟩; show V.lit _ = V.lit _); simp_all [htmlS])
theorem szTr_le (t : List Nd) (l : Int) (h : 0 ≤ l) : szTr t l ≤ l := by
  unfold szTr
  split
  · omega
  · exact szS_le szNd szNd_le t l h
theorem F_l_szBuild (d : Bd) (l : Int) (hl : 0 ≤ l) (hl2 : l ≤ 140737488351232) (hd : bdSz d) (hs : d.2.2.2.2.2.2.2.1.size ≤ 140737488351232) : Fn pg 45 [.agg (sBd d), .lit (.int .i64 l)] [] (.lit (.int .i64 (szBd d l))) [] := by
  obtain ⟨⟨h1, h2⟩, h3, h4⟩ := hd
  have hT := F_l_szTree d.1 l (by omega) hl hl2 h2
  have hle := szTr_le d.1 l hl
  by_cases g1 : 0 ≤ szTr d.1 l
  · have hR := F_l_szIntS d.2.1 (szTr d.1 l) (by omega) g1 (by omega)
    have hle2 := szI_le d.2.1 (szTr d.1 l) g1
    by_cases g2 : 0 ≤ szI d.2.1 (szTr d.1 l)
    · have hF := F_l_szIntS d.2.2.1 (szI d.2.1 (szTr d.1 l)) (by omega) g2 (by omega)
      have hle3 := szI_le d.2.2.1 (szI d.2.1 (szTr d.1 l)) g2
      refine Fn.ofN [0,1,2,4,10,16,22,29] [1002] Try.func45 (by rfl) rfl (by show 2 ≤ 31; decide) (by rfl) ?_
      repeat' ((conv => whnf); first | (refine iteB_dec (fun h => ?_) (fun h => ?_) <;> (try simp (disch := (first | omega | fail)) only [modAt, List.length_take, List.length_drop, List.length_map, List.length_append, List.length_set, List.length_replicate, len_rowsPart, len_setCell, len_marks, len_markL, len_byR, len_mkL, len_marksN, len_bytesI, len_seenI, len_appB] at h) <;> (try (exfalso; omega))) | (refine Exists.intro _ (And.intro rfl ?_)) | (refine wrapB_i64 (by first | omega | fail) (by first | omega | fail) ?_) | (refine Or.inl ?_; apply callV_i; (repeat ((conv => whnf); first | refine And.intro (by first | omega | fail) ?_ | fail)); ((conv => whnf); first | exact FnB.mk (hT) | exact FnB.mk (hR) | exact FnB.mk (hF) | fail); refine ⟨rfl, rfl, ?_⟩) | fail)
      all_goals ((refine .mk ⟨trivial, [], ⟨rfl, ?_⟩, List.nodup_nil, rfl, trivial⟩; show V.lit _ = V.lit _); unfold szBd; congr 2; grind)
    · refine Fn.ofN [0,1,2,4,10,16,22,29] [1002] Try.func45 (by rfl) rfl (by show 2 ≤ 31; decide) (by rfl) ?_
      repeat' ((conv => whnf); first | (refine iteB_dec (fun h => ?_) (fun h => ?_) <;> (try simp (disch := (first | omega | fail)) only [modAt, List.length_take, List.length_drop, List.length_map, List.length_append, List.length_set, List.length_replicate, len_rowsPart, len_setCell, len_marks, len_markL, len_byR, len_mkL, len_marksN, len_bytesI, len_seenI, len_appB] at h) <;> (try (exfalso; omega))) | (refine Exists.intro _ (And.intro rfl ?_)) | (refine Or.inl ?_; apply callV_i; (repeat ((conv => whnf); first | refine And.intro (by first | omega | fail) ?_ | fail)); ((conv => whnf); first | exact FnB.mk (hT) | exact FnB.mk (hR) | fail); refine ⟨rfl, rfl, ?_⟩) | fail)
      all_goals ((refine .mk ⟨trivial, [], ⟨rfl, ?_⟩, List.nodup_nil, rfl, trivial⟩; show V.lit _ = V.lit _); unfold szBd; congr 2; grind)
  · refine Fn.ofN [0,1,2,4,10,16,22,29] [1002] Try.func45 (by rfl) rfl (by show 2 ≤ 31; decide) (by rfl) ?_
    repeat' ((conv => whnf); first | (refine iteB_dec (fun h => ?_) (fun h => ?_) <;> (try simp (disch := (first | omega | fail)) only [modAt, List.length_take, List.length_drop, List.length_map, List.length_append, List.length_set, List.length_replicate, len_rowsPart, len_setCell, len_marks, len_markL, len_byR, len_mkL, len_marksN, len_bytesI, len_seenI, len_appB] at h) <;> (try (exfalso; omega))) | (refine Exists.intro _ (And.intro rfl ?_)) | (refine Or.inl ?_; apply callV_i; (repeat ((conv => whnf); first | refine And.intro (by first | omega | fail) ?_ | fail)); ((conv => whnf); first | exact FnB.mk (hT) | fail); refine ⟨rfl, rfl, ?_⟩) | fail)
    all_goals ((refine .mk ⟨trivial, [], ⟨rfl, ?_⟩, List.nodup_nil, rfl, trivial⟩; show V.lit _ = V.lit _); unfold szBd; congr 2; grind)
def buildOk (d : Bd) : Bool := (stackOk d.1 d.2.1 && (decide (d.2.2.1.length ≤ 60) && fmtsFrom d.1 [] d.2.2.1)) && ((((decide (1 ≤ d.2.2.2.1) && decide (d.2.2.2.1 ≤ 8)) && (decide (1 ≤ d.2.2.2.2.1) && decide (d.2.2.2.2.1 ≤ 8))) && !decide (d.2.2.2.2.1 = 7)) && ((decide (d.2.2.2.2.2.1 = -1) || rowB d.1 d.2.2.2.2.2.1) && ((decide (1 ≤ d.2.2.2.2.2.2.1) && decide (d.2.2.2.2.2.2.1 ≤ 4)) && (decide (d.2.2.2.2.2.2.2.1.size ≤ 60) && ((decide (0 ≤ d.2.2.2.2.2.2.2.2.2) && decide (d.2.2.2.2.2.2.2.2.2 ≤ 2)) && fitsB d)))))
/-- A pointer's first cell, where more may be read. -/
theorem Fn.proCut {G : Pg} {f : Nat} {c : V} {rest args : List V} {r : V} {bs' : Bl} (h : Fn G f (.pro [c] :: args) [] r bs') : Fn G f (.pro (c :: rest) :: args) [] r bs' := by
  obtain ⟨h1, h2⟩ := h
  refine ⟨h1, fun cx M vals R hv => h2 cx M vals R ⟨hv.1, fun k v u hv' hu => ?_⟩⟩
  cases k with
  | zero =>
    have := hv.2 0 (.pro (c :: rest)) u rfl hu
    simp only [List.getElem?_cons_zero, Option.some.injEq] at hv'
    subst hv'
    cases this with
    | pro g1 g2 g3 =>
      refine .pro g1 g2 (fun k v hk => ?_)
      cases k with
      | zero => exact g3 0 v (by simpa using hk)
      | succ k => simp at hk
  | succ k => exact hv.2 (k + 1) v u hv' hu
theorem F_i_BuildOk (d : Bd) (hd : bdSz d) (hp : ∀ x ∈ d.1, ndSm x) (hq : ∀ x ∈ d.1, x.2.1.size ≤ 1048576) : Fn pg 48 [.agg (sBd d)] [] (.lit (.bool (buildOk d))) [] := by
  obtain ⟨⟨h1, h2⟩, h3, h4⟩ := hd
  have hS := F_i_StackOk d.1 d.2.1 (by omega) hp (by omega)
  have hF := Fn.proCut (rest := .imm 1 (rowI d.2.1) :: .imm 1 (rowI d.2.2.1) :: bdL d) (F_i_Tree_fmtsOk d.1 d.2.2.1 (by omega) (by omega) hq)
  have hN := Fn.proCut (rest := .imm 1 (rowI d.2.1) :: .imm 1 (rowI d.2.2.1) :: bdL d) (F_i_Tree_isNode d.1 d.2.2.2.2.2.1 (by omega))
  have hRF := fun h => F_i_Build_rowFits d (by omega) (by omega) h
  have hRB : nodeIn d.1 d.2.2.2.2.2.1 = true → rowB d.1 d.2.2.2.2.2.1 = decide ((rdD d.1 d.2.2.2.2.2.1).1 = 3) := fun h => by unfold rowB; rw [h, Bool.true_and]
  have hRN : nodeIn d.1 d.2.2.2.2.2.1 = false → rowB d.1 d.2.2.2.2.2.1 = false := rowB_no1
  unfold buildOk
  generalize fitsB d = fb at hRF ⊢
  generalize (decide (d.2.2.1.length ≤ 60) && fmtsFrom d.1 [] d.2.2.1) = ff at hF ⊢
  obtain ⟨t, r, f, m, o, n, c, la, sk, co⟩ := d
  dsimp only [sBd, bdL] at *
  cases hok : stackOk t r with
  | true =>
    rw [hok] at hS
    have hR := hRF (stackOk_in hok)
    by_cases hin : 0 ≤ n ∧ n ≤ (t.length : Int) - 1
    · rw [nodeIn_yes hin] at hN
      rw [hRB (nodeIn_yes hin)]
      refine Fn.ofN [0,1,2,32,53] [1001] Try.func48 (by rfl) rfl (by show 1 ≤ 71; decide) (by rfl) ?_
      repeat' ((conv => whnf); first | (refine iteB_dec (fun h => ?_) (fun h => ?_) <;> (try simp (disch := (first | omega | fail)) only [modAt, List.length_take, List.length_drop, List.length_map, List.length_append, List.length_set, List.length_replicate, len_rowsPart, len_setCell, len_marks, len_markL, len_byR, len_mkL, len_marksN, len_bytesI, len_seenI, len_appB] at h) <;> (try (exfalso; omega))) | (refine iteB_not ?_) | (refine iteB_of (fun h => ?_) (fun h => ?_)) | (refine Exists.intro _ (And.intro rfl ?_)) | (refine And.intro (by first | exact True.intro | omega | fail) ?_) | (refine Exists.intro _ (And.intro (rowGetI _ _ _ (by omega) (by omega)) ?_)) | (refine Or.inl ?_; apply callV_i; (repeat ((conv => whnf); first | refine Exists.intro _ (And.intro rfl ?_) | fail)); ((conv => whnf); first | exact FnB.mk (hS) | exact FnB.mk (hF) | exact FnB.mk (hN) | exact FnB.mk (hR) | exact FnB.mk (F_i_inRange _ _ _) | fail); refine ⟨rfl, rfl, ?_⟩) | fail)
      all_goals ((refine .mk ⟨trivial, [], ⟨rfl, ?_⟩, List.nodup_nil, rfl, trivial⟩; show V.lit _ = V.lit _); first | (simp_all; done) | (simp_all; intro _; omega) | fail)
    · rw [nodeIn_no hin] at hN
      rw [hRN (nodeIn_no hin)]
      refine Fn.ofN [0,1,2,32,53] [1001] Try.func48 (by rfl) rfl (by show 1 ≤ 71; decide) (by rfl) ?_
      repeat' ((conv => whnf); first | (refine iteB_dec (fun h => ?_) (fun h => ?_) <;> (try simp (disch := (first | omega | fail)) only [modAt, List.length_take, List.length_drop, List.length_map, List.length_append, List.length_set, List.length_replicate, len_rowsPart, len_setCell, len_marks, len_markL, len_byR, len_mkL, len_marksN, len_bytesI, len_seenI, len_appB] at h) <;> (try (exfalso; omega))) | (refine iteB_not ?_) | (refine iteB_of (fun h => ?_) (fun h => ?_)) | (refine Exists.intro _ (And.intro rfl ?_)) | (refine Or.inl ?_; apply callV_i; (repeat ((conv => whnf); first | refine Exists.intro _ (And.intro rfl ?_) | fail)); ((conv => whnf); first | exact FnB.mk (hS) | exact FnB.mk (hF) | exact FnB.mk (hN) | exact FnB.mk (hR) | exact FnB.mk (F_i_inRange _ _ _) | fail); refine ⟨rfl, rfl, ?_⟩) | fail)
      all_goals ((refine .mk ⟨trivial, [], ⟨rfl, ?_⟩, List.nodup_nil, rfl, trivial⟩; show V.lit _ = V.lit _); first | (simp_all; done) | (simp_all; intro _; omega) | fail)
  | false =>
    rw [hok] at hS
    refine Fn.ofN [0,1,2,32,53] [1001] Try.func48 (by rfl) rfl (by show 1 ≤ 71; decide) (by rfl) ?_
    repeat' ((conv => whnf); first | (refine Exists.intro _ (And.intro rfl ?_)) | (refine Or.inl ?_; apply callV_i; (repeat ((conv => whnf); first | refine And.intro (by first | omega | fail) ?_ | fail)); ((conv => whnf); first | exact FnB.mk (hS) | fail); refine ⟨rfl, rfl, ?_⟩) | fail)
    all_goals ((refine .mk ⟨trivial, [], ⟨rfl, ?_⟩, List.nodup_nil, rfl, trivial⟩; show V.lit _ = V.lit _); first | (simp_all; done) | fail)


set_option maxHeartbeats 16000000
theorem F_s_BuildOk_some (t : List Nd) (r f : List Int) (m o n c : Int) (la : ByteArray) (sk : Bool) (co : Int) (ff rb : Bool) (hT : Fn pg 51 [sTr t] [] (.lit (.bool true)) []) (hR : Fn pg 55 [sTr t, .imm 1 (rowI r)] [] (.lit (.bool true)) []) (hF : Fn pg 71 [sTr t, .imm 1 (rowI f)] [] (.lit (.bool ff)) []) (hE : Fn pg 82 [sTr t, .lit (.int .i64 n)] [] (.lit (.bool rb)) []) (hm : t.length ≤ 140737488351232) (hrl : r.length ≤ 140737488351232) (h0 : 0 < r.length) (hin0 : 0 ≤ r[nat_lit 0]'h0 ∧ r[nat_lit 0]'h0 ≤ (t.length : Int) - 1) : Fn pg 46 [.agg [.imm 6 (rowN t), .imm 1 (rowI r), .imm 1 (rowI f), .lit (.int .i64 m), .lit (.int .i64 o), .lit (.int .i64 n), .lit (.int .i64 c), .lit (.string la), .lit (.bool sk), .lit (.int .i64 co)]] [] (.lit (.bool (ff && ((((decide (1 ≤ m) && decide (m ≤ 8)) && (decide (1 ≤ o) && decide (o ≤ 8))) && !decide (o = 7)) && ((decide (n = -1) || rb) && ((decide (1 ≤ c) && decide (c ≤ 4)) && (decide (la.size ≤ 60) && ((decide (0 ≤ co) && decide (co ≤ 2)) && (if m = 7 ∧ ¬ o = 4 ∧ ¬ o = 5 ∧ ¬ o = 6 then false else if m = 1 ∨ m = 2 then decide (r.length = 0) else decide (0 < r.length) && decide ((rdD t (r[nat_lit 0]'h0)).2.1 = htmlS)))))))))) [] := by
  refine Fn.ofN [0,1,2,3,4,5,6,7,8,9,10,11,12,13,14,15,16,17,18,19,20,21,22,23,24,25,26,27,28,29,30,31,32,33,34,35,36,37,38,39,40,41,42,43,44,45,46,47,48,49,50,51,52,53,54,55,56,57,58,59,60,61,62,63,64,65,66,67,68,69,70,78,91] [1001] Try.func46 (by rfl) rfl (by show 1 ≤ 109; decide) (by rfl) ?_
  repeat' ((conv => whnf); first | (refine iteB_dec (fun h => ?_) (fun h => ?_) <;> (try simp (disch := (first | omega | fail)) only [modAt, List.length_take, List.length_drop, List.length_map, List.length_append, List.length_set, List.length_replicate, len_rowsPart, len_setCell, len_marks, len_markL, len_byR, len_mkL, len_marksN, len_bytesI, len_seenI, len_appB] at h) <;> (try (exfalso; omega))) | (refine iteB_not ?_) | (refine iteB_of (fun h => ?_) (fun h => ?_)) | (refine Exists.intro _ (And.intro rfl ?_)) | (refine And.intro (by first | exact True.intro | decide +kernel | omega | fail) ?_) | (refine Exists.intro _ (And.intro (rowGet _ _ _ (by omega)) ?_)) | (refine Exists.intro _ (And.intro (rowGetI _ _ _ (by omega) (by omega)) ?_)) | (refine Or.inl (And.intro (by decide +kernel) ?_)) | (refine Or.inl ?_; apply callV_i; (repeat ((conv => whnf); first | refine And.intro (by first | omega | fail) ?_ | fail)); ((conv => whnf); first | exact FnB.mk (hT) | exact FnB.mk (hR) | exact FnB.mk (hF) | exact FnB.mk (hE) | exact FnB.mk (F_s_l1In _ _ _) | fail); refine ⟨rfl, rfl, ?_⟩) | fail)
  all_goals ((refine .mk ⟨trivial, [], ⟨rfl, ?_⟩, List.nodup_nil, rfl, trivial⟩; show V.lit _ = V.lit _); clear hT hR hF hE; first | (simp only [V.lit.injEq, Value.bool.injEq, List.length_map]; grind [htmlS]) | fail)


set_option maxHeartbeats 16000000
theorem F_s_BuildOk_none (t : List Nd) (r f : List Int) (m o n c : Int) (la : ByteArray) (sk : Bool) (co : Int) (ff rb : Bool) (hT : Fn pg 51 [sTr t] [] (.lit (.bool true)) []) (hR : Fn pg 55 [sTr t, .imm 1 (rowI r)] [] (.lit (.bool true)) []) (hF : Fn pg 71 [sTr t, .imm 1 (rowI f)] [] (.lit (.bool ff)) []) (hE : Fn pg 82 [sTr t, .lit (.int .i64 n)] [] (.lit (.bool rb)) []) (hm : t.length ≤ 140737488351232) (hrl : r.length ≤ 140737488351232) (h0 : ¬ 0 < r.length) : Fn pg 46 [.agg [.imm 6 (rowN t), .imm 1 (rowI r), .imm 1 (rowI f), .lit (.int .i64 m), .lit (.int .i64 o), .lit (.int .i64 n), .lit (.int .i64 c), .lit (.string la), .lit (.bool sk), .lit (.int .i64 co)]] [] (.lit (.bool (ff && ((((decide (1 ≤ m) && decide (m ≤ 8)) && (decide (1 ≤ o) && decide (o ≤ 8))) && !decide (o = 7)) && ((decide (n = -1) || rb) && ((decide (1 ≤ c) && decide (c ≤ 4)) && (decide (la.size ≤ 60) && ((decide (0 ≤ co) && decide (co ≤ 2)) && (if m = 7 ∧ ¬ o = 4 ∧ ¬ o = 5 ∧ ¬ o = 6 then false else if m = 1 ∨ m = 2 then decide (r.length = 0) else decide (0 < r.length) && decide ((rdD t (rdD r 0)).2.1 = htmlS)))))))))) [] := by
  refine Fn.ofN [0,1,2,3,4,5,6,7,8,9,10,11,12,13,14,15,16,17,18,19,20,21,22,23,24,25,26,27,28,29,30,31,32,33,34,35,36,37,38,39,40,41,42,43,44,45,46,47,48,49,50,51,52,53,54,55,56,57,58,59,60,61,62,63,64,65,66,67,68,69,70,78,91] [1001] Try.func46 (by rfl) rfl (by show 1 ≤ 109; decide) (by rfl) ?_
  repeat' ((conv => whnf); first | (refine iteB_dec (fun h => ?_) (fun h => ?_) <;> (try simp (disch := (first | omega | fail)) only [modAt, List.length_take, List.length_drop, List.length_map, List.length_append, List.length_set, List.length_replicate, len_rowsPart, len_setCell, len_marks, len_markL, len_byR, len_mkL, len_marksN, len_bytesI, len_seenI, len_appB] at h) <;> (try (exfalso; omega))) | (refine iteB_not ?_) | (refine iteB_of (fun h => ?_) (fun h => ?_)) | (refine Exists.intro _ (And.intro rfl ?_)) | (refine Or.inl (And.intro (by decide +kernel) ?_)) | (refine Or.inl ?_; apply callV_i; (repeat ((conv => whnf); first | refine And.intro (by first | omega | fail) ?_ | fail)); ((conv => whnf); first | exact FnB.mk (hT) | exact FnB.mk (hR) | exact FnB.mk (hF) | exact FnB.mk (hE) | exact FnB.mk (F_s_l1In _ _ _) | fail); refine ⟨rfl, rfl, ?_⟩) | fail)
  all_goals ((refine .mk ⟨trivial, [], ⟨rfl, ?_⟩, List.nodup_nil, rfl, trivial⟩; show V.lit _ = V.lit _); clear hT hR hF hE; first | (simp only [V.lit.injEq, Value.bool.injEq, List.length_map]; grind [htmlS]) | fail)


theorem F_s_BuildOk (d : Bd) (hd : bdSz d) (hp : ∀ x ∈ d.1, ndSm x) (hq : ∀ x ∈ d.1, x.2.1.size ≤ 1048576) : Fn pg 46 [.agg (sBd d)] [] (.lit (.bool (buildOk d))) [] := by
  obtain ⟨⟨h1, h2⟩, h3, h4⟩ := hd
  have hT := F_s_TreeOk d.1 (by omega) hp
  rw [tree_agree] at hT
  have hR := F_s_l10Row d.1 d.2.1 (by omega) (by omega)
  have hF := F_s_l11Ok d.1 d.2.2.1 (by omega) (by omega) hq
  have hE := F_s_l10Element d.1 d.2.2.2.2.2.1 (by omega)
  cases hok : stackOk d.1 d.2.1 with
  | true =>
    have hin := stackOk_in hok
    have h5 := hok
    unfold stackOk at h5
    rw [Bool.and_eq_true] at h5
    rw [h5.1] at hT
    rw [h5.2] at hR
    unfold buildOk fitsB
    rw [hok, Bool.true_and]
    by_cases h0 : 0 < d.2.1.length
    · have hi0 := rdD_in hin 0 (by omega) (by omega)
      have e0 : d.2.1[nat_lit 0]'h0 = rdD d.2.1 0 := (rdD_nat d.2.1 0 h0).symm
      rw [← e0]
      exact F_s_BuildOk_some d.1 d.2.1 d.2.2.1 d.2.2.2.1 d.2.2.2.2.1 d.2.2.2.2.2.1 d.2.2.2.2.2.2.1 d.2.2.2.2.2.2.2.1 d.2.2.2.2.2.2.2.2.1 d.2.2.2.2.2.2.2.2.2 _ _ hT hR hF hE (by omega) (by omega) h0 (by rw [e0]; exact hi0)
    · exact F_s_BuildOk_none d.1 d.2.1 d.2.2.1 d.2.2.2.1 d.2.2.2.2.1 d.2.2.2.2.2.1 d.2.2.2.2.2.2.1 d.2.2.2.2.2.2.2.1 d.2.2.2.2.2.2.2.2.1 d.2.2.2.2.2.2.2.2.2 _ _ hT hR hF hE (by omega) (by omega) h0
  | false =>
    have hk := hok
    unfold stackOk at hok
    have hv : buildOk d = false := by unfold buildOk; rw [hk]; rfl
    rw [hv]
    cases htr : treeI d.1 with
    | true =>
      rw [htr] at hT
      rw [htr, Bool.true_and] at hok
      rw [hok] at hR
      refine Fn.ofN [0,1,2,3,4,5,6,7,8,9,10,11,12,13,14,15,16,17,18,19,20,21,22,23,24,25,26,27,28,29,30,31,32,33,34,35,36,37,38,39,40,41,42,43,44,45,46,47,48,49,50,51,52,53,54,55,56,57,58,59,60,61,62,63,64,65,66,67,68,69,70,78,91] [1001] Try.func46 (by rfl) rfl (by show 1 ≤ 109; decide) (by rfl) ?_
      repeat' ((conv => whnf); first | (refine Exists.intro _ (And.intro rfl ?_)) | (refine Or.inl ?_; apply callV_i; (repeat ((conv => whnf); first | refine And.intro (by first | omega | fail) ?_ | fail)); ((conv => whnf); first | exact FnB.mk (hT) | exact FnB.mk (hR) | fail); refine ⟨rfl, rfl, ?_⟩) | fail)
      all_goals ((refine .mk ⟨trivial, [], ⟨rfl, ?_⟩, List.nodup_nil, rfl, trivial⟩; show V.lit _ = V.lit _); rfl)
    | false =>
      rw [htr] at hT
      refine Fn.ofN [0,1,2,3,4,5,6,7,8,9,10,11,12,13,14,15,16,17,18,19,20,21,22,23,24,25,26,27,28,29,30,31,32,33,34,35,36,37,38,39,40,41,42,43,44,45,46,47,48,49,50,51,52,53,54,55,56,57,58,59,60,61,62,63,64,65,66,67,68,69,70,78,91] [1001] Try.func46 (by rfl) rfl (by show 1 ≤ 109; decide) (by rfl) ?_
      repeat' ((conv => whnf); first | (refine Exists.intro _ (And.intro rfl ?_)) | (refine Or.inl ?_; apply callV_i; (repeat ((conv => whnf); first | refine And.intro (by first | omega | fail) ?_ | fail)); ((conv => whnf); first | exact FnB.mk (hT) | fail); refine ⟨rfl, rfl, ?_⟩) | fail)
      all_goals ((refine .mk ⟨trivial, [], ⟨rfl, ?_⟩, List.nodup_nil, rfl, trivial⟩; show V.lit _ = V.lit _); rfl)


theorem szBd_tr {d : Bd} (h : 0 ≤ szBd d 1048576) : 0 ≤ szTr d.1 1048576 := by
  unfold szBd at h
  split at h
  · omega
  · omega
theorem F_l_FnExactBuildOk (d : Bd) (ht : trS d.1) (hr : rwS d.2.1) (hf : rwS d.2.2.1) (hs : d.2.2.2.2.2.2.2.1.size ≤ 140737488351232) : Fn pg 13 [.agg (sBd d)] [] (.lit (.bool true)) [] := by
  have ho := trS_ok ht
  have hd : bdSz d := ⟨⟨ht.1, ho⟩, hr.1, hf.1⟩
  have hZ := F_l_szBuild d 1048576 (by decide) (by decide) hd hs
  have hB := F_l_toBuild d hd
  by_cases hz : 0 ≤ szBd d 1048576
  · have hsm := szTr_sm d.1 (szBd_tr hz)
    have hnm := szTr_nm d.1 (szBd_tr hz)
    have hI := F_i_BuildOk d hd hsm hnm
    have hS := F_s_BuildOk d hd hsm hnm
    have hE := F_l_eqBuild d hd
    refine Fn.ofN [0,1,2,3,4,5,6,11,21,26] [1001,1005,1013,1016,1024,2013,2016,2024,3013,3016,3024] Try.func13 (by rfl) rfl (by show 1 ≤ 27; decide) (by rfl) ?_
    repeat' ((conv => whnf); first | (refine iteB_dec (fun h => ?_) (fun h => ?_) <;> (try simp (disch := (first | omega | fail)) only [modAt, List.length_take, List.length_drop, List.length_map, List.length_append, List.length_set, List.length_replicate, len_rowsPart, len_setCell, len_marks, len_markL, len_byR, len_mkL, len_marksN, len_bytesI, len_seenI, len_appB] at h) <;> (try (exfalso; omega))) | (refine Exists.intro _ (And.intro rfl ?_)) | (refine And.intro (by first | exact True.intro | decide +kernel | fail) ?_) | (refine Or.inr (Exists.intro 5 (Exists.intro [(0, true), (1, true), (2, false), (3, false), (4, true)] (And.intro (by decide +kernel) ?_)))) | (refine Or.inl ?_; apply callV_i; (repeat ((conv => whnf); first | refine And.intro (by first | omega | (simp (disch := (first | omega | fail)) only [List.length_cons, List.length_nil, modAt, List.length_take, List.length_drop, List.length_map, List.length_append, List.length_set, List.length_replicate, len_rowsPart, len_setCell, len_marks, len_markL, len_byR, len_mkL, len_marksN, len_bytesI, len_seenI, len_appB]; first | omega | fail) | fail) ?_ | fail)); ((conv => whnf); first | exact FnB.mk (hZ) | exact FnB.mk (hB) | (simp (disch := (first | omega | fail)) only [takeAll, takeAll2, take_app, take_app2, take_marks, take_dropU, take_byR, take_takeU, take_marksN]; first | exact FnB.mk (hI) | exact FnB.mk (hS) | exact FnB.mk (hE) | fail) | fail); refine ⟨rfl, rfl, ?_⟩) | fail)
    all_goals first | (exact absurd trivial (by assumption)) | skip | fail
    all_goals first | (refine .mk ⟨trivial, [], ⟨rfl, rfl⟩, List.nodup_nil, rfl, trivial⟩) | fail
  · refine Fn.ofN [0,1,2,3,4,5,6,11,21,26] [1001,1005,1013,1016,1024,2013,2016,2024,3013,3016,3024] Try.func13 (by rfl) rfl (by show 1 ≤ 27; decide) (by rfl) ?_
    repeat' ((conv => whnf); first | (refine iteB_dec (fun h => ?_) (fun h => ?_) <;> (try simp (disch := (first | omega | fail)) only [modAt, List.length_take, List.length_drop, List.length_map, List.length_append, List.length_set, List.length_replicate, len_rowsPart, len_setCell, len_marks, len_markL, len_byR, len_mkL, len_marksN, len_bytesI, len_seenI, len_appB] at h) <;> (try (exfalso; omega))) | (refine Exists.intro _ (And.intro rfl ?_)) | (refine Or.inl ?_; apply callV_i; (repeat ((conv => whnf); first | refine And.intro (by first | omega | fail) ?_ | fail)); ((conv => whnf); first | exact FnB.mk (hZ) | fail); refine ⟨rfl, rfl, ?_⟩) | fail)
    all_goals first | (refine .mk ⟨trivial, [], ⟨rfl, rfl⟩, List.nodup_nil, rfl, trivial⟩) | fail


end Go.Proofs.Ytpojadoklfdfiaa.M

/- Walks of the program's functions, by the small machine. -/
import Derived.Test.YtbmfhhbifmgikaaWG
namespace Go.Proofs.Ytbmfhhbifmgikaa.M
open Go
set_option maxHeartbeats 1000000
set_option maxRecDepth 20000
set_option linter.unusedVariables false
set_option linter.unusedSimpArgs false

-- FN laws.markStringS
theorem F_l_markStringS_nil (k : Int) : Fn pg 77 [.imm 1 [], .lit (.int .i64 k)] [] (.lit (.int .i64 k)) [] := by
  refine Fn.ofN [0,1,4,5,9] [] Try.func77 (by rfl) rfl (by show 2 ≤ 20; decide) (by rfl) ?_
  repeat' ((conv => whnf); first | (refine iteB_dec (fun h => ?_) (fun h => ?_) <;> (try simp (disch := (first | omega | fail)) only [modAt, List.length_take, List.length_map, List.length_append, List.length_set, List.length_replicate, len_rowsPart, len_setCell, len_marks, len_markL, len_mkL, len_marksN] at h)) | fail)
  refine ⟨Unit, fun _ => True, fun _ => [(0, .imm 1 []), (1, .lit (.int .i64 k)), (5, .lit (.int .i64 0))], fun _ => [], fun _ => 0, ⟨[], (), trivial, ⟨rfl, rfl⟩, ⟨by first | rfl | fail, by first | rfl | fail, by first | rfl | fail, trivial⟩, trivial⟩, ?_⟩
  intro _ _
  repeat' ((conv => whnf); first | (refine iteB_dec (fun h => ?_) (fun h => ?_) <;> (try simp (disch := (first | omega | fail)) only [modAt, List.length_take, List.length_map, List.length_append, List.length_set, List.length_replicate, len_rowsPart, len_setCell, len_marks, len_markL, len_mkL, len_marksN] at h)) | fail)
  all_goals first | skip | fail
  all_goals ((refine .mk ⟨trivial, [], ⟨rfl, ?_⟩, List.nodup_nil, rfl, trivial⟩; show V.lit _ = V.lit _); rfl)
-- FN laws.markPutS
theorem F_l_markPutS_nil (k : Int) : Fn pg 78 [.imm 2 [], .lit (.int .i64 k)] [] (.lit (.int .i64 k)) [] := by
  refine Fn.ofN [0,1,4,5,9] [] Try.func78 (by rfl) rfl (by show 2 ≤ 28; decide) (by rfl) ?_
  repeat' ((conv => whnf); first | (refine iteB_dec (fun h => ?_) (fun h => ?_) <;> (try simp (disch := (first | omega | fail)) only [modAt, List.length_take, List.length_map, List.length_append, List.length_set, List.length_replicate, len_rowsPart, len_setCell, len_marks, len_markL, len_mkL, len_marksN] at h)) | fail)
  refine ⟨Unit, fun _ => True, fun _ => [(0, .imm 2 []), (1, .lit (.int .i64 k)), (5, .lit (.int .i64 0))], fun _ => [], fun _ => 0, ⟨[], (), trivial, ⟨rfl, rfl⟩, ⟨by first | rfl | fail, by first | rfl | fail, by first | rfl | fail, trivial⟩, trivial⟩, ?_⟩
  intro _ _
  repeat' ((conv => whnf); first | (refine iteB_dec (fun h => ?_) (fun h => ?_) <;> (try simp (disch := (first | omega | fail)) only [modAt, List.length_take, List.length_map, List.length_append, List.length_set, List.length_replicate, len_rowsPart, len_setCell, len_marks, len_markL, len_mkL, len_marksN] at h)) | fail)
  all_goals first | skip | fail
  all_goals ((refine .mk ⟨trivial, [], ⟨rfl, ?_⟩, List.nodup_nil, rfl, trivial⟩; show V.lit _ = V.lit _); rfl)
-- FN laws.markDisk
theorem F_l_markDisk_half (a : List ByteArray) (n : Nat) (k : Int) (hn : n ≤ a.length) (ha : n ≤ 140737488351232) (hk : 0 ≤ k) (hk2 : k ≤ 4469000000000000000) : Fn pg 48 [.agg [.sl 0 [] 1 0 n, .imm 2 []], .lit (.int .i64 k)] [(0, false, 1, rowS a)] (.lit (.int .i64 (k + n))) [(0, false, 1, rowS (marks markT k a n))] := by
  refine Fn.ofN [0,1,2,4] [0,1002] Try.func48 (by rfl) rfl (by show 2 ≤ 14; decide) (by rfl) ?_
  repeat' ((conv => whnf); first | (refine Exists.intro _ (And.intro rfl ?_)) | (refine And.intro (by first | exact True.intro | (simp (disch := (first | omega | fail)) only [modAt, List.length_take, List.length_map, List.length_append, List.length_set, List.length_replicate, len_rowsPart, len_setCell, len_marks, len_markL, len_mkL, len_marksN]; first | done | fail) | fail) ?_) | (refine Or.inl ?_; apply callV_i; (repeat ((conv => whnf); first | refine And.intro (by first | omega | (simp (disch := (first | omega | fail)) only [modAt, List.length_take, List.length_map, List.length_append, List.length_set, List.length_replicate, len_rowsPart, len_setCell, len_marks, len_markL, len_mkL, len_marksN]; first | omega | fail) | fail) ?_ | fail)); ((conv => whnf); first | exact FnB.mk (F_l_markPutS_nil _) | fail); refine ⟨rfl, rfl, ?_⟩) | (refine Or.inr (Or.inr (callA_ok ?_)); (conv => whnf); apply Exists.intro; apply Exists.intro; apply And.intro; (repeat ((conv => whnf); first | refine And.intro (by first | omega | fail) ?_ | fail)); ((conv => whnf); first | exact FnB.mk (F_l_markStringS _ _ _ (by first | omega | fail) (by first | omega | fail) (by first | omega | fail) (by first | omega | fail)) | fail); refine ⟨rfl, ?_⟩) | fail)
  refine .mk ⟨trivial, [], ⟨rfl, ?_⟩, List.nodup_nil, rfl, ?_⟩
  · rfl
  · exact ⟨outOk_old (b := 0) (by decide) rfl, trivial⟩
-- FN laws.markDisk
theorem F_l_markDisk_nil (k : Int) : Fn pg 48 [.agg [.imm 1 [], .imm 2 []], .lit (.int .i64 k)] [] (.lit (.int .i64 k)) [] := by
  refine Fn.ofN [0,1,2,4] [1002] Try.func48 (by rfl) rfl (by show 2 ≤ 14; decide) (by rfl) ?_
  repeat' ((conv => whnf); first | (refine Exists.intro _ (And.intro rfl ?_)) | (refine Or.inl ?_; apply callV_i; (repeat ((conv => whnf); first | refine And.intro (by first | exact Nat.le_refl _ | fail) ?_ | fail)); ((conv => whnf); first | exact FnB.mk (F_l_markStringS_nil _) | exact FnB.mk (F_l_markPutS_nil _) | fail); refine ⟨rfl, rfl, ?_⟩) | fail)
  all_goals ((refine .mk ⟨trivial, [], ⟨rfl, ?_⟩, List.nodup_nil, rfl, trivial⟩; show V.lit _ = V.lit _); rfl)
-- FN laws.FnExactDiskSync
theorem F_l_FnExactDiskSync (d : Dk) (hs : (d.1.length * 16 ≤ 140737488351232 ∧ ∀ x ∈ d.1, x.size ≤ 140737488351232) ∧ (d.2.length * 24 ≤ 140737488351232 ∧ ∀ x ∈ d.2, (Lit.int .i64 x.1).wf = true ∧ x.2.size ≤ 140737488351232)) : Fn pg 14 [.agg [.imm 1 (rowS d.1), .imm 2 (rowP d.2)]] [] (.lit (.bool true)) [] := by
  obtain ⟨⟨h1, h2⟩, h3, h4⟩ := hs
  have h5 : ∀ x ∈ d.2, x.2.size ≤ 140737488351232 := fun x hx => (h4 x hx).2
  cases hok : dskOk d with
  | true =>
    obtain ⟨g1, g2, g3⟩ := dskOk_puts hok
    have hl : (syncD d).length = d.1.length := doneL_length _ _ _ _
    have hE := F_l_eqDisk (syncD d, ([] : List Pt)) (syncD d, []) (by dsimp only; omega) (by dsimp only; omega) (Nat.zero_le _) (Nat.zero_le _)
    have hH := F_l_heldDisk d.1.length [] 1 (by omega) (by decide) (by decide) (by decide)
    have hZ := F_l_szDisk d 1048576 (by omega) (by omega) (by decide) (by decide) h2 h5
    have hI := F_i_DiskSync d h1 (by omega) hok
    have hS := F_s_DiskSync d h1 (by omega) hok
    rw [← hl] at hI hS hH
    refine Fn.ofN [0,1,2,3,4,5,6,7,8,9,10,11,12,13,18,40,45,61,69,72,87,92,95] [1001,1004,1006,1007,1012,1021,1022,1026,1029,1043,1075,1076,2021,2022,2026,2029,2043,2075,2076] Try.func14 (by rfl) rfl (by show 1 ≤ 96; decide) (by rfl) ?_
    repeat' ((conv => whnf); first | (refine iteB_dec (fun h => ?_) (fun h => ?_) <;> (try simp (disch := (first | omega | fail)) only [modAt, List.length_take, List.length_map, List.length_append, List.length_set, List.length_replicate, len_rowsPart, len_setCell, len_marks, len_markL, len_mkL, len_marksN] at h)) | (refine iteB_not ?_) | (refine Exists.intro _ (And.intro rfl ?_)) | (refine And.intro (by first | exact True.intro | exact Nat.le_refl _ | (simp (disch := (first | omega | fail)) only [modAt, List.length_take, List.length_map, List.length_append, List.length_set, List.length_replicate, len_rowsPart, len_setCell, len_marks, len_markL, len_mkL, len_marksN]; first | done | fail) | fail) ?_) | (refine Or.inr (Exists.intro 5 (Exists.intro [(0, true), (1, true), (2, false), (3, false), (4, true)] (And.intro (by decide +kernel) ?_)))) | (refine Or.inl ?_; apply callV_i; (repeat ((conv => whnf); first | refine And.intro (by first | omega | (simp (disch := (first | omega | fail)) only [modAt, List.length_take, List.length_map, List.length_append, List.length_set, List.length_replicate, len_rowsPart, len_setCell, len_marks, len_markL, len_mkL, len_marksN]; first | omega | fail) | fail) ?_ | fail)); ((conv => whnf); first | exact FnB.mk (hZ) | exact FnB.mk (F_l_toDisk _ (by first | omega | fail) (by first | omega | fail)) | (simp (disch := (first | omega | fail)) only [takeAll, takeAll2, take_app, take_app2, take_marks, take_marksN]; first | exact FnB.mk (hI) | exact FnB.mk (hS) | exact FnB.mk (hE) | exact FnB.mk (hH) | exact FnB.mk (F_l_eqDisk _ _ (by first | omega | fail) (by first | omega | fail) (by first | omega | fail) (by first | omega | fail)) | fail) | fail); refine ⟨rfl, rfl, ?_⟩) | (refine Or.inr (Or.inr (callA_ok ?_)); (conv => whnf); apply Exists.intro; apply Exists.intro; apply And.intro; (repeat ((conv => whnf); first | refine And.intro (by first | omega | fail) ?_ | fail)); ((conv => whnf); first | exact FnB.mk (F_l_markDisk_half _ _ _ (by first | omega | fail) (by first | omega | fail) (by first | omega | fail) (by first | omega | fail)) | exact FnB.mk (F_l_markDisk _ _ _ _ (by first | omega | fail) (by first | omega | fail) (by first | omega | fail) (by first | omega | fail) (by first | omega | fail) (by first | omega | fail)) | fail); refine ⟨rfl, ?_⟩) | fail)
    all_goals first | (exfalso; first | contradiction | fail) | (refine .mk ⟨trivial, [], ⟨rfl, rfl⟩, List.nodup_nil, rfl, trivial⟩) | fail
  | false =>
    have hE := F_l_eqDisk (([], []) : Dk) ([], []) (Nat.zero_le _) (Nat.zero_le _) (Nat.zero_le _) (Nat.zero_le _)
    have hH := F_l_heldDisk 0 [] 1 (by decide) (by decide) (by decide) (by decide)
    have hZ := F_l_szDisk d 1048576 (by omega) (by omega) (by decide) (by decide) h2 h5
    have hI := F_i_DiskSync_no d h1 (by omega) hok
    have hS := F_s_DiskSync_no d h1 (by omega) hok
    refine Fn.ofN [0,1,2,3,4,5,6,7,8,9,10,11,12,13,18,40,45,61,69,72,87,92,95] [1001,1004,1006,1007,1012,1021,1022,1026,1029,1043,1075,1076,2021,2022,2026,2029,2043,2075,2076] Try.func14 (by rfl) rfl (by show 1 ≤ 96; decide) (by rfl) ?_
    repeat' ((conv => whnf); first | (refine iteB_dec (fun h => ?_) (fun h => ?_) <;> (try simp (disch := (first | omega | fail)) only [modAt, List.length_take, List.length_map, List.length_append, List.length_set, List.length_replicate, len_rowsPart, len_setCell, len_marks, len_markL, len_mkL, len_marksN] at h)) | (refine iteB_not ?_) | (refine Exists.intro _ (And.intro rfl ?_)) | (refine And.intro (by first | exact True.intro | exact Nat.le_refl _ | (simp (disch := (first | omega | fail)) only [modAt, List.length_take, List.length_map, List.length_append, List.length_set, List.length_replicate, len_rowsPart, len_setCell, len_marks, len_markL, len_mkL, len_marksN]; first | done | fail) | fail) ?_) | (refine Or.inr (Exists.intro 5 (Exists.intro [(0, true), (1, true), (2, false), (3, false), (4, true)] (And.intro (by decide +kernel) ?_)))) | (refine Or.inl ?_; apply callV_i; (repeat ((conv => whnf); first | refine And.intro (by first | omega | (simp (disch := (first | omega | fail)) only [modAt, List.length_take, List.length_map, List.length_append, List.length_set, List.length_replicate, len_rowsPart, len_setCell, len_marks, len_markL, len_mkL, len_marksN]; first | omega | fail) | fail) ?_ | fail)); ((conv => whnf); first | exact FnB.mk (hZ) | exact FnB.mk (hE) | exact FnB.mk (hH) | exact FnB.mk (F_l_toDisk _ (by first | omega | fail) (by first | omega | fail)) | exact FnB.mk (F_l_markDisk_nil _) | (simp (disch := (first | omega | fail)) only [takeAll, takeAll2, take_app, take_app2, take_marks, take_marksN]; first | exact FnB.mk (hI) | exact FnB.mk (hS) | exact FnB.mk (F_l_eqDisk _ _ (by first | omega | fail) (by first | omega | fail) (by first | omega | fail) (by first | omega | fail)) | fail) | fail); refine ⟨rfl, rfl, ?_⟩) | (refine Or.inr (Or.inr (callA_ok ?_)); (conv => whnf); apply Exists.intro; apply Exists.intro; apply And.intro; (repeat ((conv => whnf); first | refine And.intro (by first | omega | fail) ?_ | fail)); ((conv => whnf); first | exact FnB.mk (F_l_markDisk _ _ _ _ (by first | omega | fail) (by first | omega | fail) (by first | omega | fail) (by first | omega | fail) (by first | omega | fail) (by first | omega | fail)) | fail); refine ⟨rfl, ?_⟩) | fail)
    all_goals first | (exfalso; first | contradiction | fail) | (refine .mk ⟨trivial, [], ⟨rfl, rfl⟩, List.nodup_nil, rfl, trivial⟩) | fail

end Go.Proofs.Ytbmfhhbifmgikaa.M

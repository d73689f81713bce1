/- Walks of the program's functions, by the small machine. -/
import Derived.Test.YthbhbncaapnebaaWG
namespace Go.Proofs.Ythbhbncaapnebaa.M
open Go
set_option maxHeartbeats 1000000
set_option maxRecDepth 20000
set_option linter.unusedVariables false
set_option linter.unusedSimpArgs false

-- FN laws.markStringS
theorem F_l_markStringS_nil (k : Int) : Fn pg 34 [.imm 1 [], .lit (.int .i64 k)] [] (.lit (.int .i64 k)) [] := by
  refine Fn.ofN [0,1,4,5,9] [] Try.func34 (by rfl) rfl (by show 2 ≤ 20; decide) (by rfl) ?_
  repeat' ((conv => whnf); first | (refine iteB_dec (fun h => ?_) (fun h => ?_) <;> (try simp (disch := (first | omega | fail)) only [modAt, List.length_take, List.length_map, List.length_append, List.length_set, List.length_replicate, len_rowsPart, len_setCell, len_marks, len_markL, len_mkL, len_marksN] at h)) | fail)
  refine ⟨Unit, fun _ => True, fun _ => [(0, .imm 1 []), (1, .lit (.int .i64 k)), (5, .lit (.int .i64 0))], fun _ => [], fun _ => 0, ⟨[], (), trivial, ⟨rfl, rfl⟩, ⟨by first | rfl | fail, by first | rfl | fail, by first | rfl | fail, trivial⟩, trivial⟩, ?_⟩
  intro _ _
  repeat' ((conv => whnf); first | (refine iteB_dec (fun h => ?_) (fun h => ?_) <;> (try simp (disch := (first | omega | fail)) only [modAt, List.length_take, List.length_map, List.length_append, List.length_set, List.length_replicate, len_rowsPart, len_setCell, len_marks, len_markL, len_mkL, len_marksN] at h)) | fail)
  all_goals first | skip | fail
  all_goals ((refine .mk ⟨trivial, [], ⟨rfl, ?_⟩, List.nodup_nil, rfl, trivial⟩; show V.lit _ = V.lit _); rfl)
-- FN laws.markPutS
theorem F_l_markPutS_nil (k : Int) : Fn pg 35 [.imm 2 [], .lit (.int .i64 k)] [] (.lit (.int .i64 k)) [] := by
  refine Fn.ofN [0,1,4,5,9] [] Try.func35 (by rfl) rfl (by show 2 ≤ 28; decide) (by rfl) ?_
  repeat' ((conv => whnf); first | (refine iteB_dec (fun h => ?_) (fun h => ?_) <;> (try simp (disch := (first | omega | fail)) only [modAt, List.length_take, List.length_map, List.length_append, List.length_set, List.length_replicate, len_rowsPart, len_setCell, len_marks, len_markL, len_mkL, len_marksN] at h)) | fail)
  refine ⟨Unit, fun _ => True, fun _ => [(0, .imm 2 []), (1, .lit (.int .i64 k)), (5, .lit (.int .i64 0))], fun _ => [], fun _ => 0, ⟨[], (), trivial, ⟨rfl, rfl⟩, ⟨by first | rfl | fail, by first | rfl | fail, by first | rfl | fail, trivial⟩, trivial⟩, ?_⟩
  intro _ _
  repeat' ((conv => whnf); first | (refine iteB_dec (fun h => ?_) (fun h => ?_) <;> (try simp (disch := (first | omega | fail)) only [modAt, List.length_take, List.length_map, List.length_append, List.length_set, List.length_replicate, len_rowsPart, len_setCell, len_marks, len_markL, len_mkL, len_marksN] at h)) | fail)
  all_goals first | skip | fail
  all_goals ((refine .mk ⟨trivial, [], ⟨rfl, ?_⟩, List.nodup_nil, rfl, trivial⟩; show V.lit _ = V.lit _); rfl)
-- FN laws.markDisk
theorem F_l_markDisk_half (a : List ByteArray) (n : Nat) (k : Int) (hn : n ≤ a.length) (ha : n ≤ 140737488351232) (hk : 0 ≤ k) (hk2 : k ≤ 4469000000000000000) : Fn pg 11 [.agg [.sl 0 [] 1 0 n, .imm 2 []], .lit (.int .i64 k)] [(0, false, 1, rowS a)] (.lit (.int .i64 (k + n))) [(0, false, 1, rowS (marks markT k a n))] := by
  refine Fn.ofN [0,1,2,4] [0,1002] Try.func11 (by rfl) rfl (by show 2 ≤ 14; decide) (by rfl) ?_
  repeat' ((conv => whnf); first | (refine Exists.intro _ (And.intro rfl ?_)) | (refine And.intro (by first | exact True.intro | (simp (disch := (first | omega | fail)) only [modAt, List.length_take, List.length_map, List.length_append, List.length_set, List.length_replicate, len_rowsPart, len_setCell, len_marks, len_markL, len_mkL, len_marksN]; first | done | fail) | fail) ?_) | (refine Or.inl ?_; apply callV_i; (repeat ((conv => whnf); first | refine And.intro (by first | omega | (simp (disch := (first | omega | fail)) only [modAt, List.length_take, List.length_map, List.length_append, List.length_set, List.length_replicate, len_rowsPart, len_setCell, len_marks, len_markL, len_mkL, len_marksN]; first | omega | fail) | fail) ?_ | fail)); ((conv => whnf); first | exact FnB.mk (F_l_markPutS_nil _) | fail); refine ⟨rfl, rfl, ?_⟩) | (refine Or.inr (Or.inr (callA_ok ?_)); (conv => whnf); apply Exists.intro; apply Exists.intro; apply And.intro; (repeat ((conv => whnf); first | refine And.intro (by first | omega | fail) ?_ | fail)); ((conv => whnf); first | exact FnB.mk (F_l_markStringS _ _ _ (by first | omega | fail) (by first | omega | fail) (by first | omega | fail) (by first | omega | fail)) | fail); refine ⟨rfl, ?_⟩) | fail)
  refine .mk ⟨trivial, [], ⟨rfl, ?_⟩, List.nodup_nil, rfl, ?_⟩
  · rfl
  · exact ⟨outOk_old (b := 0) (by decide) rfl, trivial⟩
-- FN laws.markDisk
theorem F_l_markDisk_nil (k : Int) : Fn pg 11 [.agg [.imm 1 [], .imm 2 []], .lit (.int .i64 k)] [] (.lit (.int .i64 k)) [] := by
  refine Fn.ofN [0,1,2,4] [1002] Try.func11 (by rfl) rfl (by show 2 ≤ 14; decide) (by rfl) ?_
  repeat' ((conv => whnf); first | (refine Exists.intro _ (And.intro rfl ?_)) | (refine Or.inl ?_; apply callV_i; (repeat ((conv => whnf); first | refine And.intro (by first | exact Nat.le_refl _ | fail) ?_ | fail)); ((conv => whnf); first | exact FnB.mk (F_l_markStringS_nil _) | exact FnB.mk (F_l_markPutS_nil _) | fail); refine ⟨rfl, rfl, ?_⟩) | fail)
  all_goals ((refine .mk ⟨trivial, [], ⟨rfl, ?_⟩, List.nodup_nil, rfl, trivial⟩; show V.lit _ = V.lit _); rfl)
-- FN impl.settled
theorem F_i_settled_fn (d : Dk) (c : Value) (f : Nat) (w : Nat → Bool) (hx : d.1.length * 16 ≤ 140737488351232) (hy : d.2.length ≤ 140737488351232) (hd : ∀ p ∈ d.2, 0 ≤ p.1 ∧ p.1 < d.1.length) (hf : ∀ i : Nat, i < d.2.length → Fn pg f [.lit (.int .i64 i), .pro [.lit c]] [] (.lit (.bool (w i))) []) : Fn pg 30 [.agg [.imm 1 (rowS d.1), .imm 2 (rowP d.2)], .fn f [.pro [.lit c]]] [] (.agg [.sl 500 [] 1 0 d.1.length, .imm 2 []]) [(500, false, 1, rowS (doneL w d.1 d.2 0))] := by
  refine Fn.ofN [0,1,2,4,5,6,7,13,14,15,16,22] [1002,1004,1005,1007,1010] Try.func30 (by rfl) rfl (by show 2 ≤ 32; decide) (by rfl) ?_
  repeat' ((conv => whnf); first | (refine Exists.intro _ (And.intro rfl ?_)) | (refine And.intro (by first | exact True.intro | exact Nat.le_refl _ | fail) ?_) | (refine Or.inl ?_; apply callV_i; (repeat ((conv => whnf); first | refine And.intro (by first | omega | fail) ?_ | fail)); ((conv => whnf); first | exact FnB.mk (F_slices_Clone_string_string _ (by first | omega | fail)) | fail); refine ⟨rfl, rfl, ?_⟩) | fail)
  refine ⟨Nat, fun i => i ≤ d.2.length, fun i => [(0, .agg [.imm 1 (rowS d.1), .imm 2 (rowP d.2)]), (1, .fn f [.pro [.lit c]]), (2, .ptr 1002 [] 2 0 0), (4, .ptr 1004 [] 2 0 0), (5, .ptr 1005 [] 2 0 0), (13, .imm 2 (rowP d.2)), (14, .lit (.int .i64 d.2.length)), (15, .lit (.int .i64 i))], fun i => [(1002, true, 2, [[.imm 1 (rowS d.1), .imm 2 (rowP d.2)]]), (1004, true, 2, [[.own 1 [], .own 2 []]]), (1005, true, 2, [[.sl 1010 [] 1 0 d.1.length, .own 2 []]]), (1010, false, 1, rowS (doneL w d.1 (d.2.take i) 0))], fun i => d.2.length - i, ⟨[], 0, by omega, ⟨rfl, rfl⟩, ⟨by first | rfl | fail, by first | rfl | fail, by first | rfl | fail, by first | rfl | fail, by first | rfl | fail, by first | rfl | fail, by first | (show V.lit (Value.int _ _) = V.lit (Value.int _ _); first | (congr 2; first | (simp only [List.length_map]; done) | fail) | fail) | fail, by first | rfl | fail, trivial⟩, ⟨rfl, rfl, rfl, rfl, trivial⟩⟩, ?_⟩
  intro i hi
  have hl := doneL_length w (d.2.take i) d.1 0
  by_cases hlt : i < d.2.length
  · obtain ⟨hp, hp2⟩ := hd _ (List.getElem_mem hlt)
    have hds := doneL_succ w d.1 d.2 i hlt
    repeat' ((conv => whnf); first | (refine iteB_dec (fun h => ?_) (fun h => ?_) <;> (try simp (disch := (first | omega | fail)) only [modAt, List.length_take, List.length_map, List.length_append, List.length_set, List.length_replicate, len_rowsPart, len_setCell, len_marks, len_markL, len_mkL, len_marksN] at h)) | (refine iteB_of (fun h => ?_) (fun h => ?_)) | (refine Exists.intro _ (And.intro rfl ?_)) | (refine wrapB_i64 (by first | omega | fail) (by first | omega | fail) ?_) | (refine And.intro (by first | exact True.intro | exact Nat.le_refl _ | omega | (simp (disch := (first | omega | fail)) only [modAt, List.length_take, List.length_map, List.length_append, List.length_set, List.length_replicate, len_rowsPart, len_setCell, len_marks, len_markL, len_mkL, len_marksN]; first | omega | fail) | fail) ?_) | (refine Exists.intro _ (And.intro (rowGet _ _ _ (by omega)) ?_)) | (refine Exists.intro _ (And.intro (by first | exact (get_mapIC _ _ _ _ _ (by first | omega | fail) (by exact rfl)) | fail) ?_)) | (refine Or.inl ?_; apply callV_i; (repeat ((conv => whnf); first | refine And.intro (by first | omega | fail) ?_ | fail)); ((conv => whnf); first | exact FnB.mk ((hf _ (by omega))) | fail); refine ⟨rfl, rfl, ?_⟩) | fail)
    · exact ⟨[], i + 1, by omega, ⟨⟨rfl, rfl⟩, ⟨by first | rfl | fail, by first | rfl | fail, by first | rfl | fail, by first | rfl | fail, by first | rfl | fail, by first | rfl | fail, by first | rfl | fail, by first | rfl | fail, trivial⟩, ⟨rfl, rfl, rfl, boxEq (setCellM eStr _ _ (.lit (.string d.2[i].2)) d.2[i].2 rfl (by omega) rfl rfl (by rw [hds, if_pos (by assumption)]; rfl)), trivial⟩⟩, by first | (dsimp only; omega) | fail⟩
    · exact ⟨[], i + 1, by omega, ⟨⟨rfl, rfl⟩, ⟨by first | rfl | fail, by first | rfl | fail, by first | rfl | fail, by first | rfl | fail, by first | rfl | fail, by first | rfl | fail, by first | rfl | fail, by first | rfl | fail, trivial⟩, ⟨rfl, rfl, rfl, boxEq (congrArg rowS (by rw [hds, if_neg (by simp_all)])), trivial⟩⟩, by first | (dsimp only; omega) | fail⟩
    · exfalso; omega
  · obtain rfl : i = d.2.length := by omega
    repeat' ((conv => whnf); first | (refine iteB_dec (fun h => ?_) (fun h => ?_) <;> (try simp (disch := (first | omega | fail)) only [modAt, List.length_take, List.length_map, List.length_append, List.length_set, List.length_replicate, len_rowsPart, len_setCell, len_marks, len_markL, len_mkL, len_marksN] at h)) | (refine Exists.intro _ (And.intro rfl ?_)) | (refine And.intro (by first | exact True.intro | exact Nat.le_refl _ | omega | fail) ?_) | (refine Exists.intro _ (And.intro (rowGet _ _ _ (by omega)) ?_)) | fail)
    all_goals first | (exfalso; omega) | skip | fail
    refine .mk ⟨trivial, [1010], ⟨rfl, ?_⟩, by simp, rfl, ?_⟩
    · rfl
    exact ⟨outOk_new (d := 1010) (by decide) rfl (boxEq (congrArg rowS (by rw [List.take_length]))), trivial⟩
-- FN impl.DiskCrash$1
theorem F_i_DiskCrash_1 (i : Nat) (keep : Int) : Fn pg 31 [.lit (.int .i64 i), .pro [.lit (.int .i64 keep)]] [] (.lit (.bool (bitW keep i))) [] := by
  have htm : 0 ≤ (i : Int).tmod 31 := by rw [Int.tmod_eq_emod_of_nonneg (by omega)]; omega
  have htm2 : (i : Int).tmod 31 ≤ 30 := by rw [Int.tmod_eq_emod_of_nonneg (by omega)]; omega
  refine Fn.ofN [0,1,3] [1007] Try.func31 (by rfl) rfl (by show 2 ≤ 11; decide) (by rfl) ?_
  repeat' ((conv => whnf); first | (refine wrapB_u64 (by first | omega | fail) (by first | omega | fail) ?_) | (refine And.intro (by first | exact True.intro | omega | fail) ?_) | fail)
  all_goals ((refine .mk ⟨trivial, [], ⟨rfl, ?_⟩, List.nodup_nil, rfl, trivial⟩; show V.lit _ = V.lit _); rfl)
def crashD (d : Dk) (keep : Int) : List ByteArray := doneL (bitW keep) d.1 d.2 0
-- FN impl.DiskCrash
theorem F_i_DiskCrash (d : Dk) (keep : Int) (hx : d.1.length * 16 ≤ 140737488351232) (hy : d.2.length ≤ 140737488351232) (hok : dskOk d = true) (hk : 0 ≤ keep) (hk2 : keep ≤ 2147483647) : Fn pg 9 [.agg [.imm 1 (rowS d.1), .imm 2 (rowP d.2)], .lit (.int .i64 keep)] [] (.tup [.agg [.sl 500 [] 1 0 d.1.length, .imm 2 []], .lit (.bool true)]) [(500, false, 1, rowS (crashD d keep))] := by
  obtain ⟨h1, h2, h3⟩ := dskOk_puts hok
  have hF := F_i_DiskOk d (by omega) (by omega)
  rw [hok] at hF
  have hS := F_i_settled_fn d (.int .i64 keep) 31 (bitW keep) hx hy h3 (fun i _ => F_i_DiskCrash_1 i keep)
  refine Fn.ofN [0,1,2,3,4,5,13] [1002,1003,1004,1017,2017] Try.func9 (by rfl) rfl (by show 2 ≤ 18; decide) (by rfl) ?_
  repeat' ((conv => whnf); first | (refine iteB_not ?_) | (refine iteB_of (fun h => ?_) (fun h => ?_)) | (refine Exists.intro _ (And.intro rfl ?_)) | (refine And.intro (by first | exact True.intro | exact Nat.le_refl _ | fail) ?_) | (refine Or.inl ?_; apply callV_i; (repeat ((conv => whnf); first | refine Exists.intro _ (And.intro rfl ?_) | fail)); ((conv => whnf); first | exact FnB.mk (hF) | exact FnB.mk (hS) | exact FnB.mk (F_i_inRange _ _ _) | fail); refine ⟨rfl, rfl, ?_⟩) | fail)
  all_goals first | (exfalso; simp_all; done) | skip | fail
  refine .mk ⟨trivial, [1017], ⟨rfl, ?_⟩, by simp, rfl, ?_⟩
  · rfl
  exact ⟨outOk_new (d := 1017) (by decide) rfl rfl, trivial⟩
-- FN spec.DiskCrash
theorem F_s_DiskCrash (d : Dk) (keep : Int) (hx : d.1.length * 16 ≤ 140737488351232) (hy : d.2.length ≤ 140737488351232) (hok : dskOk d = true) (hk : 0 ≤ keep) (hk2 : keep ≤ 2147483647) : Fn pg 7 [.agg [.imm 1 (rowS d.1), .imm 2 (rowP d.2)], .lit (.int .i64 keep)] [] (.tup [.agg [.sl 500 [] 1 0 d.1.length, .imm 2 []], .lit (.bool true)]) [(500, false, 1, rowS (crashD d keep))] := by
  obtain ⟨h1, h2, h3⟩ := dskOk_puts hok
  have hF := F_s_DiskOk d (by omega) (by omega)
  rw [hok] at hF
  have hG := F_s_l15Done d keep hx hy h3
  refine Fn.ofN [0,1,2,4,5,13] [1002,1004,1017,2017] Try.func7 (by rfl) rfl (by show 2 ≤ 18; decide) (by rfl) ?_
  repeat' ((conv => whnf); first | (refine iteB_not ?_) | (refine iteB_of (fun h => ?_) (fun h => ?_)) | (refine Exists.intro _ (And.intro rfl ?_)) | (refine And.intro (by first | exact True.intro | exact Nat.le_refl _ | fail) ?_) | (refine Or.inl ?_; apply callV_i; (repeat ((conv => whnf); first | refine And.intro (by first | omega | fail) ?_ | fail)); ((conv => whnf); first | exact FnB.mk (hF) | exact FnB.mk (hG) | exact FnB.mk (F_s_l1In _ _ _) | fail); refine ⟨rfl, rfl, ?_⟩) | fail)
  all_goals first | (exfalso; simp_all; done) | skip | fail
  refine .mk ⟨trivial, [1017], ⟨rfl, ?_⟩, by simp, rfl, ?_⟩
  · rfl
  exact ⟨outOk_new (d := 1017) (by decide) rfl rfl, trivial⟩
-- FN impl.DiskCrash
theorem F_i_DiskCrash_no (d : Dk) (keep : Int) (hx : d.1.length * 16 ≤ 140737488351232) (hy : d.2.length ≤ 140737488351232) (hno : (dskOk d && (decide (0 ≤ keep) && decide (keep ≤ 2147483647))) = false) : Fn pg 9 [.agg [.imm 1 (rowS d.1), .imm 2 (rowP d.2)], .lit (.int .i64 keep)] [] (.tup [.agg [.imm 1 [], .imm 2 []], .lit (.bool false)]) [] := by
  refine Fn.ofN [0,1,2,3,4,5,13] [1002,1003,1004,1017,2017] Try.func9 (by rfl) rfl (by show 2 ≤ 18; decide) (by rfl) ?_
  repeat' ((conv => whnf); first | (refine iteB_not ?_) | (refine iteB_of (fun h => ?_) (fun h => ?_)) | (refine Exists.intro _ (And.intro rfl ?_)) | (refine And.intro (by first | exact True.intro | exact Nat.le_refl _ | fail) ?_) | (refine Or.inl ?_; apply callV_i; (repeat ((conv => whnf); first | refine Exists.intro _ (And.intro rfl ?_) | fail)); ((conv => whnf); first | exact FnB.mk (F_i_DiskOk _ (by first | omega | fail) (by first | omega | fail)) | exact FnB.mk (F_i_inRange _ _ _) | fail); refine ⟨rfl, rfl, ?_⟩) | fail)
  all_goals first | (exfalso; simp_all; done) | skip | fail
  all_goals first | (refine .mk ⟨trivial, [], ⟨rfl, rfl⟩, List.nodup_nil, rfl, trivial⟩) | fail
-- FN spec.DiskCrash
theorem F_s_DiskCrash_no (d : Dk) (keep : Int) (hx : d.1.length * 16 ≤ 140737488351232) (hy : d.2.length ≤ 140737488351232) (hno : (dskOk d && (decide (0 ≤ keep) && decide (keep ≤ 2147483647))) = false) : Fn pg 7 [.agg [.imm 1 (rowS d.1), .imm 2 (rowP d.2)], .lit (.int .i64 keep)] [] (.tup [.agg [.imm 1 [], .imm 2 []], .lit (.bool false)]) [] := by
  refine Fn.ofN [0,1,2,4,5,13] [1002,1004,1017,2017] Try.func7 (by rfl) rfl (by show 2 ≤ 18; decide) (by rfl) ?_
  repeat' ((conv => whnf); first | (refine iteB_not ?_) | (refine iteB_of (fun h => ?_) (fun h => ?_)) | (refine Exists.intro _ (And.intro rfl ?_)) | (refine And.intro (by first | exact True.intro | exact Nat.le_refl _ | fail) ?_) | (refine Or.inl ?_; apply callV_i; (repeat ((conv => whnf); first | refine And.intro (by first | omega | fail) ?_ | fail)); ((conv => whnf); first | exact FnB.mk (F_s_DiskOk _ (by first | omega | fail) (by first | omega | fail)) | exact FnB.mk (F_s_l1In _ _ _) | exact FnB.mk (F_s_l15Done _ _ (by first | omega | fail) (by first | omega | fail) (by first | (simp_all; done) | fail)) | fail); refine ⟨rfl, rfl, ?_⟩) | fail)
  all_goals first | (exfalso; simp_all; done) | skip | fail
  all_goals first | (refine .mk ⟨trivial, [], ⟨rfl, rfl⟩, List.nodup_nil, rfl, trivial⟩) | fail
-- FN laws.FnExactDiskCrash
theorem F_l_FnExactDiskCrash (d : Dk) (keep : Int) (hs : (d.1.length * 16 ≤ 140737488351232 ∧ ∀ x ∈ d.1, x.size ≤ 140737488351232) ∧ (d.2.length * 24 ≤ 140737488351232 ∧ ∀ x ∈ d.2, (Lit.int .i64 x.1).wf = true ∧ x.2.size ≤ 140737488351232)) : Fn pg 3 [.agg [.imm 1 (rowS d.1), .imm 2 (rowP d.2)], .lit (.int .i64 keep)] [] (.lit (.bool true)) [] := by
  obtain ⟨⟨h1, h2⟩, h3, h4⟩ := hs
  have h5 : ∀ x ∈ d.2, x.2.size ≤ 140737488351232 := fun x hx => (h4 x hx).2
  have hZ := F_l_szDisk d 1048576 (by omega) (by omega) (by decide) (by decide) h2 h5
  cases hok : (dskOk d && (decide (0 ≤ keep) && decide (keep ≤ 2147483647))) with
  | true =>
    simp only [Bool.and_eq_true, decide_eq_true_eq] at hok
    obtain ⟨hok, hk, hk2⟩ := hok
    obtain ⟨g1, g2, g3⟩ := dskOk_puts hok
    have hl : (crashD d keep).length = d.1.length := doneL_length _ _ _ _
    have hE := F_l_eqDisk (crashD d keep, ([] : List Pt)) (crashD d keep, []) (by dsimp only; omega) (by dsimp only; omega) (Nat.zero_le _) (Nat.zero_le _)
    have hH := F_l_heldDisk d.1.length [] 1 (by omega) (by decide) (by decide) (by decide)
    have hI := F_i_DiskCrash d keep h1 (by omega) hok hk hk2
    have hS := F_s_DiskCrash d keep h1 (by omega) hok hk hk2
    rw [← hl] at hI hS hH
    refine Fn.ofN [0,1,2,4,5,6,7,8,9,10,11,12,13,14,15,20,44,49,65,73,76,92,97,100] [1002,1006,1008,1009,1014,1023,1025,1029,1033,1047,1079,1081,2023,2025,2029,2033,2047,2079,2081] Try.func3 (by rfl) rfl (by show 2 ≤ 101; decide) (by rfl) ?_
    repeat' ((conv => whnf); first | (refine iteB_dec (fun h => ?_) (fun h => ?_) <;> (try simp (disch := (first | omega | fail)) only [modAt, List.length_take, List.length_map, List.length_append, List.length_set, List.length_replicate, len_rowsPart, len_setCell, len_marks, len_markL, len_mkL, len_marksN] at h)) | (refine iteB_not ?_) | (refine Exists.intro _ (And.intro rfl ?_)) | (refine And.intro (by first | exact True.intro | exact Nat.le_refl _ | (simp (disch := (first | omega | fail)) only [modAt, List.length_take, List.length_map, List.length_append, List.length_set, List.length_replicate, len_rowsPart, len_setCell, len_marks, len_markL, len_mkL, len_marksN]; first | done | fail) | fail) ?_) | (refine Or.inr (Exists.intro 5 (Exists.intro [(0, true), (1, true), (2, false), (3, false), (4, true)] (And.intro (by decide +kernel) ?_)))) | (refine Or.inl ?_; apply callV_i; (repeat ((conv => whnf); first | refine And.intro (by first | omega | (simp (disch := (first | omega | fail)) only [modAt, List.length_take, List.length_map, List.length_append, List.length_set, List.length_replicate, len_rowsPart, len_setCell, len_marks, len_markL, len_mkL, len_marksN]; first | omega | fail) | fail) ?_ | fail)); ((conv => whnf); first | exact FnB.mk (hZ) | exact FnB.mk (F_l_toDisk _ (by first | omega | fail) (by first | omega | fail)) | (simp (disch := (first | omega | fail)) only [takeAll, takeAll2, take_app, take_app2, take_marks, take_marksN]; first | exact FnB.mk (hI) | exact FnB.mk (hS) | exact FnB.mk (hE) | exact FnB.mk (hH) | exact FnB.mk (F_l_eqDisk _ _ (by first | omega | fail) (by first | omega | fail) (by first | omega | fail) (by first | omega | fail)) | fail) | fail); refine ⟨rfl, rfl, ?_⟩) | (refine Or.inr (Or.inr (callA_ok ?_)); (conv => whnf); apply Exists.intro; apply Exists.intro; apply And.intro; (repeat ((conv => whnf); first | refine And.intro (by first | omega | fail) ?_ | fail)); ((conv => whnf); first | exact FnB.mk (F_l_markDisk_half _ _ _ (by first | omega | fail) (by first | omega | fail) (by first | omega | fail) (by first | omega | fail)) | exact FnB.mk (F_l_markDisk _ _ _ _ (by first | omega | fail) (by first | omega | fail) (by first | omega | fail) (by first | omega | fail) (by first | omega | fail) (by first | omega | fail)) | fail); refine ⟨rfl, ?_⟩) | fail)
    all_goals first | (exfalso; first | contradiction | fail) | (refine .mk ⟨trivial, [], ⟨rfl, rfl⟩, List.nodup_nil, rfl, trivial⟩) | fail
  | false =>
    have hE := F_l_eqDisk (([], []) : Dk) ([], []) (Nat.zero_le _) (Nat.zero_le _) (Nat.zero_le _) (Nat.zero_le _)
    have hH := F_l_heldDisk 0 [] 1 (by decide) (by decide) (by decide) (by decide)
    have hI := F_i_DiskCrash_no d keep h1 (by omega) hok
    have hS := F_s_DiskCrash_no d keep h1 (by omega) hok
    refine Fn.ofN [0,1,2,4,5,6,7,8,9,10,11,12,13,14,15,20,44,49,65,73,76,92,97,100] [1002,1006,1008,1009,1014,1023,1025,1029,1033,1047,1079,1081,2023,2025,2029,2033,2047,2079,2081] Try.func3 (by rfl) rfl (by show 2 ≤ 101; decide) (by rfl) ?_
    repeat' ((conv => whnf); first | (refine iteB_dec (fun h => ?_) (fun h => ?_) <;> (try simp (disch := (first | omega | fail)) only [modAt, List.length_take, List.length_map, List.length_append, List.length_set, List.length_replicate, len_rowsPart, len_setCell, len_marks, len_markL, len_mkL, len_marksN] at h)) | (refine iteB_not ?_) | (refine Exists.intro _ (And.intro rfl ?_)) | (refine And.intro (by first | exact True.intro | exact Nat.le_refl _ | (simp (disch := (first | omega | fail)) only [modAt, List.length_take, List.length_map, List.length_append, List.length_set, List.length_replicate, len_rowsPart, len_setCell, len_marks, len_markL, len_mkL, len_marksN]; first | done | fail) | fail) ?_) | (refine Or.inr (Exists.intro 5 (Exists.intro [(0, true), (1, true), (2, false), (3, false), (4, true)] (And.intro (by decide +kernel) ?_)))) | (refine Or.inl ?_; apply callV_i; (repeat ((conv => whnf); first | refine And.intro (by first | omega | (simp (disch := (first | omega | fail)) only [modAt, List.length_take, List.length_map, List.length_append, List.length_set, List.length_replicate, len_rowsPart, len_setCell, len_marks, len_markL, len_mkL, len_marksN]; first | omega | fail) | fail) ?_ | fail)); ((conv => whnf); first | exact FnB.mk (hZ) | exact FnB.mk (hE) | exact FnB.mk (hH) | exact FnB.mk (F_l_toDisk _ (by first | omega | fail) (by first | omega | fail)) | exact FnB.mk (F_l_markDisk_nil _) | (simp (disch := (first | omega | fail)) only [takeAll, takeAll2, take_app, take_app2, take_marks, take_marksN]; first | exact FnB.mk (hI) | exact FnB.mk (hS) | exact FnB.mk (F_l_eqDisk _ _ (by first | omega | fail) (by first | omega | fail) (by first | omega | fail) (by first | omega | fail)) | fail) | fail); refine ⟨rfl, rfl, ?_⟩) | (refine Or.inr (Or.inr (callA_ok ?_)); (conv => whnf); apply Exists.intro; apply Exists.intro; apply And.intro; (repeat ((conv => whnf); first | refine And.intro (by first | omega | fail) ?_ | fail)); ((conv => whnf); first | exact FnB.mk (F_l_markDisk _ _ _ _ (by first | omega | fail) (by first | omega | fail) (by first | omega | fail) (by first | omega | fail) (by first | omega | fail) (by first | omega | fail)) | fail); refine ⟨rfl, ?_⟩) | fail)
    all_goals first | (exfalso; first | contradiction | fail) | (refine .mk ⟨trivial, [], ⟨rfl, rfl⟩, List.nodup_nil, rfl, trivial⟩) | fail

end Go.Proofs.Ythbhbncaapnebaa.M

/- Walks of the program's functions, by the small machine. -/
import Derived.Test.YthbhbncaapnebaaWF
namespace Go.Proofs.Ythbhbncaapnebaa.M
open Go
set_option maxHeartbeats 1000000
set_option maxRecDepth 20000
set_option linter.unusedVariables false
set_option linter.unusedSimpArgs false

/-- Whether a put is kept, by the bits of a number. -/
def bitW (keep : Int) (i : Nat) : Bool := decide (IntKind.i64.wrap ((BitVec.ofInt 64 (keep.fdiv (2 ^ (min ((i : Int).tmod 31).toNat 64))) &&& BitVec.ofInt 64 1).toNat) = 1)
-- FN spec.l15Done
theorem F_s_l15Done (d : Dk) (keep : Int) (hx : d.1.length * 16 ≤ 140737488351232) (hy : d.2.length ≤ 140737488351232) (hd : ∀ p ∈ d.2, 0 ≤ p.1 ∧ p.1 < d.1.length) : Fn pg 26 [.agg [.imm 1 (rowS d.1), .imm 2 (rowP d.2)], .lit (.int .i64 keep)] [] (.agg [.sl 500 [] 1 0 d.1.length, .imm 2 []]) [(500, false, 1, rowS (doneL (bitW keep) d.1 d.2 0))] := by
  refine Fn.ofN [0,1,2,4,5,6,16,24] [1002,1004,1005,1007,1010] Try.func26 (by rfl) rfl (by show 2 ≤ 41; decide) (by rfl) ?_
  repeat' ((conv => whnf); first | (refine Exists.intro _ (And.intro rfl ?_)) | (refine And.intro (by first | exact True.intro | exact Nat.le_refl _ | (simp (disch := (first | omega | fail)) only [modAt, List.length_take, List.length_map, List.length_append, List.length_set, List.length_replicate, len_rowsPart, len_setCell, len_marks, len_markL, len_mkL, len_marksN]; first | omega | fail) | (apply litS; (repeat rfl); done) | fail) ?_) | fail)
  refine ⟨Nat, fun i => i ≤ d.2.length, fun i => [(0, .agg [.imm 1 (rowS d.1), .imm 2 (rowP d.2)]), (1, .lit (.int .i64 keep)), (2, .ptr 1002 [] 2 0 0), (4, .ptr 1004 [] 2 0 0), (5, .ptr 1005 [] 2 0 0), (6, .lit (.int .i64 i))], fun i => [(1002, true, 2, [[.imm 1 (rowS d.1), .imm 2 (rowP d.2)]]), (1004, true, 2, [[.own 1 [], .own 2 []]]), (1005, true, 2, [[.sl 1007 [] 1 0 d.1.length, .own 2 []]]), (1007, false, 1, rowS (doneL (bitW keep) d.1 (d.2.take i) 0))], fun i => d.2.length - i, ⟨[], 0, by omega, ⟨rfl, rfl⟩, ⟨by first | rfl | fail, by first | rfl | fail, by first | rfl | fail, by first | rfl | fail, by first | rfl | fail, by first | rfl | fail, trivial⟩, ⟨rfl, rfl, ?_, ?_, trivial⟩⟩, ?_⟩
  · exact boxEq (congrArg (fun n => [[V.sl 1007 [] 1 0 n, V.own 2 []]]) (by show List.length (List.take 0 _ ++ rowS d.1) = _; rw [List.take_zero, List.nil_append, List.length_map]))
  · refine boxEq ?_
    show List.take 0 _ ++ rowS d.1 = rowS d.1
    rw [List.take_zero, List.nil_append]
  intro i hi
  have hl := doneL_length (bitW keep) (d.2.take i) d.1 0
  have htm : 0 ≤ (i : Int).tmod 31 := by rw [Int.tmod_eq_emod_of_nonneg (by omega)]; omega
  by_cases hlt : i < d.2.length
  · obtain ⟨hp, hp2⟩ := hd _ (List.getElem_mem hlt)
    have hds := doneL_succ (bitW keep) d.1 d.2 i hlt
    repeat' ((conv => whnf); first | (refine iteB_dec (fun h => ?_) (fun h => ?_) <;> (try simp (disch := (first | omega | fail)) only [modAt, List.length_take, List.length_map, List.length_append, List.length_set, List.length_replicate, len_rowsPart, len_setCell, len_marks, len_markL, len_mkL, len_marksN] at h)) | (refine Exists.intro _ (And.intro rfl ?_)) | (refine wrapB_i64 (by first | omega | fail) (by first | omega | fail) ?_) | (refine And.intro (by first | exact True.intro | exact Nat.le_refl _ | omega | (simp (disch := (first | omega | fail)) only [modAt, List.length_take, List.length_map, List.length_append, List.length_set, List.length_replicate, len_rowsPart, len_setCell, len_marks, len_markL, len_mkL, len_marksN]; first | omega | fail) | fail) ?_) | (refine Exists.intro _ (And.intro (rowGet _ _ _ (by omega)) ?_)) | (refine Or.inr (Exists.intro 14 (Exists.intro [(0, true), (1, true), (2, true), (3, true), (4, true), (5, true), (6, true), (7, true), (8, true), (9, true), (10, true), (11, true), (12, true), (13, true)] (And.intro (by decide +kernel) ?_)))) | (refine Exists.intro _ (And.intro (by first | exact (get_mapIC _ _ _ _ _ (by first | omega | fail) (by exact rfl)) | fail) ?_)) | fail)
    · exact ⟨[], i + 1, by omega, ⟨⟨rfl, rfl⟩, ⟨by first | rfl | fail, by first | rfl | fail, by first | rfl | fail, by first | rfl | fail, by first | rfl | fail, by first | rfl | fail, trivial⟩, ⟨rfl, rfl, rfl, boxEq (setCellM eStr _ _ (.lit (.string d.2[i].2)) d.2[i].2 rfl (by omega) rfl rfl (by rw [hds, if_pos (show bitW keep i = true from decide_eq_true (by assumption))]; rfl)), trivial⟩⟩, by first | (dsimp only; omega) | fail⟩
    · exact ⟨[], i + 1, by omega, ⟨⟨rfl, rfl⟩, ⟨by first | rfl | fail, by first | rfl | fail, by first | rfl | fail, by first | rfl | fail, by first | rfl | fail, by first | rfl | fail, trivial⟩, ⟨rfl, rfl, rfl, boxEq (congrArg rowS (by rw [hds, if_neg (by unfold bitW; rw [decide_eq_true_eq]; assumption)])), trivial⟩⟩, by first | (dsimp only; omega) | fail⟩
    · exfalso; omega
  · obtain rfl : i = d.2.length := by omega
    repeat' ((conv => whnf); first | (refine iteB_dec (fun h => ?_) (fun h => ?_) <;> (try simp (disch := (first | omega | fail)) only [modAt, List.length_take, List.length_map, List.length_append, List.length_set, List.length_replicate, len_rowsPart, len_setCell, len_marks, len_markL, len_mkL, len_marksN] at h)) | (refine Exists.intro _ (And.intro rfl ?_)) | (refine wrapB_i64 (by first | omega | fail) (by first | omega | fail) ?_) | (refine And.intro (by first | exact True.intro | exact Nat.le_refl _ | omega | fail) ?_) | (refine Exists.intro _ (And.intro (rowGet _ _ _ (by omega)) ?_)) | (refine Or.inr (Exists.intro 14 (Exists.intro [(0, true), (1, true), (2, true), (3, true), (4, true), (5, true), (6, true), (7, true), (8, true), (9, true), (10, true), (11, true), (12, true), (13, true)] (And.intro (by decide +kernel) ?_)))) | (refine Exists.intro _ (And.intro (by first | exact (get_mapIC _ _ _ _ _ (by first | omega | fail) (by exact rfl)) | fail) ?_)) | fail)
    all_goals first | (exfalso; omega) | skip | fail
    refine .mk ⟨trivial, [1007], ⟨rfl, ?_⟩, by simp, rfl, ?_⟩
    · rfl
    exact ⟨outOk_new (d := 1007) (by decide) rfl (boxEq (congrArg rowS (by rw [List.take_length]))), trivial⟩
theorem bitW_all (i : Nat) : bitW 2147483647 i = true := by
  unfold bitW
  rw [Int.tmod_eq_emod_of_nonneg (by omega), show ((i : Int) % 31) = ((i % 31 : Nat) : Int) by omega, Int.toNat_natCast]
  have h : ∀ m : Fin 31, decide (IntKind.i64.wrap ((BitVec.ofInt 64 ((2147483647 : Int).fdiv (2 ^ (min m.val 64))) &&& BitVec.ofInt 64 1).toNat) = 1) = true := by decide +kernel
  exact h ⟨i % 31, by omega⟩
theorem doneL_all {w : Nat → Bool} (hw : ∀ i, w i = true) (w' : Nat → Bool) (hw' : ∀ i, w' i = true) : ∀ (L : List Pt) (S : List ByteArray) (k : Nat), doneL w S L k = doneL w' S L k := by
  intro L
  induction L with
  | nil => intro S k; rfl
  | cons p r ih => intro S k; simp only [doneL, hw, hw', if_true]; exact ih _ _
theorem dskOk_puts {d : Dk} (h : dskOk d = true) : d.1.length = 130 ∧ d.2.length ≤ 200 ∧ ∀ p ∈ d.2, 0 ≤ p.1 ∧ p.1 < d.1.length := by
  simp only [dskOk, Bool.and_eq_true, decide_eq_true_eq] at h
  obtain ⟨⟨⟨h1, h2⟩, h3⟩, h4⟩ := h
  refine ⟨h1, h2, fun p hp => ?_⟩
  have := List.all_eq_true.1 h4 p hp
  simp only [putOk, isSec, Bool.and_eq_true, decide_eq_true_eq] at this
  omega
def syncD (d : Dk) : List ByteArray := doneL (fun _ => true) d.1 d.2 0
-- FN impl.DiskSync
theorem F_i_DiskSync (d : Dk) (hx : d.1.length * 16 ≤ 140737488351232) (hy : d.2.length ≤ 140737488351232) (hok : dskOk d = true) : Fn pg 21 [.agg [.imm 1 (rowS d.1), .imm 2 (rowP d.2)]] [] (.tup [.agg [.sl 500 [] 1 0 d.1.length, .imm 2 []], .lit (.bool true)]) [(500, false, 1, rowS (syncD d))] := by
  obtain ⟨h1, h2, h3⟩ := dskOk_puts hok
  have hF := F_i_DiskOk d (by omega) (by omega)
  rw [hok] at hF
  refine Fn.ofN [0,1,2,3,6] [1001,1002,1009,2009] Try.func21 (by rfl) rfl (by show 1 ≤ 10; decide) (by rfl) ?_
  repeat' ((conv => whnf); first | (refine Exists.intro _ (And.intro rfl ?_)) | (refine And.intro (by first | exact True.intro | exact Nat.le_refl _ | fail) ?_) | (refine Or.inl ?_; apply callV_i; (repeat ((conv => whnf); first | refine And.intro (by first | omega | fail) ?_ | fail)); ((conv => whnf); first | exact FnB.mk (hF) | exact FnB.mk (F_i_settled d 52 (fun _ => true) hx hy h3 (fun i _ => F_i_DiskSync_1 _)) | fail); refine ⟨rfl, rfl, ?_⟩) | fail)
  refine .mk ⟨trivial, [1009], ⟨rfl, ?_⟩, by simp, rfl, ?_⟩
  · rfl
  exact ⟨outOk_new (d := 1009) (by decide) rfl rfl, trivial⟩
-- FN spec.DiskSync
theorem F_s_DiskSync (d : Dk) (hx : d.1.length * 16 ≤ 140737488351232) (hy : d.2.length ≤ 140737488351232) (hok : dskOk d = true) : Fn pg 64 [.agg [.imm 1 (rowS d.1), .imm 2 (rowP d.2)]] [] (.tup [.agg [.sl 500 [] 1 0 d.1.length, .imm 2 []], .lit (.bool true)]) [(500, false, 1, rowS (syncD d))] := by
  obtain ⟨h1, h2, h3⟩ := dskOk_puts hok
  have hF := F_s_DiskOk d (by omega) (by omega)
  rw [hok] at hF
  have hG := F_s_l15Done d 2147483647 hx hy h3
  rw [doneL_all bitW_all (fun _ => true) (fun _ => rfl)] at hG
  refine Fn.ofN [0,1,2,3,6] [1001,1002,1009,2009] Try.func64 (by rfl) rfl (by show 1 ≤ 10; decide) (by rfl) ?_
  repeat' ((conv => whnf); first | (refine Exists.intro _ (And.intro rfl ?_)) | (refine And.intro (by first | exact True.intro | exact Nat.le_refl _ | fail) ?_) | (refine Or.inl ?_; apply callV_i; (repeat ((conv => whnf); first | refine And.intro (by first | omega | fail) ?_ | fail)); ((conv => whnf); first | exact FnB.mk (hF) | exact FnB.mk (hG) | fail); refine ⟨rfl, rfl, ?_⟩) | fail)
  refine .mk ⟨trivial, [1009], ⟨rfl, ?_⟩, by simp, rfl, ?_⟩
  · rfl
  exact ⟨outOk_new (d := 1009) (by decide) rfl rfl, trivial⟩
-- FN impl.DiskSync
theorem F_i_DiskSync_no (d : Dk) (hx : d.1.length * 16 ≤ 140737488351232) (hy : d.2.length ≤ 140737488351232) (hok : dskOk d = false) : Fn pg 21 [.agg [.imm 1 (rowS d.1), .imm 2 (rowP d.2)]] [] (.tup [.agg [.imm 1 [], .imm 2 []], .lit (.bool false)]) [] := by
  have hF := F_i_DiskOk d (by omega) (by omega)
  have hG := F_s_DiskOk d (by omega) (by omega)
  rw [hok] at hF hG
  refine Fn.ofN [0,1,2,3,6] [1001,1002,1009,2009] Try.func21 (by rfl) rfl (by show 1 ≤ 10; decide) (by rfl) ?_
  repeat' ((conv => whnf); first | (refine Exists.intro _ (And.intro rfl ?_)) | (refine And.intro (by first | exact True.intro | exact Nat.le_refl _ | fail) ?_) | (refine Or.inl ?_; apply callV_i; (repeat ((conv => whnf); first | refine And.intro (by first | omega | fail) ?_ | fail)); ((conv => whnf); first | exact FnB.mk (hF) | fail); refine ⟨rfl, rfl, ?_⟩) | fail)
  all_goals first | skip | fail
  refine .mk ⟨trivial, [], ⟨rfl, rfl⟩, List.nodup_nil, rfl, trivial⟩
-- FN spec.DiskSync
theorem F_s_DiskSync_no (d : Dk) (hx : d.1.length * 16 ≤ 140737488351232) (hy : d.2.length ≤ 140737488351232) (hok : dskOk d = false) : Fn pg 64 [.agg [.imm 1 (rowS d.1), .imm 2 (rowP d.2)]] [] (.tup [.agg [.imm 1 [], .imm 2 []], .lit (.bool false)]) [] := by
  have hF := F_i_DiskOk d (by omega) (by omega)
  have hG := F_s_DiskOk d (by omega) (by omega)
  rw [hok] at hF hG
  refine Fn.ofN [0,1,2,3,6] [1001,1002,1009,2009] Try.func64 (by rfl) rfl (by show 1 ≤ 10; decide) (by rfl) ?_
  repeat' ((conv => whnf); first | (refine Exists.intro _ (And.intro rfl ?_)) | (refine And.intro (by first | exact True.intro | exact Nat.le_refl _ | fail) ?_) | (refine Or.inl ?_; apply callV_i; (repeat ((conv => whnf); first | refine And.intro (by first | omega | fail) ?_ | fail)); ((conv => whnf); first | exact FnB.mk (hG) | fail); refine ⟨rfl, rfl, ?_⟩) | fail)
  all_goals first | skip | fail
  refine .mk ⟨trivial, [], ⟨rfl, rfl⟩, List.nodup_nil, rfl, trivial⟩

end Go.Proofs.Ythbhbncaapnebaa.M

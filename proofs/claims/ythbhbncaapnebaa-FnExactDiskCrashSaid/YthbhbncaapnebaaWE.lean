/- Walks of the program's functions, by the small machine. -/
import Derived.Test.YthbhbncaapnebaaWD
namespace Go.Proofs.Ythbhbncaapnebaa.M
open Go
set_option maxHeartbeats 1000000
set_option maxRecDepth 20000
set_option linter.unusedVariables false
set_option linter.unusedSimpArgs false

abbrev Dk := List ByteArray × List Pt
-- FN laws.toDisk
theorem F_l_toDisk (d : Dk) (hx : d.1.length * 16 ≤ 140737488351232) (hy : d.2.length * 24 ≤ 140737488351232) : Fn pg 8 [.agg [.imm 1 (rowS d.1), .imm 2 (rowP d.2)]] [] (.agg [.sl 500 [] 1 0 d.1.length, .sl 501 [] 2 0 d.2.length]) [(500, false, 1, rowS d.1), (501, false, 2, rowP d.2)] := by
  refine Fn.ofN [0,1,2,3] [1001,1002,1003,1006,1010] Try.func8 (by rfl) rfl (by show 1 ≤ 13; decide) (by rfl) ?_
  repeat' ((conv => whnf); first | (refine Exists.intro _ (And.intro rfl ?_)) | (refine And.intro (by first | exact True.intro | exact Nat.le_refl _ | fail) ?_) | (refine Or.inl ?_; apply callV_i; (repeat ((conv => whnf); first | refine And.intro (by first | omega | fail) ?_ | fail)); ((conv => whnf); first | exact FnB.mk (F_l_toStringS _ (by first | omega | fail)) | exact FnB.mk (F_l_toPutS _ (by first | omega | fail)) | fail); refine ⟨rfl, rfl, ?_⟩) | fail)
  refine .mk ⟨trivial, [1006, 1010], ⟨rfl, ?_⟩, by simp, rfl, ?_⟩
  · rfl
  exact ⟨outOk_new (d := 1006) (by decide) rfl rfl, outOk_new (d := 1010) (by decide) rfl rfl, trivial⟩
-- FN laws.eqDisk
theorem F_l_eqDisk (a b : Dk) (ha : a.1.length ≤ 140737488351232) (hb : b.1.length ≤ 140737488351232) (ha2 : a.2.length ≤ 140737488351232) (hb2 : b.2.length ≤ 140737488351232) : Fn pg 10 [.agg [.imm 1 (rowS a.1), .imm 2 (rowP a.2)], .agg [.imm 1 (rowS b.1), .imm 2 (rowP b.2)]] [] (.lit (.bool (decide (a = b)))) [] := by
  refine Fn.ofN [0,1,2,3,4,10,16] [1002,1003] Try.func10 (by rfl) rfl (by show 2 ≤ 17; decide) (by rfl) ?_
  repeat' ((conv => whnf); first | (refine iteB_dec (fun h => ?_) (fun h => ?_) <;> (try simp (disch := (first | omega | fail)) only [modAt, List.length_take, List.length_map, List.length_append, List.length_set, List.length_replicate, len_rowsPart, len_setCell, len_marks, len_markL, len_mkL, len_marksN] at h)) | (refine iteB_not ?_) | (refine Exists.intro _ (And.intro rfl ?_)) | (refine Or.inl ?_; apply callV_i; (repeat ((conv => whnf); first | refine And.intro (by first | omega | fail) ?_ | fail)); ((conv => whnf); first | exact FnB.mk (F_l_eqStringS _ _ (by first | omega | fail) (by first | omega | fail)) | exact FnB.mk (F_l_eqPutS _ _ (by first | omega | fail) (by first | omega | fail)) | fail); refine ⟨rfl, rfl, ?_⟩) | fail)
  all_goals ((refine .mk ⟨trivial, [], ⟨rfl, ?_⟩, List.nodup_nil, rfl, trivial⟩; show V.lit _ = V.lit _); obtain ⟨a1, a2⟩ := a; obtain ⟨b1, b2⟩ := b; simp_all)
def szDk (d : Dk) (l : Int) : Int := if szS szStr d.1 l < 0 then -1 else if szS szPt d.2 (szS szStr d.1 l) < 0 then -1 else szS szPt d.2 (szS szStr d.1 l)
theorem szL_le {α : Type} (sz : α → Int → Int) (h : ∀ p l, 0 ≤ l → sz p l ≤ l) : ∀ (xs : List α) (l : Int), 0 ≤ l → szL sz xs l ≤ l := by
  intro xs
  induction xs with
  | nil => intro l _; simp [szL]
  | cons x r ih =>
    intro l hl
    simp only [szL]
    have := h x l hl
    split
    · omega
    · have := ih (sz x l) (by omega); omega
theorem szS_le {α : Type} (sz : α → Int → Int) (h : ∀ p l, 0 ≤ l → sz p l ≤ l) (xs : List α) (l : Int) (hl : 0 ≤ l) : szS sz xs l ≤ l := by
  unfold szS
  split
  · omega
  · have := szL_le sz h xs (l - xs.length) (by omega); omega
-- FN laws.szDisk
theorem F_l_szDisk (d : Dk) (l : Int) (hx : d.1.length ≤ 140737488351232) (hy : d.2.length ≤ 140737488351232) (hl : 0 ≤ l) (hl2 : l ≤ 140737488351232) (hp : ∀ x ∈ d.1, x.size ≤ 140737488351232) (hq : ∀ x ∈ d.2, x.2.size ≤ 140737488351232) : Fn pg 6 [.agg [.imm 1 (rowS d.1), .imm 2 (rowP d.2)], .lit (.int .i64 l)] [] (.lit (.int .i64 (szDk d l))) [] := by
  have h1 := szS_le szStr le_szStr d.1 l hl
  refine Fn.ofN [0,1,2,4,10,16] [1002] Try.func6 (by rfl) rfl (by show 2 ≤ 18; decide) (by rfl) ?_
  repeat' ((conv => whnf); first | (refine iteB_dec (fun h => ?_) (fun h => ?_) <;> (try simp (disch := (first | omega | fail)) only [modAt, List.length_take, List.length_map, List.length_append, List.length_set, List.length_replicate, len_rowsPart, len_setCell, len_marks, len_markL, len_mkL, len_marksN] at h)) | (refine Exists.intro _ (And.intro rfl ?_)) | (refine Or.inl ?_; apply callV_i; (repeat ((conv => whnf); first | refine And.intro (by first | omega | fail) ?_ | fail)); ((conv => whnf); first | exact FnB.mk (F_l_szStringS _ _ (by first | omega | fail) (by first | omega | fail) (by first | omega | fail) (by first | omega | fail)) | exact FnB.mk (F_l_szPutS _ _ (by first | omega | fail) (by first | omega | fail) (by first | omega | fail) (by first | omega | fail)) | fail); refine ⟨rfl, rfl, ?_⟩) | fail)
  all_goals ((refine .mk ⟨trivial, [], ⟨rfl, ?_⟩, List.nodup_nil, rfl, trivial⟩; show V.lit _ = V.lit _); unfold szDk; congr 2; grind)
-- FN laws.markDisk
theorem F_l_markDisk (a : Dk) (n m : Nat) (k : Int) (hn : n ≤ a.1.length) (hm : m ≤ a.2.length) (ha : n ≤ 140737488351232) (hb : m ≤ 140737488351232) (hk : 0 ≤ k) (hk2 : k ≤ 4469000000000000000) : Fn pg 11 [.agg [.sl 0 [] 1 0 n, .sl 1 [] 2 0 m], .lit (.int .i64 k)] [(0, false, 1, rowS a.1), (1, false, 2, rowP a.2)] (.lit (.int .i64 (k + n + 2 * m))) [(0, false, 1, rowS (marks markT k a.1 n)), (1, false, 2, rowP (marksN mkPt two (k + n) a.2 m))] := by
  refine Fn.ofN [0,1,2,4] [0,1,1002] Try.func11 (by rfl) rfl (by show 2 ≤ 14; decide) (by rfl) ?_
  repeat' ((conv => whnf); first | (refine Exists.intro _ (And.intro rfl ?_)) | (refine And.intro (by first | exact True.intro | (simp (disch := (first | omega | fail)) only [modAt, List.length_take, List.length_map, List.length_append, List.length_set, List.length_replicate, len_rowsPart, len_setCell, len_marks, len_markL, len_mkL, len_marksN]; first | done | fail) | fail) ?_) | (refine Or.inr (Or.inr (callA_ok ?_)); (conv => whnf); apply Exists.intro; apply Exists.intro; apply And.intro; (repeat ((conv => whnf); first | refine And.intro (by first | omega | fail) ?_ | fail)); ((conv => whnf); first | exact FnB.mk (F_l_markStringS _ _ _ (by first | omega | fail) (by first | omega | fail) (by first | omega | fail) (by first | omega | fail)) | exact FnB.mk (F_l_markPutS _ _ _ (by first | omega | fail) (by first | omega | fail) (by first | omega | fail) (by first | omega | fail)) | fail); refine ⟨rfl, ?_⟩) | fail)
  refine .mk ⟨trivial, [], ⟨rfl, ?_⟩, List.nodup_nil, rfl, ?_⟩
  · show V.lit (.int .i64 _) = V.lit (.int .i64 _)
    congr 2; rw [stL_two, List.length_take]; omega
  · exact ⟨outOk_old (b := 0) (by decide) rfl, outOk_old (b := 1) (by decide) rfl, trivial⟩
-- FN laws.heldDisk
theorem F_l_heldDisk (n : Nat) (b : List Pt) (k : Int) (ha : n ≤ 140737488351232) (hb : b.length ≤ 140737488351232) (hk : 0 ≤ k) (hk2 : k ≤ 4469000000000000000) : Fn pg 12 [.agg [.imm 1 (rowS (markL markT k n)), .imm 2 (rowP (mkL mkPt two (k + n) b))], .lit (.int .i64 k)] [] (.lit (.int .i64 (k + n + 2 * b.length))) [] := by
  have hst := stL_two b
  refine Fn.ofN [0,1,2,4,10,16] [1002] Try.func12 (by rfl) rfl (by show 2 ≤ 18; decide) (by rfl) ?_
  repeat' ((conv => whnf); first | (refine iteB_dec (fun h => ?_) (fun h => ?_) <;> (try simp (disch := (first | omega | fail)) only [modAt, List.length_take, List.length_map, List.length_append, List.length_set, List.length_replicate, len_rowsPart, len_setCell, len_marks, len_markL, len_mkL, len_marksN] at h)) | (refine Exists.intro _ (And.intro rfl ?_)) | (refine Or.inl ?_; apply callV_i; (repeat ((conv => whnf); first | refine And.intro (by first | omega | fail) ?_ | fail)); ((conv => whnf); first | exact FnB.mk (F_l_heldStringS_marked _ _ (by first | omega | fail) (by first | omega | fail) (by first | omega | fail)) | exact FnB.mk (F_l_heldPutS_marked _ _ (by first | omega | fail) (by first | omega | fail) (by first | omega | fail)) | fail); refine ⟨rfl, rfl, ?_⟩) | fail)
  all_goals first | (exfalso; omega) | skip | fail
  all_goals ((refine .mk ⟨trivial, [], ⟨rfl, ?_⟩, List.nodup_nil, rfl, trivial⟩; show V.lit _ = V.lit _); congr 2; rw [stL_two]; omega)

end Go.Proofs.Ythbhbncaapnebaa.M

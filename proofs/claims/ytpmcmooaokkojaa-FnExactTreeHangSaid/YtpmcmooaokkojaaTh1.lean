/- Walks of the program's functions, by the small machine: what one law's proof needs. -/
import Derived.Test.YtpmcmooaokkojaaQ2
import Derived.Test.YtpmcmooaokkojaaL0
import Derived.Test.YtpmcmooaokkojaaHD
import Derived.Test.YtpmcmooaokkojaaTh0
namespace Go.Proofs.Ytpmcmooaokkojaa.M
open Go
set_option maxHeartbeats 1000000
set_option maxRecDepth 20000
set_option linter.unusedVariables false
set_option linter.unusedSimpArgs false
theorem F_i_Tree_isNode (l : List Nd) (u : Int) (hl : l.length ≤ 140737488351232) : Fn pg 36 [.pro [.imm 6 (rowN l)], .lit (.int .i64 u)] [] (.lit (.bool (nodeIn l u))) [] := by
  refine Fn.ofN [0,1,4] [] Try.func36 (by rfl) rfl (by show 2 ≤ 13; decide) (by rfl) ?_
  repeat' ((conv => whnf); first | (refine wrapB_i64 (by first | omega | fail) (by first | (simp (disch := (first | omega | fail)) only [modAt, List.length_take, List.length_drop, List.length_map, List.length_append, List.length_set, List.length_replicate, len_rowsPart, len_setCell, len_marks, len_markL, len_byR, len_mkL, len_marksN, len_bytesI]; first | omega | fail) | fail) ?_) | (refine Or.inl ?_; apply callV_i; (repeat ((conv => whnf); first | refine And.intro (by first | omega | fail) ?_ | fail)); ((conv => whnf); first | exact FnB.mk (F_i_inRange _ _ _) | fail); refine ⟨rfl, rfl, ?_⟩) | fail)
  all_goals ((refine .mk ⟨trivial, [], ⟨rfl, ?_⟩, List.nodup_nil, rfl, trivial⟩; show V.lit _ = V.lit _); simp [nodeIn])
theorem F_s_l6Has (l : List Nd) (u : Int) (hl : l.length ≤ 140737488351232) : Fn pg 30 [sTr l, .lit (.int .i64 u)] [] (.lit (.bool (nodeIn l u))) [] := by
  refine Fn.ofN [0,1,2,4] [1002] Try.func30 (by rfl) rfl (by show 2 ≤ 11; decide) (by rfl) ?_
  repeat' ((conv => whnf); first | (refine Exists.intro _ (And.intro rfl ?_)) | (refine wrapB_i64 (by first | omega | fail) (by first | (simp (disch := (first | omega | fail)) only [modAt, List.length_take, List.length_drop, List.length_map, List.length_append, List.length_set, List.length_replicate, len_rowsPart, len_setCell, len_marks, len_markL, len_byR, len_mkL, len_marksN, len_bytesI]; first | omega | fail) | fail) ?_) | (refine Or.inl ?_; apply callV_i; (repeat ((conv => whnf); first | refine And.intro (by first | omega | fail) ?_ | fail)); ((conv => whnf); first | exact FnB.mk (F_s_l1In _ _ _) | fail); refine ⟨rfl, rfl, ?_⟩) | fail)
  all_goals ((refine .mk ⟨trivial, [], ⟨rfl, ?_⟩, List.nodup_nil, rfl, trivial⟩; show V.lit _ = V.lit _); simp [nodeIn])
theorem nodeIn_yes {l : List Nd} {u : Int} (h : 0 ≤ u ∧ u ≤ (l.length : Int) - 1) : nodeIn l u = true := by simp [nodeIn, h]
theorem nodeIn_no {l : List Nd} {u : Int} (h : ¬ (0 ≤ u ∧ u ≤ (l.length : Int) - 1)) : nodeIn l u = false := by
  unfold nodeIn; simp only [Bool.and_eq_false_iff, decide_eq_false_iff_not]; omega
theorem nodeIn_of {l : List Nd} {u : Int} (h : nodeIn l u = true) : 0 ≤ u ∧ u ≤ (l.length : Int) - 1 := by simpa [nodeIn] using h
theorem F_i_Tree_isAbove (l : List Nd) (i u : Int) (hl : l.length ≤ 140737488351232) : Fn pg 64 [.pro [.imm 6 (rowN l)], .lit (.int .i64 i), .lit (.int .i64 u)] [] (.lit (.bool (chI l i l.length u))) [] := by
  refine Fn.ofN [0,1,2,6,11,12,13,16,20] [] Try.func64 (by rfl) rfl (by show 3 ≤ 33; decide) (by rfl) ?_
  repeat' ((conv => whnf); first | (refine iteB_dec (fun h => ?_) (fun h => ?_) <;> (try simp (disch := (first | omega | fail)) only [modAt, List.length_take, List.length_drop, List.length_map, List.length_append, List.length_set, List.length_replicate, len_rowsPart, len_setCell, len_marks, len_markL, len_byR, len_mkL, len_marksN, len_bytesI] at h)) | fail)
  refine ⟨Nat × Int, fun x => x.1 ≤ l.length ∧ chI l i l.length u = chI l i (l.length - x.1) x.2, fun x => [(0, .pro [.imm 6 (rowN l)]), (1, .lit (.int .i64 i)), (2, .lit (.int .i64 x.2)), (11, .lit (.int .i64 l.length)), (12, .lit (.int .i64 x.1))], fun _ => [], fun x => l.length - x.1, ⟨[], (0, u), by simp, ⟨rfl, rfl⟩, ⟨by first | rfl | fail, by first | rfl | fail, by first | rfl | fail, by first | (show V.lit (Value.int _ _) = V.lit (Value.int _ _); first | (congr 2; first | (simp only [List.length_map]; done) | fail) | fail) | fail, by first | rfl | fail, trivial⟩, trivial⟩, ?_⟩
  rintro ⟨j, v⟩ ⟨hj, hh⟩
  have hN := F_i_Tree_isNode l v hl
  by_cases hlt : j < l.length
  · have e : l.length - j = (l.length - (j + 1)) + 1 := by omega
    rw [e, chI] at hh
    by_cases hin : 0 ≤ v ∧ v ≤ (l.length : Int) - 1
    · rw [nodeIn_yes hin] at hN hh
      unfold par at hh
      repeat' ((conv => whnf); first | (refine iteB_dec (fun h => ?_) (fun h => ?_) <;> (try simp (disch := (first | omega | fail)) only [modAt, List.length_take, List.length_drop, List.length_map, List.length_append, List.length_set, List.length_replicate, len_rowsPart, len_setCell, len_marks, len_markL, len_byR, len_mkL, len_marksN, len_bytesI] at h)) | (refine wrapB_i64 (by first | omega | fail) (by first | omega | fail) ?_) | (refine And.intro (by first | exact True.intro | omega | fail) ?_) | (refine Exists.intro _ (And.intro (rowGetI _ _ _ (by omega) (by omega)) ?_)) | (refine Or.inl ?_; apply callV_i; (repeat ((conv => whnf); first | refine And.intro (by first | omega | fail) ?_ | fail)); ((conv => whnf); first | exact FnB.mk (hN) | fail); refine ⟨rfl, rfl, ?_⟩) | fail)
      all_goals first | (exfalso; omega) | skip | fail
      · (refine .mk ⟨trivial, [], ⟨rfl, ?_⟩, List.nodup_nil, rfl, trivial⟩; show V.lit _ = V.lit _)
        rw [hh, if_pos (by assumption)]
      · exact ⟨[], (j + 1, _), ⟨by omega, by rw [hh, if_neg (by assumption)]; rfl⟩, ⟨⟨rfl, rfl⟩, ⟨by first | rfl | fail, by first | rfl | fail, by first | rfl | fail, by first | rfl | fail, by first | rfl | fail, trivial⟩, trivial⟩, by first | (dsimp only; omega) | fail⟩
    · rw [nodeIn_no hin] at hN hh
      repeat' ((conv => whnf); first | (refine iteB_dec (fun h => ?_) (fun h => ?_) <;> (try simp (disch := (first | omega | fail)) only [modAt, List.length_take, List.length_drop, List.length_map, List.length_append, List.length_set, List.length_replicate, len_rowsPart, len_setCell, len_marks, len_markL, len_byR, len_mkL, len_marksN, len_bytesI] at h)) | (refine Or.inl ?_; apply callV_i; (repeat ((conv => whnf); first | refine And.intro (by first | omega | fail) ?_ | fail)); ((conv => whnf); first | exact FnB.mk (hN) | fail); refine ⟨rfl, rfl, ?_⟩) | fail)
      all_goals first | (exfalso; omega) | skip | fail
      · (refine .mk ⟨trivial, [], ⟨rfl, ?_⟩, List.nodup_nil, rfl, trivial⟩; show V.lit _ = V.lit _)
        rw [hh, if_pos (by assumption)]
      · (refine .mk ⟨trivial, [], ⟨rfl, ?_⟩, List.nodup_nil, rfl, trivial⟩; show V.lit _ = V.lit _)
        rw [hh, if_neg (by assumption)]; rfl
  · rw [show l.length - j = 0 by omega, chI] at hh
    repeat' ((conv => whnf); first | (refine iteB_dec (fun h => ?_) (fun h => ?_) <;> (try simp (disch := (first | omega | fail)) only [modAt, List.length_take, List.length_drop, List.length_map, List.length_append, List.length_set, List.length_replicate, len_rowsPart, len_setCell, len_marks, len_markL, len_byR, len_mkL, len_marksN, len_bytesI] at h)) | (refine iteB_not ?_) | (refine iteB_of (fun h => ?_) (fun h => ?_)) | (refine wrapB_i64 (by first | omega | fail) (by first | omega | fail) ?_) | (refine And.intro (by first | exact True.intro | omega | fail) ?_) | (refine Exists.intro _ (And.intro (rowGet _ _ _ (by omega)) ?_)) | (refine Or.inl ?_; apply callV_i; (repeat ((conv => whnf); first | refine And.intro (by first | omega | fail) ?_ | fail)); ((conv => whnf); first | exact FnB.mk (hN) | fail); refine ⟨rfl, rfl, ?_⟩) | fail)
    all_goals first | (exfalso; omega) | skip | fail
    all_goals
      (refine .mk ⟨trivial, [], ⟨rfl, ?_⟩, List.nodup_nil, rfl, trivial⟩; show V.lit _ = V.lit _)
      rw [hh]


def seenI (s : List Bool) : List Int := s.map fun b => if b = true then 1 else 0
theorem len_seenI (s : List Bool) : (seenI s).length = s.length := by simp [seenI]
theorem seenI_rd (s : List Bool) (k : Int) (h : k.toNat < s.length) : rdD (seenI s) k = if rdOf false s k = true then 1 else 0 := by
  unfold rdD rdOf seenI
  rw [List.getD_eq_getElem?_getD, List.getElem?_map, List.getD_eq_getElem?_getD, List.getElem?_eq_getElem h]; rfl
theorem seenI_range (s : List Bool) (k : Int) : 0 ≤ rdD (seenI s) k ∧ rdD (seenI s) k ≤ 1 := by
  unfold rdD seenI
  rw [List.getD_eq_getElem?_getD, List.getElem?_map]
  cases s[k.toNat]? with
  | none => simp
  | some b => cases b <;> simp
theorem seenI_set (s : List Bool) (i : Nat) : (seenI s).set i 1 = seenI (s.set i true) := by
  unfold seenI; rw [List.map_set]; rfl
theorem get_seen (s : List Bool) (k : Int) (h0 : 0 ≤ k) (h : k.toNat < s.length) : (rowI (seenI s))[k.toNat + 0]? = some (eInt .i64 (rdD (seenI s) k)) := by
  rw [Nat.add_zero, rowGetI _ _ _ h0 (by rw [len_seenI]; omega)]
def restK (l : List Nd) (i : Nat) (s : List Bool) : Bool := match scanAll l (l.length - i) i s with | none => false | some s => lastI l s l.length 0
def restJ (l : List Nd) (i : Nat) (ks : List Int) (s : List Bool) : Bool := match scan l (i : Int) ks s with | none => false | some s => restK l (i + 1) s
def linksB (l : List Nd) : Bool := match kidsOk l with | none => false | some s => lastI l s l.length 0
theorem restK_start (l : List Nd) : linksB l = restK l 0 (List.replicate l.length false) := rfl
theorem restK_end (l : List Nd) (s : List Bool) : restK l l.length s = lastI l s l.length 0 := by
  unfold restK; rw [Nat.sub_self]; rfl
theorem restK_step (l : List Nd) (i : Nat) (s : List Bool) (h : i < l.length) : restK l i s = restJ l i l[i].2.2.2.2.2 s := by
  unfold restK restJ
  rw [show l.length - i = (l.length - (i + 1)) + 1 by omega, scanAll, show rdD l (i : Int) = l[i] from getD_eq _ l i h]
  cases scan l (i : Int) l[i].2.2.2.2.2 s with
  | none => rfl
  | some s1 => rfl
theorem restJ_nil (l : List Nd) (i : Nat) (s : List Bool) : restJ l i [] s = restK l (i + 1) s := rfl
theorem restJ_cons (l : List Nd) (i : Nat) (k : Int) (ks : List Int) (s : List Bool) : restJ l i (k :: ks) s = if ((decide (1 ≤ k) && decide (k ≤ (l.length : Int) - 1)) && (!(rdOf false s k) && par l k == (i : Int))) = true then restJ l i ks (s.set k.toNat true) else false := by
  unfold restJ
  rw [scan]
  cases ((decide (1 ≤ k) && decide (k ≤ (l.length : Int) - 1)) && (!(rdOf false s k) && par l k == (i : Int))) <;> rfl
def kidC (l : List Nd) (i : Nat) (s : List Bool) (k : Int) : Bool := (decide (1 ≤ k) && decide (k ≤ (l.length : Int) - 1)) && (!(rdOf false s k) && par l k == (i : Int))
theorem restJ_consC (l : List Nd) (i : Nat) (k : Int) (ks : List Int) (s : List Bool) : restJ l i (k :: ks) s = if kidC l i s k = true then restJ l i ks (s.set k.toNat true) else false := restJ_cons l i k ks s
theorem kidC_no1 {l : List Nd} {i : Nat} {s : List Bool} {k : Int} (h : ¬ (0 ≤ k ∧ k ≤ (l.length : Int) - 1)) : kidC l i s k = false := by
  unfold kidC
  rw [show (decide (1 ≤ k) && decide (k ≤ (l.length : Int) - 1)) = false by simp only [Bool.and_eq_false_iff, decide_eq_false_iff_not]; omega]; rfl
theorem kidC_no2 {l : List Nd} {i : Nat} {s : List Bool} {k : Int} (h : ¬ (rdD l k).2.2.2.2.1 = (i : Int)) : kidC l i s k = false := by
  unfold kidC par; simp [h]
theorem kidC_no3 {l : List Nd} {i : Nat} {s : List Bool} {k : Int} (hk : k.toNat < s.length) (h : 0 < rdD (seenI s) k) : kidC l i s k = false := by
  rw [seenI_rd s k hk] at h
  unfold kidC
  cases e : rdOf false s k with
  | true => simp
  | false => rw [e] at h; simp at h
theorem kidC_yes {l : List Nd} {i : Nat} {s : List Bool} {k : Int} (h0 : par l 0 = -1) (hk : k.toNat < s.length) (h : 0 ≤ k ∧ k ≤ (l.length : Int) - 1) (hp : (rdD l k).2.2.2.2.1 = (i : Int)) (hs : ¬ 0 < rdD (seenI s) k) : kidC l i s k = true := by
  have h1 : 1 ≤ k := by
    by_cases e : k = 0
    · subst e; change par l 0 = _ at hp; omega
    · omega
  rw [seenI_rd s k hk] at hs
  unfold kidC par
  have e : rdOf false s k = false := by
    cases e : rdOf false s k with
    | true => rw [e] at hs; simp at hs
    | false => rfl
  simp [h1, h.2, hp, e]
theorem seen_dec (s : List Bool) (k : Int) (hk : k.toNat < s.length) : rdOf false s k = decide (0 < rdD (seenI s) k) := by
  rw [seenI_rd s k hk]
  cases rdOf false s k <;> simp
theorem last1 {p r : Int} {c t : Bool} (h : decide (p = -1) = decide (0 < r)) : ((!((p == -1) == decide (0 < r)) && !c) && t) = false := by
  rw [show (p == -1) = decide (p = -1) from rfl, h]; simp
theorem last2 {p r : Int} {c t : Bool} (h : ¬ decide (p = -1) = decide (0 < r)) (hc : c = true) : ((!((p == -1) == decide (0 < r)) && !c) && t) = false := by
  rw [hc]; simp
theorem last3 {p r : Int} {c t : Bool} (h : ¬ decide (p = -1) = decide (0 < r)) (hc : c = false) : ((!((p == -1) == decide (0 < r)) && !c) && t) = t := by
  rw [hc, show ((p == -1) == decide (0 < r)) = false from beq_eq_false_iff_ne.2 h]; rfl
theorem seen_store (s : List Bool) (k : Int) (h0 : 0 ≤ k) (h : k.toNat < s.length) (hs : ¬ 0 < rdD (seenI s) k) : setCell (rowI (seenI s)) (k.toNat + 0) 0 (.lit (.int .i64 (rdD (seenI s) k + 1))) = rowI (seenI (s.set k.toNat true)) := by
  have h1 := seenI_range s k
  rw [setCell_at (get_seen s k h0 h), show rdD (seenI s) k + 1 = 1 by omega, ← seenI_set]
  show (rowI (seenI s)).set k.toNat (eInt .i64 1) = _
  rw [← List.map_set]
theorem lastI_step (l : List Nd) (s : List Bool) (i : Nat) (h : i < l.length) : lastI l s (l.length - i) i = ((!((par l (i : Int) == -1) == rdOf false s (i : Int)) && !chI l (i : Int) l.length (par l (i : Int))) && lastI l s (l.length - (i + 1)) (i + 1)) := by
  rw [show l.length - i = (l.length - (i + 1)) + 1 by omega, lastI]
theorem par_nat (l : List Nd) (i : Nat) (h : i < l.length) : par l (i : Int) = l[i].2.2.2.2.1 := by
  unfold par; rw [show rdD l (i : Int) = l[i] from getD_eq _ l i h]
theorem F_i_Tree_linksOk (l : List Nd) (hl : l.length ≤ 500) (h0 : par l 0 = -1) (hp : ∀ x ∈ l, ndSm x) : Fn pg 55 [.pro [.imm 6 (rowN l)]] [] (.lit (.bool (linksB l))) [] := by
  refine Fn.ofN [0,2,3,4,5,7,8,9,19,20,21,22,27,28,29,30,55,67,68,69,70,89] [1005,1009,1015] Try.func55 (by rfl) rfl (by show 1 ≤ 91; decide) (by rfl) ?_
  repeat' ((conv => whnf); first | (refine And.intro (by first | exact True.intro | omega | (simp (disch := (first | omega | fail)) only [modAt, List.length_take, List.length_drop, List.length_map, List.length_append, List.length_set, List.length_replicate, len_rowsPart, len_setCell, len_marks, len_markL, len_byR, len_mkL, len_marksN, len_bytesI, len_seenI]; first | omega | fail) | fail) ?_) | fail)
  rw [restK_start]
  refine ⟨Nat × List Bool, fun x => (x.1 ≤ l.length ∧ x.2.length = l.length) ∧ restK l 0 (List.replicate l.length false) = restK l x.1 x.2, fun x => [(0, .pro [.imm 6 (rowN l)]), (3, .sl 1015 [] 1 0 l.length), (19, .imm 6 (rowN l)), (20, .lit (.int .i64 l.length)), (21, .lit (.int .i64 x.1))], fun x => [(1015, false, 1, rowI (seenI x.2))], fun x => l.length - x.1, ⟨[], (0, List.replicate l.length false), by simp, ⟨rfl, rfl⟩, ⟨by first | rfl | fail, by first | (exact slEq (by first | (simp; done) | fail)) | fail, by first | rfl | fail, by first | (show V.lit (Value.int _ _) = V.lit (Value.int _ _); first | (congr 2; first | (simp only [List.length_map]; done) | fail) | fail) | fail, by first | rfl | fail, trivial⟩, boxEq ?_, trivial⟩, ?_⟩
  · simp [seenI, eInt, renRow]
  intro y ⟨⟨hi, hs⟩, hh⟩
  by_cases hlt : y.1 < l.length
  · have hpi := hp _ (List.getElem_mem hlt)
    obtain ⟨_, _, _, hkl⟩ := hpi
    replace hh := hh.trans (restK_step l y.1 y.2 hlt)
    repeat' ((conv => whnf); first | (refine iteB_dec (fun h => ?_) (fun h => ?_) <;> (try simp (disch := (first | omega | fail)) only [modAt, List.length_take, List.length_drop, List.length_map, List.length_append, List.length_set, List.length_replicate, len_rowsPart, len_setCell, len_marks, len_markL, len_byR, len_mkL, len_marksN, len_bytesI, len_seenI] at h)) | (refine Exists.intro _ (And.intro rfl ?_)) | (refine And.intro (by first | exact True.intro | exact Nat.le_refl _ | omega | fail) ?_) | (refine Exists.intro _ (And.intro (rowGet _ _ _ (by omega)) ?_)) | fail)
    all_goals first | (exfalso; omega) | skip | fail
    refine ⟨Nat × List Bool, fun x => (x.1 ≤ l[y.1].2.2.2.2.2.length ∧ x.2.length = l.length) ∧ restK l 0 (List.replicate l.length false) = restJ l y.1 (l[y.1].2.2.2.2.2.drop x.1) x.2, fun x => [(0, .pro [.imm 6 (rowN l)]), (3, .sl 1015 [] 1 0 l.length), (4, .lit (.int .i64 y.1)), (19, .imm 6 (rowN l)), (20, .lit (.int .i64 l.length)), (21, .lit (.int .i64 y.1)), (27, .imm 1 (rowI l[y.1].2.2.2.2.2)), (28, .lit (.int .i64 l[y.1].2.2.2.2.2.length)), (29, .lit (.int .i64 x.1))], fun x => [(1015, false, 1, rowI (seenI x.2))], fun x => l[y.1].2.2.2.2.2.length - x.1, ⟨[], (0, y.2), ⟨⟨Nat.zero_le _, hs⟩, hh⟩, ⟨rfl, rfl⟩, ⟨by first | rfl | fail, by first | rfl | fail, by first | rfl | fail, by first | rfl | fail, by first | rfl | fail, by first | rfl | fail, by first | rfl | fail, by first | (show V.lit (Value.int _ _) = V.lit (Value.int _ _); first | (congr 2; first | (simp only [List.length_map]; done) | fail) | fail) | fail, by first | rfl | fail, trivial⟩, boxEq rfl, trivial⟩, ?_⟩
    intro v ⟨⟨hj, hz⟩, hn⟩
    by_cases hlj : v.1 < l[y.1].2.2.2.2.2.length
    · rw [drop_cons _ _ hlj, restJ_consC] at hn
      have hsr := seenI_range v.2 l[y.1].2.2.2.2.2[v.1]
      have hN := F_i_Tree_isNode l l[y.1].2.2.2.2.2[v.1] (by omega)
      by_cases hin : 0 ≤ l[y.1].2.2.2.2.2[v.1] ∧ l[y.1].2.2.2.2.2[v.1] ≤ (l.length : Int) - 1
      · rw [nodeIn_yes hin] at hN
        have hsd := seenI_rd v.2 l[y.1].2.2.2.2.2[v.1] (by omega)
        repeat' ((conv => whnf); first | (refine iteB_dec (fun h => ?_) (fun h => ?_) <;> (try simp (disch := (first | omega | fail)) only [modAt, List.length_take, List.length_drop, List.length_map, List.length_append, List.length_set, List.length_replicate, len_rowsPart, len_setCell, len_marks, len_markL, len_byR, len_mkL, len_marksN, len_bytesI, len_seenI] at h)) | (refine wrapB_i64 (by first | omega | fail) (by first | omega | fail) ?_) | (refine And.intro (by first | exact True.intro | omega | (simp (disch := (first | omega | fail)) only [modAt, List.length_take, List.length_drop, List.length_map, List.length_append, List.length_set, List.length_replicate, len_rowsPart, len_setCell, len_marks, len_markL, len_byR, len_mkL, len_marksN, len_bytesI, len_seenI]; first | omega | fail) | fail) ?_) | (refine Exists.intro _ (And.intro (get_seen _ _ (by first | omega | fail) (by first | omega | fail)) ?_)) | (refine Exists.intro _ (And.intro (rowGet _ _ _ (by omega)) ?_)) | (refine Exists.intro _ (And.intro (rowGetI _ _ _ (by omega) (by omega)) ?_)) | (refine Exists.intro _ (And.intro (by first | exact (get_mapIC _ _ _ _ _ (by first | (simp (disch := (first | omega | fail)) only [modAt, List.length_take, List.length_drop, List.length_map, List.length_append, List.length_set, List.length_replicate, len_rowsPart, len_setCell, len_marks, len_markL, len_byR, len_mkL, len_marksN, len_bytesI, len_seenI]; first | omega | fail) | fail) (by exact rfl)) | fail) ?_)) | (refine Or.inl ?_; apply callV_i; (repeat ((conv => whnf); first | refine And.intro (by first | omega | fail) ?_ | fail)); ((conv => whnf); first | exact FnB.mk (hN) | fail); refine ⟨rfl, rfl, ?_⟩) | fail)
        all_goals first | (exfalso; omega) | skip | fail
        · (refine .mk ⟨trivial, [], ⟨rfl, ?_⟩, List.nodup_nil, rfl, trivial⟩; show V.lit _ = V.lit _)
          rw [hn, kidC_no2 (by assumption)]; rfl
        · (refine .mk ⟨trivial, [], ⟨rfl, ?_⟩, List.nodup_nil, rfl, trivial⟩; show V.lit _ = V.lit _)
          rw [hn, kidC_no3 (by omega) (by assumption)]; rfl
        · rw [kidC_yes h0 (by omega) hin (Decidable.not_not.1 (by assumption)) (by assumption), if_pos rfl] at hn
          refine ⟨[], (v.1 + 1, v.2.set l[y.1].2.2.2.2.2[v.1].toNat true), ⟨⟨by omega, by simpa using hz⟩, hn⟩, ⟨⟨rfl, rfl⟩, ⟨by first | rfl | fail, by first | rfl | fail, by first | rfl | fail, by first | rfl | fail, by first | rfl | fail, by first | rfl | fail, by first | rfl | fail, by first | rfl | fail, by first | rfl | fail, trivial⟩, boxEq ?_, trivial⟩, by first | (dsimp only; omega) | fail⟩
          show setCell (rowI (seenI v.2)) (l[y.1].2.2.2.2.2[v.1].toNat + 0) 0 (.lit (.int .i64 (rdD (seenI v.2) l[y.1].2.2.2.2.2[v.1] + 1))) = rowI (seenI (v.2.set l[y.1].2.2.2.2.2[v.1].toNat true))
          exact seen_store v.2 _ hin.1 (by omega) (by assumption)
      · rw [nodeIn_no hin] at hN
        repeat' ((conv => whnf); first | (refine iteB_dec (fun h => ?_) (fun h => ?_) <;> (try simp (disch := (first | omega | fail)) only [modAt, List.length_take, List.length_drop, List.length_map, List.length_append, List.length_set, List.length_replicate, len_rowsPart, len_setCell, len_marks, len_markL, len_byR, len_mkL, len_marksN, len_bytesI, len_seenI] at h)) | (refine wrapB_i64 (by first | omega | fail) (by first | omega | fail) ?_) | (refine And.intro (by first | exact True.intro | omega | fail) ?_) | (refine Exists.intro _ (And.intro (rowGet _ _ _ (by omega)) ?_)) | (refine Or.inl ?_; apply callV_i; (repeat ((conv => whnf); first | refine And.intro (by first | omega | fail) ?_ | fail)); ((conv => whnf); first | exact FnB.mk (hN) | fail); refine ⟨rfl, rfl, ?_⟩) | fail)
        all_goals first | (exfalso; omega) | skip | fail
        (refine .mk ⟨trivial, [], ⟨rfl, ?_⟩, List.nodup_nil, rfl, trivial⟩; show V.lit _ = V.lit _)
        rw [hn, kidC_no1 hin]; rfl
    · have hjl : v.1 = l[y.1].2.2.2.2.2.length := by omega
      rw [List.drop_of_length_le (by omega), restJ_nil] at hn
      repeat' ((conv => whnf); first | (refine iteB_dec (fun h => ?_) (fun h => ?_) <;> (try simp (disch := (first | omega | fail)) only [modAt, List.length_take, List.length_drop, List.length_map, List.length_append, List.length_set, List.length_replicate, len_rowsPart, len_setCell, len_marks, len_markL, len_byR, len_mkL, len_marksN, len_bytesI, len_seenI] at h)) | (refine iteB_not ?_) | (refine iteB_of (fun h => ?_) (fun h => ?_)) | (refine wrapB_i64 (by first | omega | fail) (by first | omega | fail) ?_) | (refine And.intro (by first | exact True.intro | omega | fail) ?_) | (refine Exists.intro _ (And.intro (get_seen _ _ (by first | omega | fail) (by first | omega | fail)) ?_)) | (refine Exists.intro _ (And.intro (rowGet _ _ _ (by omega)) ?_)) | (refine Exists.intro _ (And.intro (by first | exact (get_mapIC _ _ _ _ _ (by first | omega | fail) (by exact rfl)) | fail) ?_)) | (refine Or.inl ?_; apply callV_i; (repeat ((conv => whnf); first | refine And.intro (by first | omega | fail) ?_ | fail)); ((conv => whnf); first | exact FnB.mk (F_i_Tree_isNode _ _ (by first | omega | fail)) | fail); refine ⟨rfl, rfl, ?_⟩) | fail)
      all_goals first | (exfalso; omega) | skip | fail
      exact ⟨[], (y.1 + 1, v.2), ⟨⟨by omega, hz⟩, hn⟩, ⟨⟨rfl, rfl⟩, ⟨by first | rfl | fail, by first | rfl | fail, by first | rfl | fail, by first | rfl | fail, by first | rfl | fail, trivial⟩, boxEq rfl, trivial⟩, by first | (dsimp only; omega) | fail⟩
  · have hil : y.1 = l.length := by omega
    rw [hil, restK_end] at hh
    repeat' ((conv => whnf); first | (refine iteB_dec (fun h => ?_) (fun h => ?_) <;> (try simp (disch := (first | omega | fail)) only [modAt, List.length_take, List.length_drop, List.length_map, List.length_append, List.length_set, List.length_replicate, len_rowsPart, len_setCell, len_marks, len_markL, len_byR, len_mkL, len_marksN, len_bytesI, len_seenI] at h)) | (refine Exists.intro _ (And.intro rfl ?_)) | (refine And.intro (by first | exact True.intro | exact Nat.le_refl _ | omega | fail) ?_) | (refine Exists.intro _ (And.intro (rowGet _ _ _ (by omega)) ?_)) | fail)
    all_goals first | (exfalso; omega) | skip | fail
    refine ⟨Nat, fun k => k ≤ l.length ∧ restK l 0 (List.replicate l.length false) = lastI l y.2 (l.length - k) k, fun k => [(0, .pro [.imm 6 (rowN l)]), (3, .sl 1015 [] 1 0 l.length), (67, .imm 6 (rowN l)), (68, .lit (.int .i64 l.length)), (69, .lit (.int .i64 k))], fun _ => [(1015, false, 1, rowI (seenI y.2))], fun k => l.length - k, ⟨[], 0, ⟨Nat.zero_le _, hh⟩, ⟨rfl, rfl⟩, ⟨by first | rfl | fail, by first | rfl | fail, by first | rfl | fail, by first | (show V.lit (Value.int _ _) = V.lit (Value.int _ _); first | (congr 2; first | (simp only [List.length_map]; done) | fail) | fail) | fail, by first | rfl | fail, trivial⟩, boxEq rfl, trivial⟩, ?_⟩
    intro k ⟨hk, hn⟩
    by_cases hlk : k < l.length
    · have hA := F_i_Tree_isAbove l k l[k].2.2.2.2.1 (by omega)
      have hsd := seenI_rd y.2 k (by omega)
      have hsr := seenI_range y.2 k
      rw [lastI_step l y.2 k hlk, par_nat l k hlk, seen_dec y.2 k (by omega)] at hn
      repeat' ((conv => whnf); first | (refine iteB_dec (fun h => ?_) (fun h => ?_) <;> (try simp (disch := (first | omega | fail)) only [modAt, List.length_take, List.length_drop, List.length_map, List.length_append, List.length_set, List.length_replicate, len_rowsPart, len_setCell, len_marks, len_markL, len_byR, len_mkL, len_marksN, len_bytesI, len_seenI] at h)) | (refine iteB_of (fun h => ?_) (fun h => ?_)) | (refine Exists.intro _ (And.intro rfl ?_)) | (refine wrapB_i64 (by first | omega | fail) (by first | omega | fail) ?_) | (refine And.intro (by first | exact True.intro | exact Nat.le_refl _ | omega | fail) ?_) | (refine Exists.intro _ (And.intro (get_seen _ _ (by first | omega | fail) (by first | omega | fail)) ?_)) | (refine Exists.intro _ (And.intro (rowGet _ _ _ (by omega)) ?_)) | (refine Or.inl (And.intro (by decide +kernel) ?_)) | (apply callQ_i; (repeat ((conv => whnf); first | refine And.intro (by first | omega | fail) ?_ | fail)); ((conv => whnf); apply Exists.intro; (first | exact FnB.mk (hA) | fail))) | fail)
      all_goals first | (exfalso; omega) | skip | fail
      · (refine .mk ⟨trivial, [], ⟨rfl, ?_⟩, List.nodup_nil, rfl, trivial⟩; show V.lit _ = V.lit _)
        rw [hn, last1 (by assumption)]
      · (refine .mk ⟨trivial, [], ⟨rfl, ?_⟩, List.nodup_nil, rfl, trivial⟩; show V.lit _ = V.lit _)
        rw [hn, last2 (by assumption) (by assumption)]
      · rw [last3 (by assumption) (by assumption)] at hn
        exact ⟨[], k + 1, ⟨by omega, hn⟩, ⟨⟨rfl, rfl⟩, ⟨by first | rfl | fail, by first | rfl | fail, by first | rfl | fail, by first | rfl | fail, by first | rfl | fail, trivial⟩, boxEq rfl, trivial⟩, by first | (dsimp only; omega) | fail⟩
    · obtain rfl : k = l.length := by omega
      rw [Nat.sub_self, lastI] at hn
      repeat' ((conv => whnf); first | (refine iteB_dec (fun h => ?_) (fun h => ?_) <;> (try simp (disch := (first | omega | fail)) only [modAt, List.length_take, List.length_drop, List.length_map, List.length_append, List.length_set, List.length_replicate, len_rowsPart, len_setCell, len_marks, len_markL, len_byR, len_mkL, len_marksN, len_bytesI, len_seenI] at h)) | (refine iteB_of (fun h => ?_) (fun h => ?_)) | (refine Exists.intro _ (And.intro rfl ?_)) | (refine wrapB_i64 (by first | omega | fail) (by first | omega | fail) ?_) | (refine And.intro (by first | exact True.intro | exact Nat.le_refl _ | omega | fail) ?_) | (refine Exists.intro _ (And.intro (get_seen _ _ (by first | omega | fail) (by first | omega | fail)) ?_)) | (refine Exists.intro _ (And.intro (rowGet _ _ _ (by omega)) ?_)) | (refine Or.inl (And.intro (by decide +kernel) ?_)) | (apply callQ_i; (repeat ((conv => whnf); first | refine And.intro (by first | omega | fail) ?_ | fail)); ((conv => whnf); apply Exists.intro; (first | exact FnB.mk (F_i_Tree_isAbove _ _ _ (by first | omega | fail)) | fail))) | fail)
      all_goals first | (exfalso; omega) | skip | fail
      (refine .mk ⟨trivial, [], ⟨rfl, ?_⟩, List.nodup_nil, rfl, trivial⟩; show V.lit _ = V.lit _)
      rw [hn]


theorem nodesI_step (l : List Nd) (i : Nat) (h : i < l.length) : nodesI l (l.length - i) i = (nodeAt l[i] (i : Int) && nodesI l (l.length - (i + 1)) (i + 1)) := by
  rw [show l.length - i = (l.length - (i + 1)) + 1 by omega, nodesI, show rdD l (i : Int) = l[i] from getD_eq _ l i h]
theorem nodeAt_par (l : List Nd) (h : 0 < l.length) (hn : nodeAt l[0] ((0 : Nat) : Int) = true) : par l 0 = -1 := by
  have e : par l 0 = l[0].2.2.2.2.1 := par_nat l 0 h
  rw [e]
  unfold nodeAt at hn
  simp only [Bool.and_eq_true, Bool.or_eq_true, Bool.not_eq_true', decide_eq_false_iff_not, decide_eq_true_eq, beq_iff_eq] at hn
  rcases hn with ⟨⟨_, h1⟩, h2 | h2⟩
  · exfalso
    rw [decide_eq_false h2] at h1
    simp at h1
  · exact h2
theorem F_i_TreeOk (l : List Nd) (hl : l.length ≤ 140737488351232) (hp : ∀ x ∈ l, ndSm x) : Fn pg 34 [sTr l] [] (.lit (.bool (treeI l))) [] := by
  have hI := F_i_inRange (rowN l).length 1 500
  by_cases hr : 1 ≤ l.length ∧ l.length ≤ 500
  · rw [show (decide ((1 : Int) ≤ (rowN l).length) && decide (((rowN l).length : Int) ≤ 500)) = true by simp; omega] at hI
    rw [show treeI l = (nodesI l l.length 0 && linksB l) by unfold treeI; rw [show (decide (1 ≤ l.length) && decide (l.length ≤ 500)) = true by simp; omega]; rfl]
    refine Fn.ofN [0,1,2,3,4,9,11,12,13,14,21] [1001,1004] Try.func34 (by rfl) rfl (by show 1 ≤ 24; decide) (by rfl) ?_
    repeat' ((conv => whnf); first | (refine Exists.intro _ (And.intro rfl ?_)) | (refine Or.inl ?_; apply callV_i; (repeat ((conv => whnf); first | refine And.intro (by first | omega | fail) ?_ | fail)); ((conv => whnf); first | exact FnB.mk (hI) | fail); refine ⟨rfl, rfl, ?_⟩) | fail)
    refine ⟨Nat, fun i => (i ≤ l.length ∧ (0 < i → par l 0 = -1)) ∧ nodesI l l.length 0 = nodesI l (l.length - i) i, fun i => [(1, .ptr 1001 [] 1 0 0), (11, .imm 6 (rowN l)), (12, .lit (.int .i64 l.length)), (13, .lit (.int .i64 i))], fun _ => [(1001, true, 1, [[.imm 6 (rowN l)]])], fun i => l.length - i, ⟨[], 0, by simp, ⟨rfl, rfl⟩, ⟨by first | rfl | fail, by first | rfl | fail, by first | (show V.lit (Value.int _ _) = V.lit (Value.int _ _); first | (congr 2; first | (simp only [List.length_map]; done) | fail) | fail) | fail, by first | rfl | fail, trivial⟩, boxEq rfl, trivial⟩, ?_⟩
    intro i ⟨⟨hi, h0⟩, hh⟩
    by_cases hlt : i < l.length
    · have hN := F_i_nodeOk l[i] i (hp _ (List.getElem_mem hlt))
      rw [nodesI_step l i hlt] at hh
      repeat' ((conv => whnf); first | (refine iteB_dec (fun h => ?_) (fun h => ?_) <;> (try simp (disch := (first | omega | fail)) only [modAt, List.length_take, List.length_drop, List.length_map, List.length_append, List.length_set, List.length_replicate, len_rowsPart, len_setCell, len_marks, len_markL, len_byR, len_mkL, len_marksN, len_bytesI, len_seenI] at h)) | (refine iteB_not ?_) | (refine iteB_of (fun h => ?_) (fun h => ?_)) | (refine Exists.intro _ (And.intro rfl ?_)) | (refine wrapB_i64 (by first | omega | fail) (by first | omega | fail) ?_) | (refine And.intro (by first | exact True.intro | exact Nat.le_refl _ | omega | fail) ?_) | (refine Exists.intro _ (And.intro (rowGet _ _ _ (by omega)) ?_)) | (refine Or.inl ?_; apply callV_i; (repeat ((conv => whnf); first | refine Exists.intro _ (And.intro rfl ?_) | fail)); ((conv => whnf); first | exact FnB.mk (hN) | exact FnB.mk (F_i_Tree_linksOk _ (by first | omega | fail) (by first | omega | fail) (by first | omega | fail)) | fail); refine ⟨rfl, rfl, ?_⟩) | fail)
      all_goals first | (exfalso; omega) | skip | fail
      · rw [show nodeAt l[i] (i : Int) = true by assumption, Bool.true_and] at hh
        refine ⟨[], i + 1, ⟨⟨by omega, fun _ => ?_⟩, hh⟩, ⟨⟨rfl, rfl⟩, ⟨by first | rfl | fail, by first | rfl | fail, by first | rfl | fail, by first | rfl | fail, trivial⟩, boxEq rfl, trivial⟩, by first | (dsimp only; omega) | fail⟩
        by_cases e : i = 0
        · subst e; exact nodeAt_par l hlt (by assumption)
        · exact h0 (by omega)
      · (refine .mk ⟨trivial, [], ⟨rfl, ?_⟩, List.nodup_nil, rfl, trivial⟩; show V.lit _ = V.lit _)
        rw [hh, show nodeAt l[i] (i : Int) = false by assumption]; rfl
    · obtain rfl : i = l.length := by omega
      rw [Nat.sub_self, nodesI] at hh
      have hL := F_i_Tree_linksOk l hr.2 (h0 (by omega)) hp
      repeat' ((conv => whnf); first | (refine iteB_dec (fun h => ?_) (fun h => ?_) <;> (try simp (disch := (first | omega | fail)) only [modAt, List.length_take, List.length_drop, List.length_map, List.length_append, List.length_set, List.length_replicate, len_rowsPart, len_setCell, len_marks, len_markL, len_byR, len_mkL, len_marksN, len_bytesI, len_seenI] at h)) | (refine iteB_not ?_) | (refine iteB_of (fun h => ?_) (fun h => ?_)) | (refine Exists.intro _ (And.intro rfl ?_)) | (refine wrapB_i64 (by first | omega | fail) (by first | omega | fail) ?_) | (refine And.intro (by first | exact True.intro | exact Nat.le_refl _ | omega | fail) ?_) | (refine Exists.intro _ (And.intro (rowGet _ _ _ (by omega)) ?_)) | (refine Or.inl ?_; apply callV_i; (repeat ((conv => whnf); first | refine Exists.intro _ (And.intro rfl ?_) | fail)); ((conv => whnf); first | exact FnB.mk (hL) | exact FnB.mk (F_i_nodeOk _ _ (by first | omega | fail)) | fail); refine ⟨rfl, rfl, ?_⟩) | fail)
      all_goals first | (exfalso; omega) | skip | fail
      (refine .mk ⟨trivial, [], ⟨rfl, ?_⟩, List.nodup_nil, rfl, trivial⟩; show V.lit _ = V.lit _)
      rw [hh]; rfl
  · rw [show treeI l = false by unfold treeI; rw [show (decide (1 ≤ l.length) && decide (l.length ≤ 500)) = false by simp only [Bool.and_eq_false_iff, decide_eq_false_iff_not]; omega]; rfl]
    rw [show (decide ((1 : Int) ≤ (rowN l).length) && decide (((rowN l).length : Int) ≤ 500)) = false by simp; omega] at hI
    refine Fn.ofN [0,1,2,3,4,9,11,12,13,14,21] [1001,1004] Try.func34 (by rfl) rfl (by show 1 ≤ 24; decide) (by rfl) ?_
    repeat' ((conv => whnf); first | (refine Exists.intro _ (And.intro rfl ?_)) | (refine Or.inl ?_; apply callV_i; (repeat ((conv => whnf); first | refine And.intro (by first | omega | fail) ?_ | fail)); ((conv => whnf); first | exact FnB.mk (hI) | fail); refine ⟨rfl, rfl, ?_⟩) | fail)
    all_goals ((refine .mk ⟨trivial, [], ⟨rfl, ?_⟩, List.nodup_nil, rfl, trivial⟩; show V.lit _ = V.lit _); rfl)


abbrev rowBo (s : List Bool) : Row := s.map fun b => [V.lit (.bool b)]
theorem get_bo (s : List Bool) (k : Int) (h0 : 0 ≤ k) (h : k.toNat < s.length) : (rowBo s)[k.toNat + 0]? = some [.lit (.bool (rdOf false s k))] := by
  rw [Nat.add_zero, List.getElem?_map, List.getElem?_eq_getElem h]
  unfold rdOf
  rw [List.getD_eq_getElem?_getD, List.getElem?_eq_getElem h]; rfl
theorem bo_store (s : List Bool) (k : Int) (h0 : 0 ≤ k) (h : k.toNat < s.length) : setCell (rowBo s) (k.toNat + 0) 0 (.lit (.bool true)) = rowBo (s.set k.toNat true) := by
  rw [setCell_at (get_bo s k h0 h)]
  show (rowBo s).set k.toNat [.lit (.bool true)] = _
  unfold rowBo
  rw [List.map_set]
def loopJ (l : List Nd) (i : Nat) (ks : List Int) (s : List Bool) : Bool := match scan l (i : Int) ks s with | none => false | some s => loopS l (l.length - (i + 1)) (i + 1) s
theorem loopS_step (l : List Nd) (i : Nat) (s : List Bool) (h : i < l.length) : loopS l (l.length - i) i s = if nodeS l (i : Int) = true then loopJ l i l[i].2.2.2.2.2 s else false := by
  rw [show l.length - i = (l.length - (i + 1)) + 1 by omega, loopS, show rdD l (i : Int) = l[i] from getD_eq _ l i h]; rfl
theorem loopJ_nil (l : List Nd) (i : Nat) (s : List Bool) : loopJ l i [] s = loopS l (l.length - (i + 1)) (i + 1) s := rfl
theorem loopJ_cons (l : List Nd) (i : Nat) (k : Int) (ks : List Int) (s : List Bool) : loopJ l i (k :: ks) s = if kidC l i s k = true then loopJ l i ks (s.set k.toNat true) else false := by
  unfold loopJ
  rw [scan]
  unfold kidC
  cases ((decide (1 ≤ k) && decide (k ≤ (l.length : Int) - 1)) && (!(rdOf false s k) && par l k == (i : Int))) <;> rfl
theorem nodeS_at (l : List Nd) (i : Nat) (h : i < l.length) : nodeS l (i : Int) = (((nodeB l[i] && (decide (l[i].1 = 1) == decide ((i : Int) = 0))) && (decide (-1 ≤ l[i].2.2.2.2.1) && decide (l[i].2.2.2.2.1 ≤ (l.length : Int) - 1))) && (!decide ((i : Int) = 0) || decide (l[i].2.2.2.2.1 = -1))) := by
  unfold nodeS; rw [par_nat l i h, show rdD l (i : Int) = l[i] from getD_eq _ l i h]; rfl
theorem nodeS_rng (l : List Nd) (i : Nat) (h : i < l.length) (hn : nodeS l (i : Int) = true) : -1 ≤ par l (i : Int) ∧ par l (i : Int) ≤ (l.length : Int) - 1 := by
  unfold nodeS at hn
  simp only [Bool.and_eq_true, decide_eq_true_eq] at hn
  exact hn.1.2
theorem kidS_no1 {l : List Nd} {i : Nat} {s : List Bool} {k : Int} (h : ¬ (1 ≤ k ∧ k ≤ (l.length : Int) - 1)) : kidC l i s k = false := by
  unfold kidC
  rw [show (decide (1 ≤ k) && decide (k ≤ (l.length : Int) - 1)) = false by simp only [Bool.and_eq_false_iff, decide_eq_false_iff_not]; omega]; rfl
theorem kidS_no3 {l : List Nd} {i : Nat} {s : List Bool} {k : Int} (h : rdOf false s k = true) : kidC l i s k = false := by unfold kidC; simp [h]
theorem kidS_yes {l : List Nd} {i : Nat} {s : List Bool} {k : Int} (h : 1 ≤ k ∧ k ≤ (l.length : Int) - 1) (hp : (rdD l k).2.2.2.2.1 = (i : Int)) (hs : rdOf false s k = false) : kidC l i s k = true := by
  unfold kidC par; simp [h.1, h.2, hp, hs]
theorem lastS_step (l : List Nd) (s : List Bool) (i : Nat) (h : i < l.length) : lastS l s (l.length - i) i = ((rdOf false s (i : Int) == decide (l[i].2.2.2.2.1 ≥ 0) && chS l (l.length + 1) (i : Int)) && lastS l s (l.length - (i + 1)) (i + 1)) := by
  rw [show l.length - i = (l.length - (i + 1)) + 1 by omega, lastS, par_nat l i h]
theorem nodeS_no1 {l : List Nd} {i : Nat} (h : i < l.length) (h1 : nodeB l[i] = false) : ¬ nodeS l (i : Int) = true := by rw [nodeS_at l i h, h1]; simp
theorem nodeS_no2 {l : List Nd} {i : Nat} (h : i < l.length) (h1 : ¬ decide (l[i].1 = 1) = decide ((i : Int) = 0)) : ¬ nodeS l (i : Int) = true := by
  rw [nodeS_at l i h, show (decide (l[i].1 = 1) == decide ((i : Int) = 0)) = false from beq_eq_false_iff_ne.2 h1]; simp
theorem nodeS_no3 {l : List Nd} {i : Nat} (h : i < l.length) (h1 : (decide (-1 ≤ l[i].2.2.2.2.1) && decide (l[i].2.2.2.2.1 ≤ (l.length : Int) - 1)) = false) : ¬ nodeS l (i : Int) = true := by rw [nodeS_at l i h, h1]; simp
theorem nodeS_no4 {l : List Nd} {i : Nat} (h : i < l.length) (h1 : (i : Int) = 0) (h2 : ¬ l[i].2.2.2.2.1 = -1) : ¬ nodeS l (i : Int) = true := by rw [nodeS_at l i h, decide_eq_true h1, decide_eq_false h2]; simp
theorem nodeS_yes {l : List Nd} {i : Nat} (h : i < l.length) (h1 : nodeB l[i] = true) (h2 : ¬¬ decide (l[i].1 = 1) = decide ((i : Int) = 0)) (h3 : (decide (-1 ≤ l[i].2.2.2.2.1) && decide (l[i].2.2.2.2.1 ≤ (l.length : Int) - 1)) = true) (h4 : ¬ (i : Int) = 0 ∨ ¬¬ l[i].2.2.2.2.1 = -1) : nodeS l (i : Int) = true := by
  rw [nodeS_at l i h, h1, h3, show (decide (l[i].1 = 1) == decide ((i : Int) = 0)) = true from beq_iff_eq.2 (Decidable.not_not.1 h2)]
  rcases h4 with h4 | h4
  · rw [decide_eq_false h4]; simp
  · rw [decide_eq_true (Decidable.not_not.1 h4)]; simp
theorem chS_up (l : List Nd) (d : Nat) (u : Int) (h : 0 ≤ u) : chS l (d + 1) u = chS l d (rdD l u).2.2.2.2.1 := by rw [chS, if_pos h]; rfl
theorem chS_over (l : List Nd) (u : Int) (h : 0 ≤ u) : chS l 0 u = false := by rw [chS, decide_eq_true h]; rfl
theorem chS_top (l : List Nd) (d : Nat) (u : Int) (h : ¬ 0 ≤ u) : chS l d u = true := by
  cases d with
  | zero => rw [chS, decide_eq_false h]; rfl
  | succ d => rw [chS, if_neg h]
theorem F_s_TreeOk (l : List Nd) (hl : l.length ≤ 140737488351232) (hp : ∀ x ∈ l, ndSm x) : Fn pg 29 [sTr l] [] (.lit (.bool (treeS l))) [] := by
  have hI := F_s_l1In (rowN l).length 1 500
  by_cases hr : 1 ≤ l.length ∧ l.length ≤ 500
  · rw [show (decide ((1 : Int) ≤ (rowN l).length) && decide (((rowN l).length : Int) ≤ 500)) = true by simp; omega] at hI
    rw [show treeS l = loopS l l.length 0 (List.replicate l.length false) by unfold treeS; rw [show (decide (1 ≤ l.length) && decide (l.length ≤ 500)) = true by simp; omega]; rfl]
    refine Fn.ofN [0,1,2,3,4,5,6,7,8,9,10,11,17,22,57,62,90,96,110,113,118] [1001,1006,1019] Try.func29 (by rfl) rfl (by show 1 ≤ 125; decide) (by rfl) ?_
    repeat' ((conv => whnf); first | (refine Exists.intro _ (And.intro rfl ?_)) | (refine And.intro (by first | exact True.intro | omega | (simp (disch := (first | omega | fail)) only [modAt, List.length_take, List.length_drop, List.length_map, List.length_append, List.length_set, List.length_replicate, len_rowsPart, len_setCell, len_marks, len_markL, len_byR, len_mkL, len_marksN, len_bytesI, len_seenI]; first | omega | fail) | fail) ?_) | (refine Or.inl ?_; apply callV_i; (repeat ((conv => whnf); first | refine And.intro (by first | omega | fail) ?_ | fail)); ((conv => whnf); first | exact FnB.mk (hI) | fail); refine ⟨rfl, rfl, ?_⟩) | fail)
    refine ⟨Nat × List Bool, fun x => ((x.1 ≤ l.length ∧ x.2.length = l.length) ∧ ∀ j : Nat, j < x.1 → -1 ≤ par l (j : Int) ∧ par l (j : Int) ≤ (l.length : Int) - 1) ∧ loopS l l.length 0 (List.replicate l.length false) = loopS l (l.length - x.1) x.1 x.2, fun x => [(1, .ptr 1001 [] 1 0 0), (3, .lit (.int .i64 l.length)), (4, .sl 1019 [] 1 0 l.length), (5, .lit (.int .i64 x.1))], fun x => [(1001, true, 1, [[.imm 6 (rowN l)]]), (1019, false, 1, rowBo x.2)], fun x => l.length - x.1, ⟨[], (0, List.replicate l.length false), by simp, ⟨rfl, rfl⟩, ⟨by first | rfl | fail, by first | (show V.lit (Value.int _ _) = V.lit (Value.int _ _); first | (congr 2; first | (simp only [List.length_map]; done) | fail) | fail) | fail, by first | (exact slEq (by first | (simp; done) | fail)) | fail, by first | rfl | fail, trivial⟩, boxEq rfl, boxEq ?_, trivial⟩, ?_⟩
    · simp [renRow]
    intro y ⟨⟨⟨hi, hs⟩, hrg⟩, hh⟩
    by_cases hlt : y.1 < l.length
    · have hN := F_s_l6Node l[y.1] (hp _ (List.getElem_mem hlt))
      replace hh := hh.trans (loopS_step l y.1 y.2 hlt)
      repeat' ((conv => whnf); first | (refine iteB_dec (fun h => ?_) (fun h => ?_) <;> (try simp (disch := (first | omega | fail)) only [modAt, List.length_take, List.length_drop, List.length_map, List.length_append, List.length_set, List.length_replicate, len_rowsPart, len_setCell, len_marks, len_markL, len_byR, len_mkL, len_marksN, len_bytesI, len_seenI] at h) <;> (try (exfalso; omega))) | (refine iteB_not ?_) | (refine iteB_of (fun h => ?_) (fun h => ?_)) | (refine Exists.intro _ (And.intro rfl ?_)) | (refine wrapB_i64 (by first | omega | fail) (by first | omega | fail) ?_) | (refine And.intro (by first | exact True.intro | exact Nat.le_refl _ | omega | fail) ?_) | (refine Exists.intro _ (And.intro (rowGet _ _ _ (by omega)) ?_)) | (refine Or.inl ?_; apply callV_i; (repeat ((conv => whnf); first | refine And.intro (by first | omega | fail) ?_ | fail)); ((conv => whnf); first | exact FnB.mk (hN) | exact FnB.mk (F_s_l1In _ _ _) | fail); refine ⟨rfl, rfl, ?_⟩) | fail)
      all_goals first | skip | fail
      · (refine .mk ⟨trivial, [], ⟨rfl, ?_⟩, List.nodup_nil, rfl, trivial⟩; show V.lit _ = V.lit _)
        rw [hh, if_neg (nodeS_no2 hlt (by assumption))]
      · (refine .mk ⟨trivial, [], ⟨rfl, ?_⟩, List.nodup_nil, rfl, trivial⟩; show V.lit _ = V.lit _)
        rw [hh, if_neg (nodeS_no4 hlt (by assumption) (by assumption))]
      rotate_left 2
      · (refine .mk ⟨trivial, [], ⟨rfl, ?_⟩, List.nodup_nil, rfl, trivial⟩; show V.lit _ = V.lit _)
        rw [hh, if_neg (nodeS_no3 hlt (by assumption))]
      · (refine .mk ⟨trivial, [], ⟨rfl, ?_⟩, List.nodup_nil, rfl, trivial⟩; show V.lit _ = V.lit _)
        rw [hh, if_neg (nodeS_no1 hlt (by assumption))]
      all_goals
        have hS : nodeS l (y.1 : Int) = true := nodeS_yes hlt (by assumption) (by assumption) (by assumption) (by first | exact .inl (by assumption) | exact .inr (by assumption) | fail)
        rw [if_pos hS] at hh
        clear hN
        refine ⟨Nat × List Bool, fun x => (x.1 ≤ l[y.1].2.2.2.2.2.length ∧ x.2.length = l.length) ∧ loopS l l.length 0 (List.replicate l.length false) = loopJ l y.1 (l[y.1].2.2.2.2.2.drop x.1) x.2, fun x => [(1, .ptr 1001 [] 1 0 0), (3, .lit (.int .i64 l.length)), (4, .sl 1019 [] 1 0 l.length), (5, .lit (.int .i64 y.1)), (6, .ptr 1006 [] 6 0 0), (7, .lit (.int .i64 x.1))], fun x => [(1001, true, 1, [[.imm 6 (rowN l)]]), (1019, false, 1, rowBo x.2), (1006, true, 6, [sNd l[y.1]])], fun x => l[y.1].2.2.2.2.2.length - x.1, ⟨[], (0, y.2), ⟨⟨Nat.zero_le _, hs⟩, hh⟩, ⟨rfl, rfl⟩, ⟨by first | rfl | fail, by first | rfl | fail, by first | rfl | fail, by first | rfl | fail, by first | rfl | fail, by first | rfl | fail, trivial⟩, boxEq rfl, boxEq rfl, boxEq rfl, trivial⟩, ?_⟩
        intro v ⟨⟨hj, hz⟩, hn⟩
        have hkl := (hp _ (List.getElem_mem hlt)).2.2.2
        by_cases hlj : v.1 < l[y.1].2.2.2.2.2.length
        · rw [drop_cons _ _ hlj, loopJ_cons] at hn
          have hI2 := F_s_l1In l[y.1].2.2.2.2.2[v.1] 1 ((l.length : Int) - 1)
          by_cases hin : 1 ≤ l[y.1].2.2.2.2.2[v.1] ∧ l[y.1].2.2.2.2.2[v.1] ≤ (l.length : Int) - 1
          · rw [show (decide (1 ≤ l[y.1].2.2.2.2.2[v.1]) && decide (l[y.1].2.2.2.2.2[v.1] ≤ (l.length : Int) - 1)) = true by simp [hin]] at hI2
            repeat' ((conv => whnf); first | (refine iteB_dec (fun h => ?_) (fun h => ?_) <;> (try simp (disch := (first | omega | fail)) only [modAt, List.length_take, List.length_drop, List.length_map, List.length_append, List.length_set, List.length_replicate, len_rowsPart, len_setCell, len_marks, len_markL, len_byR, len_mkL, len_marksN, len_bytesI, len_seenI] at h) <;> (try (exfalso; omega))) | (refine iteB_of (fun h => ?_) (fun h => ?_)) | (refine Exists.intro _ (And.intro rfl ?_)) | (refine wrapB_i64 (by first | omega | fail) (by first | omega | fail) ?_) | (refine And.intro (by first | exact True.intro | omega | (simp (disch := (first | omega | fail)) only [modAt, List.length_take, List.length_drop, List.length_map, List.length_append, List.length_set, List.length_replicate, len_rowsPart, len_setCell, len_marks, len_markL, len_byR, len_mkL, len_marksN, len_bytesI, len_seenI]; first | omega | fail) | fail) ?_) | (refine Exists.intro _ (And.intro (get_bo _ _ (by first | omega | fail) (by first | omega | fail)) ?_)) | (refine Exists.intro _ (And.intro (rowGet _ _ _ (by omega)) ?_)) | (refine Exists.intro _ (And.intro (rowGetI _ _ _ (by omega) (by omega)) ?_)) | (refine Exists.intro _ (And.intro (by first | exact (get_mapIC _ _ _ _ _ (by first | omega | fail) (by exact rfl)) | fail) ?_)) | (refine Or.inl ?_; apply callV_i; (repeat ((conv => whnf); first | refine And.intro (by first | omega | fail) ?_ | fail)); ((conv => whnf); first | exact FnB.mk (hI2) | fail); refine ⟨rfl, rfl, ?_⟩) | fail)
            all_goals first | skip | fail
            · (refine .mk ⟨trivial, [], ⟨rfl, ?_⟩, List.nodup_nil, rfl, trivial⟩; show V.lit _ = V.lit _)
              rw [hn, kidS_no3 (by assumption)]; rfl
            · (refine .mk ⟨trivial, [], ⟨rfl, ?_⟩, List.nodup_nil, rfl, trivial⟩; show V.lit _ = V.lit _)
              rw [hn, kidC_no2 (by assumption)]; rfl
            · rw [kidS_yes hin (Decidable.not_not.1 (by assumption)) (by assumption), if_pos rfl] at hn
              refine ⟨[], (v.1 + 1, v.2.set l[y.1].2.2.2.2.2[v.1].toNat true), ⟨⟨by omega, by simpa using hz⟩, hn⟩, ⟨⟨rfl, rfl⟩, ⟨by first | rfl | fail, by first | rfl | fail, by first | rfl | fail, by first | rfl | fail, by first | rfl | fail, by first | rfl | fail, trivial⟩, boxEq rfl, boxEq ?_, boxEq rfl, trivial⟩, by first | (dsimp only; omega) | fail⟩
              show setCell (rowBo v.2) (l[y.1].2.2.2.2.2[v.1].toNat + 0) 0 (.lit (.bool true)) = rowBo (v.2.set l[y.1].2.2.2.2.2[v.1].toNat true)
              exact bo_store v.2 _ (by omega) (by omega)
          · rw [show (decide (1 ≤ l[y.1].2.2.2.2.2[v.1]) && decide (l[y.1].2.2.2.2.2[v.1] ≤ (l.length : Int) - 1)) = false by simp only [Bool.and_eq_false_iff, decide_eq_false_iff_not]; omega] at hI2
            repeat' ((conv => whnf); first | (refine iteB_dec (fun h => ?_) (fun h => ?_) <;> (try simp (disch := (first | omega | fail)) only [modAt, List.length_take, List.length_drop, List.length_map, List.length_append, List.length_set, List.length_replicate, len_rowsPart, len_setCell, len_marks, len_markL, len_byR, len_mkL, len_marksN, len_bytesI, len_seenI] at h) <;> (try (exfalso; omega))) | (refine Exists.intro _ (And.intro rfl ?_)) | (refine wrapB_i64 (by first | omega | fail) (by first | omega | fail) ?_) | (refine And.intro (by first | exact True.intro | omega | fail) ?_) | (refine Exists.intro _ (And.intro (rowGet _ _ _ (by omega)) ?_)) | (refine Or.inl ?_; apply callV_i; (repeat ((conv => whnf); first | refine And.intro (by first | omega | fail) ?_ | fail)); ((conv => whnf); first | exact FnB.mk (hI2) | fail); refine ⟨rfl, rfl, ?_⟩) | fail)
            all_goals first | skip | fail
            (refine .mk ⟨trivial, [], ⟨rfl, ?_⟩, List.nodup_nil, rfl, trivial⟩; show V.lit _ = V.lit _)
            rw [hn, kidS_no1 hin]; rfl
        · have hjl : v.1 = l[y.1].2.2.2.2.2.length := by omega
          rw [List.drop_of_length_le (by omega), loopJ_nil] at hn
          repeat' ((conv => whnf); first | (refine iteB_dec (fun h => ?_) (fun h => ?_) <;> (try simp (disch := (first | omega | fail)) only [modAt, List.length_take, List.length_drop, List.length_map, List.length_append, List.length_set, List.length_replicate, len_rowsPart, len_setCell, len_marks, len_markL, len_byR, len_mkL, len_marksN, len_bytesI, len_seenI] at h) <;> (try (exfalso; omega))) | (refine Exists.intro _ (And.intro rfl ?_)) | (refine wrapB_i64 (by first | omega | fail) (by first | omega | fail) ?_) | fail)
          all_goals first | skip | fail
          refine ⟨[], (y.1 + 1, v.2), ⟨⟨⟨by omega, hz⟩, fun j hj2 => ?_⟩, hn⟩, ⟨⟨rfl, rfl⟩, ⟨by first | rfl | fail, by first | rfl | fail, by first | rfl | fail, by first | rfl | fail, trivial⟩, boxEq rfl, boxEq rfl, trivial⟩, by first | (dsimp only; omega) | fail⟩
          by_cases e : j = y.1
          · rw [e]; exact nodeS_rng l y.1 hlt hS
          · exact hrg j (by omega)
    · have hil : y.1 = l.length := by omega
      rw [hil, Nat.sub_self, loopS] at hh
      repeat' ((conv => whnf); first | (refine iteB_dec (fun h => ?_) (fun h => ?_) <;> (try simp (disch := (first | omega | fail)) only [modAt, List.length_take, List.length_drop, List.length_map, List.length_append, List.length_set, List.length_replicate, len_rowsPart, len_setCell, len_marks, len_markL, len_byR, len_mkL, len_marksN, len_bytesI, len_seenI] at h) <;> (try (exfalso; omega))) | fail)
      all_goals first | skip | fail
      refine ⟨Nat, fun k => k ≤ l.length ∧ loopS l l.length 0 (List.replicate l.length false) = lastS l y.2 (l.length - k) k, fun k => [(1, .ptr 1001 [] 1 0 0), (3, .lit (.int .i64 l.length)), (4, .sl 1019 [] 1 0 l.length), (9, .lit (.int .i64 k))], fun _ => [(1001, true, 1, [[.imm 6 (rowN l)]]), (1019, false, 1, rowBo y.2)], fun k => l.length - k, ⟨[], 0, ⟨Nat.zero_le _, hh⟩, ⟨rfl, rfl⟩, ⟨by first | rfl | fail, by first | rfl | fail, by first | rfl | fail, by first | rfl | fail, trivial⟩, boxEq rfl, boxEq rfl, trivial⟩, ?_⟩
      intro k ⟨hk, hn⟩
      by_cases hlk : k < l.length
      · rw [lastS_step l y.2 k hlk] at hn
        repeat' ((conv => whnf); first | (refine iteB_dec (fun h => ?_) (fun h => ?_) <;> (try simp (disch := (first | omega | fail)) only [modAt, List.length_take, List.length_drop, List.length_map, List.length_append, List.length_set, List.length_replicate, len_rowsPart, len_setCell, len_marks, len_markL, len_byR, len_mkL, len_marksN, len_bytesI, len_seenI] at h) <;> (try (exfalso; omega))) | (refine Exists.intro _ (And.intro rfl ?_)) | (refine And.intro (by first | exact True.intro | omega | fail) ?_) | (refine Exists.intro _ (And.intro (get_bo _ _ (by first | omega | fail) (by first | omega | fail)) ?_)) | (refine Exists.intro _ (And.intro (rowGet _ _ _ (by omega)) ?_)) | (refine Or.inl (And.intro (by decide +kernel) ?_)) | fail)
        all_goals first | skip | fail
        · (refine .mk ⟨trivial, [], ⟨rfl, ?_⟩, List.nodup_nil, rfl, trivial⟩; show V.lit _ = V.lit _)
          rw [hn, show (rdOf false y.2 (k : Int) == decide (l[k].2.2.2.2.1 ≥ 0)) = false from beq_eq_false_iff_ne.2 (by assumption)]; rfl
        · rw [show (rdOf false y.2 (k : Int) == decide (l[k].2.2.2.2.1 ≥ 0)) = true from beq_iff_eq.2 (Decidable.not_not.1 (by assumption)), Bool.true_and] at hn
          refine ⟨Nat × Int, fun x => ((x.1 ≤ l.length + 1) ∧ -1 ≤ x.2 ∧ x.2 ≤ (l.length : Int) - 1) ∧ loopS l l.length 0 (List.replicate l.length false) = (chS l (l.length + 1 - x.1) x.2 && lastS l y.2 (l.length - (k + 1)) (k + 1)), fun x => [(1, .ptr 1001 [] 1 0 0), (3, .lit (.int .i64 l.length)), (4, .sl 1019 [] 1 0 l.length), (9, .lit (.int .i64 k)), (10, .lit (.int .i64 x.2)), (11, .lit (.int .i64 x.1))], fun _ => [(1001, true, 1, [[.imm 6 (rowN l)]]), (1019, false, 1, rowBo y.2)], fun x => l.length + 1 - x.1, ⟨[], (0, (k : Int)), ⟨⟨Nat.zero_le _, by omega, by omega⟩, hn⟩, ⟨rfl, rfl⟩, ⟨by first | rfl | fail, by first | rfl | fail, by first | rfl | fail, by first | rfl | fail, by first | rfl | fail, by first | rfl | fail, trivial⟩, boxEq rfl, boxEq rfl, trivial⟩, ?_⟩
          intro v ⟨⟨hj, hv1, hv2⟩, hm⟩
          by_cases hu : 0 ≤ v.2
          · have hru : -1 ≤ (rdD l v.2).2.2.2.2.1 ∧ (rdD l v.2).2.2.2.2.1 ≤ (l.length : Int) - 1 := by
              have := hrg v.2.toNat (by omega)
              rw [show ((v.2.toNat : Nat) : Int) = v.2 by omega] at this
              exact this
            by_cases hjn : v.1 ≤ l.length
            · rw [show l.length + 1 - v.1 = (l.length + 1 - (v.1 + 1)) + 1 by omega, chS_up l _ _ hu] at hm
              repeat' ((conv => whnf); first | (refine iteB_dec (fun h => ?_) (fun h => ?_) <;> (try simp (disch := (first | omega | fail)) only [modAt, List.length_take, List.length_drop, List.length_map, List.length_append, List.length_set, List.length_replicate, len_rowsPart, len_setCell, len_marks, len_markL, len_byR, len_mkL, len_marksN, len_bytesI, len_seenI] at h) <;> (try (exfalso; omega))) | (refine Exists.intro _ (And.intro rfl ?_)) | (refine wrapB_i64 (by first | omega | fail) (by first | omega | fail) ?_) | (refine And.intro (by first | exact True.intro | omega | fail) ?_) | (refine Exists.intro _ (And.intro (rowGetI _ _ _ (by omega) (by omega)) ?_)) | fail)
              exact ⟨[], (v.1 + 1, (rdD l v.2).2.2.2.2.1), ⟨⟨by omega, hru⟩, hm⟩, ⟨⟨rfl, rfl⟩, ⟨by first | rfl | fail, by first | rfl | fail, by first | rfl | fail, by first | rfl | fail, by first | rfl | fail, by first | rfl | fail, trivial⟩, boxEq rfl, boxEq rfl, trivial⟩, by first | (dsimp only; omega) | fail⟩
            · rw [show l.length + 1 - v.1 = 0 by omega, chS_over l _ hu] at hm
              repeat' ((conv => whnf); first | (refine iteB_dec (fun h => ?_) (fun h => ?_) <;> (try simp (disch := (first | omega | fail)) only [modAt, List.length_take, List.length_drop, List.length_map, List.length_append, List.length_set, List.length_replicate, len_rowsPart, len_setCell, len_marks, len_markL, len_byR, len_mkL, len_marksN, len_bytesI, len_seenI] at h) <;> (try (exfalso; omega))) | fail)
              (refine .mk ⟨trivial, [], ⟨rfl, ?_⟩, List.nodup_nil, rfl, trivial⟩; show V.lit _ = V.lit _)
              rw [hm]; rfl
          · rw [chS_top l _ _ hu, Bool.true_and] at hm
            repeat' ((conv => whnf); first | (refine iteB_dec (fun h => ?_) (fun h => ?_) <;> (try simp (disch := (first | omega | fail)) only [modAt, List.length_take, List.length_drop, List.length_map, List.length_append, List.length_set, List.length_replicate, len_rowsPart, len_setCell, len_marks, len_markL, len_byR, len_mkL, len_marksN, len_bytesI, len_seenI] at h) <;> (try (exfalso; omega))) | (refine wrapB_i64 (by first | omega | fail) (by first | omega | fail) ?_) | fail)
            exact ⟨[], k + 1, ⟨by omega, hm⟩, ⟨⟨rfl, rfl⟩, ⟨by first | rfl | fail, by first | rfl | fail, by first | rfl | fail, by first | rfl | fail, trivial⟩, boxEq rfl, boxEq rfl, trivial⟩, by first | (dsimp only; omega) | fail⟩
      · obtain rfl : k = l.length := by omega
        rw [Nat.sub_self, lastS] at hn
        repeat' ((conv => whnf); first | (refine iteB_dec (fun h => ?_) (fun h => ?_) <;> (try simp (disch := (first | omega | fail)) only [modAt, List.length_take, List.length_drop, List.length_map, List.length_append, List.length_set, List.length_replicate, len_rowsPart, len_setCell, len_marks, len_markL, len_byR, len_mkL, len_marksN, len_bytesI, len_seenI] at h) <;> (try (exfalso; omega))) | fail)
        all_goals first | skip | fail
        (refine .mk ⟨trivial, [], ⟨rfl, ?_⟩, List.nodup_nil, rfl, trivial⟩; show V.lit _ = V.lit _)
        rw [hn]
  · rw [show treeS l = false by unfold treeS; rw [show (decide (1 ≤ l.length) && decide (l.length ≤ 500)) = false by simp only [Bool.and_eq_false_iff, decide_eq_false_iff_not]; omega]; rfl]
    rw [show (decide ((1 : Int) ≤ (rowN l).length) && decide (((rowN l).length : Int) ≤ 500)) = false by simp; omega] at hI
    refine Fn.ofN [0,1,2,3,4,5,6,7,8,9,10,11,17,22,57,62,90,96,110,113,118] [1001,1006,1019] Try.func29 (by rfl) rfl (by show 1 ≤ 125; decide) (by rfl) ?_
    repeat' ((conv => whnf); first | (refine Exists.intro _ (And.intro rfl ?_)) | (refine Or.inl ?_; apply callV_i; (repeat ((conv => whnf); first | refine And.intro (by first | omega | fail) ?_ | fail)); ((conv => whnf); first | exact FnB.mk (hI) | fail); refine ⟨rfl, rfl, ?_⟩) | fail)
    all_goals ((refine .mk ⟨trivial, [], ⟨rfl, ?_⟩, List.nodup_nil, rfl, trivial⟩; show V.lit _ = V.lit _); rfl)


def ne_ (v x : Int) : Bool := !decide (x = v)
theorem F_s_l6Less (xs : List Int) (v : Int) (hx : xs.length * 8 ≤ 140737488351232) : Fn pg 51 [.imm 1 (rowI xs), .lit (.int .i64 v)] [] (.sl 500 [] 1 0 (xs.filter (ne_ v)).length) [(500, false, 1, rowI (xs.filter (ne_ v)))] := by
  refine Fn.ofN [0,1,4,5,6,11,19] [1004,1007,1025,1026] Try.func51 (by rfl) rfl (by show 2 ≤ 28; decide) (by rfl) ?_
  repeat' ((conv => whnf); first | (refine And.intro (by first | exact True.intro | fail) ?_) | fail)
  refine ⟨Nat, fun i => i ≤ xs.length, fun i => [(0, .imm 1 (rowI xs)), (1, .lit (.int .i64 v)), (5, .sl 1007 [] 1 0 ((xs.take i).filter (ne_ v)).length), (6, .lit (.int .i64 i))], fun i => [(1007, false, 1, rowI ((xs.take i).filter (ne_ v)))], fun i => xs.length - i, ⟨[], 0, by omega, ⟨rfl, rfl⟩, ⟨by first | rfl | fail, by first | rfl | fail, by first | rfl | fail, by first | rfl | fail, trivial⟩, ⟨rfl, trivial⟩⟩, ?_⟩
  intro i hi
  have hl := filter_le (ne_ v) xs i hi
  repeat' ((conv => whnf); first | (refine iteB_dec (fun h => ?_) (fun h => ?_) <;> (try simp (disch := (first | omega | fail)) only [modAt, List.length_take, List.length_drop, List.length_map, List.length_append, List.length_set, List.length_replicate, len_rowsPart, len_setCell, len_marks, len_markL] at h)) | (refine wrapB_i64 (by first | omega | fail) (by first | omega | fail) ?_) | (refine And.intro (by first | exact True.intro | omega | (simp (disch := (first | omega | fail)) only [List.length_cons, List.length_nil, modAt, List.length_take, List.length_drop, List.length_map, List.length_append, List.length_set, List.length_replicate, len_rowsPart, len_setCell, len_marks, len_markL]; first | omega | fail) | exact Nat.le_refl _ | (apply litOne; (repeat rfl); done) | fail) ?_) | (refine Exists.intro _ (And.intro (rowGet _ _ _ (by omega)) ?_)) | fail)
  · have hr : _ = rowI ((xs.take (i + 1)).filter (ne_ v)) := (app_one (eInt .i64) ((xs.take i).filter (ne_ v)) xs[i] rfl rfl).trans (by rw [filter_keep _ _ _ (by omega) (by simp_all [ne_])])
    exact ⟨[], i + 1, by omega, ⟨⟨rfl, rfl⟩, ⟨by first | rfl | fail, by first | rfl | fail, slEq ((congrArg List.length hr).trans (List.length_map _)), by first | rfl | fail, trivial⟩, ⟨boxEq hr, trivial⟩⟩, by first | (dsimp only; omega) | fail⟩
  · have hr := filter_drop (ne_ v) xs i (by omega) (by simp_all [ne_])
    exact ⟨[], i + 1, by omega, ⟨⟨rfl, rfl⟩, ⟨by first | rfl | fail, by first | rfl | fail, slEq (by rw [hr]), by first | rfl | fail, trivial⟩, ⟨boxEq (congrArg rowI hr.symm), trivial⟩⟩, by first | (dsimp only; omega) | fail⟩
  · have hi' : i = xs.length := by omega
    subst hi'
    rw [List.take_length]
    refine .mk ⟨trivial, [1007], ⟨rfl, ?_⟩, by simp, rfl, ?_⟩
    · rfl
    exact ⟨outOk_new (d := 1007) (by decide) rfl rfl, trivial⟩


/-- What a right tree's kids and parents are. -/
def kidsOf (l : List Nd) (u : Int) : List Int := (rdD l u).2.2.2.2.2
structure TF (l : List Nd) : Prop where
  kid : ∀ i : Nat, i < l.length → ∀ k ∈ kidsOf l (i : Int), (1 ≤ k ∧ k ≤ (l.length : Int) - 1) ∧ par l k = (i : Int)
  nd : ∀ i : Nat, i < l.length → (kidsOf l (i : Int)).Nodup
  has : ∀ j : Nat, j < l.length → par l (j : Int) ≠ -1 → (0 ≤ par l (j : Int) ∧ par l (j : Int) ≤ (l.length : Int) - 1) ∧ (j : Int) ∈ kidsOf l (par l (j : Int))
theorem rdOf_set (s : List Bool) (k : Int) (h0 : 0 ≤ k) (h1 : k.toNat < s.length) (m : Int) (hm : 0 ≤ m) : rdOf false (s.set k.toNat true) m = (rdOf false s m || decide (m = k)) := by
  unfold rdOf
  rw [List.getD_eq_getElem?_getD, List.getD_eq_getElem?_getD]
  by_cases e : m = k
  · subst e
    rw [List.getElem?_set_self h1, decide_eq_true rfl, Bool.or_true]; rfl
  · rw [List.getElem?_set_ne (by omega), decide_eq_false e, Bool.or_false]
theorem scan_facts (l : List Nd) (at_ : Int) : ∀ (ks : List Int) (s s' : List Bool), s.length = l.length → scan l at_ ks s = some s' →
    (∀ k ∈ ks, ((1 ≤ k ∧ k ≤ (l.length : Int) - 1) ∧ par l k = at_) ∧ rdOf false s k = false) ∧ ks.Nodup ∧ ∀ m : Int, 0 ≤ m → rdOf false s' m = true → rdOf false s m = true ∨ m ∈ ks := by
  intro ks
  induction ks with
  | nil =>
    intro s s' _ h
    cases h
    exact ⟨fun k hk => (by cases hk), List.nodup_nil, fun m _ hm => .inl hm⟩
  | cons k ks ih =>
    intro s s' hs h
    simp only [scan] at h
    split at h
    · rename_i hc
      simp only [Bool.and_eq_true, decide_eq_true_eq, beq_iff_eq, Bool.not_eq_true'] at hc
      obtain ⟨⟨h1, h2⟩, h3, h4⟩ := hc
      obtain ⟨g1, g2, g3⟩ := ih _ s' (by rw [List.length_set]; exact hs) h
      have hsetk := fun m hm => rdOf_set s k (by omega) (by omega) m hm
      refine ⟨fun q hq => ?_, List.nodup_cons.2 ⟨fun hk => ?_, g2⟩, fun m hm hr => ?_⟩
      · rcases List.mem_cons.1 hq with rfl | hq
        · exact ⟨⟨⟨h1, h2⟩, h4⟩, h3⟩
        · obtain ⟨⟨⟨a1, a2⟩, a3⟩, a4⟩ := g1 q hq
          rw [hsetk q (by omega), Bool.or_eq_false_iff] at a4
          exact ⟨⟨⟨a1, a2⟩, a3⟩, a4.1⟩
      · have a4 := (g1 k hk).2
        rw [hsetk k (by omega), decide_eq_true rfl, Bool.or_true] at a4
        cases a4
      · rcases g3 m hm hr with h5 | h5
        · rw [hsetk m hm, Bool.or_eq_true, decide_eq_true_eq] at h5
          rcases h5 with h5 | rfl
          · exact .inl h5
          · exact .inr List.mem_cons_self
        · exact .inr (List.mem_cons_of_mem _ h5)
    · cases h
theorem scanAll_facts (l : List Nd) : ∀ (d i : Nat) (s s' : List Bool), s.length = l.length → scanAll l d i s = some s' →
    (∀ j : Nat, i ≤ j → j < i + d → (∀ k ∈ kidsOf l (j : Int), (1 ≤ k ∧ k ≤ (l.length : Int) - 1) ∧ par l k = (j : Int)) ∧ (kidsOf l (j : Int)).Nodup) ∧ ∀ m : Int, 0 ≤ m → rdOf false s' m = true → rdOf false s m = true ∨ ∃ j : Nat, i ≤ j ∧ j < i + d ∧ m ∈ kidsOf l (j : Int)
  | 0, i, s, s', hs, h => by
    cases h
    exact ⟨fun j h1 h2 => by omega, fun m _ hm => .inl hm⟩
  | d + 1, i, s, s', hs, h => by
    simp only [scanAll] at h
    obtain ⟨s1, h1, h2⟩ := Option.bind_eq_some_iff.1 h
    obtain ⟨a1, a2, a3⟩ := scan_facts l _ _ _ _ hs h1
    obtain ⟨b1, b2⟩ := scanAll_facts l d (i + 1) s1 s' (by rw [scan_len _ _ _ _ _ h1]; exact hs) h2
    refine ⟨fun j h3 h4 => ?_, fun m hm hr => ?_⟩
    · rcases Nat.lt_or_ge i j with h5 | h5
      · exact b1 j (by omega) (by omega)
      · obtain rfl : j = i := by omega
        exact ⟨fun k hk => (a1 k hk).1, a2⟩
    · rcases b2 m hm hr with h5 | ⟨j, h5, h6, h7⟩
      · rcases a3 m hm h5 with h8 | h8
        · exact .inl h8
        · exact .inr ⟨i, by omega, by omega, h8⟩
      · exact .inr ⟨j, by omega, by omega, h7⟩
theorem treeI_tf {l : List Nd} (h : treeI l = true) : TF l := by
  unfold treeI at h
  simp only [Bool.and_eq_true] at h
  obtain ⟨_, _, h⟩ := h
  cases hk : kidsOk l with
  | none => rw [hk] at h; exact absurd h (by simp)
  | some s =>
    rw [hk] at h
    change lastI l s l.length 0 = true at h
    obtain ⟨a1, a2⟩ := scanAll_facts l _ _ _ _ (by rw [List.length_replicate]) hk
    have hrep : ∀ m : Int, rdOf false (List.replicate l.length false) m = false := by
      intro m
      unfold rdOf
      rw [List.getD_eq_getElem?_getD, List.getElem?_replicate]
      split <;> rfl
    refine ⟨fun i hi => (a1 i (by omega) (by omega)).1, fun i hi => (a1 i (by omega) (by omega)).2, fun j hj hp => ?_⟩
    have h1 := (lastI_iff l s l.length 0).1 h j (by omega) (by omega)
    rw [Bool.and_eq_true] at h1
    have h2 := h1.1
    rw [show (par l (j : Int) == -1) = false from beq_eq_false_iff_ne.2 hp] at h2
    have h3 : rdOf false s (j : Int) = true := by
      cases e : rdOf false s (j : Int) with
      | true => rfl
      | false => rw [e] at h2; simp at h2
    rcases a2 (j : Int) (by omega) h3 with h4 | ⟨i, _, h5, h6⟩
    · rw [hrep] at h4; cases h4
    · have h7 := (a1 i (by omega) (by omega)).1 _ h6
      rw [h7.2]
      exact ⟨⟨by omega, by omega⟩, h6⟩
/-- Where one stands in a row of no two alike, and the row without it. -/
theorem cut_idx (v : Int) : ∀ (xs : List Int) (k : Int), v ∈ xs → xs.Nodup → ∃ n : Nat, idxI v xs k = k + n ∧ n < xs.length ∧ xs.take n ++ xs.drop (n + 1) = xs.filter (ne_ v)
  | [], k, h, _ => by cases h
  | x :: r, k, h, hn => by
    rw [List.nodup_cons] at hn
    by_cases e : v = x
    · subst e
      refine ⟨0, by simp [idxI], by simp, ?_⟩
      have : r.filter (ne_ v) = r := by
        rw [List.filter_eq_self]
        intro y hy
        unfold ne_
        rw [decide_eq_false (fun (e : y = v) => hn.1 (e ▸ hy))]; rfl
      simp [ne_, List.filter_cons]
      exact this.symm
    · have hv : v ∈ r := by
        rcases List.mem_cons.1 h with h | h
        · exact absurd h e
        · exact h
      obtain ⟨n, h1, h2, h3⟩ := cut_idx v r (k + 1) hv hn.2
      refine ⟨n + 1, by simp only [idxI, if_neg e]; omega, by simp; omega, ?_⟩
      simp only [List.take_succ_cons, List.drop_succ_cons, List.cons_append, h3, List.filter_cons]
      rw [if_pos (by unfold ne_; rw [decide_eq_false (fun h => e h.symm)]; rfl)]
theorem filt_len {xs : List Int} {v : Int} {n : Nat} (h : n < xs.length) (e : xs.take n ++ xs.drop (n + 1) = xs.filter (ne_ v)) : (xs.filter (ne_ v)).length = xs.length - 1 := by
  rw [← e]; simp; omega
def setKids (l : List Nd) (u : Int) (ks : List Int) : List Nd := l.set u.toNat ((rdD l u).1, (rdD l u).2.1, (rdD l u).2.2.1, (rdD l u).2.2.2.1, (rdD l u).2.2.2.2.1, ks)
def setPar (l : List Nd) (u p : Int) : List Nd := l.set u.toNat ((rdD l u).1, (rdD l u).2.1, (rdD l u).2.2.1, (rdD l u).2.2.2.1, p, (rdD l u).2.2.2.2.2)
def takeT (l : List Nd) (c : Int) : List Nd := if 0 ≤ par l c then setPar (setKids l (par l c) ((kidsOf l (par l c)).filter (ne_ c))) c (-1) else l


theorem F_slices_Clone_i_Attr_i_Attr (xs : List At) (hx : xs.length * 32 ≤ 140737488351232) : Fn pg 78 [.imm 2 (rowA xs)] [] (.sl 500 [] 2 0 xs.length) [(500, false, 2, rowA xs)] := by
  refine Fn.ofN [0,2,4] [1002,1005,1007] Try.func78 (by rfl) rfl (by show 1 ≤ 8; decide) (by rfl) ?_
  repeat' ((conv => whnf); first | (refine And.intro (by first | exact True.intro | omega | (simp (disch := (first | omega | fail)) only [List.length_cons, List.length_nil, modAt, List.length_take, List.length_drop, List.length_map, List.length_append, List.length_set, List.length_replicate, len_rowsPart, len_setCell, len_marks, len_markL, len_mkL, len_marksN]; first | omega | fail) | (apply litA; (repeat rfl); done) | fail) ?_) | (intro b hb; cases b <;> simp only [reduceCtorEq, forall_const, false_implies, List.length_map] at hb) | fail)
  · refine .mk ⟨trivial, [1005], ⟨rfl, ?_⟩, by simp, rfl, ?_⟩
    · show V.sl 500 [] 2 0 _ = V.sl 500 [] 2 0 _
      congr 1; simp
    refine ⟨?_, trivial⟩
    exact outOk_new (d := 1005) (by decide) rfl rfl
  · have : xs = [] := List.eq_nil_of_length_eq_zero (by simpa using hb)
    subst this
    refine .mk ⟨trivial, [1002], ⟨rfl, ?_⟩, by simp, rfl, ?_⟩
    · rfl
    exact ⟨outOk_new (d := 1002) (by decide) rfl rfl, trivial⟩
theorem F_i_copyNode (p : Nd) (hp : ndOk p) : Fn pg 56 [.agg (sNd p)] [] (.agg [.lit (.int .i64 p.1), .lit (.string p.2.1), .sl 500 [] 2 0 p.2.2.1.length, .lit (.string p.2.2.2.1), .lit (.int .i64 p.2.2.2.2.1), .sl 501 [] 1 0 p.2.2.2.2.2.length]) [(500, false, 2, rowA p.2.2.1), (501, false, 1, rowI p.2.2.2.2.2)] := by
  obtain ⟨h1, ⟨h2, h3⟩, h4, h5⟩ := hp
  have hA := F_slices_Clone_i_Attr_i_Attr p.2.2.1 h2
  have hI := F_slices_Clone_int_int p.2.2.2.2.2 h5
  refine Fn.ofN [0,1,2] [1001,1002,1005,1009] Try.func56 (by rfl) rfl (by show 1 ≤ 12; decide) (by rfl) ?_
  repeat' ((conv => whnf); first | (refine Exists.intro _ (And.intro rfl ?_)) | (refine And.intro (by first | exact True.intro | decide +kernel | (simp (disch := (first | omega | fail)) only [List.length_cons, List.length_nil, modAt, List.length_take, List.length_drop, List.length_map, List.length_append, List.length_set, List.length_replicate, len_rowsPart, len_setCell, len_marks, len_markL, len_mkL, len_marksN]; first | omega | fail) | fail) ?_) | (refine Or.inl ?_; apply callV_i; (repeat ((conv => whnf); first | refine And.intro (by first | omega | fail) ?_ | fail)); ((conv => whnf); first | exact FnB.mk (hA) | exact FnB.mk (hI) | fail); refine ⟨rfl, rfl, ?_⟩) | fail)
  refine .mk ⟨trivial, [1005, 1009], ⟨rfl, ?_⟩, by simp, rfl, ?_⟩
  · rfl
  · exact ⟨outOk_new (d := 1005) (by decide) rfl rfl, outOk_new (d := 1009) (by decide) rfl rfl, trivial⟩
theorem eNd_take (p : Nd) : [V.lit (.int .i64 p.1), .lit (.string p.2.1), .own 2 (List.take p.2.2.1.length (rowA p.2.2.1)), .lit (.string p.2.2.2.1), .lit (.int .i64 p.2.2.2.2.1), .own 1 (List.take p.2.2.2.2.2.length (rowI p.2.2.2.2.2))] = eNd p := by
  rw [List.take_of_length_le (by simp), List.take_of_length_le (by simp)]; rfl
theorem cp_row (t : List Nd) (i : Nat) (h : i < t.length) (n : Nat) (hn : n = i) : List.take n (List.drop 0 (rowN (t.take i))) ++ List.take 1 [[V.lit (.int .i64 t[i].1), .lit (.string t[i].2.1), .own 2 (List.take t[i].2.2.1.length (rowA t[i].2.2.1)), .lit (.string t[i].2.2.2.1), .lit (.int .i64 t[i].2.2.2.2.1), .own 1 (List.take t[i].2.2.2.2.2.length (rowI t[i].2.2.2.2.2))]] = rowN (t.take (i + 1)) := by
  subst hn
  rw [eNd_take, List.drop_zero, List.take_succ_eq_append_getElem h, show rowN (t.take n ++ [t[n]]) = rowN (t.take n) ++ [eNd t[n]] from List.map_append, List.take_of_length_le (by rw [List.length_map, List.length_take]; omega)]
  rfl
theorem cp_row2 (t : List Nd) (i : Nat) (h : i < t.length) (n : Nat) (hn : n = i) : List.take n (List.drop 0 (rowN (t.take i))) ++ List.take 1 [[V.lit (.int .i64 t[i].1), .lit (.string t[i].2.1), .own 2 (List.take (rowA t[i].2.2.1).length (rowA t[i].2.2.1)), .lit (.string t[i].2.2.2.1), .lit (.int .i64 t[i].2.2.2.2.1), .own 1 (List.take (rowI t[i].2.2.2.2.2).length (rowI t[i].2.2.2.2.2))]] = rowN (t.take (i + 1)) := by
  rw [← cp_row t i h n hn, List.length_map, List.length_map]
theorem cp_len (t : List Nd) (i : Nat) (h : i < t.length) : (rowN (t.take (i + 1))).length = i + 1 := by rw [List.length_map, List.length_take]; omega
theorem F_i_copyTree (t : List Nd) (h0 : 0 < t.length) (hx : t.length * 96 ≤ 140737488351232) (hp : ∀ x ∈ t, ndOk x) : Fn pg 35 [sTr t] [] (.agg [.sl 500 [] 6 0 t.length]) [(500, false, 6, rowN t)] := by
  refine Fn.ofN [0,1,2,3,5,7,8,9,10] [1001,1002,1003,1005,1016,1017,1018,2016] Try.func35 (by rfl) rfl (by show 1 ≤ 22; decide) (by rfl) ?_
  repeat' ((conv => whnf); first | (refine Exists.intro _ (And.intro rfl ?_)) | fail)
  refine ⟨Nat, fun i => i ≤ t.length, fun i => [(2, .ptr 1002 [] 1 0 0), (3, .ptr 1003 [] 1 0 0), (7, .imm 6 (rowN t)), (8, .lit (.int .i64 t.length)), (9, .lit (.int .i64 i))], fun i => match i with | 0 => [(1002, true, 1, [[.own 6 []]]), (1003, true, 1, [[.own 6 []]])] | i + 1 => [(1002, true, 1, [[.own 6 []]]), (1003, true, 1, [[.sl 1018 [] 6 0 (i + 1)]]), (1018, false, 6, rowN (t.take (i + 1)))], fun i => t.length - i, ⟨[], 0, Nat.zero_le _, ⟨rfl, rfl⟩, ⟨by first | rfl | fail, by first | rfl | fail, by first | rfl | fail, by first | (show V.lit (Value.int _ _) = V.lit (Value.int _ _); first | (congr 2; first | (simp only [List.length_map]; done) | fail) | fail) | fail, by first | rfl | fail, trivial⟩, boxEq rfl, boxEq rfl, trivial⟩, ?_⟩
  intro i hi
  by_cases hlt : i < t.length
  · have hpi := hp _ (List.getElem_mem hlt)
    have hN := F_i_copyNode t[i] hpi
    cases i with
    | zero =>
      repeat' ((conv => whnf); first | (refine iteB_dec (fun h => ?_) (fun h => ?_) <;> (try simp (disch := (first | omega | fail)) only [modAt, List.length_take, List.length_drop, List.length_map, List.length_append, List.length_set, List.length_replicate, len_rowsPart, len_setCell, len_marks, len_markL, len_mkL, len_marksN] at h) <;> (try (exfalso; omega))) | (refine Exists.intro _ (And.intro rfl ?_)) | (refine wrapB_i64 (by first | omega | fail) (by first | omega | fail) ?_) | (refine And.intro (by first | exact True.intro | decide +kernel | (simp (disch := (first | omega | fail)) only [List.length_cons, List.length_nil, modAt, List.length_take, List.length_drop, List.length_map, List.length_append, List.length_set, List.length_replicate, len_rowsPart, len_setCell, len_marks, len_markL, len_mkL, len_marksN]; first | omega | fail) | fail) ?_) | (refine Exists.intro _ (And.intro (rowGet _ _ _ (by omega)) ?_)) | (refine Or.inr (Or.inl (Exists.intro 5 (Exists.intro [(0, true), (1, true), (2, true), (3, false), (4, false)] (And.intro (by decide +kernel) ?_))))) | (refine Or.inl ?_; apply callV_i; (repeat ((conv => whnf); first | refine And.intro (by first | omega | fail) ?_ | fail)); ((conv => whnf); first | exact FnB.mk (hN) | fail); refine ⟨rfl, rfl, ?_⟩) | fail)
      exact ⟨[], 0 + 1, by omega, ⟨⟨rfl, rfl⟩, ⟨by first | rfl | fail, by first | rfl | fail, by first | rfl | fail, by first | rfl | fail, by first | rfl | fail, trivial⟩, boxEq rfl, boxEq rfl, boxEq (cp_row t 0 hlt 0 rfl), trivial⟩, by first | (dsimp only; omega) | fail⟩
    | succ i =>
      repeat' ((conv => whnf); first | (refine iteB_dec (fun h => ?_) (fun h => ?_) <;> (try simp (disch := (first | omega | fail)) only [modAt, List.length_take, List.length_drop, List.length_map, List.length_append, List.length_set, List.length_replicate, len_rowsPart, len_setCell, len_marks, len_markL, len_mkL, len_marksN] at h) <;> (try (exfalso; omega))) | (refine Exists.intro _ (And.intro rfl ?_)) | (refine wrapB_i64 (by first | omega | fail) (by first | omega | fail) ?_) | (refine And.intro (by first | exact True.intro | decide +kernel | omega | (simp (disch := (first | omega | fail)) only [List.length_cons, List.length_nil, modAt, List.length_take, List.length_drop, List.length_map, List.length_append, List.length_set, List.length_replicate, len_rowsPart, len_setCell, len_marks, len_markL, len_mkL, len_marksN]; first | omega | fail) | fail) ?_) | (refine Exists.intro _ (And.intro (rowGet _ _ _ (by omega)) ?_)) | (refine Or.inr (Or.inl (Exists.intro 5 (Exists.intro [(0, true), (1, true), (2, true), (3, false), (4, false)] (And.intro (by decide +kernel) ?_))))) | (refine Or.inl ?_; apply callV_i; (repeat ((conv => whnf); first | refine And.intro (by first | omega | fail) ?_ | fail)); ((conv => whnf); first | exact FnB.mk (hN) | fail); refine ⟨rfl, rfl, ?_⟩) | fail)
      have hr := cp_row t (i + 1) hlt (i + 1) rfl
      exact ⟨[], i + 1 + 1, by omega, ⟨⟨rfl, rfl⟩, ⟨by first | rfl | fail, by first | rfl | fail, by first | rfl | fail, by first | rfl | fail, by first | rfl | fail, trivial⟩, boxEq rfl, boxEq (congrArg (fun n => [[V.sl 1018 [] 6 0 n]]) ((congrArg List.length hr).trans (cp_len t (i + 1) hlt))), boxEq hr, trivial⟩, by first | (dsimp only; omega) | fail⟩
  · obtain rfl : i = t.length := by omega
    obtain ⟨n, hn⟩ : ∃ n, t.length = n + 1 := ⟨t.length - 1, by omega⟩
    rw [hn]
    repeat' ((conv => whnf); first | (refine iteB_dec (fun h => ?_) (fun h => ?_) <;> (try simp (disch := (first | omega | fail)) only [modAt, List.length_take, List.length_drop, List.length_map, List.length_append, List.length_set, List.length_replicate, len_rowsPart, len_setCell, len_marks, len_markL, len_mkL, len_marksN] at h) <;> (try (exfalso; omega))) | (refine Exists.intro _ (And.intro rfl ?_)) | (refine And.intro (by first | exact True.intro | decide +kernel | fail) ?_) | fail)
    refine .mk ⟨trivial, [1018], ⟨rfl, ?_⟩, by simp, rfl, ?_⟩
    · rfl
    · exact ⟨outOk_new (d := 1018) (by decide) rfl (boxEq (by rw [← hn, List.take_length])), trivial⟩
theorem F_s_l6Copy (t : List Nd) (h0 : 0 < t.length) (hx : t.length * 96 ≤ 140737488351232) (hp : ∀ x ∈ t, ndOk x) : Fn pg 31 [sTr t] [] (.agg [.sl 500 [] 6 0 t.length]) [(500, false, 6, rowN t)] := by
  refine Fn.ofN [0,1,2,3,4,5,11] [1001,1002,1003,1005,1019,1022,1024,1027,1032,1033] Try.func31 (by rfl) rfl (by show 1 ≤ 36; decide) (by rfl) ?_
  repeat' ((conv => whnf); first | (refine Exists.intro _ (And.intro rfl ?_)) | (refine And.intro (by first | exact True.intro | decide +kernel | fail) ?_) | fail)
  refine ⟨Nat, fun i => i ≤ t.length, fun i => [(1, .ptr 1001 [] 1 0 0), (2, .ptr 1002 [] 1 0 0), (3, .ptr 1003 [] 1 0 0), (4, .lit (.int .i64 i))], fun i => match i with | 0 => [(1001, true, 1, [[.imm 6 (rowN t)]]), (1002, true, 1, [[.own 6 []]]), (1003, true, 1, [[.own 6 []]])] | i + 1 => [(1001, true, 1, [[.imm 6 (rowN t)]]), (1002, true, 1, [[.own 6 []]]), (1003, true, 1, [[.sl 1033 [] 6 0 (i + 1)]]), (1033, false, 6, rowN (t.take (i + 1)))], fun i => t.length - i, ⟨[], 0, Nat.zero_le _, ⟨rfl, rfl⟩, ⟨by first | rfl | fail, by first | rfl | fail, by first | rfl | fail, by first | rfl | fail, trivial⟩, boxEq rfl, boxEq rfl, boxEq rfl, trivial⟩, ?_⟩
  intro i hi
  by_cases hlt : i < t.length
  · have hpi := hp _ (List.getElem_mem hlt)
    obtain ⟨g1, ⟨g2, g3⟩, g4, g5⟩ := hpi
    cases i with
    | zero =>
      repeat' ((conv => whnf); first | (refine iteB_dec (fun h => ?_) (fun h => ?_) <;> (try simp (disch := (first | omega | fail)) only [modAt, List.length_take, List.length_drop, List.length_map, List.length_append, List.length_set, List.length_replicate, len_rowsPart, len_setCell, len_marks, len_markL, len_mkL, len_marksN] at h) <;> (try (exfalso; omega))) | (refine Exists.intro _ (And.intro rfl ?_)) | (refine wrapB_i64 (by first | omega | fail) (by first | omega | fail) ?_) | (refine And.intro (by first | exact True.intro | (with_reducible exact Nat.le_refl _) | decide +kernel | omega | (simp (disch := (first | omega | fail)) only [List.length_cons, List.length_nil, modAt, List.length_take, List.length_drop, List.length_map, List.length_append, List.length_set, List.length_replicate, len_rowsPart, len_setCell, len_marks, len_markL, len_mkL, len_marksN]; first | omega | fail) | (apply litI; (repeat rfl); done) | (apply litA; (repeat rfl); done) | fail) ?_) | (refine Exists.intro _ (And.intro (rowGet _ _ _ (by omega)) ?_)) | fail)
      exact ⟨[], 0 + 1, by omega, ⟨⟨rfl, rfl⟩, ⟨by first | rfl | fail, by first | rfl | fail, by first | rfl | fail, by first | rfl | fail, trivial⟩, boxEq rfl, boxEq rfl, boxEq rfl, boxEq (cp_row2 t 0 hlt 0 rfl), trivial⟩, by first | (dsimp only; omega) | fail⟩
    | succ i =>
      repeat' ((conv => whnf); first | (refine iteB_dec (fun h => ?_) (fun h => ?_) <;> (try simp (disch := (first | omega | fail)) only [modAt, List.length_take, List.length_drop, List.length_map, List.length_append, List.length_set, List.length_replicate, len_rowsPart, len_setCell, len_marks, len_markL, len_mkL, len_marksN] at h) <;> (try (exfalso; omega))) | (refine Exists.intro _ (And.intro rfl ?_)) | (refine wrapB_i64 (by first | omega | fail) (by first | omega | fail) ?_) | (refine And.intro (by first | exact True.intro | (with_reducible exact Nat.le_refl _) | decide +kernel | omega | (simp (disch := (first | omega | fail)) only [List.length_cons, List.length_nil, modAt, List.length_take, List.length_drop, List.length_map, List.length_append, List.length_set, List.length_replicate, len_rowsPart, len_setCell, len_marks, len_markL, len_mkL, len_marksN]; first | omega | fail) | (apply litI; (repeat rfl); done) | (apply litA; (repeat rfl); done) | fail) ?_) | (refine Exists.intro _ (And.intro (rowGet _ _ _ (by omega)) ?_)) | fail)
      have hr := cp_row2 t (i + 1) hlt (i + 1) rfl
      exact ⟨[], i + 1 + 1, by omega, ⟨⟨rfl, rfl⟩, ⟨by first | rfl | fail, by first | rfl | fail, by first | rfl | fail, by first | rfl | fail, trivial⟩, boxEq rfl, boxEq rfl, boxEq (congrArg (fun n => [[V.sl 1033 [] 6 0 n]]) ((congrArg List.length hr).trans (cp_len t (i + 1) hlt))), boxEq hr, trivial⟩, by first | (dsimp only; omega) | fail⟩
  · obtain rfl : i = t.length := by omega
    obtain ⟨n, hn⟩ : ∃ n, t.length = n + 1 := ⟨t.length - 1, by omega⟩
    rw [hn]
    repeat' ((conv => whnf); first | (refine iteB_dec (fun h => ?_) (fun h => ?_) <;> (try simp (disch := (first | omega | fail)) only [modAt, List.length_take, List.length_drop, List.length_map, List.length_append, List.length_set, List.length_replicate, len_rowsPart, len_setCell, len_marks, len_markL, len_mkL, len_marksN] at h) <;> (try (exfalso; omega))) | (refine Exists.intro _ (And.intro rfl ?_)) | (refine And.intro (by first | exact True.intro | decide +kernel | fail) ?_) | fail)
    refine .mk ⟨trivial, [1033], ⟨rfl, ?_⟩, by simp, rfl, ?_⟩
    · rfl
    · exact ⟨outOk_new (d := 1033) (by decide) rfl (boxEq (by rw [← hn, List.take_length])), trivial⟩


theorem par_in {l : List Nd} (ht : TF l) {c : Int} (h0 : 0 ≤ c) (h1 : c ≤ (l.length : Int) - 1) : (par l c = -1) ∨ ((0 ≤ par l c ∧ par l c ≤ (l.length : Int) - 1) ∧ c ∈ kidsOf l (par l c)) := by
  by_cases h : par l c = -1
  · exact .inl h
  · have := ht.has c.toNat (by omega) (by rw [Int.toNat_of_nonneg h0]; exact h)
    rw [Int.toNat_of_nonneg h0] at this
    exact .inr this
theorem el_par (l : List Nd) (c : Int) (hc : c.toNat + 0 < l.length) : (l[c.toNat + 0]'hc).2.2.2.2.1 = par l c := by
  unfold par rdD
  rw [List.getD_eq_getElem?_getD, List.getElem?_eq_getElem (show c.toNat < l.length by omega)]; rfl
theorem el_kids (l : List Nd) (c : Int) (hc : c.toNat + 0 < l.length) : (l[c.toNat + 0]'hc).2.2.2.2.2 = kidsOf l c := by
  unfold kidsOf rdD
  rw [List.getD_eq_getElem?_getD, List.getElem?_eq_getElem (show c.toNat < l.length by omega)]; rfl
theorem sc_kids (l : List Nd) (u : Int) (h : u.toNat < l.length) (ks : List Int) : setCell (rowN l) u.toNat 5 (.own 1 (rowI ks)) = rowN (setKids l u ks) := by
  have e : rdD l u = l[u.toNat] := by unfold rdD; rw [List.getD_eq_getElem?_getD, List.getElem?_eq_getElem h]; rfl
  unfold setCell setKids
  apply List.ext_getElem?
  intro i
  rw [List.getElem?_modify, List.getElem?_map, List.getElem?_map, List.getElem?_set]
  by_cases hi : u.toNat = i
  · subst hi
    simp [List.getElem?_eq_getElem h, h, e, eNd]
  · simp [hi]
theorem sc_par (l : List Nd) (u : Int) (h : u.toNat < l.length) (p : Int) : setCell (rowN l) u.toNat 4 (.lit (.int .i64 p)) = rowN (setPar l u p) := by
  have e : rdD l u = l[u.toNat] := by unfold rdD; rw [List.getD_eq_getElem?_getD, List.getElem?_eq_getElem h]; rfl
  unfold setCell setPar
  apply List.ext_getElem?
  intro i
  rw [List.getElem?_modify, List.getElem?_map, List.getElem?_map, List.getElem?_set]
  by_cases hi : u.toNat = i
  · subst hi
    simp [List.getElem?_eq_getElem h, h, e, eNd]
  · simp [hi]
theorem setPar_same (l : List Nd) (u : Int) (h : u.toNat < l.length) : setPar l u (par l u) = l := by
  have e : rdD l u = l[u.toNat] := by unfold rdD; rw [List.getD_eq_getElem?_getD, List.getElem?_eq_getElem h]; rfl
  unfold setPar par
  rw [e]
  exact List.set_getElem_self h
theorem sc_twice (xs : Row) (i k : Nat) (v w : V) : setCell (setCell xs i k v) i k w = setCell xs i k w := by
  unfold setCell
  apply List.ext_getElem?
  intro j
  rw [List.getElem?_modify, List.getElem?_modify, List.getElem?_modify]
  by_cases hi : i = j
  · subst hi
    cases xs[i]? with
    | none => rfl
    | some r => simp [List.set_set]
  · simp [hi]
theorem len_setKids (l : List Nd) (u : Int) (ks : List Int) : (setKids l u ks).length = l.length := by unfold setKids; rw [List.length_set]
theorem len_setPar (l : List Nd) (u p : Int) : (setPar l u p).length = l.length := by unfold setPar; rw [List.length_set]
theorem len_takeT (l : List Nd) (c : Int) : (takeT l c).length = l.length := by unfold takeT; split <;> simp only [len_setPar, len_setKids]
theorem set_other {R : Row} {i j k k' : Nat} {v w : V} (hk : k ≠ k') (h : cellAt R j k' = some w) : cellAt (setCell R i k v) j k' = some w := by
  unfold cellAt setCell at *
  rw [List.getElem?_modify]
  by_cases e : i = j
  · subst e
    cases hR : R[i]? with
    | none => rw [hR] at h; cases h
    | some r =>
      rw [hR] at h
      simp only [Option.bind_some] at h
      simp only [if_true, Option.map_eq_map, Option.map_some, Option.bind_some]
      rw [List.getElem?_set_ne hk]
      exact h
  · simp only [if_neg e]
    cases hR : R[j]? with
    | none => rw [hR] at h; cases h
    | some r => rw [hR] at h; exact h
theorem get_sameC (l : List Nd) (i k : Nat) (v : V) (h : i < l.length) (hk : decide (k < 6) = true) : cellAt (setCell (rowN l) i k v) i k = some v := by
  unfold cellAt setCell
  rw [List.getElem?_modify, List.getElem?_map, List.getElem?_eq_getElem h]
  simp only [if_true, Option.map_eq_map, Option.map_some, Option.bind_some]
  rw [List.getElem?_set_self (by show k < 6; exact of_decide_eq_true hk)]
theorem get_twoC (l : List Nd) (i j : Nat) (v w : V) (h : j < l.length) : cellAt (setCell (setCell (rowN l) i 5 v) i 5 w) j 4 = some (.lit (.int .i64 l[j].2.2.2.2.1)) := by
  refine set_other (by decide) (set_other (by decide) ?_)
  unfold cellAt
  rw [List.getElem?_map, List.getElem?_eq_getElem h]; rfl
theorem get_oneC (l : List Nd) (i j : Nat) (v : V) (h : j < l.length) : cellAt (setCell (rowN l) i 5 v) j 4 = some (.lit (.int .i64 l[j].2.2.2.2.1)) := by
  refine set_other (by decide) ?_
  unfold cellAt
  rw [List.getElem?_map, List.getElem?_eq_getElem h]; rfl
theorem F_i_Tree_take (l : List Nd) (c : Int) (hl : l.length ≤ 500) (hkl : ∀ x ∈ l, x.2.2.2.2.2.length * 8 ≤ 140737488351232) (ht : TF l) (h0 : 0 ≤ c) (h1 : c ≤ (l.length : Int) - 1) : Fn pg 37 [.ptr 0 [] 1 0 0, .lit (.int .i64 c)] [(0, true, 1, [[.sl 1 [] 6 0 l.length]]), (1, false, 6, rowN l)] (.tup []) [(0, true, 1, [[.sl 1 [] 6 0 l.length]]), (1, false, 6, rowN (takeT l c))] := by
  have hc' : c.toNat + 0 < l.length := by omega
  have ep := el_par l c hc'
  rcases par_in ht h0 h1 with hp | ⟨hp, hk⟩
  · rw [hp] at ep
    rw [show takeT l c = l from if_neg (by omega)]
    refine Fn.ofN [0,1,4,5,6,17] [0,1,1041] Try.func37 (by rfl) rfl (by show 2 ≤ 47; decide) (by rfl) ?_
    repeat' ((conv => whnf); first | (refine iteB_dec (fun h => ?_) (fun h => ?_) <;> (try simp (disch := (first | omega | fail)) only [modAt, List.length_take, List.length_drop, List.length_map, List.length_append, List.length_set, List.length_replicate, len_rowsPart, len_setCell, len_marks, len_markL, len_byR, len_mkL, len_marksN, len_bytesI, len_seenI, len_setKids, len_setPar, len_takeT] at h) <;> (try (exfalso; omega))) | (refine Exists.intro _ (And.intro rfl ?_)) | (refine And.intro (by first | exact True.intro | omega | (simp (disch := (first | omega | fail)) only [List.length_cons, List.length_nil, modAt, List.length_take, List.length_drop, List.length_map, List.length_append, List.length_set, List.length_replicate, len_rowsPart, len_setCell, len_marks, len_markL, len_byR, len_mkL, len_marksN, len_bytesI, len_seenI, len_setKids, len_setPar, len_takeT]; first | omega | fail) | fail) ?_) | (refine Exists.intro _ (And.intro (rowGet _ _ _ (by omega)) ?_)) | (refine Exists.intro _ (And.intro (by first | exact (get_mapIC _ _ _ _ _ (by first | omega | fail) (by exact rfl)) | fail) ?_)) | fail)
    refine .mk ⟨trivial, [], ⟨rfl, ?_⟩, List.nodup_nil, rfl, ?_⟩
    · rfl
    · refine ⟨outOk_top (b := 0) (by decide) rfl rfl rfl, outOk_old (b := 1) (by decide) (boxEq ?_), trivial⟩
      show setCell (rowN l) c.toNat 4 (.lit (.int .i64 (-1))) = rowN l
      rw [sc_par l c (by omega), ← hp, setPar_same l c (by omega)]
  · have hp2 : 0 ≤ (l[c.toNat + 0]'hc').2.2.2.2.1 ∧ (l[c.toNat + 0]'hc').2.2.2.2.1 ≤ (l.length : Int) - 1 := by rw [ep]; exact hp
    have hq : (l[c.toNat + 0]'hc').2.2.2.2.1.toNat + 0 < l.length := by omega
    have hkb : (l[(l[c.toNat + 0]'hc').2.2.2.2.1.toNat + 0]'hq).2.2.2.2.2.length * 8 ≤ 140737488351232 := hkl _ (List.getElem_mem _)
    have ek : (l[(l[c.toNat + 0]'hc').2.2.2.2.1.toNat + 0]'hq).2.2.2.2.2 = kidsOf l (par l c) := (el_kids l (l[c.toNat + 0]'hc').2.2.2.2.1 hq).trans (by rw [ep])
    have hnd : (l[(l[c.toNat + 0]'hc').2.2.2.2.1.toNat + 0]'hq).2.2.2.2.2.Nodup := by rw [ek]; have := ht.nd (par l c).toNat (by omega); rwa [Int.toNat_of_nonneg hp.1] at this
    have hmem : c ∈ (l[(l[c.toNat + 0]'hc').2.2.2.2.1.toNat + 0]'hq).2.2.2.2.2 := by rw [ek]; exact hk
    obtain ⟨n, hn1, hn2, hn3⟩ := cut_idx c (l[(l[c.toNat + 0]'hc').2.2.2.2.1.toNat + 0]'hq).2.2.2.2.2 0 hmem hnd
    have hfl := filt_len hn2 hn3
    have hrl : (rowI ((l[(l[c.toNat + 0]'hc').2.2.2.2.1.toNat + 0]'hq).2.2.2.2.2.filter (ne_ c) ++ [0])).length = (rowI (l[(l[c.toNat + 0]'hc').2.2.2.2.1.toNat + 0]'hq).2.2.2.2.2).length := by rw [List.length_map, List.length_map, List.length_append, hfl]; simp only [List.length_cons, List.length_nil]; omega
    have hle : (l[(l[c.toNat + 0]'hc').2.2.2.2.1.toNat + 0]'hq).2.2.2.2.2.length - 1 ≤ (rowI ((l[(l[c.toNat + 0]'hc').2.2.2.2.1.toNat + 0]'hq).2.2.2.2.2.filter (ne_ c) ++ [0])).length := by rw [hrl, List.length_map]; omega
    have hix : indexOf (l[(l[c.toNat + 0]'hc').2.2.2.2.1.toNat + 0]'hq).2.2.2.2.2 c = (n : Int) := hn1.trans (by omega)
    have hI := F_slices_Index_int_int (l[(l[c.toNat + 0]'hc').2.2.2.2.1.toNat + 0]'hq).2.2.2.2.2 c (by omega)
    have hD : Fn pg 58 [.sl 0 [] 1 0 (rowI (l[(l[c.toNat + 0]'hc').2.2.2.2.1.toNat + 0]'hq).2.2.2.2.2).length, .lit (.int .i64 (indexOf (l[(l[c.toNat + 0]'hc').2.2.2.2.1.toNat + 0]'hq).2.2.2.2.2 c)), .lit (.int .i64 (indexOf (l[(l[c.toNat + 0]'hc').2.2.2.2.1.toNat + 0]'hq).2.2.2.2.2 c + 1))] [(0, false, 1, rowI (l[(l[c.toNat + 0]'hc').2.2.2.2.1.toNat + 0]'hq).2.2.2.2.2)] (.sl 0 [] 1 0 ((l[(l[c.toNat + 0]'hc').2.2.2.2.1.toNat + 0]'hq).2.2.2.2.2.length - 1)) [(0, false, 1, rowI ((l[(l[c.toNat + 0]'hc').2.2.2.2.1.toNat + 0]'hq).2.2.2.2.2.filter (ne_ c) ++ [0]))] := by
      have := F_slices_Delete (l[(l[c.toNat + 0]'hc').2.2.2.2.1.toNat + 0]'hq).2.2.2.2.2 n (n + 1) (by omega) (by omega)
      rw [hix, show ((n : Int) + 1) = ((n + 1 : Nat) : Int) by omega]
      rw [hn3, show n + 1 - n = 1 by omega] at this
      rw [List.length_map]
      exact this
    refine Fn.ofN [0,1,4,5,6,17] [0,1,1041] Try.func37 (by rfl) rfl (by show 2 ≤ 47; decide) (by rfl) ?_
    repeat' ((conv => whnf); first | (refine iteB_dec (fun h => ?_) (fun h => ?_) <;> (try simp (disch := (first | omega | fail)) only [modAt, List.length_take, List.length_drop, List.length_map, List.length_append, List.length_set, List.length_replicate, len_rowsPart, len_setCell, len_marks, len_markL, len_byR, len_mkL, len_marksN, len_bytesI, len_seenI, len_setKids, len_setPar, len_takeT] at h) <;> (try (exfalso; omega))) | (refine Exists.intro _ (And.intro rfl ?_)) | (refine wrapB_i64 (by first | omega | fail) (by first | omega | fail) ?_) | (refine And.intro (by first | exact True.intro | omega | (simp (disch := (first | omega | fail)) only [List.length_cons, List.length_nil, modAt, List.length_take, List.length_drop, List.length_map, List.length_append, List.length_set, List.length_replicate, len_rowsPart, len_setCell, len_marks, len_markL, len_byR, len_mkL, len_marksN, len_bytesI, len_seenI, len_setKids, len_setPar, len_takeT]; first | omega | fail) | (show (_ : List (Nat × Nat)) = _; rfl) | fail) ?_) | (refine Exists.intro _ (And.intro (rowGet _ _ _ (by omega)) ?_)) | (refine Or.inl (And.intro (by decide +kernel) ?_)) | (refine Exists.intro _ (And.intro (by first | exact (get_twoC _ _ _ _ _ (by first | omega | fail)) | exact (get_sameC _ _ _ _ (by first | omega | fail) (by exact rfl)) | fail) ?_)) | (refine Or.inl (callL_ok ?_); (conv => whnf); refine Exists.intro _ (And.intro (by first | exact (get_mapIC _ _ _ _ _ (by first | omega | fail) (by exact rfl)) | fail) ?_); refine And.intro (by first | rfl | fail) ?_; apply Exists.intro; apply Exists.intro; apply And.intro; (first | exact FnB.mk (hI) | fail); refine ⟨rfl, rfl, ?_⟩) | (refine Or.inr (Or.inr (callP_ok ?_)); (conv => whnf); refine Exists.intro _ (And.intro (by first | exact (get_mapIC _ _ _ _ _ (by first | omega | fail) (by exact rfl)) | fail) ?_); apply Exists.intro; apply Exists.intro; apply And.intro; (first | exact FnB.mk (hD) | fail); refine And.intro (by first | assumption | fail) ?_) | fail)
    refine .mk ⟨trivial, [], ⟨rfl, ?_⟩, List.nodup_nil, rfl, ?_⟩
    · rfl
    · refine ⟨outOk_top (b := 0) (by decide) rfl rfl rfl, outOk_old (b := 1) (by decide) (boxEq ?_), trivial⟩
      show setCell (setCell (setCell (rowN l) ((l[c.toNat + 0]'hc').2.2.2.2.1).toNat 5 (.own 1 (rowI (((l[(l[c.toNat + 0]'hc').2.2.2.2.1.toNat + 0]'hq).2.2.2.2.2).filter (ne_ c) ++ [0])))) ((l[c.toNat + 0]'hc').2.2.2.2.1).toNat 5 (.own 1 (List.take (((l[(l[c.toNat + 0]'hc').2.2.2.2.1.toNat + 0]'hq).2.2.2.2.2).length - 1) (rowI (((l[(l[c.toNat + 0]'hc').2.2.2.2.1.toNat + 0]'hq).2.2.2.2.2).filter (ne_ c) ++ [0]))))) c.toNat 4 (.lit (.int .i64 (-1))) = rowN (takeT l c)
      have e1 : List.take (((l[(l[c.toNat + 0]'hc').2.2.2.2.1.toNat + 0]'hq).2.2.2.2.2).length - 1) (rowI (((l[(l[c.toNat + 0]'hc').2.2.2.2.1.toNat + 0]'hq).2.2.2.2.2).filter (ne_ c) ++ [0])) = rowI (((l[(l[c.toNat + 0]'hc').2.2.2.2.1.toNat + 0]'hq).2.2.2.2.2).filter (ne_ c)) := by
        rw [show rowI (((l[(l[c.toNat + 0]'hc').2.2.2.2.1.toNat + 0]'hq).2.2.2.2.2).filter (ne_ c) ++ [0]) = rowI (((l[(l[c.toNat + 0]'hc').2.2.2.2.1.toNat + 0]'hq).2.2.2.2.2).filter (ne_ c)) ++ rowI [0] from List.map_append, List.take_append_of_le_length (by rw [List.length_map]; omega), List.take_of_length_le (by rw [List.length_map]; omega)]
      rw [e1, sc_twice, sc_kids l ((l[c.toNat + 0]'hc').2.2.2.2.1) (by omega), sc_par _ c (by rw [len_setKids]; omega), takeT, if_pos hp.1, ek, ep]
theorem F_s_l6Take (l : List Nd) (c : Int) (hl : l.length ≤ 500) (hkl : ∀ x ∈ l, x.2.2.2.2.2.length * 8 ≤ 140737488351232) (ht : TF l) (h0 : 0 ≤ c) (h1 : c ≤ (l.length : Int) - 1) : Fn pg 32 [.agg [.sl 0 [] 6 0 l.length], .lit (.int .i64 c)] [(0, false, 6, rowN l)] (.agg [.sl 0 [] 6 0 l.length]) [(0, false, 6, rowN (takeT l c))] := by
  have hc' : c.toNat + 0 < l.length := by omega
  have ep := el_par l c hc'
  rcases par_in ht h0 h1 with hp | ⟨hp, hk⟩
  · rw [hp] at ep
    rw [show takeT l c = l from if_neg (by omega)]
    refine Fn.ofN [0,1,2,4,5,13] [0,1002,1004,1024] Try.func32 (by rfl) rfl (by show 2 ≤ 33; decide) (by rfl) ?_
    repeat' ((conv => whnf); first | (refine iteB_dec (fun h => ?_) (fun h => ?_) <;> (try simp (disch := (first | omega | fail)) only [modAt, List.length_take, List.length_drop, List.length_map, List.length_append, List.length_set, List.length_replicate, len_rowsPart, len_setCell, len_marks, len_markL, len_byR, len_mkL, len_marksN, len_bytesI, len_seenI, len_setKids, len_setPar, len_takeT] at h) <;> (try (exfalso; omega))) | (refine Exists.intro _ (And.intro rfl ?_)) | (refine And.intro (by first | exact True.intro | decide +kernel | omega | fail) ?_) | (refine Exists.intro _ (And.intro (rowGet _ _ _ (by omega)) ?_)) | fail)
    refine .mk ⟨trivial, [], ⟨rfl, ?_⟩, List.nodup_nil, rfl, ?_⟩
    · rfl
    · exact ⟨outOk_old (b := 0) (by decide) rfl, trivial⟩
  · have hp2 : 0 ≤ (l[c.toNat + 0]'hc').2.2.2.2.1 ∧ (l[c.toNat + 0]'hc').2.2.2.2.1 ≤ (l.length : Int) - 1 := by rw [ep]; exact hp
    have hq : (l[c.toNat + 0]'hc').2.2.2.2.1.toNat + 0 < l.length := by omega
    have hkb : (l[(l[c.toNat + 0]'hc').2.2.2.2.1.toNat + 0]'hq).2.2.2.2.2.length * 8 ≤ 140737488351232 := hkl _ (List.getElem_mem _)
    have ek : (l[(l[c.toNat + 0]'hc').2.2.2.2.1.toNat + 0]'hq).2.2.2.2.2 = kidsOf l (par l c) := (el_kids l (l[c.toNat + 0]'hc').2.2.2.2.1 hq).trans (by rw [ep])
    have hL := F_s_l6Less (l[(l[c.toNat + 0]'hc').2.2.2.2.1.toNat + 0]'hq).2.2.2.2.2 c (by omega)
    refine Fn.ofN [0,1,2,4,5,13] [0,1002,1004,1024] Try.func32 (by rfl) rfl (by show 2 ≤ 33; decide) (by rfl) ?_
    repeat' ((conv => whnf); first | (refine iteB_dec (fun h => ?_) (fun h => ?_) <;> (try simp (disch := (first | omega | fail)) only [modAt, List.length_take, List.length_drop, List.length_map, List.length_append, List.length_set, List.length_replicate, len_rowsPart, len_setCell, len_marks, len_markL, len_byR, len_mkL, len_marksN, len_bytesI, len_seenI, len_setKids, len_setPar, len_takeT] at h) <;> (try (exfalso; omega))) | (refine Exists.intro _ (And.intro rfl ?_)) | (refine And.intro (by first | exact True.intro | decide +kernel | omega | (simp (disch := (first | omega | fail)) only [List.length_cons, List.length_nil, modAt, List.length_take, List.length_drop, List.length_map, List.length_append, List.length_set, List.length_replicate, len_rowsPart, len_setCell, len_marks, len_markL, len_byR, len_mkL, len_marksN, len_bytesI, len_seenI, len_setKids, len_setPar, len_takeT]; first | omega | fail) | fail) ?_) | (refine Exists.intro _ (And.intro (rowGet _ _ _ (by omega)) ?_)) | (refine Or.inr (Or.inl (Exists.intro 11 (Exists.intro [(0, true), (1, true), (2, true), (3, true), (4, true), (5, true), (6, true), (7, true), (8, true), (9, true), (10, false)] (And.intro (by decide +kernel) ?_))))) | (refine Exists.intro _ (And.intro (by first | exact (get_oneC _ _ _ _ (by first | omega | fail)) | exact (get_mapIC _ _ _ _ _ (by first | omega | fail) (by exact rfl)) | fail) ?_)) | (refine Or.inl (callL_ok ?_); (conv => whnf); refine Exists.intro _ (And.intro (by first | exact (get_mapIC _ _ _ _ _ (by first | omega | fail) (by exact rfl)) | fail) ?_); refine And.intro (by first | rfl | fail) ?_; apply Exists.intro; apply Exists.intro; apply And.intro; (first | exact FnB.mk (hL) | fail); refine ⟨rfl, rfl, ?_⟩) | fail)
    refine .mk ⟨trivial, [], ⟨rfl, ?_⟩, List.nodup_nil, rfl, ?_⟩
    · rfl
    · refine ⟨outOk_old (b := 0) (by decide) (boxEq ?_), trivial⟩
      show setCell (setCell (rowN l) ((l[c.toNat + 0]'hc').2.2.2.2.1).toNat 5 (.own 1 (List.take (((l[(l[c.toNat + 0]'hc').2.2.2.2.1.toNat + 0]'hq).2.2.2.2.2).filter (ne_ c)).length (rowI (((l[(l[c.toNat + 0]'hc').2.2.2.2.1.toNat + 0]'hq).2.2.2.2.2).filter (ne_ c)))))) c.toNat 4 (.lit (.int .i64 (-1))) = rowN (takeT l c)
      rw [List.take_of_length_le (by rw [List.length_map]; exact Nat.le_refl _), sc_kids l ((l[c.toNat + 0]'hc').2.2.2.2.1) (by omega), sc_par _ c (by rw [len_setKids]; omega), takeT, if_pos hp.1, ek, ep]


theorem kids_ok {l : List Nd} (ho : ∀ x ∈ l, ndOk x) : ∀ x ∈ l, x.2.2.2.2.2.length * 8 ≤ 140737488351232 := fun x hx => by
  have := ho x hx
  unfold ndOk at this
  exact this.2.2.2
theorem treeI_500 {l : List Nd} (h : treeI l = true) : 0 < l.length ∧ l.length ≤ 500 := by
  unfold treeI at h
  simp only [Bool.and_eq_true, decide_eq_true_eq] at h
  omega
theorem szL_all {α : Type} {Q : α → Prop} (sz : α → Int → Int) (hle : ∀ p l, 0 ≤ l → sz p l ≤ l) (b : Int) (hq : ∀ p l, 0 ≤ l → l ≤ b → 0 ≤ sz p l → Q p) : ∀ (xs : List α) (l : Int), 0 ≤ l → l ≤ b → 0 ≤ szL sz xs l → ∀ x ∈ xs, Q x := by
  intro xs
  induction xs with
  | nil => intro _ _ _ _ x hx; cases hx
  | cons y r ih =>
    intro l h0 h1 h2 x hx
    simp only [szL] at h2
    split at h2
    · omega
    · rename_i h3
      have h4 := hle y l h0
      rcases List.mem_cons.1 hx with rfl | hx
      · exact hq _ l h0 h1 (by omega)
      · exact ih _ (by omega) (by omega) h2 x hx
theorem szAt_sm (a : At) (l : Int) (h0 : 0 ≤ l) (h1 : l ≤ 1048576) (h2 : 0 ≤ szAt a l) : a.1.size ≤ 1048576 ∧ a.2.size ≤ 1048576 := by
  unfold szAt at h2; grind
theorem szNd_sm (p : Nd) (l : Int) (h0 : 0 ≤ l) (h1 : l ≤ 1048576) (h2 : 0 ≤ szNd p l) : ndSm p := by
  have hst := szNd_st p l h0 h2
  have hnn := h2
  unfold szNd at h2
  dsimp only at h2
  split at h2
  · omega
  · rename_i g1
    split at h2
    · omega
    · rename_i g2
      have g3 := szS_le szAt le_szAt p.2.2.1 (l - p.2.1.size) (by omega)
      have g4 : ∀ x ∈ p.2.2.1, x.1.size ≤ 1048576 ∧ x.2.size ≤ 1048576 := by
        unfold szS at g2
        split at g2
        · omega
        · rename_i g5
          exact szL_all szAt le_szAt 1048576 szAt_sm p.2.2.1 (l - p.2.1.size - p.2.2.1.length) (by omega) (by omega) (by omega)
      split at h2
      · omega
      · rename_i g6
        split at h2
        · omega
        · rename_i g7
          have g8 := szI_le p.2.2.2.2.2 (szS szAt p.2.2.1 (l - p.2.1.size) - p.2.2.2.1.size) (by omega)
          refine ⟨by omega, ⟨by omega, fun x hx => ?_⟩, by omega, by omega⟩
          have := g4 x hx
          omega
theorem szTr_sm (t : List Nd) (h : 0 ≤ szTr t 1048576) : ∀ x ∈ t, ndSm x := by
  unfold szTr at h
  split at h
  · omega
  · unfold szS at h
    split at h
    · omega
    · rename_i h3
      exact szL_all szNd szNd_le 1048576 szNd_sm t _ (by omega) (by omega) h
/-- What the law knows of a tree that is handed to it. -/
def trS (t : List Nd) : Prop := t.length * 96 ≤ 140737488351232 ∧ ∀ x ∈ t, (Lit.int .i64 x.1).wf = true ∧ x.2.1.size ≤ 140737488351232 ∧ (x.2.2.1.length * 32 ≤ 140737488351232 ∧ ∀ y ∈ x.2.2.1, y.1.size ≤ 140737488351232 ∧ y.2.size ≤ 140737488351232) ∧ x.2.2.2.1.size ≤ 140737488351232 ∧ (Lit.int .i64 x.2.2.2.2.1).wf = true ∧ (x.2.2.2.2.2.length * 8 ≤ 140737488351232 ∧ ∀ y ∈ x.2.2.2.2.2, (Lit.int .i64 y).wf = true)
theorem trS_ok {t : List Nd} (h : trS t) : ∀ x ∈ t, ndOk x := fun x hx => by
  obtain ⟨_, h2, h3, h4, _, h5, _⟩ := h.2 x hx
  exact ⟨h2, h3, h4, h5⟩


theorem stL_set {α : Type} (st : α → Nat) (y : α) : ∀ (l : List α) (i : Nat) (h : i < l.length), st y ≤ st l[i] → stL st (l.set i y) ≤ stL st l
  | [], i, h, _ => by simp at h
  | x :: r, 0, _, h => by simp only [List.set_cons_zero, stL, List.getElem_cons_zero] at *; omega
  | x :: r, i + 1, h, hy => by
    have := stL_set st y r i (by simpa using h) (by simpa using hy)
    simp only [List.set_cons_succ, stL]; omega
theorem rdD_get {l : List Nd} {u : Int} (h : u.toNat < l.length) : rdD l u = l[u.toNat] := by unfold rdD; rw [List.getD_eq_getElem?_getD, List.getElem?_eq_getElem h]; rfl
theorem setKids_ok {l : List Nd} (ho : ∀ x ∈ l, ndOk x) (u : Int) (h : u.toNat < l.length) (ks : List Int) (hk : ks.length ≤ (kidsOf l u).length) : (∀ x ∈ setKids l u ks, ndOk x) ∧ stL stNd (setKids l u ks) ≤ stL stNd l := by
  have e := rdD_get h
  constructor
  · intro x hx
    unfold setKids at hx
    rcases List.mem_or_eq_of_mem_set hx with hx | rfl
    · exact ho x hx
    · have := ho (rdD l u) (by rw [e]; exact List.getElem_mem _)
      unfold ndOk at *
      unfold kidsOf at hk
      exact ⟨this.1, this.2.1, this.2.2.1, by dsimp only; omega⟩
  · refine stL_set stNd _ l u.toNat h ?_
    rw [e]
    unfold kidsOf at hk
    rw [e] at hk
    unfold stNd
    dsimp only
    omega
theorem setPar_ok {l : List Nd} (ho : ∀ x ∈ l, ndOk x) (u : Int) (h : u.toNat < l.length) (p : Int) : (∀ x ∈ setPar l u p, ndOk x) ∧ stL stNd (setPar l u p) ≤ stL stNd l := by
  have e := rdD_get h
  constructor
  · intro x hx
    unfold setPar at hx
    rcases List.mem_or_eq_of_mem_set hx with hx | rfl
    · exact ho x hx
    · exact ho (rdD l u) (by rw [e]; exact List.getElem_mem _)
  · refine stL_set stNd _ l u.toNat h ?_
    rw [e]
    exact Nat.le_refl _
theorem takeT_ok {l : List Nd} (ho : ∀ x ∈ l, ndOk x) (ht : TF l) {c : Int} (h0 : 0 ≤ c) (h1 : c ≤ (l.length : Int) - 1) : (∀ x ∈ takeT l c, ndOk x) ∧ stL stNd (takeT l c) ≤ stL stNd l := by
  unfold takeT
  split
  · rename_i hp
    have hin : par l c ≤ (l.length : Int) - 1 := by
      rcases par_in ht h0 h1 with h | h
      · omega
      · exact h.1.2
    have a := setKids_ok ho (par l c) (by omega) ((kidsOf l (par l c)).filter (ne_ c)) (List.length_filter_le _ _)
    have b := setPar_ok a.1 c (by rw [len_setKids]; omega) (-1)
    exact ⟨b.1, Nat.le_trans b.2 a.2⟩
  · exact ⟨ho, Nat.le_refl _⟩
theorem F_l_markNodeS_nil (k : Int) : Fn pg 39 [.imm 6 [], .lit (.int .i64 k)] [] (.lit (.int .i64 k)) [] := by
  refine Fn.ofN [0,1,4,5,9] [] Try.func39 (by rfl) rfl (by show 2 ≤ 57; decide) (by rfl) ?_
  repeat' ((conv => whnf); first | (refine iteB_dec (fun h => ?_) (fun h => ?_) <;> (try simp (disch := (first | omega | fail)) only [modAt, List.length_take, List.length_drop, List.length_map, List.length_append, List.length_set, List.length_replicate, len_rowsPart, len_setCell, len_marks, len_markL, len_byR, len_mkL, len_marksN, len_bytesI, len_seenI, len_setKids, len_setPar, len_takeT] at h) <;> (try (exfalso; omega))) | fail)
  refine ⟨Unit, fun _ => True, fun _ => [(0, .imm 6 []), (1, .lit (.int .i64 k)), (5, .lit (.int .i64 0))], fun _ => [], fun _ => 0, ⟨[], (), trivial, ⟨rfl, rfl⟩, ⟨by first | rfl | fail, by first | rfl | fail, by first | rfl | fail, trivial⟩, trivial⟩, ?_⟩
  intro _ _
  repeat' ((conv => whnf); first | (refine iteB_dec (fun h => ?_) (fun h => ?_) <;> (try simp (disch := (first | omega | fail)) only [modAt, List.length_take, List.length_drop, List.length_map, List.length_append, List.length_set, List.length_replicate, len_rowsPart, len_setCell, len_marks, len_markL, len_byR, len_mkL, len_marksN, len_bytesI, len_seenI, len_setKids, len_setPar, len_takeT] at h) <;> (try (exfalso; omega))) | fail)
  all_goals ((refine .mk ⟨trivial, [], ⟨rfl, ?_⟩, List.nodup_nil, rfl, trivial⟩; show V.lit _ = V.lit _); rfl)
theorem F_l_heldNodeS_nil (k : Int) : Fn pg 40 [.imm 6 [], .lit (.int .i64 k)] [] (.lit (.int .i64 k)) [] := by
  refine Fn.ofN [0,1,4,5,9,18,28,39,47,56,67] [] Try.func40 (by rfl) rfl (by show 2 ≤ 69; decide) (by rfl) ?_
  repeat' ((conv => whnf); first | (refine iteB_dec (fun h => ?_) (fun h => ?_) <;> (try simp (disch := (first | omega | fail)) only [modAt, List.length_take, List.length_drop, List.length_map, List.length_append, List.length_set, List.length_replicate, len_rowsPart, len_setCell, len_marks, len_markL, len_byR, len_mkL, len_marksN, len_bytesI, len_seenI, len_setKids, len_setPar, len_takeT] at h) <;> (try (exfalso; omega))) | fail)
  refine ⟨Unit, fun _ => True, fun _ => [(0, .imm 6 []), (1, .lit (.int .i64 k)), (5, .lit (.int .i64 0))], fun _ => [], fun _ => 0, ⟨[], (), trivial, ⟨rfl, rfl⟩, ⟨by first | rfl | fail, by first | rfl | fail, by first | rfl | fail, trivial⟩, trivial⟩, ?_⟩
  intro _ _
  repeat' ((conv => whnf); first | (refine iteB_dec (fun h => ?_) (fun h => ?_) <;> (try simp (disch := (first | omega | fail)) only [modAt, List.length_take, List.length_drop, List.length_map, List.length_append, List.length_set, List.length_replicate, len_rowsPart, len_setCell, len_marks, len_markL, len_byR, len_mkL, len_marksN, len_bytesI, len_seenI, len_setKids, len_setPar, len_takeT] at h) <;> (try (exfalso; omega))) | fail)
  all_goals ((refine .mk ⟨trivial, [], ⟨rfl, ?_⟩, List.nodup_nil, rfl, trivial⟩; show V.lit _ = V.lit _); rfl)
theorem F_l_markTree_nil (k : Int) (hk : 0 ≤ k) : Fn pg 17 [.agg [.imm 6 []], .lit (.int .i64 k)] [] (.lit (.int .i64 k)) [] := by
  have hM := F_l_markNodeS_nil k
  have hH := F_l_heldNodeS_nil k
  refine Fn.ofN [0,1,2,4] [1002] Try.func17 (by rfl) rfl (by show 2 ≤ 10; decide) (by rfl) ?_
  repeat' ((conv => whnf); first | (refine Exists.intro _ (And.intro rfl ?_)) | (refine Or.inl ?_; apply callV_i; (repeat ((conv => whnf); first | refine And.intro (by first | omega | fail) ?_ | fail)); ((conv => whnf); first | exact FnB.mk (hM) | fail); refine ⟨rfl, rfl, ?_⟩) | fail)
  all_goals first | ((refine .mk ⟨trivial, [], ⟨rfl, ?_⟩, List.nodup_nil, rfl, trivial⟩; show V.lit _ = V.lit _); rfl) | fail
theorem F_l_heldTree_nil (k : Int) (hk : 0 ≤ k) : Fn pg 18 [.agg [.imm 6 []], .lit (.int .i64 k)] [] (.lit (.int .i64 k)) [] := by
  have hM := F_l_markNodeS_nil k
  have hH := F_l_heldNodeS_nil k
  refine Fn.ofN [0,1,2,4,10] [1002] Try.func18 (by rfl) rfl (by show 2 ≤ 12; decide) (by rfl) ?_
  repeat' ((conv => whnf); first | (refine iteB_dec (fun h => ?_) (fun h => ?_) <;> (try simp (disch := (first | omega | fail)) only [modAt, List.length_take, List.length_drop, List.length_map, List.length_append, List.length_set, List.length_replicate, len_rowsPart, len_setCell, len_marks, len_markL, len_byR, len_mkL, len_marksN, len_bytesI, len_seenI, len_setKids, len_setPar, len_takeT] at h) <;> (try (exfalso; omega))) | (refine Exists.intro _ (And.intro rfl ?_)) | (refine Or.inl ?_; apply callV_i; (repeat ((conv => whnf); first | refine And.intro (by first | omega | fail) ?_ | fail)); ((conv => whnf); first | exact FnB.mk (hH) | fail); refine ⟨rfl, rfl, ?_⟩) | fail)
  all_goals first | ((refine .mk ⟨trivial, [], ⟨rfl, ?_⟩, List.nodup_nil, rfl, trivial⟩; show V.lit _ = V.lit _); rfl) | fail
theorem take_mkTr (k : Int) (a : List Nd) : List.take a.length (List.drop 0 (List.map eNd (mkL mkNd stNd k a))) = List.map eNd (mkL mkNd stNd k a) := by
  rw [List.drop_zero, List.take_of_length_le (by rw [List.length_map, len_mkL]; exact Nat.le_refl _)]
/-- A tree that is right in size to be marked. -/
theorem marked_ok {l : List Nd} (ho : ∀ x ∈ l, ndOk x) : ∀ x ∈ l, x.2.2.1.length ≤ 140737488351232 ∧ x.2.2.2.2.2.length ≤ 140737488351232 := fun x hx => by have := ho x hx; unfold ndOk at this; omega
set_option maxHeartbeats 8000000
theorem rdD_set (l : List Nd) (u v : Int) (x : Nd) (hu : u.toNat < l.length) : rdD (l.set u.toNat x) v = if u.toNat = v.toNat then x else rdD l v := by
  unfold rdD
  rw [List.getD_eq_getElem?_getD, List.getD_eq_getElem?_getD, List.getElem?_set]
  by_cases e : u.toNat = v.toNat
  · rw [if_pos e, if_pos e, if_pos hu]; rfl
  · rw [if_neg e, if_neg e]
theorem kids_setKids (l : List Nd) (u v : Int) (ks : List Int) (hu : u.toNat < l.length) : kidsOf (setKids l u ks) v = if u.toNat = v.toNat then ks else kidsOf l v := by
  unfold kidsOf setKids
  rw [rdD_set l u v _ hu]
  split <;> rfl
theorem kids_setPar (l : List Nd) (u v p : Int) (hu : u.toNat < l.length) : kidsOf (setPar l u p) v = kidsOf l v := by
  unfold kidsOf setPar
  rw [rdD_set l u v _ hu]
  split
  · rename_i e
    have : rdD l u = rdD l v := by unfold rdD; rw [e]
    rw [this]
  · rfl
theorem kids_takeT {l : List Nd} (ht : TF l) {c : Int} (h0 : 0 ≤ c) (h1 : c ≤ (l.length : Int) - 1) (v : Int) (hv : 0 ≤ v ∧ v ≤ (l.length : Int) - 1) : kidsOf (takeT l c) v = (kidsOf l v).filter (ne_ c) := by
  have hno : ∀ w : Int, 0 ≤ w ∧ w ≤ (l.length : Int) - 1 → par l c ≠ w → (kidsOf l w).filter (ne_ c) = kidsOf l w := by
    intro w hw hne
    rw [List.filter_eq_self]
    intro y hy
    unfold ne_
    have := ht.kid w.toNat (by omega) y (by rw [Int.toNat_of_nonneg hw.1]; exact hy)
    rw [Int.toNat_of_nonneg hw.1] at this
    rw [decide_eq_false (fun (e : y = c) => hne (by rw [← e]; exact this.2))]; rfl
  unfold takeT
  split
  · rename_i hp
    have hin : par l c ≤ (l.length : Int) - 1 := by
      rcases par_in ht h0 h1 with h | h
      · omega
      · exact h.1.2
    rw [kids_setPar _ _ _ _ (by rw [len_setKids]; omega), kids_setKids _ _ _ _ (by omega)]
    by_cases e : par l c = v
    · subst e; rw [if_pos rfl]
    · rw [if_neg (by omega), hno v hv e]
  · rename_i hp
    rw [hno v hv (by omega)]
theorem no_kid {l : List Nd} (ht : TF l) {c : Int} (h0 : 0 ≤ c) (h1 : c ≤ (l.length : Int) - 1) (v : Int) (hv : 0 ≤ v ∧ v ≤ (l.length : Int) - 1) : c ∉ kidsOf (takeT l c) v := by
  rw [kids_takeT ht h0 h1 v hv, List.mem_filter]
  rintro ⟨_, h⟩
  unfold ne_ at h
  rw [decide_eq_true rfl] at h
  cases h
theorem filter_no {c : Int} {ks : List Int} (h : c ∉ ks) : ks.filter (ne_ c) = ks := by
  rw [List.filter_eq_self]
  intro y hy
  unfold ne_
  rw [decide_eq_false (fun (e : y = c) => h (e ▸ hy))]; rfl
theorem set_swap (l : List Nd) (u v p : Int) (ks : List Int) (hu : u.toNat < l.length) (hv : v.toNat < l.length) (hne : u.toNat ≠ v.toNat) : setPar (setKids l u ks) v p = setKids (setPar l v p) u ks := by
  unfold setPar setKids
  rw [rdD_set l u v _ hu, if_neg hne, rdD_set l v u _ hv, if_neg (Ne.symm hne), List.set_comm _ _ hne]
/-- Up from a node: the reference's way, and the program's. -/
def belS (l : List Nd) (i : Int) : Nat → Int → Bool
  | 0, _ => false
  | d + 1, u => if u < 0 then false else if u = i then true else belS l i d (par l u)
theorem bel_chI (l : List Nd) (i : Int) (hi : 0 ≤ i) (hr : ∀ u, nodeIn l u = true → -1 ≤ par l u ∧ par l u ≤ (l.length : Int) - 1) : ∀ d u, -1 ≤ u → u ≤ (l.length : Int) - 1 → chS l d u = true → belS l i d u = chI l i d u
  | 0, u, _, _, h => by
    simp only [chS, Bool.not_eq_true', decide_eq_false_iff_not] at h
    simp only [belS, chI, nodeIn]
    symm
    rw [Bool.and_eq_false_iff, decide_eq_false_iff_not]
    exact .inl (by omega)
  | d + 1, u, h1, h2, h => by
    simp only [chS] at h
    simp only [belS, chI]
    by_cases h3 : u < 0
    · have h5 : nodeIn l u = false := by simp only [nodeIn, Bool.and_eq_false_iff, decide_eq_false_iff_not]; omega
      rw [if_pos h3, if_neg (by omega), h5, if_neg (by decide)]
    · rw [if_neg h3]
      by_cases h4 : u = i
      · rw [if_pos h4, if_pos h4]
      · have h5 : nodeIn l u = true := by simp only [nodeIn, Bool.and_eq_true, decide_eq_true_eq]; omega
        rw [if_neg h4, if_neg h4, if_pos h5]
        rw [if_pos (by omega)] at h
        exact bel_chI l i hi hr d _ (hr u h5).1 (hr u h5).2 h
/-- Of more than n numbers below n two are alike. -/
theorem pigeon : ∀ (n : Nat) (f : Nat → Nat), (∀ i, i ≤ n → f i < n) → ∃ a b, a < b ∧ b ≤ n ∧ f a = f b
  | 0, f, h => by have := h 0 (Nat.le_refl _); omega
  | n + 1, f, h => by
    by_cases hx : ∃ a, a ≤ n ∧ f a = f (n + 1)
    · obtain ⟨a, h1, h2⟩ := hx
      exact ⟨a, n + 1, by omega, Nat.le_refl _, h2⟩
    · have hne : ∀ a, a ≤ n → f a ≠ f (n + 1) := fun a ha e => hx ⟨a, ha, e⟩
      have hv := h (n + 1) (Nat.le_refl _)
      obtain ⟨a, b, h1, h2, h3⟩ := pigeon n (fun i => if f i < f (n + 1) then f i else f i - 1) (fun i hi => by
        have g1 := h i (by omega)
        have g2 := hne i hi
        split <;> omega)
      refine ⟨a, b, h1, by omega, ?_⟩
      have g1 := hne a (by omega)
      have g2 := hne b h2
      split at h3 <;> split at h3 <;> omega
theorem treeI_rng {l : List Nd} (h : treeI l = true) : ∀ u, nodeIn l u = true → -1 ≤ par l u ∧ par l u ≤ (l.length : Int) - 1 := by
  intro u hu
  have hi := nodeIn_of hu
  rcases par_in (treeI_tf h) hi.1 hi.2 with h1 | h1
  · omega
  · omega
theorem treeI_up {l : List Nd} (h : treeI l = true) (u : Int) (hu : nodeIn l u = true) : ups l (l.length + 1) u < 0 := by
  have hi := nodeIn_of hu
  have hr := treeI_rng h
  have hc := ch_agree l hr u hu
  have hl : chI l u l.length (par l u) = false := by
    have h2 := h
    unfold treeI at h2
    simp only [Bool.and_eq_true] at h2
    obtain ⟨_, _, h2⟩ := h2
    cases hk : kidsOk l with
    | none => rw [hk] at h2; exact absurd h2 (by simp)
    | some s =>
      rw [hk] at h2
      change lastI l s l.length 0 = true at h2
      have h3 := (lastI_iff l s l.length 0).1 h2 u.toNat (by omega) (by omega)
      rw [Int.toNat_of_nonneg hi.1, Bool.and_eq_true, Bool.not_eq_true', Bool.not_eq_true'] at h3
      exact h3.2
  rw [hl, chS_ups] at hc
  simpa using hc
theorem treeI_len_up {l : List Nd} (h : treeI l = true) (u : Int) (hu : nodeIn l u = true) : chS l l.length u = true := by
  rw [chS_ups, decide_eq_true_eq]
  by_cases h0 : ups l l.length u < 0
  · exact h0
  · exfalso
    have hend := treeI_up h u hu
    have hr := treeI_rng h
    have neg : ∀ a b, ups l a u < 0 → a ≤ b → ups l b u < 0 := by
      intro a b h1 h2
      obtain ⟨c, rfl⟩ : ∃ c, b = a + c := ⟨b - a, by omega⟩
      rw [ups_add, ups_neg l _ _ h1]
      exact h1
    have hin : ∀ a, a ≤ l.length → nodeIn l (ups l a u) = true := by
      intro a
      induction a with
      | zero => intro _; exact hu
      | succ a ih =>
        intro ha
        have h1 := ih (by omega)
        have h2 := hr _ h1
        have h3 : ups l (a + 1) u = par l (ups l a u) := by
          rw [ups_add]
          show up l (ups l a u) = _
          unfold up
          rw [if_pos (nodeIn_of h1).1]
        have h4 : ¬ ups l (a + 1) u < 0 := fun hh => h0 (neg _ _ hh ha)
        rw [h3] at h4 ⊢
        simp only [nodeIn, Bool.and_eq_true, decide_eq_true_eq]
        omega
    obtain ⟨a, b, h1, h2, h3⟩ := pigeon l.length (fun i => (ups l i u).toNat) (fun i hi => by
      have := nodeIn_of (hin i hi)
      omega)
    have ha := nodeIn_of (hin a (by omega))
    have hb := nodeIn_of (hin b h2)
    have he : ups l a u = ups l b u := by omega
    obtain ⟨m, rfl⟩ : ∃ m, b = a + (m + 1) := ⟨b - a - 1, by omega⟩
    rw [ups_add] at he
    have := cyc l (ups l a u) ha.1 m he.symm (l.length + 1 - a)
    rw [← ups_add, show a + (l.length + 1 - a) = l.length + 1 by omega] at this
    omega
theorem F_s_l6Below (l : List Nd) (u i : Int) (hl : l.length ≤ 500) (hok : treeI l = true) (hu : nodeIn l u = true) (hi : 0 ≤ i) : Fn pg 42 [sTr l, .lit (.int .i64 u), .lit (.int .i64 i)] [] (.lit (.bool (chI l i l.length u))) [] := by
  have hr := treeI_rng hok
  have hui := nodeIn_of hu
  have hch := treeI_len_up hok u hu
  rw [← bel_chI l i hi hr l.length u (by omega) (by omega) hch]
  refine Fn.ofN [0,1,2,3,6,8,11] [1003] Try.func42 (by rfl) rfl (by show 3 ≤ 18; decide) (by rfl) ?_
  repeat' ((conv => whnf); first | (refine Exists.intro _ (And.intro rfl ?_)) | fail)
  refine ⟨Nat × Int, fun y => ((-1 ≤ y.2 ∧ y.2 ≤ (l.length : Int) - 1) ∧ chS l y.1 y.2 = true) ∧ belS l i l.length u = belS l i y.1 y.2, fun y => [(1, .lit (.int .i64 y.2)), (2, .lit (.int .i64 i)), (3, .ptr 1003 [] 1 0 0), (6, .lit (.bool false))], fun _ => [(1003, true, 1, [[.imm 6 (rowN l)]])], fun y => y.1, ⟨[], (l.length, u), ⟨⟨⟨by show -1 ≤ u; omega, by show u ≤ _; omega⟩, hch⟩, rfl⟩, ⟨rfl, rfl⟩, ⟨by first | rfl | fail, by first | rfl | fail, by first | rfl | fail, by first | rfl | fail, trivial⟩, boxEq rfl, trivial⟩, ?_⟩
  intro y hy
  have hrg : -1 ≤ y.2 ∧ y.2 ≤ (l.length : Int) - 1 := hy.1.1
  have hcs : chS l y.1 y.2 = true := hy.1.2
  have hb : belS l i l.length u = belS l i y.1 y.2 := hy.2
  by_cases h0 : 0 ≤ y.2
  · obtain ⟨d, hd⟩ : ∃ d, y.1 = d + 1 := by
      cases e : y.1 with
      | zero => rw [e] at hcs; simp only [chS, Bool.not_eq_true', decide_eq_false_iff_not] at hcs; omega
      | succ d => exact ⟨d, rfl⟩
    rw [hd] at hcs hb
    simp only [chS] at hcs
    simp only [belS] at hb
    rw [if_pos (show y.2 ≥ 0 from h0)] at hcs
    rw [if_neg (by omega)] at hb
    have hn : nodeIn l y.2 = true := by simp only [nodeIn, Bool.and_eq_true, decide_eq_true_eq]; omega
    have hpr := hr y.2 hn
    repeat' ((conv => whnf); first | (refine iteB_dec (fun h => ?_) (fun h => ?_) <;> (try simp (disch := (first | omega | fail)) only [modAt, List.length_take, List.length_drop, List.length_map, List.length_append, List.length_set, List.length_replicate, len_rowsPart, len_setCell, len_marks, len_markL, len_byR, len_mkL, len_marksN, len_bytesI, len_seenI, len_setKids, len_setPar, len_takeT] at h) <;> (try (exfalso; omega))) | (refine Exists.intro _ (And.intro rfl ?_)) | (refine And.intro (by first | exact True.intro | omega | fail) ?_) | (refine Exists.intro _ (And.intro (rowGetI _ _ _ (by omega) (by omega)) ?_)) | fail)
    · (refine .mk ⟨trivial, [], ⟨rfl, ?_⟩, List.nodup_nil, rfl, trivial⟩; show V.lit _ = V.lit _)
      rw [hb, if_pos (by assumption)]
    · rw [if_neg (by assumption)] at hb
      exact ⟨[], (d, par l y.2), ⟨⟨hpr, hcs⟩, hb⟩, ⟨⟨rfl, rfl⟩, ⟨by first | rfl | fail, by first | rfl | fail, by first | rfl | fail, by first | rfl | fail, trivial⟩, boxEq rfl, trivial⟩, by show d < y.1; omega⟩
  · have hz : belS l i y.1 y.2 = false := by
      cases y.1 with
      | zero => rfl
      | succ d => simp only [belS]; rw [if_pos (by omega)]
    rw [hz] at hb
    repeat' ((conv => whnf); first | (refine iteB_dec (fun h => ?_) (fun h => ?_) <;> (try simp (disch := (first | omega | fail)) only [modAt, List.length_take, List.length_drop, List.length_map, List.length_append, List.length_set, List.length_replicate, len_rowsPart, len_setCell, len_marks, len_markL, len_byR, len_mkL, len_marksN, len_bytesI, len_seenI, len_setKids, len_setPar, len_takeT] at h) <;> (try (exfalso; omega))) | fail)
    (refine .mk ⟨trivial, [], ⟨rfl, ?_⟩, List.nodup_nil, rfl, trivial⟩; show V.lit _ = V.lit _)
    rw [hb]


/-- A call that looks at a node that stands in a row. -/
def callN (G : Pg) (st : St) (f : Nat) (args : List V) (d : Option Nat) (K : St → Prop) : Prop := match args with
  | [.agg [.lit (.int k0 a0), .lit (.string a1), .sl b [(i, 2)] 2 0 n2, .lit (.string a3), .lit (.int k4 a4), .sl b' [(i', 5)] 1 0 n5]] => (match st.B b with
    | some (false, s0, R) => chk (decide (b' = b)) (i' = i ∧ ∃ ys zs, cellAt R i 2 = some (.own 2 ys) ∧ cellAt R i 5 = some (.own 1 zs) ∧ n2 = ys.length ∧ n5 = zs.length ∧ ∃ r bs', FnB G f [.agg [.lit (.int k0 a0), .lit (.string a1), .imm 2 ys, .lit (.string a3), .lit (.int k4 a4), .imm 1 zs]] [] r bs' ∧ clean r = true ∧ (bs'.all fun x => x.2.1 == false) = true ∧ K (retSt st d r bs'))
    | _ => False)
  | _ => False
theorem callN_ok {G : Pg} {st : St} {f : Nat} {args : List V} {d : Option Nat} {K : St → Prop} (h : callN G st f args d K) : callV G st f args d K := by
  unfold callN at h
  split at h
  · rename_i k0 a0 a1 b i n2 a3 k4 a4 b' i' n5
    split at h
    · rename_i s0 R hB
      simp only [chk_iff, decide_eq_true_eq] at h
      obtain ⟨rfl, rfl, ys, zs, h2, h5, rfl, rfl, r, bs', hF, g1, g2, hK⟩ := h
      have r2 : rowsAt st.B b' [(i', 2)] = some (false, 2, ys) := by unfold rowsAt; rw [hB]; simp [sub, h2]
      have r5 : rowsAt st.B b' [(i', 5)] = some (false, 1, zs) := by unfold rowsAt; rw [hB]; simp [sub, h5]
      refine ⟨r, bs', ?_, g1, g2, hK⟩
      simp [views, view, viewL, view1, noF, r2, r5, chk]
      exact hF
    · exact h.elim
  · exact h.elim
theorem get_kidC (l : List Nd) (i j : Nat) (v : V) (h : j < l.length) : cellAt (setCell (rowN l) i 4 v) j 5 = some (.own 1 (rowI l[j].2.2.2.2.2)) := by
  refine set_other (by decide) ?_
  unfold cellAt
  rw [List.getElem?_map, List.getElem?_eq_getElem h]; rfl
theorem get_backC (l : List Nd) (i j : Nat) (v w : V) (h : j < l.length) : cellAt (setCell (setCell (rowN l) i 4 v) j 5 w) j 5 = some w := by
  unfold cellAt setCell
  rw [List.getElem?_modify, List.getElem?_modify, List.getElem?_map, List.getElem?_eq_getElem h]
  by_cases e : i = j
  · subst e
    simp [eNd]
  · simp [e, eNd]
theorem get_rowSet (l : List Nd) (i j : Nat) (v : V) (hj : j < l.length) : (setCell (rowN l) i 4 v)[j]? = some [.lit (.int .i64 l[j].1), .lit (.string l[j].2.1), .own 2 (rowA l[j].2.2.1), .lit (.string l[j].2.2.2.1), (if i = j then v else .lit (.int .i64 l[j].2.2.2.2.1)), .own 1 (rowI l[j].2.2.2.2.2)] := by
  unfold setCell
  rw [List.getElem?_modify, List.getElem?_map, List.getElem?_eq_getElem hj]
  by_cases e : i = j
  · simp [e, eNd]
  · simp [e, eNd]
def hangB (l : List Nd) (c p : Int) : Bool := (!decide (c = 0) && nodeIn l c) && (nodeIn l p && ((decide ((rdD l p).1 = 1) || decide ((rdD l p).1 = 3)) && !chI l c l.length p))
def hangT (l : List Nd) (c p : Int) : List Nd := setKids (setPar (takeT l c) c p) p (kidsOf (takeT l c) p ++ [c])
theorem F_i_Tree_hang_no (l : List Nd) (c p : Int) (hl : l.length ≤ 500) (hh : hangB l c p = false) : Fn pg 44 [.ptr 0 [] 1 0 0, .lit (.int .i64 c), .lit (.int .i64 p)] [(0, true, 1, [[.sl 1 [] 6 0 l.length]]), (1, false, 6, rowN l)] (.lit (.bool false)) [(0, true, 1, [[.sl 1 [] 6 0 l.length]]), (1, false, 6, rowN l)] := by
  have hN := F_i_Tree_isNode l c (by omega)
  have hN2 := F_i_Tree_isNode l p (by omega)
  have hA := F_i_Tree_isAbove l c p (by omega)
  unfold hangB at hh
  by_cases hp : nodeIn l p = true
  · have hpi := nodeIn_of hp
    have hM := F_i_Node_mayHold (l[p.toNat + 0]'(by omega))
    have hrp : rdD l p = l[p.toNat + 0]'(by omega) := rdD_get (show p.toNat < l.length by omega)
    rw [← hrp] at hM
    generalize hm : (decide ((rdD l p).1 = 1) || decide ((rdD l p).1 = 3)) = bm at hM hh
    rw [hrp] at hM
    rw [hp] at hN2
    refine Fn.ofN [0,1,2,6,37] [0,1,1063,1064] Try.func44 (by rfl) rfl (by show 3 ≤ 67; decide) (by rfl) ?_
    repeat' ((conv => whnf); first | (refine iteB_dec (fun h => ?_) (fun h => ?_) <;> (try simp (disch := (first | omega | fail)) only [modAt, List.length_take, List.length_drop, List.length_map, List.length_append, List.length_set, List.length_replicate, len_rowsPart, len_setCell, len_marks, len_markL, len_byR, len_mkL, len_marksN, len_bytesI, len_seenI, len_setKids, len_setPar, len_takeT] at h) <;> (try (exfalso; omega))) | (refine iteB_not ?_) | (refine iteB_of (fun h => ?_) (fun h => ?_)) | (refine Exists.intro _ (And.intro rfl ?_)) | (refine And.intro (by first | exact True.intro | omega | (simp (disch := (first | omega | fail)) only [List.length_cons, List.length_nil, modAt, List.length_take, List.length_drop, List.length_map, List.length_append, List.length_set, List.length_replicate, len_rowsPart, len_setCell, len_marks, len_markL, len_byR, len_mkL, len_marksN, len_bytesI, len_seenI, len_setKids, len_setPar, len_takeT]; first | done | fail) | fail) ?_) | (refine Exists.intro _ (And.intro (rowGet _ _ _ (by omega)) ?_)) | (refine Or.inl ?_; apply callV_i; (repeat ((conv => whnf); first | refine And.intro (by first | omega | (simp (disch := (first | omega | fail)) only [List.length_cons, List.length_nil, modAt, List.length_take, List.length_drop, List.length_map, List.length_append, List.length_set, List.length_replicate, len_rowsPart, len_setCell, len_marks, len_markL, len_byR, len_mkL, len_marksN, len_bytesI, len_seenI, len_setKids, len_setPar, len_takeT]; first | omega | fail) | fail) ?_ | refine Exists.intro _ (And.intro rfl ?_) | fail)); ((conv => whnf); first | (simp (disch := (first | omega | fail)) only [takeAll, takeAll2, take_app, take_app2, take_marks, take_dropU, take_byR, take_takeU, take_marksN, take_mkTr]; first | exact FnB.mk (hN) | exact FnB.mk (hN2) | exact FnB.mk (hA) | fail) | fail); refine ⟨rfl, rfl, ?_⟩) | (refine Or.inr (Or.inr (callA_ok ?_)); (conv => whnf); apply Exists.intro; apply Exists.intro; apply And.intro; (repeat ((conv => whnf); first | refine And.intro (by first | omega | fail) ?_ | fail)); ((conv => whnf); first | exact FnB.mk (F_i_Tree_take _ _ (by first | omega | fail) (by first | (simp_all; done) | fail) (by first | (simp_all; done) | fail) (by first | (simp_all; done) | fail) (by first | (simp_all; done) | fail)) | fail); refine ⟨rfl, ?_⟩) | (refine Or.inl (callN_ok ?_); (conv => whnf); refine And.intro rfl (Exists.intro _ (Exists.intro _ (And.intro (by first | exact (get_mapIC _ _ _ _ _ (by first | omega | fail) (by exact rfl)) | fail) (And.intro (by first | exact (get_mapIC _ _ _ _ _ (by first | omega | fail) (by exact rfl)) | fail) (And.intro (by first | rfl | fail) (And.intro (by first | rfl | fail) ?_)))))); apply Exists.intro; apply Exists.intro; apply And.intro; (first | exact FnB.mk (hM) | fail); refine ⟨rfl, rfl, ?_⟩) | fail)
    all_goals first | (exfalso; revert hh; simp [*]; done) | (refine .mk ⟨trivial, [], ⟨rfl, ?_⟩, List.nodup_nil, rfl, ?_⟩; exact rfl; exact ⟨outOk_top (b := 0) (by decide) rfl rfl rfl, outOk_old (b := 1) (by decide) rfl, trivial⟩) | fail
  · rw [Bool.not_eq_true] at hp
    rw [hp] at hN2
    refine Fn.ofN [0,1,2,6,37] [0,1,1063,1064] Try.func44 (by rfl) rfl (by show 3 ≤ 67; decide) (by rfl) ?_
    repeat' ((conv => whnf); first | (refine iteB_dec (fun h => ?_) (fun h => ?_) <;> (try simp (disch := (first | omega | fail)) only [modAt, List.length_take, List.length_drop, List.length_map, List.length_append, List.length_set, List.length_replicate, len_rowsPart, len_setCell, len_marks, len_markL, len_byR, len_mkL, len_marksN, len_bytesI, len_seenI, len_setKids, len_setPar, len_takeT] at h) <;> (try (exfalso; omega))) | (refine iteB_not ?_) | (refine iteB_of (fun h => ?_) (fun h => ?_)) | (refine Or.inl ?_; apply callV_i; (repeat ((conv => whnf); first | refine And.intro (by first | omega | (simp (disch := (first | omega | fail)) only [List.length_cons, List.length_nil, modAt, List.length_take, List.length_drop, List.length_map, List.length_append, List.length_set, List.length_replicate, len_rowsPart, len_setCell, len_marks, len_markL, len_byR, len_mkL, len_marksN, len_bytesI, len_seenI, len_setKids, len_setPar, len_takeT]; first | omega | fail) | fail) ?_ | refine Exists.intro _ (And.intro rfl ?_) | fail)); ((conv => whnf); first | (simp (disch := (first | omega | fail)) only [takeAll, takeAll2, take_app, take_app2, take_marks, take_dropU, take_byR, take_takeU, take_marksN, take_mkTr]; first | exact FnB.mk (hN) | exact FnB.mk (hN2) | fail) | fail); refine ⟨rfl, rfl, ?_⟩) | fail)
    all_goals (refine .mk ⟨trivial, [], ⟨rfl, ?_⟩, List.nodup_nil, rfl, ?_⟩; exact rfl; exact ⟨outOk_top (b := 0) (by decide) rfl rfl rfl, outOk_old (b := 1) (by decide) rfl, trivial⟩)
theorem F_s_l6Opens (l : List Nd) (p : Int) (hl : l.length ≤ 500) (h0 : 0 ≤ p) (h1 : p ≤ (l.length : Int) - 1) : Fn pg 41 [sTr l, .lit (.int .i64 p)] [] (.lit (.bool (decide ((rdD l p).1 = 1) || decide ((rdD l p).1 = 3)))) [] := by
  refine Fn.ofN [0,1,2,4] [1002] Try.func41 (by rfl) rfl (by show 2 ≤ 21; decide) (by rfl) ?_
  repeat' ((conv => whnf); first | (refine iteB_dec (fun h => ?_) (fun h => ?_) <;> (try simp (disch := (first | omega | fail)) only [modAt, List.length_take, List.length_drop, List.length_map, List.length_append, List.length_set, List.length_replicate, len_rowsPart, len_setCell, len_marks, len_markL, len_byR, len_mkL, len_marksN, len_bytesI, len_seenI, len_setKids, len_setPar, len_takeT] at h) <;> (try (exfalso; omega))) | (refine Exists.intro _ (And.intro rfl ?_)) | (refine And.intro (by first | exact True.intro | omega | fail) ?_) | (refine Exists.intro _ (And.intro (rowGetI _ _ _ (by omega) (by omega)) ?_)) | fail)
  all_goals ((refine .mk ⟨trivial, [], ⟨rfl, ?_⟩, List.nodup_nil, rfl, trivial⟩; show V.lit _ = V.lit _); first | (simp_all []; done) | fail)


theorem nodup_len (n : Nat) (ks : List Int) (hnd : ks.Nodup) (hr : ∀ k ∈ ks, 0 ≤ k ∧ k < (n : Int)) : ks.length ≤ n := by
  by_cases h : ks.length ≤ n
  · exact h
  · exfalso
    obtain ⟨a, b, h1, h2, h3⟩ := pigeon n (fun i => (ks.getD i 0).toNat) (fun i hi => by
      have hlt : i < ks.length := by omega
      have := hr ks[i] (List.getElem_mem hlt)
      show (ks.getD i 0).toNat < n
      rw [List.getD_eq_getElem?_getD, List.getElem?_eq_getElem hlt, Option.getD_some]
      omega)
    have ha : a < ks.length := by omega
    have hb : b < ks.length := by omega
    have h4 := hr ks[a] (List.getElem_mem ha)
    have h5 := hr ks[b] (List.getElem_mem hb)
    have h6 : (ks.getD a 0).toNat = (ks.getD b 0).toNat := h3
    rw [List.getD_eq_getElem?_getD, List.getD_eq_getElem?_getD, List.getElem?_eq_getElem ha, List.getElem?_eq_getElem hb, Option.getD_some, Option.getD_some] at h6
    have h7 : ks[a] = ks[b] := by omega
    exact List.pairwise_iff_getElem.1 hnd a b ha hb h1 h7
theorem kids_len {l : List Nd} (ht : TF l) (v : Int) (hv : 0 ≤ v ∧ v ≤ (l.length : Int) - 1) : (kidsOf l v).length ≤ l.length := by
  refine nodup_len l.length _ ?_ ?_
  · have := ht.nd v.toNat (by omega)
    rwa [Int.toNat_of_nonneg hv.1] at this
  · intro k hk
    have := ht.kid v.toNat (by omega) k (by rw [Int.toNat_of_nonneg hv.1]; exact hk)
    omega
/-- The reference's order of the two stores. -/
theorem hang_order {l : List Nd} (ht : TF l) {c p : Int} (h0 : 0 ≤ c) (h1 : c ≤ (l.length : Int) - 1) (hp : 0 ≤ p ∧ p ≤ (l.length : Int) - 1) (hne : c ≠ p) : setPar (setKids (takeT l c) p ((kidsOf (takeT l c) p).filter (ne_ c) ++ [c])) c p = hangT l c p := by
  rw [filter_no (no_kid ht h0 h1 p hp), set_swap _ _ _ _ _ (by rw [len_takeT]; omega) (by rw [len_takeT]; omega) (by omega)]
  rfl
theorem len_hangT (l : List Nd) (c p : Int) : (hangT l c p).length = l.length := by unfold hangT; rw [len_setKids, len_setPar, len_takeT]
theorem hangT_ok {l : List Nd} (ho : ∀ x ∈ l, ndOk x) (hl : l.length ≤ 500) (ht : TF l) {c p : Int} (h0 : 0 ≤ c) (h1 : c ≤ (l.length : Int) - 1) (hp : 0 ≤ p ∧ p ≤ (l.length : Int) - 1) : (∀ x ∈ hangT l c p, ndOk x) ∧ stL stNd (hangT l c p) ≤ stL stNd l + 1 := by
  have a := takeT_ok ho ht h0 h1
  have b := setPar_ok a.1 c (by rw [len_takeT]; omega) p
  have hkl : (kidsOf (takeT l c) p).length ≤ 500 := by
    rw [kids_takeT ht h0 h1 p hp]
    have := kids_len ht p hp
    have := List.length_filter_le (ne_ c) (kidsOf l p)
    omega
  have hk2 : kidsOf (setPar (takeT l c) c p) p = kidsOf (takeT l c) p := kids_setPar _ _ _ _ (by rw [len_takeT]; omega)
  have hlt : p.toNat < (setPar (takeT l c) c p).length := by rw [len_setPar, len_takeT]; omega
  have e := rdD_get hlt
  unfold hangT
  constructor
  · intro x hx
    unfold setKids at hx
    rcases List.mem_or_eq_of_mem_set hx with hx | rfl
    · exact b.1 x hx
    · have := b.1 (rdD (setPar (takeT l c) c p) p) (by rw [e]; exact List.getElem_mem _)
      unfold ndOk at *
      refine ⟨this.1, this.2.1, this.2.2.1, ?_⟩
      dsimp only
      rw [List.length_append, List.length_cons, List.length_nil]
      omega
  · have hs : ∀ (xs : List Nd) (i : Nat) (hi : i < xs.length) (y : Nd), stNd y ≤ stNd xs[i] + 1 → stL stNd (xs.set i y) ≤ stL stNd xs + 1 := by
      intro xs
      induction xs with
      | nil => intro i hi; simp at hi
      | cons x r ih =>
        intro i hi y hy
        cases i with
        | zero => simp only [List.set_cons_zero, stL, List.getElem_cons_zero] at *; omega
        | succ i =>
          have := ih i (by simpa using hi) y (by simpa using hy)
          simp only [List.set_cons_succ, stL]; omega
    have h2 := hs (setPar (takeT l c) c p) p.toNat hlt ((rdD (setPar (takeT l c) c p) p).1, (rdD (setPar (takeT l c) c p) p).2.1, (rdD (setPar (takeT l c) c p) p).2.2.1, (rdD (setPar (takeT l c) c p) p).2.2.2.1, (rdD (setPar (takeT l c) c p) p).2.2.2.2.1, kidsOf (takeT l c) p ++ [c]) (by
      rw [← e]
      unfold kidsOf at hk2
      unfold stNd kidsOf
      dsimp only
      rw [List.length_append, List.length_cons, List.length_nil, ← hk2]
      omega)
    have h3 := a.2
    have h4 := b.2
    unfold setKids
    omega


theorem F_i_TreeHang_no (l : List Nd) (c p : Int) (hl : l.length ≤ 140737488351232) (hp : ∀ x ∈ l, ndSm x) (hok : treeI l = false) : Fn pg 20 [sTr l, .lit (.int .i64 c), .lit (.int .i64 p)] [] (.tup [.agg [.imm 6 []], .lit (.bool false)]) [] := by
  have hT := F_i_TreeOk l hl hp
  have hS := F_s_TreeOk l hl hp
  rw [tree_agree, hok] at hS
  rw [hok] at hT
  refine Fn.ofN [0,1,2,3,6,7,8,9,12] [1003,1006,1008,1015] Try.func20 (by rfl) rfl (by show 3 ≤ 21; decide) (by rfl) ?_
  repeat' ((conv => whnf); first | (refine Exists.intro _ (And.intro rfl ?_)) | (refine And.intro (by first | exact True.intro | decide +kernel | fail) ?_) | (refine Or.inl ?_; apply callV_i; (repeat ((conv => whnf); first | refine And.intro (by first | omega | fail) ?_ | fail)); ((conv => whnf); first | exact FnB.mk (hT) | fail); refine ⟨rfl, rfl, ?_⟩) | fail)
  refine .mk ⟨trivial, [], ⟨rfl, rfl⟩, List.nodup_nil, rfl, trivial⟩
theorem F_s_TreeHang_no (l : List Nd) (c p : Int) (hl : l.length ≤ 140737488351232) (hp : ∀ x ∈ l, ndSm x) (hok : treeI l = false) : Fn pg 19 [sTr l, .lit (.int .i64 c), .lit (.int .i64 p)] [] (.tup [.agg [.imm 6 []], .lit (.bool false)]) [] := by
  have hT := F_i_TreeOk l hl hp
  have hS := F_s_TreeOk l hl hp
  rw [tree_agree, hok] at hS
  rw [hok] at hT
  refine Fn.ofN [0,1,2,3,6,7,10,37] [1003,1006,1039,1041,1044] Try.func19 (by rfl) rfl (by show 3 ≤ 45; decide) (by rfl) ?_
  repeat' ((conv => whnf); first | (refine Exists.intro _ (And.intro rfl ?_)) | (refine And.intro (by first | exact True.intro | decide +kernel | fail) ?_) | (refine Or.inl ?_; apply callV_i; (repeat ((conv => whnf); first | refine And.intro (by first | omega | fail) ?_ | fail)); ((conv => whnf); first | exact FnB.mk (hS) | fail); refine ⟨rfl, rfl, ?_⟩) | fail)
  refine .mk ⟨trivial, [], ⟨rfl, rfl⟩, List.nodup_nil, rfl, trivial⟩
theorem F_i_TreeHang_stay (l : List Nd) (c p : Int) (hl : l.length * 96 ≤ 140737488351232) (hp : ∀ x ∈ l, ndSm x) (ho : ∀ x ∈ l, ndOk x) (hok : treeI l = true) (hc : hangB l c p = false) : Fn pg 20 [sTr l, .lit (.int .i64 c), .lit (.int .i64 p)] [] (.tup [.agg [.sl 500 [] 6 0 l.length], .lit (.bool false)]) [(500, false, 6, rowN l)] := by
  have hT := F_i_TreeOk l (by omega) hp
  rw [hok] at hT
  obtain ⟨hn0, hn1⟩ := treeI_500 hok
  have hC := F_i_copyTree l hn0 hl ho
  have hH := F_i_Tree_hang_no l c p hn1 hc
  refine Fn.ofN [0,1,2,3,6,7,8,9,12] [1003,1006,1008,1015] Try.func20 (by rfl) rfl (by show 3 ≤ 21; decide) (by rfl) ?_
  repeat' ((conv => whnf); first | (refine Exists.intro _ (And.intro rfl ?_)) | (refine And.intro (by first | exact True.intro | decide +kernel | (simp (disch := (first | omega | fail)) only [List.length_cons, List.length_nil, modAt, List.length_take, List.length_drop, List.length_map, List.length_append, List.length_set, List.length_replicate, len_rowsPart, len_setCell, len_marks, len_markL, len_byR, len_mkL, len_marksN, len_bytesI, len_seenI, len_setKids, len_setPar, len_takeT, len_hangT]; first | done | fail) | fail) ?_) | (refine Or.inl ?_; apply callV_i; (repeat ((conv => whnf); first | refine And.intro (by first | omega | (simp (disch := (first | omega | fail)) only [List.length_cons, List.length_nil, modAt, List.length_take, List.length_drop, List.length_map, List.length_append, List.length_set, List.length_replicate, len_rowsPart, len_setCell, len_marks, len_markL, len_byR, len_mkL, len_marksN, len_bytesI, len_seenI, len_setKids, len_setPar, len_takeT, len_hangT]; first | omega | fail) | fail) ?_ | refine Exists.intro _ (And.intro rfl ?_) | fail)); ((conv => whnf); first | exact FnB.mk (hT) | exact FnB.mk (hC) | fail); refine ⟨rfl, rfl, ?_⟩) | (refine Or.inr (Or.inr (callA_ok ?_)); (conv => whnf); apply Exists.intro; apply Exists.intro; apply And.intro; (repeat ((conv => whnf); first | refine And.intro (by first | omega | fail) ?_ | fail)); ((conv => whnf); first | exact FnB.mk (hH) | fail); refine ⟨rfl, ?_⟩) | fail)
  refine .mk ⟨trivial, [1015], ⟨rfl, ?_⟩, by simp, rfl, ?_⟩
  · rfl
  · exact ⟨outOk_new (d := 1015) (by decide) rfl rfl, trivial⟩
theorem F_s_TreeHang_stay (l : List Nd) (c p : Int) (hl : l.length * 96 ≤ 140737488351232) (hp : ∀ x ∈ l, ndSm x) (ho : ∀ x ∈ l, ndOk x) (hok : treeI l = true) (hc : hangB l c p = false) : Fn pg 19 [sTr l, .lit (.int .i64 c), .lit (.int .i64 p)] [] (.tup [.agg [.sl 500 [] 6 0 l.length], .lit (.bool false)]) [(500, false, 6, rowN l)] := by
  have hT := F_s_TreeOk l (by omega) hp
  rw [tree_agree, hok] at hT
  obtain ⟨hn0, hn1⟩ := treeI_500 hok
  have hC := F_s_l6Copy l hn0 hl ho
  have hN := F_s_l6Has l c (by omega)
  have hN2 := F_s_l6Has l p (by omega)
  unfold hangB at hc
  by_cases hpn : nodeIn l p = true
  · have hpi := nodeIn_of hpn
    have hO := F_s_l6Opens l p hn1 hpi.1 hpi.2
    generalize hm : (decide ((rdD l p).1 = 1) || decide ((rdD l p).1 = 3)) = bm at hO hc
    rw [hpn] at hN2
    by_cases hci : 0 ≤ c
    · have hB := F_s_l6Below l p c hn1 hok hpn hci
      refine Fn.ofN [0,1,2,3,6,7,10,37] [1003,1006,1039,1041,1044] Try.func19 (by rfl) rfl (by show 3 ≤ 45; decide) (by rfl) ?_
      repeat' ((conv => whnf); first | (refine iteB_dec (fun h => ?_) (fun h => ?_) <;> (try simp (disch := (first | omega | fail)) only [modAt, List.length_take, List.length_drop, List.length_map, List.length_append, List.length_set, List.length_replicate, len_rowsPart, len_setCell, len_marks, len_markL, len_byR, len_mkL, len_marksN, len_bytesI, len_seenI, len_setKids, len_setPar, len_takeT, len_hangT] at h) <;> (try (exfalso; omega))) | (refine iteB_not ?_) | (refine iteB_of (fun h => ?_) (fun h => ?_)) | (refine Exists.intro _ (And.intro rfl ?_)) | (refine And.intro (by first | exact True.intro | decide +kernel | fail) ?_) | (refine Or.inl ?_; apply callV_i; (repeat ((conv => whnf); first | refine And.intro (by first | omega | (simp (disch := (first | omega | fail)) only [List.length_cons, List.length_nil, modAt, List.length_take, List.length_drop, List.length_map, List.length_append, List.length_set, List.length_replicate, len_rowsPart, len_setCell, len_marks, len_markL, len_byR, len_mkL, len_marksN, len_bytesI, len_seenI, len_setKids, len_setPar, len_takeT, len_hangT]; first | omega | fail) | fail) ?_ | fail)); ((conv => whnf); first | exact FnB.mk (hT) | exact FnB.mk (hC) | exact FnB.mk (hN) | exact FnB.mk (hN2) | exact FnB.mk (hO) | exact FnB.mk (hB) | fail); refine ⟨rfl, rfl, ?_⟩) | fail)
      all_goals first | (exfalso; revert hc; simp [*]; done) | (refine .mk ⟨trivial, [1039], ⟨rfl, ?_⟩, by simp, rfl, ?_⟩; exact rfl; exact ⟨outOk_new (d := 1039) (by decide) rfl rfl, trivial⟩) | fail
    · have hcn : nodeIn l c = false := nodeIn_no (by omega)
      rw [hcn] at hN
      refine Fn.ofN [0,1,2,3,6,7,10,37] [1003,1006,1039,1041,1044] Try.func19 (by rfl) rfl (by show 3 ≤ 45; decide) (by rfl) ?_
      repeat' ((conv => whnf); first | (refine Exists.intro _ (And.intro rfl ?_)) | (refine And.intro (by first | exact True.intro | decide +kernel | fail) ?_) | (refine Or.inl ?_; apply callV_i; (repeat ((conv => whnf); first | refine And.intro (by first | omega | fail) ?_ | fail)); ((conv => whnf); first | exact FnB.mk (hT) | exact FnB.mk (hC) | exact FnB.mk (hN) | fail); refine ⟨rfl, rfl, ?_⟩) | fail)
      all_goals first | (refine .mk ⟨trivial, [1039], ⟨rfl, ?_⟩, by simp, rfl, ?_⟩; exact rfl; exact ⟨outOk_new (d := 1039) (by decide) rfl rfl, trivial⟩) | fail
  · rw [Bool.not_eq_true] at hpn
    rw [hpn] at hN2
    refine Fn.ofN [0,1,2,3,6,7,10,37] [1003,1006,1039,1041,1044] Try.func19 (by rfl) rfl (by show 3 ≤ 45; decide) (by rfl) ?_
    repeat' ((conv => whnf); first | (refine iteB_not ?_) | (refine iteB_of (fun h => ?_) (fun h => ?_)) | (refine Exists.intro _ (And.intro rfl ?_)) | (refine And.intro (by first | exact True.intro | decide +kernel | fail) ?_) | (refine Or.inl ?_; apply callV_i; (repeat ((conv => whnf); first | refine And.intro (by first | omega | fail) ?_ | fail)); ((conv => whnf); first | exact FnB.mk (hT) | exact FnB.mk (hC) | exact FnB.mk (hN) | exact FnB.mk (hN2) | fail); refine ⟨rfl, rfl, ?_⟩) | fail)
    all_goals first | (refine .mk ⟨trivial, [1039], ⟨rfl, ?_⟩, by simp, rfl, ?_⟩; exact rfl; exact ⟨outOk_new (d := 1039) (by decide) rfl rfl, trivial⟩) | fail


theorem hang_row (l : List Nd) (c p : Int) (hp : p.toNat + 0 < l.length) : List.take (rowI (l[p.toNat + 0]'hp).2.2.2.2.2).length (List.drop 0 (rowI (l[p.toNat + 0]'hp).2.2.2.2.2)) ++ [[V.lit (.int .i64 c)]] = rowI (kidsOf l p ++ [c]) := by
  rw [List.drop_zero, List.take_length, el_kids l p hp]
  show _ = List.map _ (_ ++ _)
  rw [List.map_append]; rfl
theorem hang_row2 (l : List Nd) (c p : Int) (hp : p.toNat + 0 < l.length) : List.take (l[p.toNat + 0]'hp).2.2.2.2.2.length (List.drop 0 (rowI (l[p.toNat + 0]'hp).2.2.2.2.2)) ++ [[V.lit (.int .i64 c)]] = rowI (kidsOf l p ++ [c]) := by
  rw [← hang_row l c p hp, List.length_map]
theorem hangB_ne {l : List Nd} {c p : Int} (h : chI l c l.length p = false) (hl : 0 < l.length) : c ≠ p := by
  intro e
  subst e
  obtain ⟨d, hd⟩ : ∃ d, l.length = d + 1 := ⟨l.length - 1, by omega⟩
  rw [hd] at h
  simp [chI] at h
theorem hangB_in {l : List Nd} {c p : Int} (h : hangB l c p = true) : nodeIn l c = true ∧ nodeIn l p = true := by
  unfold hangB at h
  simp only [Bool.and_eq_true] at h
  exact ⟨h.1.2, h.2.1⟩
theorem F_i_Tree_hang_go (l : List Nd) (c p : Int) (hl : l.length ≤ 500) (hkl : ∀ x ∈ l, x.2.2.2.2.2.length * 8 ≤ 140737488351232) (hkl2 : ∀ x ∈ takeT l c, x.2.2.2.2.2.length * 8 ≤ 140737488351232) (ht : TF l) (hh : hangB l c p = true) : Fn pg 44 [.ptr 0 [] 1 0 0, .lit (.int .i64 c), .lit (.int .i64 p)] [(0, true, 1, [[.sl 1 [] 6 0 l.length]]), (1, false, 6, rowN l)] (.lit (.bool true)) [(0, true, 1, [[.sl 1 [] 6 0 l.length]]), (1, false, 6, rowN (hangT l c p))] := by
  unfold hangB at hh
  simp only [Bool.and_eq_true, Bool.not_eq_true', decide_eq_false_iff_not] at hh
  obtain ⟨⟨h0, hc⟩, hp, hm, ha⟩ := hh
  have hN := F_i_Tree_isNode l c (by omega)
  have hN2 := F_i_Tree_isNode l p (by omega)
  have hA := F_i_Tree_isAbove l c p (by omega)
  have hci := nodeIn_of hc
  have hpi := nodeIn_of hp
  have hM := F_i_Node_mayHold (l[p.toNat + 0]'(by omega))
  have hrp : rdD l p = l[p.toNat + 0]'(by omega) := rdD_get (show p.toNat < l.length by omega)
  rw [← hrp] at hM
  rw [hm] at hM
  rw [hrp] at hM
  rw [hc] at hN
  rw [hp] at hN2
  rw [ha] at hA
  have hK := F_i_Tree_take l c hl hkl ht hci.1 hci.2
  have hl2 := len_takeT l c
  have hpt : p.toNat + 0 < (takeT l c).length := by omega
  have hkb : (rowI ((takeT l c)[p.toNat + 0]'hpt).2.2.2.2.2).length * 8 ≤ 140737488351232 := by rw [List.length_map]; exact hkl2 _ (List.getElem_mem _)
  refine Fn.ofN [0,1,2,6,37] [0,1,1063,1064] Try.func44 (by rfl) rfl (by show 3 ≤ 67; decide) (by rfl) ?_
  repeat' ((conv => whnf); first | (refine iteB_dec (fun h => ?_) (fun h => ?_) <;> (try simp (disch := (first | omega | fail)) only [modAt, List.nil_append, List.length_take, List.length_drop, List.length_map, List.length_append, List.length_set, List.length_replicate, len_rowsPart, len_setCell, len_marks, len_markL, len_byR, len_mkL, len_marksN, len_bytesI, len_seenI, len_setKids, len_setPar, len_takeT, len_hangT] at h) <;> (try (exfalso; omega))) | (refine Exists.intro _ (And.intro rfl ?_)) | (refine And.intro (by first | exact True.intro | (with_reducible exact Nat.le_refl _) | omega | (simp (disch := (first | omega | fail)) only [List.length_cons, List.length_nil, modAt, List.nil_append, List.length_take, List.length_drop, List.length_map, List.length_append, List.length_set, List.length_replicate, len_rowsPart, len_setCell, len_marks, len_markL, len_byR, len_mkL, len_marksN, len_bytesI, len_seenI, len_setKids, len_setPar, len_takeT, len_hangT]; first | done | omega | fail) | exact Nat.le_refl _ | ((first | show ((_ : Nat) + 1) * 8 ≤ _ | show ((_ : Nat) + 1) ≤ _ | fail); omega) | (apply litOne; (repeat rfl); done) | fail) ?_) | (refine Exists.intro _ (And.intro (get_rowSet _ _ _ _ (by first | omega | fail)) ?_)) | (refine Exists.intro _ (And.intro (rowGet _ _ _ (by omega)) ?_)) | (refine Or.inr (Or.inr (Or.inl (Exists.intro 16 (Exists.intro (.tell 0 (.tell 1 (.tell 2 (.tell 3 (.tell 4 (.tell 5 (.tell 6 (.tell 7 (.tell 8 (.tell 9 (.tell 10 (.tell 11 (.tell 12 (.tell 13 (.one 14 (.one 15 .nil)))))))))))))))) (And.intro (by decide +kernel) ?_)))))) | (refine Exists.intro _ (And.intro (by first | exact (get_backC _ _ _ _ _ (by first | omega | fail)) | exact (get_kidC _ _ _ _ (by first | omega | fail)) | exact (get_mapIC _ _ _ _ _ (by first | omega | fail) (by exact rfl)) | fail) ?_)) | (refine And.intro (by (conv => whnf); first | omega | (refine Exists.intro _ (And.intro (by first | exact (get_kidC _ _ _ _ (by first | omega | fail)) | fail) ?_); first | omega | fail) | fail) ?_) | (refine Or.inl ?_; apply callV_i; (repeat ((conv => whnf); first | refine And.intro (by first | omega | (simp (disch := (first | omega | fail)) only [List.length_cons, List.length_nil, modAt, List.nil_append, List.length_take, List.length_drop, List.length_map, List.length_append, List.length_set, List.length_replicate, len_rowsPart, len_setCell, len_marks, len_markL, len_byR, len_mkL, len_marksN, len_bytesI, len_seenI, len_setKids, len_setPar, len_takeT, len_hangT]; first | omega | fail) | fail) ?_ | refine Exists.intro _ (And.intro rfl ?_) | fail)); ((conv => whnf); first | (simp (disch := (first | omega | fail)) only [takeAll, takeAll2, take_app, take_app2, take_marks, take_dropU, take_byR, take_takeU, take_marksN, take_mkTr]; first | exact FnB.mk (hN) | exact FnB.mk (hN2) | exact FnB.mk (hA) | fail) | fail); refine ⟨rfl, rfl, ?_⟩) | (refine Or.inr (Or.inr (callA_ok ?_)); (conv => whnf); apply Exists.intro; apply Exists.intro; apply And.intro; (repeat ((conv => whnf); first | refine And.intro (by first | omega | fail) ?_ | fail)); ((conv => whnf); first | exact FnB.mk (hK) | fail); refine ⟨rfl, ?_⟩) | (refine Or.inl (callN_ok ?_); (conv => whnf); refine And.intro rfl (Exists.intro _ (Exists.intro _ (And.intro (by first | exact (get_mapIC _ _ _ _ _ (by first | omega | fail) (by exact rfl)) | fail) (And.intro (by first | exact (get_mapIC _ _ _ _ _ (by first | omega | fail) (by exact rfl)) | fail) (And.intro (by first | rfl | fail) (And.intro (by first | rfl | fail) ?_)))))); apply Exists.intro; apply Exists.intro; apply And.intro; (first | exact FnB.mk (hM) | fail); refine ⟨rfl, rfl, ?_⟩) | fail)
  refine .mk ⟨trivial, [], ⟨rfl, ?_⟩, List.nodup_nil, rfl, ?_⟩
  · rfl
  · refine ⟨outOk_top (b := 0) (by decide) rfl rfl rfl, outOk_old (b := 1) (by decide) (boxEq ?_), trivial⟩
    show setCell (setCell (setCell (rowN (takeT l c)) c.toNat 4 (.lit (.int .i64 p))) p.toNat 5 .undef) p.toNat 5 (.own 1 (List.take (List.take (rowI ((takeT l c)[p.toNat + 0]'hpt).2.2.2.2.2).length (List.drop 0 (rowI ((takeT l c)[p.toNat + 0]'hpt).2.2.2.2.2)) ++ [[V.lit (.int .i64 c)]]).length (List.take (rowI ((takeT l c)[p.toNat + 0]'hpt).2.2.2.2.2).length (List.drop 0 (rowI ((takeT l c)[p.toNat + 0]'hpt).2.2.2.2.2)) ++ [[V.lit (.int .i64 c)]]))) = rowN (hangT l c p)
    rw [List.take_length, hang_row, sc_twice, sc_par _ c (by omega), sc_kids _ p (by rw [len_setPar]; omega)]
    rfl
theorem F_s_l6Hang (l : List Nd) (c p : Int) (hl : l.length ≤ 500) (hkl : ∀ x ∈ l, x.2.2.2.2.2.length * 8 ≤ 140737488351232) (hkl2 : ∀ x ∈ takeT l c, x.2.2.2.2.2.length * 8 ≤ 140737488351232) (ht : TF l) (hh : hangB l c p = true) : Fn pg 43 [.agg [.sl 0 [] 6 0 l.length], .lit (.int .i64 c), .lit (.int .i64 p)] [(0, false, 6, rowN l)] (.agg [.sl 0 [] 6 0 l.length]) [(0, false, 6, rowN (hangT l c p))] := by
  unfold hangB at hh
  simp only [Bool.and_eq_true, Bool.not_eq_true', decide_eq_false_iff_not] at hh
  obtain ⟨⟨h0, hc⟩, hp, hm, ha⟩ := hh
  have hci := nodeIn_of hc
  have hpi := nodeIn_of hp
  have hne := hangB_ne ha (by omega)
  have hK := F_s_l6Take l c hl hkl ht hci.1 hci.2
  have hl2 := len_takeT l c
  have hpt : p.toNat + 0 < (takeT l c).length := by omega
  have hct : c.toNat + 0 < (takeT l c).length := by omega
  have hkb : (rowI ((takeT l c)[p.toNat + 0]'hpt).2.2.2.2.2).length * 8 ≤ 140737488351232 := by rw [List.length_map]; exact hkl2 _ (List.getElem_mem _)
  have hkc := hkl2 _ (List.getElem_mem hpt)
  have hfe : ((takeT l c)[p.toNat + 0]'hpt).2.2.2.2.2.filter (ne_ c) = ((takeT l c)[p.toNat + 0]'hpt).2.2.2.2.2 := by
    rw [el_kids _ p hpt]
    exact filter_no (no_kid ht hci.1 hci.2 p hpi)
  have hL := F_s_l6Less ((takeT l c)[p.toNat + 0]'hpt).2.2.2.2.2 c (by omega)
  rw [hfe] at hL
  refine Fn.ofN [0,1,2,3,6] [0,1003,1006,1009,1020,1022,1023] Try.func43 (by rfl) rfl (by show 3 ≤ 33; decide) (by rfl) ?_
  repeat' ((conv => whnf); first | (refine Exists.intro _ (And.intro rfl ?_)) | (refine And.intro (by first | exact True.intro | (with_reducible exact Nat.le_refl _) | decide +kernel | omega | (simp (disch := (first | omega | fail)) only [List.length_cons, List.length_nil, modAt, List.nil_append, List.length_take, List.length_drop, List.length_map, List.length_append, List.length_set, List.length_replicate, len_rowsPart, len_setCell, len_marks, len_markL, len_byR, len_mkL, len_marksN, len_bytesI, len_seenI, len_setKids, len_setPar, len_takeT, len_hangT]; first | done | omega | fail) | exact Nat.le_refl _ | (apply litOne; (repeat rfl); done) | fail) ?_) | (refine Exists.intro _ (And.intro (rowGet _ _ _ (by omega)) ?_)) | (refine Or.inr (Or.inr (Or.inl (Exists.intro 14 (Exists.intro (.tell 0 (.tell 1 (.tell 2 (.tell 3 (.tell 4 (.tell 5 (.tell 6 (.tell 7 (.tell 8 (.tell 9 (.tell 11 (.two 10 12 (.one 12 (.one 13 .nil)) (.one 10 (.one 13 .nil)))))))))))))) (And.intro (by decide +kernel) ?_)))))) | (refine twoI ?_ ?_) | (refine Exists.intro _ (And.intro (by first | exact (get_oneC _ _ _ _ (by first | omega | fail)) | exact (get_mapIC _ _ _ _ _ (by first | omega | fail) (by exact rfl)) | fail) ?_)) | (refine And.intro (by (conv => whnf); first | omega | (simp (disch := (first | omega | fail)) only [List.length_cons, List.length_nil, modAt, List.nil_append, List.length_take, List.length_drop, List.length_map, List.length_append, List.length_set, List.length_replicate, len_rowsPart, len_setCell, len_marks, len_markL, len_byR, len_mkL, len_marksN, len_bytesI, len_seenI, len_setKids, len_setPar, len_takeT, len_hangT]; first | omega | fail) | fail) ?_) | (refine Or.inr (Or.inr (callA_ok ?_)); (conv => whnf); apply Exists.intro; apply Exists.intro; apply And.intro; (repeat ((conv => whnf); first | refine And.intro (by first | omega | fail) ?_ | fail)); ((conv => whnf); first | exact FnB.mk (hK) | fail); refine ⟨rfl, ?_⟩) | (refine Or.inl (callL_ok ?_); (conv => whnf); refine Exists.intro _ (And.intro (by first | exact (get_mapIC _ _ _ _ _ (by first | omega | fail) (by exact rfl)) | fail) ?_); refine And.intro (by first | rfl | fail) ?_; apply Exists.intro; apply Exists.intro; apply And.intro; (first | exact FnB.mk (hL) | fail); refine ⟨rfl, rfl, ?_⟩) | fail)
  all_goals
    refine .mk ⟨trivial, [], ⟨rfl, ?_⟩, List.nodup_nil, rfl, ?_⟩
    · rfl
    · refine ⟨outOk_old (b := 0) (by decide) (boxEq ?_), trivial⟩
      show setCell (setCell (rowN (takeT l c)) p.toNat 5 (.own 1 (List.take (List.take ((takeT l c)[p.toNat + 0]'hpt).2.2.2.2.2.length (List.drop 0 (rowI ((takeT l c)[p.toNat + 0]'hpt).2.2.2.2.2)) ++ [[V.lit (.int .i64 c)]]).length (List.take ((takeT l c)[p.toNat + 0]'hpt).2.2.2.2.2.length (List.drop 0 (rowI ((takeT l c)[p.toNat + 0]'hpt).2.2.2.2.2)) ++ [[V.lit (.int .i64 c)]])))) c.toNat 4 (.lit (.int .i64 p)) = rowN (hangT l c p)
      rw [List.take_length, hang_row2, sc_kids _ p (by omega), sc_par _ c (by rw [len_setKids]; omega), ← hang_order ht hci.1 hci.2 hpi hne, filter_no (no_kid ht hci.1 hci.2 p hpi)]


theorem F_i_TreeHang_go (l : List Nd) (c p : Int) (hl : l.length * 96 ≤ 140737488351232) (hp : ∀ x ∈ l, ndSm x) (ho : ∀ x ∈ l, ndOk x) (hok : treeI l = true) (hc : hangB l c p = true) : Fn pg 20 [sTr l, .lit (.int .i64 c), .lit (.int .i64 p)] [] (.tup [.agg [.sl 500 [] 6 0 l.length], .lit (.bool true)]) [(500, false, 6, rowN (hangT l c p))] := by
  have hT := F_i_TreeOk l (by omega) hp
  rw [hok] at hT
  obtain ⟨hn0, hn1⟩ := treeI_500 hok
  have hC := F_i_copyTree l hn0 hl ho
  have hin := nodeIn_of (hangB_in hc).1
  have hH := F_i_Tree_hang_go l c p hn1 (kids_ok ho) (kids_ok (takeT_ok ho (treeI_tf hok) hin.1 hin.2).1) (treeI_tf hok) hc
  refine Fn.ofN [0,1,2,3,6,7,8,9,12] [1003,1006,1008,1015] Try.func20 (by rfl) rfl (by show 3 ≤ 21; decide) (by rfl) ?_
  repeat' ((conv => whnf); first | (refine Exists.intro _ (And.intro rfl ?_)) | (refine And.intro (by first | exact True.intro | decide +kernel | (simp (disch := (first | omega | fail)) only [List.length_cons, List.length_nil, modAt, List.nil_append, List.length_take, List.length_drop, List.length_map, List.length_append, List.length_set, List.length_replicate, len_rowsPart, len_setCell, len_marks, len_markL, len_byR, len_mkL, len_marksN, len_bytesI, len_seenI, len_setKids, len_setPar, len_takeT, len_hangT]; first | done | fail) | fail) ?_) | (refine Or.inl ?_; apply callV_i; (repeat ((conv => whnf); first | refine And.intro (by first | omega | (simp (disch := (first | omega | fail)) only [List.length_cons, List.length_nil, modAt, List.nil_append, List.length_take, List.length_drop, List.length_map, List.length_append, List.length_set, List.length_replicate, len_rowsPart, len_setCell, len_marks, len_markL, len_byR, len_mkL, len_marksN, len_bytesI, len_seenI, len_setKids, len_setPar, len_takeT, len_hangT]; first | omega | fail) | fail) ?_ | refine Exists.intro _ (And.intro rfl ?_) | fail)); ((conv => whnf); first | exact FnB.mk (hT) | exact FnB.mk (hC) | fail); refine ⟨rfl, rfl, ?_⟩) | (refine Or.inr (Or.inr (callA_ok ?_)); (conv => whnf); apply Exists.intro; apply Exists.intro; apply And.intro; (repeat ((conv => whnf); first | refine And.intro (by first | omega | fail) ?_ | fail)); ((conv => whnf); first | exact FnB.mk (hH) | fail); refine ⟨rfl, ?_⟩) | fail)
  refine .mk ⟨trivial, [1015], ⟨rfl, ?_⟩, by simp, rfl, ?_⟩
  · rfl
  · exact ⟨outOk_new (d := 1015) (by decide) rfl rfl, trivial⟩
theorem F_s_TreeHang_go (l : List Nd) (c p : Int) (hl : l.length * 96 ≤ 140737488351232) (hp : ∀ x ∈ l, ndSm x) (ho : ∀ x ∈ l, ndOk x) (hok : treeI l = true) (hc : hangB l c p = true) : Fn pg 19 [sTr l, .lit (.int .i64 c), .lit (.int .i64 p)] [] (.tup [.agg [.sl 500 [] 6 0 l.length], .lit (.bool true)]) [(500, false, 6, rowN (hangT l c p))] := by
  have hT := F_s_TreeOk l (by omega) hp
  rw [tree_agree, hok] at hT
  obtain ⟨hn0, hn1⟩ := treeI_500 hok
  have hC := F_s_l6Copy l hn0 hl ho
  have hin := nodeIn_of (hangB_in hc).1
  have hpi := nodeIn_of (hangB_in hc).2
  have hH := F_s_l6Hang l c p hn1 (kids_ok ho) (kids_ok (takeT_ok ho (treeI_tf hok) hin.1 hin.2).1) (treeI_tf hok) hc
  have hN := F_s_l6Has l c (by omega)
  have hN2 := F_s_l6Has l p (by omega)
  have hO := F_s_l6Opens l p hn1 hpi.1 hpi.2
  have hB := F_s_l6Below l p c hn1 hok (hangB_in hc).2 hin.1
  rw [(hangB_in hc).1] at hN
  rw [(hangB_in hc).2] at hN2
  unfold hangB at hc
  simp only [Bool.and_eq_true, Bool.not_eq_true', decide_eq_false_iff_not] at hc
  obtain ⟨⟨h0, _⟩, _, hm, ha⟩ := hc
  rw [hm] at hO
  rw [ha] at hB
  refine Fn.ofN [0,1,2,3,6,7,10,37] [1003,1006,1039,1041,1044] Try.func19 (by rfl) rfl (by show 3 ≤ 45; decide) (by rfl) ?_
  repeat' ((conv => whnf); first | (refine iteB_dec (fun h => ?_) (fun h => ?_) <;> (try simp (disch := (first | omega | fail)) only [modAt, List.nil_append, List.length_take, List.length_drop, List.length_map, List.length_append, List.length_set, List.length_replicate, len_rowsPart, len_setCell, len_marks, len_markL, len_byR, len_mkL, len_marksN, len_bytesI, len_seenI, len_setKids, len_setPar, len_takeT, len_hangT] at h) <;> (try (exfalso; omega))) | (refine Exists.intro _ (And.intro rfl ?_)) | (refine And.intro (by first | exact True.intro | (simp (disch := (first | omega | fail)) only [List.length_cons, List.length_nil, modAt, List.nil_append, List.length_take, List.length_drop, List.length_map, List.length_append, List.length_set, List.length_replicate, len_rowsPart, len_setCell, len_marks, len_markL, len_byR, len_mkL, len_marksN, len_bytesI, len_seenI, len_setKids, len_setPar, len_takeT, len_hangT]; first | done | omega | fail) | fail) ?_) | (refine Or.inl ?_; apply callV_i; (repeat ((conv => whnf); first | refine And.intro (by first | omega | (simp (disch := (first | omega | fail)) only [List.length_cons, List.length_nil, modAt, List.nil_append, List.length_take, List.length_drop, List.length_map, List.length_append, List.length_set, List.length_replicate, len_rowsPart, len_setCell, len_marks, len_markL, len_byR, len_mkL, len_marksN, len_bytesI, len_seenI, len_setKids, len_setPar, len_takeT, len_hangT]; first | omega | fail) | fail) ?_ | fail)); ((conv => whnf); first | exact FnB.mk (hT) | exact FnB.mk (hC) | exact FnB.mk (hN) | exact FnB.mk (hN2) | exact FnB.mk (hO) | exact FnB.mk (hB) | fail); refine ⟨rfl, rfl, ?_⟩) | (refine Or.inr (Or.inr (callA_ok ?_)); (conv => whnf); apply Exists.intro; apply Exists.intro; apply And.intro; (repeat ((conv => whnf); first | refine And.intro (by first | omega | fail) ?_ | fail)); ((conv => whnf); first | exact FnB.mk (hH) | fail); refine ⟨rfl, ?_⟩) | fail)
  all_goals (refine .mk ⟨trivial, [1041], ⟨rfl, ?_⟩, by simp, rfl, ?_⟩; exact rfl; exact ⟨outOk_new (d := 1041) (by decide) rfl rfl, trivial⟩)


set_option maxHeartbeats 8000000
theorem F_l_FnExactTreeHang (t : List Nd) (c p : Int) (ht : trS t) : Fn pg 5 [sTr t, .lit (.int .i64 c), .lit (.int .i64 p)] [] (.lit (.bool true)) [] := by
  have ho := trS_ok ht
  obtain ⟨ht, _⟩ := ht
  have hZ := F_l_szTree t 1048576 (by omega) (by decide) (by decide) ho
  by_cases hz : 0 ≤ szTr t 1048576
  · have hsm := szTr_sm t hz
    have hst := (szTr_st t 1048576 (by decide) hz).2
    have hE := F_l_eqTree t t (by omega) (by omega) ho ho
    have hM := F_l_markTree t t.length 1 (Nat.le_refl _) (by omega) (by decide) (by omega) (marked_ok ho)
    rw [decide_eq_true rfl] at hE
    rw [List.take_length] at hM
    cases hok : treeI t with
    | false =>
      have hI := F_i_TreeHang_no t c p (by omega) hsm hok
      have hS := F_s_TreeHang_no t c p (by omega) hsm hok
      have hE0 := F_l_eqTree [] [] (by decide) (by decide) (fun x h => by cases h) (fun x h => by cases h)
      rw [decide_eq_true rfl] at hE0
      have hM0 := F_l_markTree_nil 1 (by decide)
      have hH0 := F_l_heldTree_nil 1 (by decide)
      refine Fn.ofN [0,1,2,3,6,7,8,9,10,11,12,13,14,15,16,17,22,48,53,69,77,80,97,102,105] [1003,1008,1010,1011,1016,1025,1028,1032,1037,1051,1083,1086] Try.func5 (by rfl) rfl (by show 3 ≤ 106; decide) (by rfl) ?_
      repeat' ((conv => whnf); first | (refine iteB_dec (fun h => ?_) (fun h => ?_) <;> (try simp (disch := (first | omega | fail)) only [modAt, List.nil_append, List.length_take, List.length_drop, List.length_map, List.length_append, List.length_set, List.length_replicate, len_rowsPart, len_setCell, len_marks, len_markL, len_byR, len_mkL, len_marksN, len_bytesI, len_seenI, len_setKids, len_setPar, len_takeT, len_hangT] at h) <;> (try (exfalso; omega))) | (refine Exists.intro _ (And.intro rfl ?_)) | (refine And.intro (by first | exact True.intro | decide +kernel | (simp (disch := (first | omega | fail)) only [List.length_cons, List.length_nil, modAt, List.nil_append, List.length_take, List.length_drop, List.length_map, List.length_append, List.length_set, List.length_replicate, len_rowsPart, len_setCell, len_marks, len_markL, len_byR, len_mkL, len_marksN, len_bytesI, len_seenI, len_setKids, len_setPar, len_takeT, len_hangT]; first | done | fail) | fail) ?_) | (refine Or.inr (Or.inl (Exists.intro 3 (Exists.intro [(0, true), (1, true), (2, false)] (And.intro (by decide +kernel) ?_))))) | (refine Or.inl ?_; apply callV_i; (repeat ((conv => whnf); first | refine And.intro (by first | omega | (simp (disch := (first | omega | fail)) only [List.length_cons, List.length_nil, modAt, List.nil_append, List.length_take, List.length_drop, List.length_map, List.length_append, List.length_set, List.length_replicate, len_rowsPart, len_setCell, len_marks, len_markL, len_byR, len_mkL, len_marksN, len_bytesI, len_seenI, len_setKids, len_setPar, len_takeT, len_hangT]; first | omega | fail) | fail) ?_ | fail)); ((conv => whnf); first | exact FnB.mk (hZ) | exact FnB.mk (hE0) | exact FnB.mk (hM0) | exact FnB.mk (hH0) | exact FnB.mk (F_l_toTree _ (by first | omega | fail) (by first | omega | fail)) | (simp (disch := (first | omega | fail)) only [takeAll, takeAll2, take_app, take_app2, take_marks, take_dropU, take_byR, take_takeU, take_marksN, take_mkTr]; first | exact FnB.mk (hI) | exact FnB.mk (hS) | exact FnB.mk (hE) | fail) | fail); refine ⟨rfl, rfl, ?_⟩) | (refine Or.inr (Or.inr (callA_ok ?_)); (conv => whnf); apply Exists.intro; apply Exists.intro; apply And.intro; (repeat ((conv => whnf); first | refine And.intro (by first | omega | fail) ?_ | fail)); ((conv => whnf); first | exact FnB.mk (hM) | fail); refine ⟨rfl, ?_⟩) | fail)
      all_goals first | skip | fail
      all_goals first | (refine .mk ⟨trivial, [], ⟨rfl, rfl⟩, List.nodup_nil, rfl, trivial⟩) | fail
    | true =>
      have hn := treeI_500 hok
      cases hc : hangB t c p with
      | false =>
        have hI := F_i_TreeHang_stay t c p ht hsm ho hok hc
        have hS := F_s_TreeHang_stay t c p ht hsm ho hok hc
        have hM2 := hM
        rw [marksN_all] at hM2
        have hH2 := F_l_heldTree_marked t 1 (by omega) (by decide) (by omega) (marked_ok ho)
        refine Fn.ofN [0,1,2,3,6,7,8,9,10,11,12,13,14,15,16,17,22,48,53,69,77,80,97,102,105] [1003,1008,1010,1011,1016,1025,1028,1032,1037,1051,1083,1086] Try.func5 (by rfl) rfl (by show 3 ≤ 106; decide) (by rfl) ?_
        repeat' ((conv => whnf); first | (refine iteB_dec (fun h => ?_) (fun h => ?_) <;> (try simp (disch := (first | omega | fail)) only [modAt, List.nil_append, List.length_take, List.length_drop, List.length_map, List.length_append, List.length_set, List.length_replicate, len_rowsPart, len_setCell, len_marks, len_markL, len_byR, len_mkL, len_marksN, len_bytesI, len_seenI, len_setKids, len_setPar, len_takeT, len_hangT] at h) <;> (try (exfalso; omega))) | (refine Exists.intro _ (And.intro rfl ?_)) | (refine And.intro (by first | exact True.intro | decide +kernel | (simp (disch := (first | omega | fail)) only [List.length_cons, List.length_nil, modAt, List.nil_append, List.length_take, List.length_drop, List.length_map, List.length_append, List.length_set, List.length_replicate, len_rowsPart, len_setCell, len_marks, len_markL, len_byR, len_mkL, len_marksN, len_bytesI, len_seenI, len_setKids, len_setPar, len_takeT, len_hangT]; first | done | fail) | fail) ?_) | (refine Or.inr (Or.inl (Exists.intro 3 (Exists.intro [(0, true), (1, true), (2, false)] (And.intro (by decide +kernel) ?_))))) | (refine Or.inl ?_; apply callV_i; (repeat ((conv => whnf); first | refine And.intro (by first | omega | (simp (disch := (first | omega | fail)) only [List.length_cons, List.length_nil, modAt, List.nil_append, List.length_take, List.length_drop, List.length_map, List.length_append, List.length_set, List.length_replicate, len_rowsPart, len_setCell, len_marks, len_markL, len_byR, len_mkL, len_marksN, len_bytesI, len_seenI, len_setKids, len_setPar, len_takeT, len_hangT]; first | omega | fail) | fail) ?_ | fail)); ((conv => whnf); first | exact FnB.mk (hZ) | exact FnB.mk (F_l_toTree _ (by first | omega | fail) (by first | omega | fail)) | (simp (disch := (first | omega | fail)) only [takeAll, takeAll2, take_app, take_app2, take_marks, take_dropU, take_byR, take_takeU, take_marksN, take_mkTr]; first | exact FnB.mk (hI) | exact FnB.mk (hS) | exact FnB.mk (hE) | exact FnB.mk (hH2) | fail) | fail); refine ⟨rfl, rfl, ?_⟩) | (refine Or.inr (Or.inr (callA_ok ?_)); (conv => whnf); apply Exists.intro; apply Exists.intro; apply And.intro; (repeat ((conv => whnf); first | refine And.intro (by first | omega | fail) ?_ | fail)); ((conv => whnf); first | exact FnB.mk (hM2) | fail); refine ⟨rfl, ?_⟩) | fail)
        all_goals first | (exact absurd trivial (by assumption)) | skip | fail
        all_goals first | (refine .mk ⟨trivial, [], ⟨rfl, rfl⟩, List.nodup_nil, rfl, trivial⟩) | fail
      | true =>
        have hin := nodeIn_of (hangB_in hc).1
        have hpi := nodeIn_of (hangB_in hc).2
        obtain ⟨ho2, hst2⟩ := hangT_ok ho hn.2 (treeI_tf hok) hin.1 hin.2 hpi
        have hl2 := len_hangT t c p
        have hI := F_i_TreeHang_go t c p ht hsm ho hok hc
        have hS := F_s_TreeHang_go t c p ht hsm ho hok hc
        rw [← hl2] at hI hS
        have hE2 := F_l_eqTree (hangT t c p) (hangT t c p) (by omega) (by omega) ho2 ho2
        have hM2 := F_l_markTree (hangT t c p) (hangT t c p).length 1 (Nat.le_refl _) (by omega) (by decide) (by omega) (marked_ok ho2)
        rw [List.take_length, marksN_all] at hM2
        have hH2 := F_l_heldTree_marked (hangT t c p) 1 (by omega) (by decide) (by omega) (marked_ok ho2)
        rw [decide_eq_true rfl] at hE2
        refine Fn.ofN [0,1,2,3,6,7,8,9,10,11,12,13,14,15,16,17,22,48,53,69,77,80,97,102,105] [1003,1008,1010,1011,1016,1025,1028,1032,1037,1051,1083,1086] Try.func5 (by rfl) rfl (by show 3 ≤ 106; decide) (by rfl) ?_
        repeat' ((conv => whnf); first | (refine iteB_dec (fun h => ?_) (fun h => ?_) <;> (try simp (disch := (first | omega | fail)) only [modAt, List.nil_append, List.length_take, List.length_drop, List.length_map, List.length_append, List.length_set, List.length_replicate, len_rowsPart, len_setCell, len_marks, len_markL, len_byR, len_mkL, len_marksN, len_bytesI, len_seenI, len_setKids, len_setPar, len_takeT, len_hangT] at h) <;> (try (exfalso; omega))) | (refine Exists.intro _ (And.intro rfl ?_)) | (refine And.intro (by first | exact True.intro | decide +kernel | (simp (disch := (first | omega | fail)) only [List.length_cons, List.length_nil, modAt, List.nil_append, List.length_take, List.length_drop, List.length_map, List.length_append, List.length_set, List.length_replicate, len_rowsPart, len_setCell, len_marks, len_markL, len_byR, len_mkL, len_marksN, len_bytesI, len_seenI, len_setKids, len_setPar, len_takeT, len_hangT]; first | done | fail) | fail) ?_) | (refine Or.inr (Or.inl (Exists.intro 3 (Exists.intro [(0, true), (1, true), (2, false)] (And.intro (by decide +kernel) ?_))))) | (refine Or.inl ?_; apply callV_i; (repeat ((conv => whnf); first | refine And.intro (by first | omega | (simp (disch := (first | omega | fail)) only [List.length_cons, List.length_nil, modAt, List.nil_append, List.length_take, List.length_drop, List.length_map, List.length_append, List.length_set, List.length_replicate, len_rowsPart, len_setCell, len_marks, len_markL, len_byR, len_mkL, len_marksN, len_bytesI, len_seenI, len_setKids, len_setPar, len_takeT, len_hangT]; first | omega | fail) | fail) ?_ | fail)); ((conv => whnf); first | exact FnB.mk (hZ) | exact FnB.mk (F_l_toTree _ (by first | omega | fail) (by first | omega | fail)) | (simp (disch := (first | omega | fail)) only [takeAll, takeAll2, take_app, take_app2, take_marks, take_dropU, take_byR, take_takeU, take_marksN, take_mkTr]; first | exact FnB.mk (hI) | exact FnB.mk (hS) | exact FnB.mk (hE) | exact FnB.mk (hE2) | exact FnB.mk (hH2) | fail) | fail); refine ⟨rfl, rfl, ?_⟩) | (refine Or.inr (Or.inr (callA_ok ?_)); (conv => whnf); apply Exists.intro; apply Exists.intro; apply And.intro; (repeat ((conv => whnf); first | refine And.intro (by first | omega | fail) ?_ | fail)); ((conv => whnf); first | exact FnB.mk (hM) | exact FnB.mk (hM2) | fail); refine ⟨rfl, ?_⟩) | fail)
        all_goals first | (exact absurd trivial (by assumption)) | skip | fail
        all_goals first | (refine .mk ⟨trivial, [], ⟨rfl, rfl⟩, List.nodup_nil, rfl, trivial⟩) | fail
  · refine Fn.ofN [0,1,2,3,6,7,8,9,10,11,12,13,14,15,16,17,22,48,53,69,77,80,97,102,105] [1003,1008,1010,1011,1016,1025,1028,1032,1037,1051,1083,1086] Try.func5 (by rfl) rfl (by show 3 ≤ 106; decide) (by rfl) ?_
    repeat' ((conv => whnf); first | (refine iteB_dec (fun h => ?_) (fun h => ?_) <;> (try simp (disch := (first | omega | fail)) only [modAt, List.nil_append, List.length_take, List.length_drop, List.length_map, List.length_append, List.length_set, List.length_replicate, len_rowsPart, len_setCell, len_marks, len_markL, len_byR, len_mkL, len_marksN, len_bytesI, len_seenI, len_setKids, len_setPar, len_takeT, len_hangT] at h) <;> (try (exfalso; omega))) | (refine Exists.intro _ (And.intro rfl ?_)) | (refine Or.inl ?_; apply callV_i; (repeat ((conv => whnf); first | refine And.intro (by first | omega | fail) ?_ | fail)); ((conv => whnf); first | exact FnB.mk (hZ) | fail); refine ⟨rfl, rfl, ?_⟩) | fail)
    all_goals first | (refine .mk ⟨trivial, [], ⟨rfl, rfl⟩, List.nodup_nil, rfl, trivial⟩) | fail


end Go.Proofs.Ytpmcmooaokkojaa.M

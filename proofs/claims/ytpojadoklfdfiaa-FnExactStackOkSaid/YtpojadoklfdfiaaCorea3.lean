/- What several laws reach: for each Go function its Lean twin, and that Go's call comes to just what the twin says; no condition but the twin's own answer. -/
import Derived.Test.YtpojadoklfdfiaaCorea0
import Derived.Test.YtpojadoklfdfiaaCorea1
import Derived.Test.YtpojadoklfdfiaaCorea2

namespace Go.Proofs.Ytpojadoklfdfiaa.G
open Go.RowKit Go.Proofs.Ytpojadoklfdfiaa.B Go.Proofs.YtpojadoklfdfiaaW.PrintWords Go.Proofs.YtpojadoklfdfiaaW.PrintLast Go.Proofs.YtpojadoklfdfiaaW.PrintMore
attribute [local go_sem] max2_int min2_int max_two min_two max_three min_three max_four min_four   -- for this text's walks alone
set_option linter.unusedVariables false
set_option linter.unusedSimpArgs false
/-! ### zq15: function 89 -/
mutual
def zq15.l0 : Nat → List Int → List (S64) → Int → Int → List (S64) → Option (Bool)
 | 0, _, _, _, _, _ => none
 | k + 1, x3, x19, x20, x21, x1000 => if x21 < x20 then (if 0 ≤ x21 then (if x21 < (x19.length : Int) then (zq15.l1 k x3 x21 x19 x20 x21 ((rd_T64 x19 x21).f5) (((rd_T64 x19 x21).f5).length : Int) 0 x1000) else (none)) else (none)) else (zq15.l2 k x3 x1000 (x1000.length : Int) 0 x1000)
def zq15.l1 : Nat → List Int → Int → List (S64) → Int → Int → List Int → Int → Int → List (S64) → Option (Bool)
 | 0, _, _, _, _, _, _, _, _, _ => none
 | k + 1, x3, x4, x19, x20, x21, x27, x28, x29, x1000 => if x29 < x28 then (if 0 ≤ x29 then (if x29 < (x27.length : Int) then ((zq33.f x1000 (rd x27 x29)).bind fun t344 => (if t344 = true then (if 0 ≤ (rd x27 x29) then (if (rd x27 x29) < (x1000.length : Int) then (if ((rd_T64 x1000 (rd x27 x29)).f4) = x4 then (if (rd x27 x29) < (x3.length : Int) then (if (rd x3 (rd x27 x29)) > 0 then (some false) else (zq15.l1 k (x3.set ((rd x27 x29) : Int).toNat (wrap64 ((rd x3 (rd x27 x29)) + 1))) x4 x19 x20 x21 x27 x28 (wrap64 (x29 + 1)) x1000)) else (none)) else (some false)) else (none)) else (none)) else (some false))) else (none)) else (none)) else (zq15.l0 k x3 x19 x20 (wrap64 (x21 + 1)) x1000)
def zq15.l2 : Nat → List Int → List (S64) → Int → Int → List (S64) → Option (Bool)
 | 0, _, _, _, _, _ => none
 | k + 1, x3, x67, x68, x69, x1000 => if x69 < x68 then (if 0 ≤ x69 then (if x69 < (x67.length : Int) then (if x69 < (x3.length : Int) then (if ((((rd_T64 x67 x69).f4) == (-1)) == (decide ((rd x3 x69) > 0))) = true then (some false) else ((zq19.f k x1000 x69 ((rd_T64 x67 x69).f4)).bind fun t352 => (if t352 = true then (some false) else (zq15.l2 k x3 x67 x68 (wrap64 (x69 + 1)) x1000)))) else (none)) else (none)) else (none)) else (some true)
end
def zq15.f (k : Nat) (l0_0 : List (S64)) : Option (Bool) := if 0 ≤ (l0_0.length : Int) then (if ((l0_0.length : Int) : Int).toNat ≤ 35184372088832 then (zq15.l0 k (List.replicate ((l0_0.length : Int) : Int).toNat 0) l0_0 (l0_0.length : Int) 0 l0_0) else (none)) else (none)
theorem zq15.mono_l : ∀ k, (∀ y0 y1 y2 y3 y4, LeO (zq15.l0 k y0 y1 y2 y3 y4) (zq15.l0 (k + 1) y0 y1 y2 y3 y4)) ∧ (∀ y0 y1 y2 y3 y4 y5 y6 y7 y8, LeO (zq15.l1 k y0 y1 y2 y3 y4 y5 y6 y7 y8) (zq15.l1 (k + 1) y0 y1 y2 y3 y4 y5 y6 y7 y8)) ∧ (∀ y0 y1 y2 y3 y4, LeO (zq15.l2 k y0 y1 y2 y3 y4) (zq15.l2 (k + 1) y0 y1 y2 y3 y4))
 | 0 => ⟨fun _ _ _ _ _ r h => by simp [zq15.l0] at h, fun _ _ _ _ _ _ _ _ _ r h => by simp [zq15.l1] at h, fun _ _ _ _ _ r h => by simp [zq15.l2] at h⟩
 | k + 1 => by
  obtain ⟨ih0, ih1, ih2⟩ := zq15.mono_l k
  refine ⟨?_, ?_, ?_⟩
  ·intro y0 y1 y2 y3 y4
   unfold zq15.l0
   repeat' first
   | (with_reducible exact ih0 _ _ _ _ _)
   | (with_reducible exact ih1 _ _ _ _ _ _ _ _ _)
   | (with_reducible exact ih2 _ _ _ _ _)
   | (with_reducible exact zq19.mono _ _ _ _)
   | (with_reducible exact LeO.refl _)
   | (with_reducible exact LeO.none _)
   | (with_reducible refine LeO.ite ?_ ?_)
   | (with_reducible refine LeO.bind ?_ (fun _ => ?_))
  ·intro y0 y1 y2 y3 y4 y5 y6 y7 y8
   unfold zq15.l1
   repeat' first
   | (with_reducible exact ih0 _ _ _ _ _)
   | (with_reducible exact ih1 _ _ _ _ _ _ _ _ _)
   | (with_reducible exact ih2 _ _ _ _ _)
   | (with_reducible exact zq19.mono _ _ _ _)
   | (with_reducible exact LeO.refl _)
   | (with_reducible exact LeO.none _)
   | (with_reducible refine LeO.ite ?_ ?_)
   | (with_reducible refine LeO.bind ?_ (fun _ => ?_))
  ·intro y0 y1 y2 y3 y4
   unfold zq15.l2
   repeat' first
   | (with_reducible exact ih0 _ _ _ _ _)
   | (with_reducible exact ih1 _ _ _ _ _ _ _ _ _)
   | (with_reducible exact ih2 _ _ _ _ _)
   | (with_reducible exact zq19.mono _ _ _ _)
   | (with_reducible exact LeO.refl _)
   | (with_reducible exact LeO.none _)
   | (with_reducible refine LeO.ite ?_ ?_)
   | (with_reducible refine LeO.bind ?_ (fun _ => ?_))
theorem zq15.mono : ∀ a0 k, LeO (zq15.f k a0) (zq15.f (k + 1) a0) := by
 intro a0 k
 obtain ⟨ih0, ih1, ih2⟩ := zq15.mono_l k
 unfold zq15.f
 repeat' first
   | (with_reducible exact ih0 _ _ _ _ _)
   | (with_reducible exact ih1 _ _ _ _ _ _ _ _ _)
   | (with_reducible exact ih2 _ _ _ _ _)
   | (with_reducible exact zq19.mono _ _ _ _)
   | (with_reducible exact LeO.refl _)
   | (with_reducible exact LeO.none _)
   | (with_reducible refine LeO.ite ?_ ?_)
   | (with_reducible refine LeO.bind ?_ (fun _ => ?_))
set_option maxHeartbeats 8000000 in
set_option maxRecDepth 100000 in
theorem zq15.calls (k : Nat) (g0 : Nat) (A0_0 : Option Addr) (c0_0 : Nat) (l0_0 : List (S64)) (r : Bool) (w : World) (hb0 : w.heap[g0]? = some (.cells #[.slice A0_0 l0_0.length c0_0] 29 (0, 0))) (hr0_0 : Kd.C k64 w A0_0 l0_0.length l0_0) (hc0_0 : l0_0.length ≤ c0_0) (h : zq15.f k l0_0 = some r) :
  Calls Try.prog 89 #[.pointer (some ⟨g0, 0, none⟩)] w fun e w' => e = .returned (.bool r) ∧ Below w.heap.size w w' := by
 have hu64 := Try.underlying64
 have HR0_0 := Aside0.mk hr0_0
 have HC0_0 := Aside0.mk hc0_0
 clear hr0_0 hc0_0
 have BK0 := Aside0.mk hb0
 clear hb0
 have HB := Aside0.mk (Below.refl w.heap.size w)
 have H : (if 0 ≤ (l0_0.length : Int) then (if ((l0_0.length : Int) : Int).toNat ≤ 35184372088832 then (zq15.l0 k (List.replicate ((l0_0.length : Int) : Int).toNat 0) l0_0 (l0_0.length : Int) 0 l0_0) else (none)) else (none)) = some r := h
 clear h
 by_cases c2 : 0 ≤ (l0_0.length : Int)
 ·rw [if_pos c2] at H
  have c2b0 := eq_true c2
  have c2b1 : decide (0 ≤ (l0_0.length : Int)) = true := decide_eq_true c2
  clear c2
  by_cases c3 : ((l0_0.length : Int) : Int).toNat ≤ 35184372088832
  ·rw [if_pos c3] at H
   have c3b0 := eq_true c3
   have c3b1 : decide (((l0_0.length : Int) : Int).toNat ≤ 35184372088832) = true := decide_eq_true c3
   clear c3
   obtain ⟨y338, hy338⟩ : ∃ y_ : List Int, y_ = (List.replicate ((l0_0.length : Int) : Int).toNat 0) := ⟨_, rfl⟩
   replace H : (zq15.l0 k y338 l0_0 (l0_0.length : Int) 0 l0_0) = some r := by first | (rw [hy338]; with_reducible exact H) | (have H2_ := (Option.bind_some _ _).symm.trans H; rw [hy338]; with_reducible exact H2_) | (have H2_ := (Option.bind_some _ _).symm.trans H; with_reducible exact H2_) | with_reducible exact H | (rw [hy338]; exact H) | exact H
   have Ny338 := Aside0.mk hy338
   clear hy338
   have H' := Aside0.mk H
   clear H
   obtain ⟨hcz4_0, hfz4_0⟩ := cells1 BK0.out
   go_enter Try.func89, Try.ntmps89
   go_wp2_with (first | ((refine gate_dst (N := 15) rfl ?_); refine Kd.R_make (Kd.int .i64) _ 3 rfl (N := 15) rfl 33 _ _ rfl (l0_0.length : Int) rfl rfl Try.underlying33 (.int .i64 0) 8 info3 rfl (by decide) (by omega) 0 (ok := fun _ => True) (okp := fun _ => True) rfl (fun _ hk => hk) trivial (of_decide_eq_true (by assumption)) (Nat.le_trans (Nat.mul_le_mul_right _ (of_decide_eq_true (by assumption) : (l0_0.length : Int).toNat ≤ 35184372088832)) (by omega)) (Below.refl _ _) (Nat.le_refl _) ?_; intro v339 w5 ho6 hb hg_ hnew_; clear hg_ hnew_; (first | rw [← Ny338.out] at ho6 | (simp only [Int.reduceToNat] at ho6; rw [← Ny338.out] at ho6)); have HO340 := Aside0.mk (Kd.R_lower ho6 (below_size (by repeat (with_reducible first | exact HB.out | apply zq2 | apply zq0 | apply zq1 | refine zq3 ?_ GE0.out)))); replace BK0 := Aside0.mk (zq10 (g := g0) (o := .cells #[.slice A0_0 l0_0.length c0_0] 29 (0, 0)) (by (with_reducible repeat (first | refine zq4 ?_ _ | refine zq6 ?_ | refine zq5 ?_ _)); exact BK0.out) hb); replace HB := Aside0.mk (zq7 (by repeat (with_reducible first | exact HB.out | apply zq2 | apply zq0 | apply zq1 | refine zq3 ?_ GE0.out)) hb); clear hb ho6; obtain ⟨hcz7_0, hfz7_0⟩ := cells1 BK0.out))
   repeat (go_quiet (fail); try go_wp2_with fail)
   go_loopg [21] k (fun kq v21 w' => ∃ (x3_1 : List Int) (x21_1 : Int), v21 = .int .i64 x21_1 ∧ Aside0 (zq15.l0 kq x3_1 l0_0 (l0_0.length : Int) x21_1 l0_0 = some r) ∧ Aside0 (kq ≤ k) ∧ Aside0 (Kd.R (Kd.int .i64) 3 w' w.heap.size (fun _ => True) v339 x3_1) ∧ Aside0 (w'.heap[g0]? = some (.cells #[(.slice A0_0 l0_0.length c0_0)] 29 (0, 0))) ∧ Aside0 (Below w.heap.size w w'))
   case atStart => exact ⟨(y338), (0), (by first | rfl | simp | simp [*]), H', ⟨Nat.le_refl _⟩, ⟨by (with_reducible repeat (first | apply Kd.R_alloc | apply Kd.R_drewN | apply Kd.R_drew)); exact HO340.out⟩, ⟨by (with_reducible repeat (first | refine zq4 ?_ _ | refine zq6 ?_ | refine zq5 ?_ _)); exact BK0.out⟩, ⟨by repeat (first | (with_reducible first | exact HB.out | apply zq2 | apply zq0 | apply zq1 | refine zq3 ?_ GE0.out) | exact HB.out)⟩⟩
   case round =>
    clear H'
    obtain ⟨x3_1, x21_1, rfl, HA, HK1, HO_3, BK0, HB⟩ := hrel
    cases gk with
    | zero => exact absurd HA.out (by simp [zq15.l0])
    | succ k1 =>
     have H := HA.out
     clear HA
     simp only [zq15.l0] at H
     by_cases c8 : x21_1 < (l0_0.length : Int)
     ·rw [if_pos c8] at H
      have c8b0 : decide (x21_1 < (l0_0.length : Int)) = true := decide_eq_true c8
      clear c8
      by_cases c9 : 0 ≤ x21_1
      ·rw [if_pos c9] at H
       have c9b0 : decide (0 ≤ x21_1) = true := decide_eq_true c9
       clear c9
       by_cases c10 : x21_1 < (l0_0.length : Int)
       ·rw [if_pos c10] at H
        have c10b0 : decide (x21_1 < (l0_0.length : Int)) = true := decide_eq_true c10
        clear c10
        have H' := Aside0.mk H
        clear H
        have p341 : 0 ≤ (x21_1 : Int) := of_decide_eq_true (by assumption)
        have q341 : x21_1 < (l0_0.length : Int) := of_decide_eq_true (by assumption)
        obtain ⟨ad341, A341_2, c341_2, A341_5, c341_5, e341, hx341_0, hx341_1, hx341_2, hx341_3, hx341_4, hx341_5, hl341_2, hi341_2, hl341_5, hi341_5⟩ := at_T64 HR0_0.out x21_1 p341 q341
        cases e341
        replace hx341_0 := pw_cell_below HB.out hx341_0
        replace hx341_1 := pw_cell_below HB.out hx341_1
        replace hx341_2 := pw_cell_below HB.out hx341_2
        replace hx341_3 := pw_cell_below HB.out hx341_3
        replace hx341_4 := pw_cell_below HB.out hx341_4
        replace hx341_5 := pw_cell_below HB.out hx341_5
        have HR341_2 := Aside0.mk hi341_2
        have HC341_2 := Aside0.mk hl341_2
        clear hi341_2 hl341_2
        have HR341_5 := Aside0.mk hi341_5
        have HC341_5 := Aside0.mk hl341_5
        clear hi341_5 hl341_5
        replace p341 := eq_true p341
        replace q341 := eq_true q341
        go_wp2_with (first | ((refine gate_dst (N := 5) rfl ?_); refine box_event ?hg (N := 5) ?hd (cs := #[.int .i64 0, .string (⟨#[]⟩ : ByteArray), .slice none 0 0, .string (⟨#[]⟩ : ByteArray), .int .i64 0, .slice none 0 0]) (t := 64) ?hr ?_; (case hd => rfl); (case hg => rfl); (case hr => first | (go_simp; done) | (go_simp; rfl)); intro gb342 hg w11 hbox hb; replace HO_3 := Aside0.mk (Kd.R_below (by (with_reducible repeat (first | apply Kd.R_alloc | apply Kd.R_drewN | apply Kd.R_drew)); exact HO_3.out) hb); have BK342 := Aside0.mk (hbox); have GW342 := Aside0.mk ((by rw [hg]; exact (below_size (by repeat (with_reducible first | exact HB.out | apply zq2 | apply zq0 | apply zq1 | refine zq3 ?_ GE0.out))) : w.heap.size ≤ gb342)); replace HB := Aside0.mk (zq7 (by repeat (with_reducible first | exact HB.out | apply zq2 | apply zq0 | apply zq1 | refine zq3 ?_ GE0.out)) hb); have NB0_342 := Aside0.mk ((by rw [hg]; exact Nat.ne_of_lt (blk_lt (g := g0) (o := .cells #[.slice (some ad341) l0_0.length c0_0] 29 (0, 0)) (by (with_reducible repeat (first | refine zq4 ?_ _ | refine zq6 ?_ | refine zq5 ?_ _)); exact BK0.out)) : g0 ≠ gb342)); have NB342_0 := Aside0.mk ((by rw [hg]; exact Nat.ne_of_gt (blk_lt (g := g0) (o := .cells #[.slice (some ad341) l0_0.length c0_0] 29 (0, 0)) (by (with_reducible repeat (first | refine zq4 ?_ _ | refine zq6 ?_ | refine zq5 ?_ _)); exact BK0.out)) : gb342 ≠ g0)); replace BK0 := Aside0.mk (zq10 (g := g0) (o := .cells #[.slice (some ad341) l0_0.length c0_0] 29 (0, 0)) (by (with_reducible repeat (first | refine zq4 ?_ _ | refine zq6 ?_ | refine zq5 ?_ _)); exact BK0.out) hb); have GE342 := GW342; clear hb hbox hg; have hnb12 := NB342_0.out; have hnc12 := NB0_342.out; obtain ⟨hcz13_0, hcz13_1, hcz13_2, hcz13_3, hcz13_4, hcz13_5, hfz13_0, hfz13_1, hfz13_2, hfz13_3, hfz13_4, hfz13_5⟩ := cells6 BK342.out))
        repeat (go_quiet (fail); try go_wp2_with fail)
        go_loopg [29] k1 (fun kq v29 w' => ∃ (x3_2 : List Int) (x29_2 : Int), v29 = .int .i64 x29_2 ∧ Aside0 (zq15.l1 kq x3_2 x21_1 l0_0 (l0_0.length : Int) x21_1 ((rd_T64 l0_0 x21_1).f5) (((rd_T64 l0_0 x21_1).f5).length : Int) x29_2 l0_0 = some r) ∧ Aside0 (kq ≤ k1) ∧ Aside0 (Kd.R (Kd.int .i64) 3 w' w.heap.size (fun _ => True) v339 x3_2) ∧ Aside0 (w'.heap[g0]? = some (.cells #[(.slice (some ad341) l0_0.length c0_0)] 29 (0, 0))) ∧ Aside0 (w'.heap[gb342]? = some (.cells #[.int .i64 ((rd_T64 l0_0 x21_1).f0), .string ((rd_T64 l0_0 x21_1).f1), (.slice A341_2 ((rd_T64 l0_0 x21_1).f2).length c341_2), .string ((rd_T64 l0_0 x21_1).f3), .int .i64 ((rd_T64 l0_0 x21_1).f4), (.slice A341_5 ((rd_T64 l0_0 x21_1).f5).length c341_5)] 64 (0, 0))) ∧ Aside0 (Below w.heap.size w w'))
        case atStart => exact ⟨(x3_1), (0), (by first | rfl | simp | simp [*]), H', ⟨Nat.le_refl _⟩, ⟨by (with_reducible repeat (first | apply Kd.R_alloc | apply Kd.R_drewN | apply Kd.R_drew)); exact Kd.R_mono (Kd.R_far (p := ⟨gb342, 5, none⟩) (Kd.R_far (p := ⟨gb342, 4, none⟩) (Kd.R_far (p := ⟨gb342, 3, none⟩) (Kd.R_far (p := ⟨gb342, 2, none⟩) (Kd.R_far (p := ⟨gb342, 1, none⟩) (Kd.R_far (p := ⟨gb342, 0, none⟩) (Kd.R_types HO_3.out BK342.out (by decide)) (fun _ hk => hk.2) (.int .i64 ((rd_T64 l0_0 x21_1).f0))) (fun _ hk => hk.2) (.string ((rd_T64 l0_0 x21_1).f1))) (fun _ hk => hk.2) (.slice A341_2 ((rd_T64 l0_0 x21_1).f2).length c341_2)) (fun _ hk => hk.2) (.string ((rd_T64 l0_0 x21_1).f3))) (fun _ hk => hk.2) (.int .i64 ((rd_T64 l0_0 x21_1).f4))) (fun _ hk => hk.2) (.slice A341_5 ((rd_T64 l0_0 x21_1).f5).length c341_5)) (fun _ hk => trivial)⟩, ⟨by (with_reducible repeat (first | refine zq4 ?_ _ | refine zq6 ?_ | refine zq5 ?_ _ | refine blk_far ?_ NB0_342.out _)); exact BK0.out⟩, ⟨by (with_reducible repeat (first | refine zq4 ?_ _ | refine zq6 ?_ | refine zq5 ?_ _)); refine blk_put (cs := #[.int .i64 ((rd_T64 l0_0 x21_1).f0), .string ((rd_T64 l0_0 x21_1).f1), .slice A341_2 ((rd_T64 l0_0 x21_1).f2).length c341_2, .string ((rd_T64 l0_0 x21_1).f3), .int .i64 ((rd_T64 l0_0 x21_1).f4), .slice none 0 0]) ?_ 5 _ rfl; (with_reducible repeat (first | refine zq4 ?_ _ | refine zq6 ?_ | refine zq5 ?_ _)); refine blk_put (cs := #[.int .i64 ((rd_T64 l0_0 x21_1).f0), .string ((rd_T64 l0_0 x21_1).f1), .slice A341_2 ((rd_T64 l0_0 x21_1).f2).length c341_2, .string ((rd_T64 l0_0 x21_1).f3), .int .i64 0, .slice none 0 0]) ?_ 4 _ rfl; (with_reducible repeat (first | refine zq4 ?_ _ | refine zq6 ?_ | refine zq5 ?_ _)); refine blk_put (cs := #[.int .i64 ((rd_T64 l0_0 x21_1).f0), .string ((rd_T64 l0_0 x21_1).f1), .slice A341_2 ((rd_T64 l0_0 x21_1).f2).length c341_2, .string (⟨#[]⟩ : ByteArray), .int .i64 0, .slice none 0 0]) ?_ 3 _ rfl; (with_reducible repeat (first | refine zq4 ?_ _ | refine zq6 ?_ | refine zq5 ?_ _)); refine blk_put (cs := #[.int .i64 ((rd_T64 l0_0 x21_1).f0), .string ((rd_T64 l0_0 x21_1).f1), .slice none 0 0, .string (⟨#[]⟩ : ByteArray), .int .i64 0, .slice none 0 0]) ?_ 2 _ rfl; (with_reducible repeat (first | refine zq4 ?_ _ | refine zq6 ?_ | refine zq5 ?_ _)); refine blk_put (cs := #[.int .i64 ((rd_T64 l0_0 x21_1).f0), .string (⟨#[]⟩ : ByteArray), .slice none 0 0, .string (⟨#[]⟩ : ByteArray), .int .i64 0, .slice none 0 0]) ?_ 1 _ rfl; (with_reducible repeat (first | refine zq4 ?_ _ | refine zq6 ?_ | refine zq5 ?_ _)); refine blk_put (cs := #[.int .i64 0, .string (⟨#[]⟩ : ByteArray), .slice none 0 0, .string (⟨#[]⟩ : ByteArray), .int .i64 0, .slice none 0 0]) ?_ 0 _ rfl; (with_reducible repeat (first | refine zq4 ?_ _ | refine zq6 ?_ | refine zq5 ?_ _)); exact BK342.out⟩, ⟨by repeat (first | (with_reducible first | exact HB.out | apply zq2 | apply zq0 | apply zq1 | refine zq3 ?_ GE0.out | refine zq3 ?_ GE342.out) | exact HB.out)⟩⟩
        case round =>
         clear H'
         obtain ⟨x3_2, x29_2, rfl, HA, HK2, HO_3, BK0, BK342, HB⟩ := hrel
         cases gk with
         | zero => exact absurd HA.out (by simp [zq15.l1])
         | succ k2 =>
          have H := HA.out
          clear HA
          simp only [zq15.l1] at H
          by_cases c14 : x29_2 < (((rd_T64 l0_0 x21_1).f5).length : Int)
          ·rw [if_pos c14] at H
           have c14b0 : decide (x29_2 < (((rd_T64 l0_0 x21_1).f5).length : Int)) = true := decide_eq_true c14
           clear c14
           by_cases c15 : 0 ≤ x29_2
           ·rw [if_pos c15] at H
            have c15b0 : decide (0 ≤ x29_2) = true := decide_eq_true c15
            clear c15
            by_cases c16 : x29_2 < (((rd_T64 l0_0 x21_1).f5).length : Int)
            ·rw [if_pos c16] at H
             have c16b0 : decide (x29_2 < (((rd_T64 l0_0 x21_1).f5).length : Int)) = true := decide_eq_true c16
             clear c16
             replace H := Option.bind_eq_some_iff.mp H
             obtain ⟨t344, A170, H⟩ := H
             (try dsimp only at H)
             have A17 := Aside0.mk A170
             clear A170
             by_cases c18 : t344 = true
             ·subst c18
              rw [if_pos rfl] at H
              by_cases c19 : 0 ≤ (rd ((rd_T64 l0_0 x21_1).f5) x29_2)
              ·rw [if_pos c19] at H
               have c19b0 : decide (0 ≤ (rd ((rd_T64 l0_0 x21_1).f5) x29_2)) = true := decide_eq_true c19
               clear c19
               by_cases c20 : (rd ((rd_T64 l0_0 x21_1).f5) x29_2) < (l0_0.length : Int)
               ·rw [if_pos c20] at H
                have c20b0 : decide ((rd ((rd_T64 l0_0 x21_1).f5) x29_2) < (l0_0.length : Int)) = true := decide_eq_true c20
                clear c20
                by_cases c21 : ((rd_T64 l0_0 (rd ((rd_T64 l0_0 x21_1).f5) x29_2)).f4) = x21_1
                ·rw [if_pos c21] at H
                 have c21b0 := beq_iff_eq.mpr c21
                 have c21b1 := bne_eq_false_iff_eq.mpr c21
                 clear c21
                 by_cases c22 : (rd ((rd_T64 l0_0 x21_1).f5) x29_2) < (x3_2.length : Int)
                 ·rw [if_pos c22] at H
                  have c22b0 : decide ((rd ((rd_T64 l0_0 x21_1).f5) x29_2) < (x3_2.length : Int)) = true := decide_eq_true c22
                  clear c22
                  by_cases c23 : (rd x3_2 (rd ((rd_T64 l0_0 x21_1).f5) x29_2)) > 0
                  ·rw [if_pos c23] at H
                   have c23b0 : decide (0 < (rd x3_2 (rd ((rd_T64 l0_0 x21_1).f5) x29_2))) = true := decide_eq_true c23
                   clear c23
                   obtain rfl := Option.some.inj H
                   have p343 : 0 ≤ (x29_2 : Int) := of_decide_eq_true (by assumption)
                   have q343 : x29_2 < (((rd_T64 l0_0 x21_1).f5).length : Int) := of_decide_eq_true (by assumption)
                   obtain ⟨ad343, e343, hx343_0⟩ := Kd.at_int HR341_5.out x29_2 p343 q343
                   cases e343
                   replace hx343_0 := pw_cell_below HB.out hx343_0
                   replace p343 := eq_true p343
                   replace q343 := eq_true q343
                   go_wp2_with (first | (go_at_call 57; (with_reducible refine (zq33.calls g0 (some ad341) c0_0 l0_0 (rd ((rd_T64 l0_0 x21_1).f5) x29_2) true _ ?side1 ?side2 ?side3 A17.out).mono ?_); (case side1 => exact (by (with_reducible repeat (first | refine zq4 ?_ _ | refine zq6 ?_ | refine zq5 ?_ _)); exact BK0.out)); (case side2 => repeat (first | exact (Kd.C_below HR0_0.out HB.out) | (with_reducible refine Kd.C_alloc ?_ _) | (with_reducible refine Kd.C_drewN ?_ _) | (with_reducible refine Kd.C_drew ?_))); (case side3 => exact HC0_0.out); rintro e w' ⟨rfl, ⟨nd, rfl⟩⟩; (try first | exact ⟨rfl, _, World.drewN_drewN _ _ _⟩ | exact ⟨rfl, _, Eq.trans (World.drewN_drewN _ _ _) (congrArg (World.drewN _) (Nat.add_assoc _ _ _))⟩); have hnb24 := NB0_342.out; have hnc24 := NB342_0.out; obtain ⟨hcz25_0, hfz25_0⟩ := cells1 BK0.out; have p345 : 0 ≤ ((rd ((rd_T64 l0_0 x21_1).f5) x29_2) : Int) := of_decide_eq_true (by assumption); have q345 : (rd ((rd_T64 l0_0 x21_1).f5) x29_2) < (l0_0.length : Int) := of_decide_eq_true (by assumption); obtain ⟨ad345, A345_2, c345_2, A345_5, c345_5, e345, hx345_0, hx345_1, hx345_2, hx345_3, hx345_4, hx345_5, hl345_2, hi345_2, hl345_5, hi345_5⟩ := at_T64 HR0_0.out (rd ((rd_T64 l0_0 x21_1).f5) x29_2) p345 q345; obtain rfl : ad341 = ad345 := (by injection e345); replace hx345_0 := pw_cell_below HB.out hx345_0; replace hx345_1 := pw_cell_below HB.out hx345_1; replace hx345_2 := pw_cell_below HB.out hx345_2; replace hx345_3 := pw_cell_below HB.out hx345_3; replace hx345_4 := pw_cell_below HB.out hx345_4; replace hx345_5 := pw_cell_below HB.out hx345_5; have HR345_2 := Aside0.mk hi345_2; have HC345_2 := Aside0.mk hl345_2; clear hi345_2 hl345_2; have HR345_5 := Aside0.mk hi345_5; have HC345_5 := Aside0.mk hl345_5; clear hi345_5 hl345_5; replace p345 := eq_true p345; replace q345 := eq_true q345; obtain ⟨Ao26, co26, eo26⟩ := Kd.R_slice HO_3.out; subst eo26; have p346 : 0 ≤ ((rd ((rd_T64 l0_0 x21_1).f5) x29_2) : Int) := of_decide_eq_true (by assumption); have q346 : (rd ((rd_T64 l0_0 x21_1).f5) x29_2) < (x3_2.length : Int) := of_decide_eq_true (by assumption); obtain ⟨ad346, e346, hx346_0⟩ := Kd.at_int (Kd.R_reads' HO_3.out).2.2 (rd ((rd_T64 l0_0 x21_1).f5) x29_2) p346 q346; cases e346; replace p346 := eq_true p346; replace q346 := eq_true q346))
                   repeat (go_quiet (first | (go_at_call 57; (with_reducible refine (zq33.calls g0 (some ad341) c0_0 l0_0 (rd ((rd_T64 l0_0 x21_1).f5) x29_2) true _ ?side1 ?side2 ?side3 A17.out).mono ?_); (case side1 => exact (by (with_reducible repeat (first | refine zq4 ?_ _ | refine zq6 ?_ | refine zq5 ?_ _)); exact BK0.out)); (case side2 => repeat (first | exact (Kd.C_below HR0_0.out HB.out) | (with_reducible refine Kd.C_alloc ?_ _) | (with_reducible refine Kd.C_drewN ?_ _) | (with_reducible refine Kd.C_drew ?_))); (case side3 => exact HC0_0.out); rintro e w' ⟨rfl, ⟨nd, rfl⟩⟩; (try first | exact ⟨rfl, _, World.drewN_drewN _ _ _⟩ | exact ⟨rfl, _, Eq.trans (World.drewN_drewN _ _ _) (congrArg (World.drewN _) (Nat.add_assoc _ _ _))⟩); have hnb24 := NB0_342.out; have hnc24 := NB342_0.out; obtain ⟨hcz25_0, hfz25_0⟩ := cells1 BK0.out; have p345 : 0 ≤ ((rd ((rd_T64 l0_0 x21_1).f5) x29_2) : Int) := of_decide_eq_true (by assumption); have q345 : (rd ((rd_T64 l0_0 x21_1).f5) x29_2) < (l0_0.length : Int) := of_decide_eq_true (by assumption); obtain ⟨ad345, A345_2, c345_2, A345_5, c345_5, e345, hx345_0, hx345_1, hx345_2, hx345_3, hx345_4, hx345_5, hl345_2, hi345_2, hl345_5, hi345_5⟩ := at_T64 HR0_0.out (rd ((rd_T64 l0_0 x21_1).f5) x29_2) p345 q345; obtain rfl : ad341 = ad345 := (by injection e345); replace hx345_0 := pw_cell_below HB.out hx345_0; replace hx345_1 := pw_cell_below HB.out hx345_1; replace hx345_2 := pw_cell_below HB.out hx345_2; replace hx345_3 := pw_cell_below HB.out hx345_3; replace hx345_4 := pw_cell_below HB.out hx345_4; replace hx345_5 := pw_cell_below HB.out hx345_5; have HR345_2 := Aside0.mk hi345_2; have HC345_2 := Aside0.mk hl345_2; clear hi345_2 hl345_2; have HR345_5 := Aside0.mk hi345_5; have HC345_5 := Aside0.mk hl345_5; clear hi345_5 hl345_5; replace p345 := eq_true p345; replace q345 := eq_true q345; obtain ⟨Ao26, co26, eo26⟩ := Kd.R_slice HO_3.out; subst eo26; have p346 : 0 ≤ ((rd ((rd_T64 l0_0 x21_1).f5) x29_2) : Int) := of_decide_eq_true (by assumption); have q346 : (rd ((rd_T64 l0_0 x21_1).f5) x29_2) < (x3_2.length : Int) := of_decide_eq_true (by assumption); obtain ⟨ad346, e346, hx346_0⟩ := Kd.at_int (Kd.R_reads' HO_3.out).2.2 (rd ((rd_T64 l0_0 x21_1).f5) x29_2) p346 q346; cases e346; replace p346 := eq_true p346; replace q346 := eq_true q346)); try go_wp2_with (first | (go_at_call 57; (with_reducible refine (zq33.calls g0 (some ad341) c0_0 l0_0 (rd ((rd_T64 l0_0 x21_1).f5) x29_2) true _ ?side1 ?side2 ?side3 A17.out).mono ?_); (case side1 => exact (by (with_reducible repeat (first | refine zq4 ?_ _ | refine zq6 ?_ | refine zq5 ?_ _)); exact BK0.out)); (case side2 => repeat (first | exact (Kd.C_below HR0_0.out HB.out) | (with_reducible refine Kd.C_alloc ?_ _) | (with_reducible refine Kd.C_drewN ?_ _) | (with_reducible refine Kd.C_drew ?_))); (case side3 => exact HC0_0.out); rintro e w' ⟨rfl, ⟨nd, rfl⟩⟩; (try first | exact ⟨rfl, _, World.drewN_drewN _ _ _⟩ | exact ⟨rfl, _, Eq.trans (World.drewN_drewN _ _ _) (congrArg (World.drewN _) (Nat.add_assoc _ _ _))⟩); have hnb24 := NB0_342.out; have hnc24 := NB342_0.out; obtain ⟨hcz25_0, hfz25_0⟩ := cells1 BK0.out; have p345 : 0 ≤ ((rd ((rd_T64 l0_0 x21_1).f5) x29_2) : Int) := of_decide_eq_true (by assumption); have q345 : (rd ((rd_T64 l0_0 x21_1).f5) x29_2) < (l0_0.length : Int) := of_decide_eq_true (by assumption); obtain ⟨ad345, A345_2, c345_2, A345_5, c345_5, e345, hx345_0, hx345_1, hx345_2, hx345_3, hx345_4, hx345_5, hl345_2, hi345_2, hl345_5, hi345_5⟩ := at_T64 HR0_0.out (rd ((rd_T64 l0_0 x21_1).f5) x29_2) p345 q345; obtain rfl : ad341 = ad345 := (by injection e345); replace hx345_0 := pw_cell_below HB.out hx345_0; replace hx345_1 := pw_cell_below HB.out hx345_1; replace hx345_2 := pw_cell_below HB.out hx345_2; replace hx345_3 := pw_cell_below HB.out hx345_3; replace hx345_4 := pw_cell_below HB.out hx345_4; replace hx345_5 := pw_cell_below HB.out hx345_5; have HR345_2 := Aside0.mk hi345_2; have HC345_2 := Aside0.mk hl345_2; clear hi345_2 hl345_2; have HR345_5 := Aside0.mk hi345_5; have HC345_5 := Aside0.mk hl345_5; clear hi345_5 hl345_5; replace p345 := eq_true p345; replace q345 := eq_true q345; obtain ⟨Ao26, co26, eo26⟩ := Kd.R_slice HO_3.out; subst eo26; have p346 : 0 ≤ ((rd ((rd_T64 l0_0 x21_1).f5) x29_2) : Int) := of_decide_eq_true (by assumption); have q346 : (rd ((rd_T64 l0_0 x21_1).f5) x29_2) < (x3_2.length : Int) := of_decide_eq_true (by assumption); obtain ⟨ad346, e346, hx346_0⟩ := Kd.at_int (Kd.R_reads' HO_3.out).2.2 (rd ((rd_T64 l0_0 x21_1).f5) x29_2) p346 q346; cases e346; replace p346 := eq_true p346; replace q346 := eq_true q346)))
                   go_ret
                   exact ⟨by first | rfl | simp | simp [*], by repeat (first | (with_reducible first | exact HB.out | apply zq2 | apply zq0 | apply zq1 | refine zq3 ?_ GE0.out | refine zq3 ?_ GE342.out) | exact HB.out)⟩
                  ·rw [if_neg c23] at H
                   have c23b0 : decide (0 < (rd x3_2 (rd ((rd_T64 l0_0 x21_1).f5) x29_2))) = false := decide_eq_false c23
                   clear c23
                   obtain ⟨y348, hy348⟩ : ∃ y_ : List Int, y_ = (x3_2.set ((rd ((rd_T64 l0_0 x21_1).f5) x29_2) : Int).toNat (wrap64 ((rd x3_2 (rd ((rd_T64 l0_0 x21_1).f5) x29_2)) + 1))) := ⟨_, rfl⟩
                   replace H : (zq15.l1 k2 y348 x21_1 l0_0 (l0_0.length : Int) x21_1 ((rd_T64 l0_0 x21_1).f5) (((rd_T64 l0_0 x21_1).f5).length : Int) (wrap64 (x29_2 + 1)) l0_0) = some r := by first | (rw [hy348]; with_reducible exact H) | (have H2_ := (Option.bind_some _ _).symm.trans H; rw [hy348]; with_reducible exact H2_) | (have H2_ := (Option.bind_some _ _).symm.trans H; with_reducible exact H2_) | with_reducible exact H | (rw [hy348]; exact H) | exact H
                   have Ny348 := Aside0.mk hy348
                   clear hy348
                   have H' := Aside0.mk H
                   clear H
                   have p343 : 0 ≤ (x29_2 : Int) := of_decide_eq_true (by assumption)
                   have q343 : x29_2 < (((rd_T64 l0_0 x21_1).f5).length : Int) := of_decide_eq_true (by assumption)
                   obtain ⟨ad343, e343, hx343_0⟩ := Kd.at_int HR341_5.out x29_2 p343 q343
                   cases e343
                   replace hx343_0 := pw_cell_below HB.out hx343_0
                   replace p343 := eq_true p343
                   replace q343 := eq_true q343
                   go_wp2_with (first | (go_at_call 57; (with_reducible refine (zq33.calls g0 (some ad341) c0_0 l0_0 (rd ((rd_T64 l0_0 x21_1).f5) x29_2) true _ ?side1 ?side2 ?side3 A17.out).mono ?_); (case side1 => exact (by (with_reducible repeat (first | refine zq4 ?_ _ | refine zq6 ?_ | refine zq5 ?_ _)); exact BK0.out)); (case side2 => repeat (first | exact (Kd.C_below HR0_0.out HB.out) | (with_reducible refine Kd.C_alloc ?_ _) | (with_reducible refine Kd.C_drewN ?_ _) | (with_reducible refine Kd.C_drew ?_))); (case side3 => exact HC0_0.out); rintro e w' ⟨rfl, ⟨nd, rfl⟩⟩; (try first | exact ⟨rfl, _, World.drewN_drewN _ _ _⟩ | exact ⟨rfl, _, Eq.trans (World.drewN_drewN _ _ _) (congrArg (World.drewN _) (Nat.add_assoc _ _ _))⟩); have hnb28 := NB0_342.out; have hnc28 := NB342_0.out; obtain ⟨hcz29_0, hfz29_0⟩ := cells1 BK0.out; have p345 : 0 ≤ ((rd ((rd_T64 l0_0 x21_1).f5) x29_2) : Int) := of_decide_eq_true (by assumption); have q345 : (rd ((rd_T64 l0_0 x21_1).f5) x29_2) < (l0_0.length : Int) := of_decide_eq_true (by assumption); obtain ⟨ad345, A345_2, c345_2, A345_5, c345_5, e345, hx345_0, hx345_1, hx345_2, hx345_3, hx345_4, hx345_5, hl345_2, hi345_2, hl345_5, hi345_5⟩ := at_T64 HR0_0.out (rd ((rd_T64 l0_0 x21_1).f5) x29_2) p345 q345; obtain rfl : ad341 = ad345 := (by injection e345); replace hx345_0 := pw_cell_below HB.out hx345_0; replace hx345_1 := pw_cell_below HB.out hx345_1; replace hx345_2 := pw_cell_below HB.out hx345_2; replace hx345_3 := pw_cell_below HB.out hx345_3; replace hx345_4 := pw_cell_below HB.out hx345_4; replace hx345_5 := pw_cell_below HB.out hx345_5; have HR345_2 := Aside0.mk hi345_2; have HC345_2 := Aside0.mk hl345_2; clear hi345_2 hl345_2; have HR345_5 := Aside0.mk hi345_5; have HC345_5 := Aside0.mk hl345_5; clear hi345_5 hl345_5; replace p345 := eq_true p345; replace q345 := eq_true q345; obtain ⟨Ao30, co30, eo30⟩ := Kd.R_slice HO_3.out; subst eo30; have p346 : 0 ≤ ((rd ((rd_T64 l0_0 x21_1).f5) x29_2) : Int) := of_decide_eq_true (by assumption); have q346 : (rd ((rd_T64 l0_0 x21_1).f5) x29_2) < (x3_2.length : Int) := of_decide_eq_true (by assumption); obtain ⟨ad346, e346, hx346_0⟩ := Kd.at_int (Kd.R_reads' HO_3.out).2.2 (rd ((rd_T64 l0_0 x21_1).f5) x29_2) p346 q346; cases e346; replace p346 := eq_true p346; replace q346 := eq_true q346; have p347 : 0 ≤ ((rd ((rd_T64 l0_0 x21_1).f5) x29_2) : Int) := of_decide_eq_true (by assumption); have q347 : (rd ((rd_T64 l0_0 x21_1).f5) x29_2) < (x3_2.length : Int) := of_decide_eq_true (by assumption); obtain ⟨ad347, e347, hx347_0⟩ := Kd.at_int (Kd.R_reads' HO_3.out).2.2 (rd ((rd_T64 l0_0 x21_1).f5) x29_2) p347 q347; obtain rfl : ad346 = ad347 := (by injection e347); replace p347 := eq_true p347; replace q347 := eq_true q347; have p27 : 0 ≤ ((rd ((rd_T64 l0_0 x21_1).f5) x29_2) : Int) := of_decide_eq_true (by assumption); have q27 : ((rd ((rd_T64 l0_0 x21_1).f5) x29_2) : Int) < ((x3_2.length : Int) : Int) := of_decide_eq_true (by assumption); obtain ⟨go27, co27, eo27, gb27, gl27, cl27, HG27⟩ := Kd.R_form HO_3.out (by omega); (first | cases eo27 | (injection eo27 with ea_ en_ ec_; (first | subst ea_ | (injection ea_ with ea_; subst ea_)); subst ec_; clear en_)); have GB27 := Aside0.mk gb27; have GG27 := Aside0.mk HG27; clear gb27 gl27 HG27; (first | simp only [add_plain] at hx346_0 | skip); (first | simp only [add_plain] at hx347_0 | skip); obtain ⟨hx27_0, hf27_0⟩ := Kd.R_celln 0 HO_3.out ((rd ((rd_T64 l0_0 x21_1).f5) x29_2) : Int) p27 q27; replace p27 := eq_true p27; replace q27 := eq_true q27; obtain ⟨hy31_, hz31_⟩ := Kd.R_celln 0 HO_3.out ((rd ((rd_T64 l0_0 x21_1).f5) x29_2) : Int) (of_decide_eq_true (by assumption)) (of_decide_eq_true (by assumption)); have HP31 := Kd.R_putg HO_3.out ((rd ((rd_T64 l0_0 x21_1).f5) x29_2) : Int) (wrap64 ((rd x3_2 (rd ((rd_T64 l0_0 x21_1).f5) x29_2)) + 1))) | ((refine gate_store (t := 3) (p := 61) rfl ?_); (try (rw [drewN_self wr]; generalize hq_ : World.drewN wr _ = wr; have n0_ := Aside0.mk (Kd.R_at hq_ HO_3.out); have n1_ := Aside0.mk (blk_at hq_ BK0.out); have n2_ := Aside0.mk (blk_at hq_ BK342.out); have n3_ := Aside0.mk (below_at hq_ HB.out); clear hq_ HO_3 BK0 BK342 HB; have HO_3 := n0_; have BK0 := n1_; have BK342 := n2_; have HB := n3_; clear n0_ n1_ n2_ n3_; (try (obtain ⟨hy31_, hz31_⟩ := Kd.R_celln 0 HO_3.out ((rd ((rd_T64 l0_0 x21_1).f5) x29_2) : Int) (of_decide_eq_true (by assumption)) (of_decide_eq_true (by assumption)))); (try (have HP31 := Kd.R_putg HO_3.out ((rd ((rd_T64 l0_0 x21_1).f5) x29_2) : Int) (wrap64 ((rd x3_2 (rd ((rd_T64 l0_0 x21_1).f5) x29_2)) + 1)))))); refine store_event (t := 3) (p := 61) (v := ?vo_w32) (w1 := (wr.setCell ⟨go27, ((rd ((rd_T64 l0_0 x21_1).f5) x29_2) : Int).toNat, none⟩ (.int .i64 (wrap64 ((rd x3_2 (rd ((rd_T64 l0_0 x21_1).f5) x29_2)) + 1))))) ?hg ?ho ?hn ?hr ?_; (case ho => rfl); (case hg => rfl); (case hn => rfl); (case hr => first | (go_simp; done) | (go_simp; rfl)); intro w32 hw; have hg : wr.grownBy w32 (some go27) := (by rw [hw]; exact HP31.2); have hp_ : Kd.R (Kd.int .i64) 3 w32 w.heap.size (fun _ => True) (.slice (some ⟨go27, 0, none⟩) x3_2.length co30) y348 := (by rw [hw, Ny348.out]; exact HP31.1); clear HP31; replace BK0 := Aside0.mk (blk_grown (g := g0) (o := .cells #[.slice (some ad341) l0_0.length c0_0] 29 (0, 0)) (by (with_reducible repeat (first | refine zq4 ?_ _ | refine zq6 ?_ | refine zq5 ?_ _)); exact BK0.out) hg (Kd.R_ne HO_3.out BK0.out (by decide))); replace BK342 := Aside0.mk (blk_grown (g := gb342) (o := .cells #[.int .i64 ((rd_T64 l0_0 x21_1).f0), .string ((rd_T64 l0_0 x21_1).f1), .slice A341_2 ((rd_T64 l0_0 x21_1).f2).length c341_2, .string ((rd_T64 l0_0 x21_1).f3), .int .i64 ((rd_T64 l0_0 x21_1).f4), .slice (some ad343) ((rd_T64 l0_0 x21_1).f5).length c341_5] 64 (0, 0)) (by (with_reducible repeat (first | refine zq4 ?_ _ | refine zq6 ?_ | refine zq5 ?_ _)); exact BK342.out) hg (Kd.R_ne HO_3.out BK342.out (by decide))); replace HO_3 := Aside0.mk (hp_); replace HB := Aside0.mk ((by rw [hw]; exact zq3 (HB.out) GB27.out : Below w.heap.size w w32)); clear hg hw hp_))
                   repeat (go_quiet (first | (go_at_call 57; (with_reducible refine (zq33.calls g0 (some ad341) c0_0 l0_0 (rd ((rd_T64 l0_0 x21_1).f5) x29_2) true _ ?side1 ?side2 ?side3 A17.out).mono ?_); (case side1 => exact (by (with_reducible repeat (first | refine zq4 ?_ _ | refine zq6 ?_ | refine zq5 ?_ _)); exact BK0.out)); (case side2 => repeat (first | exact (Kd.C_below HR0_0.out HB.out) | (with_reducible refine Kd.C_alloc ?_ _) | (with_reducible refine Kd.C_drewN ?_ _) | (with_reducible refine Kd.C_drew ?_))); (case side3 => exact HC0_0.out); rintro e w' ⟨rfl, ⟨nd, rfl⟩⟩; (try first | exact ⟨rfl, _, World.drewN_drewN _ _ _⟩ | exact ⟨rfl, _, Eq.trans (World.drewN_drewN _ _ _) (congrArg (World.drewN _) (Nat.add_assoc _ _ _))⟩); have hnb28 := NB0_342.out; have hnc28 := NB342_0.out; obtain ⟨hcz29_0, hfz29_0⟩ := cells1 BK0.out; have p345 : 0 ≤ ((rd ((rd_T64 l0_0 x21_1).f5) x29_2) : Int) := of_decide_eq_true (by assumption); have q345 : (rd ((rd_T64 l0_0 x21_1).f5) x29_2) < (l0_0.length : Int) := of_decide_eq_true (by assumption); obtain ⟨ad345, A345_2, c345_2, A345_5, c345_5, e345, hx345_0, hx345_1, hx345_2, hx345_3, hx345_4, hx345_5, hl345_2, hi345_2, hl345_5, hi345_5⟩ := at_T64 HR0_0.out (rd ((rd_T64 l0_0 x21_1).f5) x29_2) p345 q345; obtain rfl : ad341 = ad345 := (by injection e345); replace hx345_0 := pw_cell_below HB.out hx345_0; replace hx345_1 := pw_cell_below HB.out hx345_1; replace hx345_2 := pw_cell_below HB.out hx345_2; replace hx345_3 := pw_cell_below HB.out hx345_3; replace hx345_4 := pw_cell_below HB.out hx345_4; replace hx345_5 := pw_cell_below HB.out hx345_5; have HR345_2 := Aside0.mk hi345_2; have HC345_2 := Aside0.mk hl345_2; clear hi345_2 hl345_2; have HR345_5 := Aside0.mk hi345_5; have HC345_5 := Aside0.mk hl345_5; clear hi345_5 hl345_5; replace p345 := eq_true p345; replace q345 := eq_true q345; obtain ⟨Ao30, co30, eo30⟩ := Kd.R_slice HO_3.out; subst eo30; have p346 : 0 ≤ ((rd ((rd_T64 l0_0 x21_1).f5) x29_2) : Int) := of_decide_eq_true (by assumption); have q346 : (rd ((rd_T64 l0_0 x21_1).f5) x29_2) < (x3_2.length : Int) := of_decide_eq_true (by assumption); obtain ⟨ad346, e346, hx346_0⟩ := Kd.at_int (Kd.R_reads' HO_3.out).2.2 (rd ((rd_T64 l0_0 x21_1).f5) x29_2) p346 q346; cases e346; replace p346 := eq_true p346; replace q346 := eq_true q346; have p347 : 0 ≤ ((rd ((rd_T64 l0_0 x21_1).f5) x29_2) : Int) := of_decide_eq_true (by assumption); have q347 : (rd ((rd_T64 l0_0 x21_1).f5) x29_2) < (x3_2.length : Int) := of_decide_eq_true (by assumption); obtain ⟨ad347, e347, hx347_0⟩ := Kd.at_int (Kd.R_reads' HO_3.out).2.2 (rd ((rd_T64 l0_0 x21_1).f5) x29_2) p347 q347; obtain rfl : ad346 = ad347 := (by injection e347); replace p347 := eq_true p347; replace q347 := eq_true q347; have p27 : 0 ≤ ((rd ((rd_T64 l0_0 x21_1).f5) x29_2) : Int) := of_decide_eq_true (by assumption); have q27 : ((rd ((rd_T64 l0_0 x21_1).f5) x29_2) : Int) < ((x3_2.length : Int) : Int) := of_decide_eq_true (by assumption); obtain ⟨go27, co27, eo27, gb27, gl27, cl27, HG27⟩ := Kd.R_form HO_3.out (by omega); (first | cases eo27 | (injection eo27 with ea_ en_ ec_; (first | subst ea_ | (injection ea_ with ea_; subst ea_)); subst ec_; clear en_)); have GB27 := Aside0.mk gb27; have GG27 := Aside0.mk HG27; clear gb27 gl27 HG27; (first | simp only [add_plain] at hx346_0 | skip); (first | simp only [add_plain] at hx347_0 | skip); obtain ⟨hx27_0, hf27_0⟩ := Kd.R_celln 0 HO_3.out ((rd ((rd_T64 l0_0 x21_1).f5) x29_2) : Int) p27 q27; replace p27 := eq_true p27; replace q27 := eq_true q27; obtain ⟨hy31_, hz31_⟩ := Kd.R_celln 0 HO_3.out ((rd ((rd_T64 l0_0 x21_1).f5) x29_2) : Int) (of_decide_eq_true (by assumption)) (of_decide_eq_true (by assumption)); have HP31 := Kd.R_putg HO_3.out ((rd ((rd_T64 l0_0 x21_1).f5) x29_2) : Int) (wrap64 ((rd x3_2 (rd ((rd_T64 l0_0 x21_1).f5) x29_2)) + 1)))); try go_wp2_with (first | (go_at_call 57; (with_reducible refine (zq33.calls g0 (some ad341) c0_0 l0_0 (rd ((rd_T64 l0_0 x21_1).f5) x29_2) true _ ?side1 ?side2 ?side3 A17.out).mono ?_); (case side1 => exact (by (with_reducible repeat (first | refine zq4 ?_ _ | refine zq6 ?_ | refine zq5 ?_ _)); exact BK0.out)); (case side2 => repeat (first | exact (Kd.C_below HR0_0.out HB.out) | (with_reducible refine Kd.C_alloc ?_ _) | (with_reducible refine Kd.C_drewN ?_ _) | (with_reducible refine Kd.C_drew ?_))); (case side3 => exact HC0_0.out); rintro e w' ⟨rfl, ⟨nd, rfl⟩⟩; (try first | exact ⟨rfl, _, World.drewN_drewN _ _ _⟩ | exact ⟨rfl, _, Eq.trans (World.drewN_drewN _ _ _) (congrArg (World.drewN _) (Nat.add_assoc _ _ _))⟩); have hnb28 := NB0_342.out; have hnc28 := NB342_0.out; obtain ⟨hcz29_0, hfz29_0⟩ := cells1 BK0.out; have p345 : 0 ≤ ((rd ((rd_T64 l0_0 x21_1).f5) x29_2) : Int) := of_decide_eq_true (by assumption); have q345 : (rd ((rd_T64 l0_0 x21_1).f5) x29_2) < (l0_0.length : Int) := of_decide_eq_true (by assumption); obtain ⟨ad345, A345_2, c345_2, A345_5, c345_5, e345, hx345_0, hx345_1, hx345_2, hx345_3, hx345_4, hx345_5, hl345_2, hi345_2, hl345_5, hi345_5⟩ := at_T64 HR0_0.out (rd ((rd_T64 l0_0 x21_1).f5) x29_2) p345 q345; obtain rfl : ad341 = ad345 := (by injection e345); replace hx345_0 := pw_cell_below HB.out hx345_0; replace hx345_1 := pw_cell_below HB.out hx345_1; replace hx345_2 := pw_cell_below HB.out hx345_2; replace hx345_3 := pw_cell_below HB.out hx345_3; replace hx345_4 := pw_cell_below HB.out hx345_4; replace hx345_5 := pw_cell_below HB.out hx345_5; have HR345_2 := Aside0.mk hi345_2; have HC345_2 := Aside0.mk hl345_2; clear hi345_2 hl345_2; have HR345_5 := Aside0.mk hi345_5; have HC345_5 := Aside0.mk hl345_5; clear hi345_5 hl345_5; replace p345 := eq_true p345; replace q345 := eq_true q345; obtain ⟨Ao30, co30, eo30⟩ := Kd.R_slice HO_3.out; subst eo30; have p346 : 0 ≤ ((rd ((rd_T64 l0_0 x21_1).f5) x29_2) : Int) := of_decide_eq_true (by assumption); have q346 : (rd ((rd_T64 l0_0 x21_1).f5) x29_2) < (x3_2.length : Int) := of_decide_eq_true (by assumption); obtain ⟨ad346, e346, hx346_0⟩ := Kd.at_int (Kd.R_reads' HO_3.out).2.2 (rd ((rd_T64 l0_0 x21_1).f5) x29_2) p346 q346; cases e346; replace p346 := eq_true p346; replace q346 := eq_true q346; have p347 : 0 ≤ ((rd ((rd_T64 l0_0 x21_1).f5) x29_2) : Int) := of_decide_eq_true (by assumption); have q347 : (rd ((rd_T64 l0_0 x21_1).f5) x29_2) < (x3_2.length : Int) := of_decide_eq_true (by assumption); obtain ⟨ad347, e347, hx347_0⟩ := Kd.at_int (Kd.R_reads' HO_3.out).2.2 (rd ((rd_T64 l0_0 x21_1).f5) x29_2) p347 q347; obtain rfl : ad346 = ad347 := (by injection e347); replace p347 := eq_true p347; replace q347 := eq_true q347; have p27 : 0 ≤ ((rd ((rd_T64 l0_0 x21_1).f5) x29_2) : Int) := of_decide_eq_true (by assumption); have q27 : ((rd ((rd_T64 l0_0 x21_1).f5) x29_2) : Int) < ((x3_2.length : Int) : Int) := of_decide_eq_true (by assumption); obtain ⟨go27, co27, eo27, gb27, gl27, cl27, HG27⟩ := Kd.R_form HO_3.out (by omega); (first | cases eo27 | (injection eo27 with ea_ en_ ec_; (first | subst ea_ | (injection ea_ with ea_; subst ea_)); subst ec_; clear en_)); have GB27 := Aside0.mk gb27; have GG27 := Aside0.mk HG27; clear gb27 gl27 HG27; (first | simp only [add_plain] at hx346_0 | skip); (first | simp only [add_plain] at hx347_0 | skip); obtain ⟨hx27_0, hf27_0⟩ := Kd.R_celln 0 HO_3.out ((rd ((rd_T64 l0_0 x21_1).f5) x29_2) : Int) p27 q27; replace p27 := eq_true p27; replace q27 := eq_true q27; obtain ⟨hy31_, hz31_⟩ := Kd.R_celln 0 HO_3.out ((rd ((rd_T64 l0_0 x21_1).f5) x29_2) : Int) (of_decide_eq_true (by assumption)) (of_decide_eq_true (by assumption)); have HP31 := Kd.R_putg HO_3.out ((rd ((rd_T64 l0_0 x21_1).f5) x29_2) : Int) (wrap64 ((rd x3_2 (rd ((rd_T64 l0_0 x21_1).f5) x29_2)) + 1)))))
                   go_roundg k2
                   case measure => have := HK1.out; have := HK2.out; omega
                   case rel => exact ⟨(y348), (wrap64 (x29_2 + 1)), (by first | rfl | simp | simp [*]), H', ⟨by have := HK1.out; have := HK2.out; omega⟩, ⟨by (with_reducible repeat (first | apply Kd.R_alloc | apply Kd.R_drewN | apply Kd.R_drew)); exact HO_3.out⟩, ⟨by (with_reducible repeat (first | refine zq4 ?_ _ | refine zq6 ?_ | refine zq5 ?_ _)); exact BK0.out⟩, ⟨by (with_reducible repeat (first | refine zq4 ?_ _ | refine zq6 ?_ | refine zq5 ?_ _)); exact BK342.out⟩, ⟨by repeat (first | (with_reducible first | exact HB.out | apply zq2 | apply zq0 | apply zq1 | refine zq3 ?_ GE0.out | refine zq3 ?_ GE342.out) | exact HB.out)⟩⟩
                 ·rw [if_neg c22] at H
                  exact absurd H (by simp)
                ·rw [if_neg c21] at H
                 have c21b0 := beq_eq_false_iff_ne.mpr c21
                 have c21b1 := bne_iff_ne.mpr c21
                 obtain rfl := Option.some.inj H
                 have p343 : 0 ≤ (x29_2 : Int) := of_decide_eq_true (by assumption)
                 have q343 : x29_2 < (((rd_T64 l0_0 x21_1).f5).length : Int) := of_decide_eq_true (by assumption)
                 obtain ⟨ad343, e343, hx343_0⟩ := Kd.at_int HR341_5.out x29_2 p343 q343
                 cases e343
                 replace hx343_0 := pw_cell_below HB.out hx343_0
                 replace p343 := eq_true p343
                 replace q343 := eq_true q343
                 go_wp2_with (first | (go_at_call 57; (with_reducible refine (zq33.calls g0 (some ad341) c0_0 l0_0 (rd ((rd_T64 l0_0 x21_1).f5) x29_2) true _ ?side1 ?side2 ?side3 A17.out).mono ?_); (case side1 => exact (by (with_reducible repeat (first | refine zq4 ?_ _ | refine zq6 ?_ | refine zq5 ?_ _)); exact BK0.out)); (case side2 => repeat (first | exact (Kd.C_below HR0_0.out HB.out) | (with_reducible refine Kd.C_alloc ?_ _) | (with_reducible refine Kd.C_drewN ?_ _) | (with_reducible refine Kd.C_drew ?_))); (case side3 => exact HC0_0.out); rintro e w' ⟨rfl, ⟨nd, rfl⟩⟩; (try first | exact ⟨rfl, _, World.drewN_drewN _ _ _⟩ | exact ⟨rfl, _, Eq.trans (World.drewN_drewN _ _ _) (congrArg (World.drewN _) (Nat.add_assoc _ _ _))⟩); have hnb33 := NB0_342.out; have hnc33 := NB342_0.out; obtain ⟨hcz34_0, hfz34_0⟩ := cells1 BK0.out; have p345 : 0 ≤ ((rd ((rd_T64 l0_0 x21_1).f5) x29_2) : Int) := of_decide_eq_true (by assumption); have q345 : (rd ((rd_T64 l0_0 x21_1).f5) x29_2) < (l0_0.length : Int) := of_decide_eq_true (by assumption); obtain ⟨ad345, A345_2, c345_2, A345_5, c345_5, e345, hx345_0, hx345_1, hx345_2, hx345_3, hx345_4, hx345_5, hl345_2, hi345_2, hl345_5, hi345_5⟩ := at_T64 HR0_0.out (rd ((rd_T64 l0_0 x21_1).f5) x29_2) p345 q345; obtain rfl : ad341 = ad345 := (by injection e345); replace hx345_0 := pw_cell_below HB.out hx345_0; replace hx345_1 := pw_cell_below HB.out hx345_1; replace hx345_2 := pw_cell_below HB.out hx345_2; replace hx345_3 := pw_cell_below HB.out hx345_3; replace hx345_4 := pw_cell_below HB.out hx345_4; replace hx345_5 := pw_cell_below HB.out hx345_5; have HR345_2 := Aside0.mk hi345_2; have HC345_2 := Aside0.mk hl345_2; clear hi345_2 hl345_2; have HR345_5 := Aside0.mk hi345_5; have HC345_5 := Aside0.mk hl345_5; clear hi345_5 hl345_5; replace p345 := eq_true p345; replace q345 := eq_true q345))
                 repeat (go_quiet (first | (go_at_call 57; (with_reducible refine (zq33.calls g0 (some ad341) c0_0 l0_0 (rd ((rd_T64 l0_0 x21_1).f5) x29_2) true _ ?side1 ?side2 ?side3 A17.out).mono ?_); (case side1 => exact (by (with_reducible repeat (first | refine zq4 ?_ _ | refine zq6 ?_ | refine zq5 ?_ _)); exact BK0.out)); (case side2 => repeat (first | exact (Kd.C_below HR0_0.out HB.out) | (with_reducible refine Kd.C_alloc ?_ _) | (with_reducible refine Kd.C_drewN ?_ _) | (with_reducible refine Kd.C_drew ?_))); (case side3 => exact HC0_0.out); rintro e w' ⟨rfl, ⟨nd, rfl⟩⟩; (try first | exact ⟨rfl, _, World.drewN_drewN _ _ _⟩ | exact ⟨rfl, _, Eq.trans (World.drewN_drewN _ _ _) (congrArg (World.drewN _) (Nat.add_assoc _ _ _))⟩); have hnb33 := NB0_342.out; have hnc33 := NB342_0.out; obtain ⟨hcz34_0, hfz34_0⟩ := cells1 BK0.out; have p345 : 0 ≤ ((rd ((rd_T64 l0_0 x21_1).f5) x29_2) : Int) := of_decide_eq_true (by assumption); have q345 : (rd ((rd_T64 l0_0 x21_1).f5) x29_2) < (l0_0.length : Int) := of_decide_eq_true (by assumption); obtain ⟨ad345, A345_2, c345_2, A345_5, c345_5, e345, hx345_0, hx345_1, hx345_2, hx345_3, hx345_4, hx345_5, hl345_2, hi345_2, hl345_5, hi345_5⟩ := at_T64 HR0_0.out (rd ((rd_T64 l0_0 x21_1).f5) x29_2) p345 q345; obtain rfl : ad341 = ad345 := (by injection e345); replace hx345_0 := pw_cell_below HB.out hx345_0; replace hx345_1 := pw_cell_below HB.out hx345_1; replace hx345_2 := pw_cell_below HB.out hx345_2; replace hx345_3 := pw_cell_below HB.out hx345_3; replace hx345_4 := pw_cell_below HB.out hx345_4; replace hx345_5 := pw_cell_below HB.out hx345_5; have HR345_2 := Aside0.mk hi345_2; have HC345_2 := Aside0.mk hl345_2; clear hi345_2 hl345_2; have HR345_5 := Aside0.mk hi345_5; have HC345_5 := Aside0.mk hl345_5; clear hi345_5 hl345_5; replace p345 := eq_true p345; replace q345 := eq_true q345)); try go_wp2_with (first | (go_at_call 57; (with_reducible refine (zq33.calls g0 (some ad341) c0_0 l0_0 (rd ((rd_T64 l0_0 x21_1).f5) x29_2) true _ ?side1 ?side2 ?side3 A17.out).mono ?_); (case side1 => exact (by (with_reducible repeat (first | refine zq4 ?_ _ | refine zq6 ?_ | refine zq5 ?_ _)); exact BK0.out)); (case side2 => repeat (first | exact (Kd.C_below HR0_0.out HB.out) | (with_reducible refine Kd.C_alloc ?_ _) | (with_reducible refine Kd.C_drewN ?_ _) | (with_reducible refine Kd.C_drew ?_))); (case side3 => exact HC0_0.out); rintro e w' ⟨rfl, ⟨nd, rfl⟩⟩; (try first | exact ⟨rfl, _, World.drewN_drewN _ _ _⟩ | exact ⟨rfl, _, Eq.trans (World.drewN_drewN _ _ _) (congrArg (World.drewN _) (Nat.add_assoc _ _ _))⟩); have hnb33 := NB0_342.out; have hnc33 := NB342_0.out; obtain ⟨hcz34_0, hfz34_0⟩ := cells1 BK0.out; have p345 : 0 ≤ ((rd ((rd_T64 l0_0 x21_1).f5) x29_2) : Int) := of_decide_eq_true (by assumption); have q345 : (rd ((rd_T64 l0_0 x21_1).f5) x29_2) < (l0_0.length : Int) := of_decide_eq_true (by assumption); obtain ⟨ad345, A345_2, c345_2, A345_5, c345_5, e345, hx345_0, hx345_1, hx345_2, hx345_3, hx345_4, hx345_5, hl345_2, hi345_2, hl345_5, hi345_5⟩ := at_T64 HR0_0.out (rd ((rd_T64 l0_0 x21_1).f5) x29_2) p345 q345; obtain rfl : ad341 = ad345 := (by injection e345); replace hx345_0 := pw_cell_below HB.out hx345_0; replace hx345_1 := pw_cell_below HB.out hx345_1; replace hx345_2 := pw_cell_below HB.out hx345_2; replace hx345_3 := pw_cell_below HB.out hx345_3; replace hx345_4 := pw_cell_below HB.out hx345_4; replace hx345_5 := pw_cell_below HB.out hx345_5; have HR345_2 := Aside0.mk hi345_2; have HC345_2 := Aside0.mk hl345_2; clear hi345_2 hl345_2; have HR345_5 := Aside0.mk hi345_5; have HC345_5 := Aside0.mk hl345_5; clear hi345_5 hl345_5; replace p345 := eq_true p345; replace q345 := eq_true q345)))
                 go_ret
                 exact ⟨by first | rfl | simp | simp [*], by repeat (first | (with_reducible first | exact HB.out | apply zq2 | apply zq0 | apply zq1 | refine zq3 ?_ GE0.out | refine zq3 ?_ GE342.out) | exact HB.out)⟩
               ·rw [if_neg c20] at H
                exact absurd H (by simp)
              ·rw [if_neg c19] at H
               exact absurd H (by simp)
             ·replace c18 := Bool.eq_false_iff.mpr c18
              subst c18
              rw [if_neg (show ¬ (false = true) by decide)] at H
              obtain rfl := Option.some.inj H
              have p343 : 0 ≤ (x29_2 : Int) := of_decide_eq_true (by assumption)
              have q343 : x29_2 < (((rd_T64 l0_0 x21_1).f5).length : Int) := of_decide_eq_true (by assumption)
              obtain ⟨ad343, e343, hx343_0⟩ := Kd.at_int HR341_5.out x29_2 p343 q343
              cases e343
              replace hx343_0 := pw_cell_below HB.out hx343_0
              replace p343 := eq_true p343
              replace q343 := eq_true q343
              go_wp2_with (first | (go_at_call 57; (with_reducible refine (zq33.calls g0 (some ad341) c0_0 l0_0 (rd ((rd_T64 l0_0 x21_1).f5) x29_2) false _ ?side1 ?side2 ?side3 A17.out).mono ?_); (case side1 => exact (by (with_reducible repeat (first | refine zq4 ?_ _ | refine zq6 ?_ | refine zq5 ?_ _)); exact BK0.out)); (case side2 => repeat (first | exact (Kd.C_below HR0_0.out HB.out) | (with_reducible refine Kd.C_alloc ?_ _) | (with_reducible refine Kd.C_drewN ?_ _) | (with_reducible refine Kd.C_drew ?_))); (case side3 => exact HC0_0.out); rintro e w' ⟨rfl, ⟨nd, rfl⟩⟩; (try first | exact ⟨rfl, _, World.drewN_drewN _ _ _⟩ | exact ⟨rfl, _, Eq.trans (World.drewN_drewN _ _ _) (congrArg (World.drewN _) (Nat.add_assoc _ _ _))⟩)))
              repeat (go_quiet (first | (go_at_call 57; (with_reducible refine (zq33.calls g0 (some ad341) c0_0 l0_0 (rd ((rd_T64 l0_0 x21_1).f5) x29_2) false _ ?side1 ?side2 ?side3 A17.out).mono ?_); (case side1 => exact (by (with_reducible repeat (first | refine zq4 ?_ _ | refine zq6 ?_ | refine zq5 ?_ _)); exact BK0.out)); (case side2 => repeat (first | exact (Kd.C_below HR0_0.out HB.out) | (with_reducible refine Kd.C_alloc ?_ _) | (with_reducible refine Kd.C_drewN ?_ _) | (with_reducible refine Kd.C_drew ?_))); (case side3 => exact HC0_0.out); rintro e w' ⟨rfl, ⟨nd, rfl⟩⟩; (try first | exact ⟨rfl, _, World.drewN_drewN _ _ _⟩ | exact ⟨rfl, _, Eq.trans (World.drewN_drewN _ _ _) (congrArg (World.drewN _) (Nat.add_assoc _ _ _))⟩))); try go_wp2_with (first | (go_at_call 57; (with_reducible refine (zq33.calls g0 (some ad341) c0_0 l0_0 (rd ((rd_T64 l0_0 x21_1).f5) x29_2) false _ ?side1 ?side2 ?side3 A17.out).mono ?_); (case side1 => exact (by (with_reducible repeat (first | refine zq4 ?_ _ | refine zq6 ?_ | refine zq5 ?_ _)); exact BK0.out)); (case side2 => repeat (first | exact (Kd.C_below HR0_0.out HB.out) | (with_reducible refine Kd.C_alloc ?_ _) | (with_reducible refine Kd.C_drewN ?_ _) | (with_reducible refine Kd.C_drew ?_))); (case side3 => exact HC0_0.out); rintro e w' ⟨rfl, ⟨nd, rfl⟩⟩; (try first | exact ⟨rfl, _, World.drewN_drewN _ _ _⟩ | exact ⟨rfl, _, Eq.trans (World.drewN_drewN _ _ _) (congrArg (World.drewN _) (Nat.add_assoc _ _ _))⟩))))
              go_ret
              exact ⟨by first | rfl | simp | simp [*], by repeat (first | (with_reducible first | exact HB.out | apply zq2 | apply zq0 | apply zq1 | refine zq3 ?_ GE0.out | refine zq3 ?_ GE342.out) | exact HB.out)⟩
            ·rw [if_neg c16] at H
             exact absurd H (by simp)
           ·rw [if_neg c15] at H
            exact absurd H (by simp)
          ·rw [if_neg c14] at H
           have c14b0 : decide (x29_2 < (((rd_T64 l0_0 x21_1).f5).length : Int)) = false := decide_eq_false c14
           clear c14
           have H' := Aside0.mk H
           clear H
           go_wp2
           repeat (go_quiet (fail); try go_wp2)
           go_roundg k2
           case measure => have := HK1.out; have := HK2.out; omega
           case rel => exact ⟨(x3_2), (wrap64 (x21_1 + 1)), (by first | rfl | simp | simp [*]), H', ⟨by have := HK1.out; have := HK2.out; omega⟩, ⟨by (with_reducible repeat (first | apply Kd.R_alloc | apply Kd.R_drewN | apply Kd.R_drew)); exact HO_3.out⟩, ⟨by (with_reducible repeat (first | refine zq4 ?_ _ | refine zq6 ?_ | refine zq5 ?_ _)); exact BK0.out⟩, ⟨by repeat (first | (with_reducible first | exact HB.out | apply zq2 | apply zq0 | apply zq1 | refine zq3 ?_ GE0.out | refine zq3 ?_ GE342.out) | exact HB.out)⟩⟩
       ·rw [if_neg c10] at H
        exact absurd H (by simp)
      ·rw [if_neg c9] at H
       exact absurd H (by simp)
     ·rw [if_neg c8] at H
      have c8b0 : decide (x21_1 < (l0_0.length : Int)) = false := decide_eq_false c8
      clear c8
      have H' := Aside0.mk H
      clear H
      obtain ⟨hcz35_0, hfz35_0⟩ := cells1 BK0.out
      go_wp2
      repeat (go_quiet (fail); try go_wp2)
      go_loopg [69] k1 (fun kq v69 w' => ∃ (x69_2 : Int), v69 = .int .i64 x69_2 ∧ Aside0 (zq15.l2 kq x3_1 l0_0 (l0_0.length : Int) x69_2 l0_0 = some r) ∧ Aside0 (kq ≤ k1) ∧ Aside0 (Kd.R (Kd.int .i64) 3 w' w.heap.size (fun _ => True) v339 x3_1) ∧ Aside0 (w'.heap[g0]? = some (.cells #[(.slice A0_0 l0_0.length c0_0)] 29 (0, 0))) ∧ Aside0 (Below w.heap.size w w'))
      case atStart => exact ⟨(0), (by first | rfl | simp | simp [*]), H', ⟨Nat.le_refl _⟩, ⟨by (with_reducible repeat (first | apply Kd.R_alloc | apply Kd.R_drewN | apply Kd.R_drew)); exact HO_3.out⟩, ⟨by (with_reducible repeat (first | refine zq4 ?_ _ | refine zq6 ?_ | refine zq5 ?_ _)); exact BK0.out⟩, ⟨by repeat (first | (with_reducible first | exact HB.out | apply zq2 | apply zq0 | apply zq1 | refine zq3 ?_ GE0.out) | exact HB.out)⟩⟩
      case round =>
       clear H'
       obtain ⟨x69_2, rfl, HA, HK2, HO_3, BK0, HB⟩ := hrel
       cases gk with
       | zero => exact absurd HA.out (by simp [zq15.l2])
       | succ k2 =>
        have H := HA.out
        clear HA
        simp only [zq15.l2] at H
        by_cases c36 : x69_2 < (l0_0.length : Int)
        ·rw [if_pos c36] at H
         have c36b0 : decide (x69_2 < (l0_0.length : Int)) = true := decide_eq_true c36
         clear c36
         by_cases c37 : 0 ≤ x69_2
         ·rw [if_pos c37] at H
          have c37b0 : decide (0 ≤ x69_2) = true := decide_eq_true c37
          clear c37
          by_cases c38 : x69_2 < (l0_0.length : Int)
          ·rw [if_pos c38] at H
           have c38b0 : decide (x69_2 < (l0_0.length : Int)) = true := decide_eq_true c38
           clear c38
           by_cases c39 : x69_2 < (x3_1.length : Int)
           ·rw [if_pos c39] at H
            have c39b0 : decide (x69_2 < (x3_1.length : Int)) = true := decide_eq_true c39
            clear c39
            by_cases c40 : ((((rd_T64 l0_0 x69_2).f4) == (-1)) == (decide ((rd x3_1 x69_2) > 0))) = true
            ·rw [if_pos c40] at H
             have c40b0 : ((((rd_T64 l0_0 x69_2).f4) == (-1)) == (decide ((rd x3_1 x69_2) > 0))) = true := c40
             (try (have c40b1 : decide ((((rd_T64 l0_0 x69_2).f4) == (-1)) = (decide ((rd x3_1 x69_2) > 0))) = true := by simpa using c40))
             (try (have c40b2 : ((((rd_T64 l0_0 x69_2).f4) == (-1)) == (decide ((rd x3_1 x69_2) > 0))) = true := by simpa using c40))
             clear c40
             obtain rfl := Option.some.inj H
             have p349 : 0 ≤ (x69_2 : Int) := of_decide_eq_true (by assumption)
             have q349 : x69_2 < (l0_0.length : Int) := of_decide_eq_true (by assumption)
             obtain ⟨ad349, A349_2, c349_2, A349_5, c349_5, e349, hx349_0, hx349_1, hx349_2, hx349_3, hx349_4, hx349_5, hl349_2, hi349_2, hl349_5, hi349_5⟩ := at_T64 HR0_0.out x69_2 p349 q349
             cases e349
             replace hx349_0 := pw_cell_below HB.out hx349_0
             replace hx349_1 := pw_cell_below HB.out hx349_1
             replace hx349_2 := pw_cell_below HB.out hx349_2
             replace hx349_3 := pw_cell_below HB.out hx349_3
             replace hx349_4 := pw_cell_below HB.out hx349_4
             replace hx349_5 := pw_cell_below HB.out hx349_5
             have HR349_2 := Aside0.mk hi349_2
             have HC349_2 := Aside0.mk hl349_2
             clear hi349_2 hl349_2
             have HR349_5 := Aside0.mk hi349_5
             have HC349_5 := Aside0.mk hl349_5
             clear hi349_5 hl349_5
             replace p349 := eq_true p349
             replace q349 := eq_true q349
             go_wp2_with (first | ((refine gate_dst (N := 9) rfl ?_); refine box_event ?hg (N := 9) ?hd (cs := #[.int .i64 0, .string (⟨#[]⟩ : ByteArray), .slice none 0 0, .string (⟨#[]⟩ : ByteArray), .int .i64 0, .slice none 0 0]) (t := 64) ?hr ?_; (case hd => rfl); (case hg => rfl); (case hr => first | (go_simp; done) | (go_simp; rfl)); intro gb350 hg w41 hbox hb; replace HO_3 := Aside0.mk (Kd.R_below (by (with_reducible repeat (first | apply Kd.R_alloc | apply Kd.R_drewN | apply Kd.R_drew)); exact HO_3.out) hb); have BK350 := Aside0.mk (hbox); have GW350 := Aside0.mk ((by rw [hg]; exact (below_size (by repeat (with_reducible first | exact HB.out | apply zq2 | apply zq0 | apply zq1 | refine zq3 ?_ GE0.out))) : w.heap.size ≤ gb350)); replace HB := Aside0.mk (zq7 (by repeat (with_reducible first | exact HB.out | apply zq2 | apply zq0 | apply zq1 | refine zq3 ?_ GE0.out)) hb); have NB0_350 := Aside0.mk ((by rw [hg]; exact Nat.ne_of_lt (blk_lt (g := g0) (o := .cells #[.slice (some ad349) l0_0.length c0_0] 29 (0, 0)) (by (with_reducible repeat (first | refine zq4 ?_ _ | refine zq6 ?_ | refine zq5 ?_ _)); exact BK0.out)) : g0 ≠ gb350)); have NB350_0 := Aside0.mk ((by rw [hg]; exact Nat.ne_of_gt (blk_lt (g := g0) (o := .cells #[.slice (some ad349) l0_0.length c0_0] 29 (0, 0)) (by (with_reducible repeat (first | refine zq4 ?_ _ | refine zq6 ?_ | refine zq5 ?_ _)); exact BK0.out)) : gb350 ≠ g0)); replace BK0 := Aside0.mk (zq10 (g := g0) (o := .cells #[.slice (some ad349) l0_0.length c0_0] 29 (0, 0)) (by (with_reducible repeat (first | refine zq4 ?_ _ | refine zq6 ?_ | refine zq5 ?_ _)); exact BK0.out) hb); have GE350 := GW350; clear hb hbox hg; have hnb42 := NB350_0.out; have hnc42 := NB0_350.out; obtain ⟨hcz43_0, hcz43_1, hcz43_2, hcz43_3, hcz43_4, hcz43_5, hfz43_0, hfz43_1, hfz43_2, hfz43_3, hfz43_4, hfz43_5⟩ := cells6 BK350.out; obtain ⟨Ao44, co44, eo44⟩ := Kd.R_slice HO_3.out; subst eo44; have p351 : 0 ≤ (x69_2 : Int) := of_decide_eq_true (by assumption); have q351 : x69_2 < (x3_1.length : Int) := of_decide_eq_true (by assumption); obtain ⟨ad351, e351, hx351_0⟩ := Kd.at_int (Kd.R_reads' HO_3.out).2.2 x69_2 p351 q351; cases e351; have hn351_0 : ad351.block ≠ gb350 := Kd.own_blk (Kd.R_ne HO_3.out BK350.out (by decide)); have hn351_1 : ad351.block ≠ gb350 := Kd.own_blk (Kd.R_ne HO_3.out BK350.out (by decide)); have hn351_2 : ad351.block ≠ gb350 := Kd.own_blk (Kd.R_ne HO_3.out BK350.out (by decide)); have hn351_3 : ad351.block ≠ gb350 := Kd.own_blk (Kd.R_ne HO_3.out BK350.out (by decide)); have hn351_4 : ad351.block ≠ gb350 := Kd.own_blk (Kd.R_ne HO_3.out BK350.out (by decide)); have hn351_5 : ad351.block ≠ gb350 := Kd.own_blk (Kd.R_ne HO_3.out BK350.out (by decide)); have hk351_0 := hx351_0; replace hx351_0 := (cell_far (p := ⟨gb350, 0, none⟩) (by first | (rw [add_block]; exact hn351_0) | (show (Addr.add _ _).block ≠ _; rw [add_block]; exact hn351_0) | exact hn351_0) (.int .i64 ((rd_T64 l0_0 x69_2).f0))).trans hx351_0; replace hx351_0 := (cell_far (p := ⟨gb350, 1, none⟩) (by first | (rw [add_block]; exact hn351_1) | (show (Addr.add _ _).block ≠ _; rw [add_block]; exact hn351_1) | exact hn351_1) (.string ((rd_T64 l0_0 x69_2).f1))).trans hx351_0; replace hx351_0 := (cell_far (p := ⟨gb350, 2, none⟩) (by first | (rw [add_block]; exact hn351_2) | (show (Addr.add _ _).block ≠ _; rw [add_block]; exact hn351_2) | exact hn351_2) (.slice A349_2 ((rd_T64 l0_0 x69_2).f2).length c349_2)).trans hx351_0; replace hx351_0 := (cell_far (p := ⟨gb350, 3, none⟩) (by first | (rw [add_block]; exact hn351_3) | (show (Addr.add _ _).block ≠ _; rw [add_block]; exact hn351_3) | exact hn351_3) (.string ((rd_T64 l0_0 x69_2).f3))).trans hx351_0; replace hx351_0 := (cell_far (p := ⟨gb350, 4, none⟩) (by first | (rw [add_block]; exact hn351_4) | (show (Addr.add _ _).block ≠ _; rw [add_block]; exact hn351_4) | exact hn351_4) (.int .i64 ((rd_T64 l0_0 x69_2).f4))).trans hx351_0; replace hx351_0 := (cell_far (p := ⟨gb350, 5, none⟩) (by first | (rw [add_block]; exact hn351_5) | (show (Addr.add _ _).block ≠ _; rw [add_block]; exact hn351_5) | exact hn351_5) (.slice A349_5 ((rd_T64 l0_0 x69_2).f5).length c349_5)).trans hx351_0; (try have hy351_0 := fun (n_ : Nat) => ((cell_far (p := ⟨gb350, 5, none⟩) (by first | (rw [add_block]; exact hn351_5) | (show (Addr.add _ _).block ≠ _; rw [add_block]; exact hn351_5) | exact hn351_5) (.slice A349_5 ((rd_T64 l0_0 x69_2).f5).length c349_5)).trans ((cell_far (p := ⟨gb350, 4, none⟩) (by first | (rw [add_block]; exact hn351_4) | (show (Addr.add _ _).block ≠ _; rw [add_block]; exact hn351_4) | exact hn351_4) (.int .i64 ((rd_T64 l0_0 x69_2).f4))).trans ((cell_far (p := ⟨gb350, 3, none⟩) (by first | (rw [add_block]; exact hn351_3) | (show (Addr.add _ _).block ≠ _; rw [add_block]; exact hn351_3) | exact hn351_3) (.string ((rd_T64 l0_0 x69_2).f3))).trans ((cell_far (p := ⟨gb350, 2, none⟩) (by first | (rw [add_block]; exact hn351_2) | (show (Addr.add _ _).block ≠ _; rw [add_block]; exact hn351_2) | exact hn351_2) (.slice A349_2 ((rd_T64 l0_0 x69_2).f2).length c349_2)).trans ((cell_far (p := ⟨gb350, 1, none⟩) (by first | (rw [add_block]; exact hn351_1) | (show (Addr.add _ _).block ≠ _; rw [add_block]; exact hn351_1) | exact hn351_1) (.string ((rd_T64 l0_0 x69_2).f1))).trans ((cell_far (p := ⟨gb350, 0, none⟩) (by first | (rw [add_block]; exact hn351_0) | (show (Addr.add _ _).block ≠ _; rw [add_block]; exact hn351_0) | exact hn351_0) (.int .i64 ((rd_T64 l0_0 x69_2).f0))).trans (show (w41.drewN n_).cell? _ = some _ from hk351_0)))))))); clear hk351_0; clear hn351_0; clear hn351_1; clear hn351_2; clear hn351_3; clear hn351_4; clear hn351_5; replace p351 := eq_true p351; replace q351 := eq_true q351))
             repeat (go_quiet (fail); try go_wp2_with fail)
             go_ret
             exact ⟨by first | rfl | simp | simp [*], by repeat (first | (with_reducible first | exact HB.out | apply zq2 | apply zq0 | apply zq1 | refine zq3 ?_ GE0.out | refine zq3 ?_ GE350.out) | exact HB.out)⟩
            ·rw [if_neg c40] at H
             have c40b0 : ((((rd_T64 l0_0 x69_2).f4) == (-1)) == (decide ((rd x3_1 x69_2) > 0))) = false := by simpa using c40
             (try (have c40b1 : decide ((((rd_T64 l0_0 x69_2).f4) == (-1)) = (decide ((rd x3_1 x69_2) > 0))) = false := by simpa using c40))
             (try (have c40b2 : ((((rd_T64 l0_0 x69_2).f4) == (-1)) == (decide ((rd x3_1 x69_2) > 0))) = false := by simpa using c40))
             (try (have c40b3 : ¬ ((((rd_T64 l0_0 x69_2).f4) == (-1)) = (decide ((rd x3_1 x69_2) > 0))) := by simpa using c40))
             clear c40
             replace H := Option.bind_eq_some_iff.mp H
             obtain ⟨t352, A450, H⟩ := H
             (try dsimp only at H)
             have A45 := Aside0.mk A450
             clear A450
             by_cases c46 : t352 = true
             ·subst c46
              rw [if_pos rfl] at H
              obtain rfl := Option.some.inj H
              have p349 : 0 ≤ (x69_2 : Int) := of_decide_eq_true (by assumption)
              have q349 : x69_2 < (l0_0.length : Int) := of_decide_eq_true (by assumption)
              obtain ⟨ad349, A349_2, c349_2, A349_5, c349_5, e349, hx349_0, hx349_1, hx349_2, hx349_3, hx349_4, hx349_5, hl349_2, hi349_2, hl349_5, hi349_5⟩ := at_T64 HR0_0.out x69_2 p349 q349
              cases e349
              replace hx349_0 := pw_cell_below HB.out hx349_0
              replace hx349_1 := pw_cell_below HB.out hx349_1
              replace hx349_2 := pw_cell_below HB.out hx349_2
              replace hx349_3 := pw_cell_below HB.out hx349_3
              replace hx349_4 := pw_cell_below HB.out hx349_4
              replace hx349_5 := pw_cell_below HB.out hx349_5
              have HR349_2 := Aside0.mk hi349_2
              have HC349_2 := Aside0.mk hl349_2
              clear hi349_2 hl349_2
              have HR349_5 := Aside0.mk hi349_5
              have HC349_5 := Aside0.mk hl349_5
              clear hi349_5 hl349_5
              replace p349 := eq_true p349
              replace q349 := eq_true q349
              go_wp2_with (first | ((refine gate_dst (N := 9) rfl ?_); refine box_event ?hg (N := 9) ?hd (cs := #[.int .i64 0, .string (⟨#[]⟩ : ByteArray), .slice none 0 0, .string (⟨#[]⟩ : ByteArray), .int .i64 0, .slice none 0 0]) (t := 64) ?hr ?_; (case hd => rfl); (case hg => rfl); (case hr => first | (go_simp; done) | (go_simp; rfl)); intro gb350 hg w47 hbox hb; replace HO_3 := Aside0.mk (Kd.R_below (by (with_reducible repeat (first | apply Kd.R_alloc | apply Kd.R_drewN | apply Kd.R_drew)); exact HO_3.out) hb); have BK350 := Aside0.mk (hbox); have GW350 := Aside0.mk ((by rw [hg]; exact (below_size (by repeat (with_reducible first | exact HB.out | apply zq2 | apply zq0 | apply zq1 | refine zq3 ?_ GE0.out))) : w.heap.size ≤ gb350)); replace HB := Aside0.mk (zq7 (by repeat (with_reducible first | exact HB.out | apply zq2 | apply zq0 | apply zq1 | refine zq3 ?_ GE0.out)) hb); have NB0_350 := Aside0.mk ((by rw [hg]; exact Nat.ne_of_lt (blk_lt (g := g0) (o := .cells #[.slice (some ad349) l0_0.length c0_0] 29 (0, 0)) (by (with_reducible repeat (first | refine zq4 ?_ _ | refine zq6 ?_ | refine zq5 ?_ _)); exact BK0.out)) : g0 ≠ gb350)); have NB350_0 := Aside0.mk ((by rw [hg]; exact Nat.ne_of_gt (blk_lt (g := g0) (o := .cells #[.slice (some ad349) l0_0.length c0_0] 29 (0, 0)) (by (with_reducible repeat (first | refine zq4 ?_ _ | refine zq6 ?_ | refine zq5 ?_ _)); exact BK0.out)) : gb350 ≠ g0)); replace BK0 := Aside0.mk (zq10 (g := g0) (o := .cells #[.slice (some ad349) l0_0.length c0_0] 29 (0, 0)) (by (with_reducible repeat (first | refine zq4 ?_ _ | refine zq6 ?_ | refine zq5 ?_ _)); exact BK0.out) hb); have GE350 := GW350; clear hb hbox hg; have hnb48 := NB350_0.out; have hnc48 := NB0_350.out; obtain ⟨hcz49_0, hcz49_1, hcz49_2, hcz49_3, hcz49_4, hcz49_5, hfz49_0, hfz49_1, hfz49_2, hfz49_3, hfz49_4, hfz49_5⟩ := cells6 BK350.out; obtain ⟨Ao50, co50, eo50⟩ := Kd.R_slice HO_3.out; subst eo50; have p351 : 0 ≤ (x69_2 : Int) := of_decide_eq_true (by assumption); have q351 : x69_2 < (x3_1.length : Int) := of_decide_eq_true (by assumption); obtain ⟨ad351, e351, hx351_0⟩ := Kd.at_int (Kd.R_reads' HO_3.out).2.2 x69_2 p351 q351; cases e351; have hn351_0 : ad351.block ≠ gb350 := Kd.own_blk (Kd.R_ne HO_3.out BK350.out (by decide)); have hn351_1 : ad351.block ≠ gb350 := Kd.own_blk (Kd.R_ne HO_3.out BK350.out (by decide)); have hn351_2 : ad351.block ≠ gb350 := Kd.own_blk (Kd.R_ne HO_3.out BK350.out (by decide)); have hn351_3 : ad351.block ≠ gb350 := Kd.own_blk (Kd.R_ne HO_3.out BK350.out (by decide)); have hn351_4 : ad351.block ≠ gb350 := Kd.own_blk (Kd.R_ne HO_3.out BK350.out (by decide)); have hn351_5 : ad351.block ≠ gb350 := Kd.own_blk (Kd.R_ne HO_3.out BK350.out (by decide)); have hk351_0 := hx351_0; replace hx351_0 := (cell_far (p := ⟨gb350, 0, none⟩) (by first | (rw [add_block]; exact hn351_0) | (show (Addr.add _ _).block ≠ _; rw [add_block]; exact hn351_0) | exact hn351_0) (.int .i64 ((rd_T64 l0_0 x69_2).f0))).trans hx351_0; replace hx351_0 := (cell_far (p := ⟨gb350, 1, none⟩) (by first | (rw [add_block]; exact hn351_1) | (show (Addr.add _ _).block ≠ _; rw [add_block]; exact hn351_1) | exact hn351_1) (.string ((rd_T64 l0_0 x69_2).f1))).trans hx351_0; replace hx351_0 := (cell_far (p := ⟨gb350, 2, none⟩) (by first | (rw [add_block]; exact hn351_2) | (show (Addr.add _ _).block ≠ _; rw [add_block]; exact hn351_2) | exact hn351_2) (.slice A349_2 ((rd_T64 l0_0 x69_2).f2).length c349_2)).trans hx351_0; replace hx351_0 := (cell_far (p := ⟨gb350, 3, none⟩) (by first | (rw [add_block]; exact hn351_3) | (show (Addr.add _ _).block ≠ _; rw [add_block]; exact hn351_3) | exact hn351_3) (.string ((rd_T64 l0_0 x69_2).f3))).trans hx351_0; replace hx351_0 := (cell_far (p := ⟨gb350, 4, none⟩) (by first | (rw [add_block]; exact hn351_4) | (show (Addr.add _ _).block ≠ _; rw [add_block]; exact hn351_4) | exact hn351_4) (.int .i64 ((rd_T64 l0_0 x69_2).f4))).trans hx351_0; replace hx351_0 := (cell_far (p := ⟨gb350, 5, none⟩) (by first | (rw [add_block]; exact hn351_5) | (show (Addr.add _ _).block ≠ _; rw [add_block]; exact hn351_5) | exact hn351_5) (.slice A349_5 ((rd_T64 l0_0 x69_2).f5).length c349_5)).trans hx351_0; (try have hy351_0 := fun (n_ : Nat) => ((cell_far (p := ⟨gb350, 5, none⟩) (by first | (rw [add_block]; exact hn351_5) | (show (Addr.add _ _).block ≠ _; rw [add_block]; exact hn351_5) | exact hn351_5) (.slice A349_5 ((rd_T64 l0_0 x69_2).f5).length c349_5)).trans ((cell_far (p := ⟨gb350, 4, none⟩) (by first | (rw [add_block]; exact hn351_4) | (show (Addr.add _ _).block ≠ _; rw [add_block]; exact hn351_4) | exact hn351_4) (.int .i64 ((rd_T64 l0_0 x69_2).f4))).trans ((cell_far (p := ⟨gb350, 3, none⟩) (by first | (rw [add_block]; exact hn351_3) | (show (Addr.add _ _).block ≠ _; rw [add_block]; exact hn351_3) | exact hn351_3) (.string ((rd_T64 l0_0 x69_2).f3))).trans ((cell_far (p := ⟨gb350, 2, none⟩) (by first | (rw [add_block]; exact hn351_2) | (show (Addr.add _ _).block ≠ _; rw [add_block]; exact hn351_2) | exact hn351_2) (.slice A349_2 ((rd_T64 l0_0 x69_2).f2).length c349_2)).trans ((cell_far (p := ⟨gb350, 1, none⟩) (by first | (rw [add_block]; exact hn351_1) | (show (Addr.add _ _).block ≠ _; rw [add_block]; exact hn351_1) | exact hn351_1) (.string ((rd_T64 l0_0 x69_2).f1))).trans ((cell_far (p := ⟨gb350, 0, none⟩) (by first | (rw [add_block]; exact hn351_0) | (show (Addr.add _ _).block ≠ _; rw [add_block]; exact hn351_0) | exact hn351_0) (.int .i64 ((rd_T64 l0_0 x69_2).f0))).trans (show (w47.drewN n_).cell? _ = some _ from hk351_0)))))))); clear hk351_0; clear hn351_0; clear hn351_1; clear hn351_2; clear hn351_3; clear hn351_4; clear hn351_5; replace p351 := eq_true p351; replace q351 := eq_true q351) | (go_at_call 117; (with_reducible refine (zq19.calls k2 g0 (some ad349) c0_0 l0_0 x69_2 ((rd_T64 l0_0 x69_2).f4) true _ ?side1 ?side2 ?side3 A45.out).mono ?_); (case side1 => exact (by (with_reducible repeat (first | refine zq4 ?_ _ | refine zq6 ?_ | refine zq5 ?_ _ | refine blk_far ?_ NB0_350.out _)); exact BK0.out)); (case side2 => exact Kd.C_below HR0_0.out (by repeat (with_reducible first | exact HB.out | apply zq2 | apply zq0 | apply zq1 | refine zq3 ?_ GE0.out | refine zq3 ?_ GE350.out))); (case side3 => exact HC0_0.out); rintro e w' ⟨rfl, ⟨nd, rfl⟩⟩; (try first | exact ⟨rfl, _, World.drewN_drewN _ _ _⟩ | exact ⟨rfl, _, Eq.trans (World.drewN_drewN _ _ _) (congrArg (World.drewN _) (Nat.add_assoc _ _ _))⟩)))
              repeat (go_quiet (first | (go_at_call 117; (with_reducible refine (zq19.calls k2 g0 (some ad349) c0_0 l0_0 x69_2 ((rd_T64 l0_0 x69_2).f4) true _ ?side1 ?side2 ?side3 A45.out).mono ?_); (case side1 => exact (by (with_reducible repeat (first | refine zq4 ?_ _ | refine zq6 ?_ | refine zq5 ?_ _ | refine blk_far ?_ NB0_350.out _)); exact BK0.out)); (case side2 => exact Kd.C_below HR0_0.out (by repeat (with_reducible first | exact HB.out | apply zq2 | apply zq0 | apply zq1 | refine zq3 ?_ GE0.out | refine zq3 ?_ GE350.out))); (case side3 => exact HC0_0.out); rintro e w' ⟨rfl, ⟨nd, rfl⟩⟩; (try first | exact ⟨rfl, _, World.drewN_drewN _ _ _⟩ | exact ⟨rfl, _, Eq.trans (World.drewN_drewN _ _ _) (congrArg (World.drewN _) (Nat.add_assoc _ _ _))⟩))); try go_wp2_with (first | (go_at_call 117; (with_reducible refine (zq19.calls k2 g0 (some ad349) c0_0 l0_0 x69_2 ((rd_T64 l0_0 x69_2).f4) true _ ?side1 ?side2 ?side3 A45.out).mono ?_); (case side1 => exact (by (with_reducible repeat (first | refine zq4 ?_ _ | refine zq6 ?_ | refine zq5 ?_ _ | refine blk_far ?_ NB0_350.out _)); exact BK0.out)); (case side2 => exact Kd.C_below HR0_0.out (by repeat (with_reducible first | exact HB.out | apply zq2 | apply zq0 | apply zq1 | refine zq3 ?_ GE0.out | refine zq3 ?_ GE350.out))); (case side3 => exact HC0_0.out); rintro e w' ⟨rfl, ⟨nd, rfl⟩⟩; (try first | exact ⟨rfl, _, World.drewN_drewN _ _ _⟩ | exact ⟨rfl, _, Eq.trans (World.drewN_drewN _ _ _) (congrArg (World.drewN _) (Nat.add_assoc _ _ _))⟩))))
              go_ret
              exact ⟨by first | rfl | simp | simp [*], by repeat (first | (with_reducible first | exact HB.out | apply zq2 | apply zq0 | apply zq1 | refine zq3 ?_ GE0.out | refine zq3 ?_ GE350.out) | exact HB.out)⟩
             ·replace c46 := Bool.eq_false_iff.mpr c46
              subst c46
              rw [if_neg (show ¬ (false = true) by decide)] at H
              have H' := Aside0.mk H
              clear H
              have p349 : 0 ≤ (x69_2 : Int) := of_decide_eq_true (by assumption)
              have q349 : x69_2 < (l0_0.length : Int) := of_decide_eq_true (by assumption)
              obtain ⟨ad349, A349_2, c349_2, A349_5, c349_5, e349, hx349_0, hx349_1, hx349_2, hx349_3, hx349_4, hx349_5, hl349_2, hi349_2, hl349_5, hi349_5⟩ := at_T64 HR0_0.out x69_2 p349 q349
              cases e349
              replace hx349_0 := pw_cell_below HB.out hx349_0
              replace hx349_1 := pw_cell_below HB.out hx349_1
              replace hx349_2 := pw_cell_below HB.out hx349_2
              replace hx349_3 := pw_cell_below HB.out hx349_3
              replace hx349_4 := pw_cell_below HB.out hx349_4
              replace hx349_5 := pw_cell_below HB.out hx349_5
              have HR349_2 := Aside0.mk hi349_2
              have HC349_2 := Aside0.mk hl349_2
              clear hi349_2 hl349_2
              have HR349_5 := Aside0.mk hi349_5
              have HC349_5 := Aside0.mk hl349_5
              clear hi349_5 hl349_5
              replace p349 := eq_true p349
              replace q349 := eq_true q349
              go_wp2_with (first | ((refine gate_dst (N := 9) rfl ?_); refine box_event ?hg (N := 9) ?hd (cs := #[.int .i64 0, .string (⟨#[]⟩ : ByteArray), .slice none 0 0, .string (⟨#[]⟩ : ByteArray), .int .i64 0, .slice none 0 0]) (t := 64) ?hr ?_; (case hd => rfl); (case hg => rfl); (case hr => first | (go_simp; done) | (go_simp; rfl)); intro gb350 hg w51 hbox hb; replace HO_3 := Aside0.mk (Kd.R_below (by (with_reducible repeat (first | apply Kd.R_alloc | apply Kd.R_drewN | apply Kd.R_drew)); exact HO_3.out) hb); have BK350 := Aside0.mk (hbox); have GW350 := Aside0.mk ((by rw [hg]; exact (below_size (by repeat (with_reducible first | exact HB.out | apply zq2 | apply zq0 | apply zq1 | refine zq3 ?_ GE0.out))) : w.heap.size ≤ gb350)); replace HB := Aside0.mk (zq7 (by repeat (with_reducible first | exact HB.out | apply zq2 | apply zq0 | apply zq1 | refine zq3 ?_ GE0.out)) hb); have NB0_350 := Aside0.mk ((by rw [hg]; exact Nat.ne_of_lt (blk_lt (g := g0) (o := .cells #[.slice (some ad349) l0_0.length c0_0] 29 (0, 0)) (by (with_reducible repeat (first | refine zq4 ?_ _ | refine zq6 ?_ | refine zq5 ?_ _)); exact BK0.out)) : g0 ≠ gb350)); have NB350_0 := Aside0.mk ((by rw [hg]; exact Nat.ne_of_gt (blk_lt (g := g0) (o := .cells #[.slice (some ad349) l0_0.length c0_0] 29 (0, 0)) (by (with_reducible repeat (first | refine zq4 ?_ _ | refine zq6 ?_ | refine zq5 ?_ _)); exact BK0.out)) : gb350 ≠ g0)); replace BK0 := Aside0.mk (zq10 (g := g0) (o := .cells #[.slice (some ad349) l0_0.length c0_0] 29 (0, 0)) (by (with_reducible repeat (first | refine zq4 ?_ _ | refine zq6 ?_ | refine zq5 ?_ _)); exact BK0.out) hb); have GE350 := GW350; clear hb hbox hg; have hnb52 := NB350_0.out; have hnc52 := NB0_350.out; obtain ⟨hcz53_0, hcz53_1, hcz53_2, hcz53_3, hcz53_4, hcz53_5, hfz53_0, hfz53_1, hfz53_2, hfz53_3, hfz53_4, hfz53_5⟩ := cells6 BK350.out; obtain ⟨Ao54, co54, eo54⟩ := Kd.R_slice HO_3.out; subst eo54; have p351 : 0 ≤ (x69_2 : Int) := of_decide_eq_true (by assumption); have q351 : x69_2 < (x3_1.length : Int) := of_decide_eq_true (by assumption); obtain ⟨ad351, e351, hx351_0⟩ := Kd.at_int (Kd.R_reads' HO_3.out).2.2 x69_2 p351 q351; cases e351; have hn351_0 : ad351.block ≠ gb350 := Kd.own_blk (Kd.R_ne HO_3.out BK350.out (by decide)); have hn351_1 : ad351.block ≠ gb350 := Kd.own_blk (Kd.R_ne HO_3.out BK350.out (by decide)); have hn351_2 : ad351.block ≠ gb350 := Kd.own_blk (Kd.R_ne HO_3.out BK350.out (by decide)); have hn351_3 : ad351.block ≠ gb350 := Kd.own_blk (Kd.R_ne HO_3.out BK350.out (by decide)); have hn351_4 : ad351.block ≠ gb350 := Kd.own_blk (Kd.R_ne HO_3.out BK350.out (by decide)); have hn351_5 : ad351.block ≠ gb350 := Kd.own_blk (Kd.R_ne HO_3.out BK350.out (by decide)); have hk351_0 := hx351_0; replace hx351_0 := (cell_far (p := ⟨gb350, 0, none⟩) (by first | (rw [add_block]; exact hn351_0) | (show (Addr.add _ _).block ≠ _; rw [add_block]; exact hn351_0) | exact hn351_0) (.int .i64 ((rd_T64 l0_0 x69_2).f0))).trans hx351_0; replace hx351_0 := (cell_far (p := ⟨gb350, 1, none⟩) (by first | (rw [add_block]; exact hn351_1) | (show (Addr.add _ _).block ≠ _; rw [add_block]; exact hn351_1) | exact hn351_1) (.string ((rd_T64 l0_0 x69_2).f1))).trans hx351_0; replace hx351_0 := (cell_far (p := ⟨gb350, 2, none⟩) (by first | (rw [add_block]; exact hn351_2) | (show (Addr.add _ _).block ≠ _; rw [add_block]; exact hn351_2) | exact hn351_2) (.slice A349_2 ((rd_T64 l0_0 x69_2).f2).length c349_2)).trans hx351_0; replace hx351_0 := (cell_far (p := ⟨gb350, 3, none⟩) (by first | (rw [add_block]; exact hn351_3) | (show (Addr.add _ _).block ≠ _; rw [add_block]; exact hn351_3) | exact hn351_3) (.string ((rd_T64 l0_0 x69_2).f3))).trans hx351_0; replace hx351_0 := (cell_far (p := ⟨gb350, 4, none⟩) (by first | (rw [add_block]; exact hn351_4) | (show (Addr.add _ _).block ≠ _; rw [add_block]; exact hn351_4) | exact hn351_4) (.int .i64 ((rd_T64 l0_0 x69_2).f4))).trans hx351_0; replace hx351_0 := (cell_far (p := ⟨gb350, 5, none⟩) (by first | (rw [add_block]; exact hn351_5) | (show (Addr.add _ _).block ≠ _; rw [add_block]; exact hn351_5) | exact hn351_5) (.slice A349_5 ((rd_T64 l0_0 x69_2).f5).length c349_5)).trans hx351_0; (try have hy351_0 := fun (n_ : Nat) => ((cell_far (p := ⟨gb350, 5, none⟩) (by first | (rw [add_block]; exact hn351_5) | (show (Addr.add _ _).block ≠ _; rw [add_block]; exact hn351_5) | exact hn351_5) (.slice A349_5 ((rd_T64 l0_0 x69_2).f5).length c349_5)).trans ((cell_far (p := ⟨gb350, 4, none⟩) (by first | (rw [add_block]; exact hn351_4) | (show (Addr.add _ _).block ≠ _; rw [add_block]; exact hn351_4) | exact hn351_4) (.int .i64 ((rd_T64 l0_0 x69_2).f4))).trans ((cell_far (p := ⟨gb350, 3, none⟩) (by first | (rw [add_block]; exact hn351_3) | (show (Addr.add _ _).block ≠ _; rw [add_block]; exact hn351_3) | exact hn351_3) (.string ((rd_T64 l0_0 x69_2).f3))).trans ((cell_far (p := ⟨gb350, 2, none⟩) (by first | (rw [add_block]; exact hn351_2) | (show (Addr.add _ _).block ≠ _; rw [add_block]; exact hn351_2) | exact hn351_2) (.slice A349_2 ((rd_T64 l0_0 x69_2).f2).length c349_2)).trans ((cell_far (p := ⟨gb350, 1, none⟩) (by first | (rw [add_block]; exact hn351_1) | (show (Addr.add _ _).block ≠ _; rw [add_block]; exact hn351_1) | exact hn351_1) (.string ((rd_T64 l0_0 x69_2).f1))).trans ((cell_far (p := ⟨gb350, 0, none⟩) (by first | (rw [add_block]; exact hn351_0) | (show (Addr.add _ _).block ≠ _; rw [add_block]; exact hn351_0) | exact hn351_0) (.int .i64 ((rd_T64 l0_0 x69_2).f0))).trans (show (w51.drewN n_).cell? _ = some _ from hk351_0)))))))); clear hk351_0; clear hn351_0; clear hn351_1; clear hn351_2; clear hn351_3; clear hn351_4; clear hn351_5; replace p351 := eq_true p351; replace q351 := eq_true q351) | (go_at_call 117; (with_reducible refine (zq19.calls k2 g0 (some ad349) c0_0 l0_0 x69_2 ((rd_T64 l0_0 x69_2).f4) false _ ?side1 ?side2 ?side3 A45.out).mono ?_); (case side1 => exact (by (with_reducible repeat (first | refine zq4 ?_ _ | refine zq6 ?_ | refine zq5 ?_ _ | refine blk_far ?_ NB0_350.out _)); exact BK0.out)); (case side2 => exact Kd.C_below HR0_0.out (by repeat (with_reducible first | exact HB.out | apply zq2 | apply zq0 | apply zq1 | refine zq3 ?_ GE0.out | refine zq3 ?_ GE350.out))); (case side3 => exact HC0_0.out); rintro e w' ⟨rfl, ⟨nd, rfl⟩⟩; (try first | exact ⟨rfl, _, World.drewN_drewN _ _ _⟩ | exact ⟨rfl, _, Eq.trans (World.drewN_drewN _ _ _) (congrArg (World.drewN _) (Nat.add_assoc _ _ _))⟩)))
              repeat (go_quiet (first | (go_at_call 117; (with_reducible refine (zq19.calls k2 g0 (some ad349) c0_0 l0_0 x69_2 ((rd_T64 l0_0 x69_2).f4) false _ ?side1 ?side2 ?side3 A45.out).mono ?_); (case side1 => exact (by (with_reducible repeat (first | refine zq4 ?_ _ | refine zq6 ?_ | refine zq5 ?_ _ | refine blk_far ?_ NB0_350.out _)); exact BK0.out)); (case side2 => exact Kd.C_below HR0_0.out (by repeat (with_reducible first | exact HB.out | apply zq2 | apply zq0 | apply zq1 | refine zq3 ?_ GE0.out | refine zq3 ?_ GE350.out))); (case side3 => exact HC0_0.out); rintro e w' ⟨rfl, ⟨nd, rfl⟩⟩; (try first | exact ⟨rfl, _, World.drewN_drewN _ _ _⟩ | exact ⟨rfl, _, Eq.trans (World.drewN_drewN _ _ _) (congrArg (World.drewN _) (Nat.add_assoc _ _ _))⟩))); try go_wp2_with (first | (go_at_call 117; (with_reducible refine (zq19.calls k2 g0 (some ad349) c0_0 l0_0 x69_2 ((rd_T64 l0_0 x69_2).f4) false _ ?side1 ?side2 ?side3 A45.out).mono ?_); (case side1 => exact (by (with_reducible repeat (first | refine zq4 ?_ _ | refine zq6 ?_ | refine zq5 ?_ _ | refine blk_far ?_ NB0_350.out _)); exact BK0.out)); (case side2 => exact Kd.C_below HR0_0.out (by repeat (with_reducible first | exact HB.out | apply zq2 | apply zq0 | apply zq1 | refine zq3 ?_ GE0.out | refine zq3 ?_ GE350.out))); (case side3 => exact HC0_0.out); rintro e w' ⟨rfl, ⟨nd, rfl⟩⟩; (try first | exact ⟨rfl, _, World.drewN_drewN _ _ _⟩ | exact ⟨rfl, _, Eq.trans (World.drewN_drewN _ _ _) (congrArg (World.drewN _) (Nat.add_assoc _ _ _))⟩))))
              go_roundg k2
              case measure => have := HK1.out; have := HK2.out; omega
              case rel => exact ⟨(wrap64 (x69_2 + 1)), (by first | rfl | simp | simp [*]), H', ⟨by have := HK1.out; have := HK2.out; omega⟩, ⟨by (with_reducible repeat (first | apply Kd.R_alloc | apply Kd.R_drewN | apply Kd.R_drew)); exact Kd.R_mono (Kd.R_far (p := ⟨gb350, 5, none⟩) (Kd.R_far (p := ⟨gb350, 4, none⟩) (Kd.R_far (p := ⟨gb350, 3, none⟩) (Kd.R_far (p := ⟨gb350, 2, none⟩) (Kd.R_far (p := ⟨gb350, 1, none⟩) (Kd.R_far (p := ⟨gb350, 0, none⟩) (Kd.R_types HO_3.out BK350.out (by decide)) (fun _ hk => hk.2) (.int .i64 ((rd_T64 l0_0 x69_2).f0))) (fun _ hk => hk.2) (.string ((rd_T64 l0_0 x69_2).f1))) (fun _ hk => hk.2) (.slice A349_2 ((rd_T64 l0_0 x69_2).f2).length c349_2)) (fun _ hk => hk.2) (.string ((rd_T64 l0_0 x69_2).f3))) (fun _ hk => hk.2) (.int .i64 ((rd_T64 l0_0 x69_2).f4))) (fun _ hk => hk.2) (.slice A349_5 ((rd_T64 l0_0 x69_2).f5).length c349_5)) (fun _ hk => trivial)⟩, ⟨by (with_reducible repeat (first | refine zq4 ?_ _ | refine zq6 ?_ | refine zq5 ?_ _ | refine blk_far ?_ NB0_350.out _)); exact BK0.out⟩, ⟨by repeat (first | (with_reducible first | exact HB.out | apply zq2 | apply zq0 | apply zq1 | refine zq3 ?_ GE0.out | refine zq3 ?_ GE350.out) | exact HB.out)⟩⟩
           ·rw [if_neg c39] at H
            exact absurd H (by simp)
          ·rw [if_neg c38] at H
           exact absurd H (by simp)
         ·rw [if_neg c37] at H
          exact absurd H (by simp)
        ·rw [if_neg c36] at H
         have c36b0 : decide (x69_2 < (l0_0.length : Int)) = false := decide_eq_false c36
         clear c36
         obtain rfl := Option.some.inj H
         go_wp2
         repeat (go_quiet (fail); try go_wp2)
         go_ret
         exact ⟨by first | rfl | simp | simp [*], by repeat (first | (with_reducible first | exact HB.out | apply zq2 | apply zq0 | apply zq1 | refine zq3 ?_ GE0.out) | exact HB.out)⟩
  ·rw [if_neg c3] at H
   exact absurd H (by simp)
 ·rw [if_neg c2] at H
  exact absurd H (by simp)
/-! ### zq35: function 56 -/
def zq35.l0 : Nat → List (S64) → Int → Int → List (S64) → Option (Bool)
 | 0, _, _, _, _ => none
 | k + 1, x11, x12, x13, x354000 => if x13 < x12 then (if 0 ≤ x13 then (if x13 < (x11.length : Int) then ((zq40.f k ((rd_T64 x11 x13).f0) ((rd_T64 x11 x13).f1) ((rd_T64 x11 x13).f2) ((rd_T64 x11 x13).f3) ((rd_T64 x11 x13).f4) ((rd_T64 x11 x13).f5) x13).bind fun t357 => (if t357 = true then (zq35.l0 k x11 x12 (wrap64 (x13 + 1)) x354000) else (some false))) else (none)) else (none)) else ((zq15.f k x354000).bind fun t358 => (some t358))
def zq35.f (k : Nat) (l0_0 : List (S64)) : Option (Bool) := (zq44.f (l0_0.length : Int) 1 500).bind fun t354 => (if t354 = true then (zq35.l0 k l0_0 (l0_0.length : Int) 0 l0_0) else (some false))
theorem zq35.mono_l : ∀ k, (∀ y0 y1 y2 y3, LeO (zq35.l0 k y0 y1 y2 y3) (zq35.l0 (k + 1) y0 y1 y2 y3))
 | 0 => fun _ _ _ _ r h => by simp [zq35.l0] at h
 | k + 1 => by
  have ih0 := zq35.mono_l k
  ·intro y0 y1 y2 y3
   unfold zq35.l0
   repeat' first
   | (with_reducible exact ih0 _ _ _ _)
   | (with_reducible exact zq15.mono _ _)
   | (with_reducible exact zq40.mono _ _ _ _ _ _ _ _)
   | (with_reducible exact LeO.refl _)
   | (with_reducible exact LeO.none _)
   | (with_reducible refine LeO.ite ?_ ?_)
   | (with_reducible refine LeO.bind ?_ (fun _ => ?_))
theorem zq35.mono : ∀ a0 k, LeO (zq35.f k a0) (zq35.f (k + 1) a0) := by
 intro a0 k
 have ih0 := zq35.mono_l k
 unfold zq35.f
 repeat' first
   | (with_reducible exact ih0 _ _ _ _)
   | (with_reducible exact zq15.mono _ _)
   | (with_reducible exact zq40.mono _ _ _ _ _ _ _ _)
   | (with_reducible exact LeO.refl _)
   | (with_reducible exact LeO.none _)
   | (with_reducible refine LeO.ite ?_ ?_)
   | (with_reducible refine LeO.bind ?_ (fun _ => ?_))
set_option maxHeartbeats 8000000 in
set_option maxRecDepth 100000 in
theorem zq35.calls (k : Nat) (A0_0 : Option Addr) (c0_0 : Nat) (l0_0 : List (S64)) (r : Bool) (w : World) (hr0_0 : Kd.C k64 w A0_0 l0_0.length l0_0) (hc0_0 : l0_0.length ≤ c0_0) (h : zq35.f k l0_0 = some r) :
  Calls Try.prog 56 #[.agg #[.slice A0_0 l0_0.length c0_0]] w fun e w' => e = .returned (.bool r) ∧ Below w.heap.size w w' := by
 have hu29 := Try.underlying29
 have hu64 := Try.underlying64
 have HR0_0 := Aside0.mk hr0_0
 have HC0_0 := Aside0.mk hc0_0
 clear hr0_0 hc0_0
 have HB := Aside0.mk (Below.refl w.heap.size w)
 have H : ((zq44.f (l0_0.length : Int) 1 500).bind fun t354 => (if t354 = true then (zq35.l0 k l0_0 (l0_0.length : Int) 0 l0_0) else (some false))) = some r := h
 clear h
 replace H := Option.bind_eq_some_iff.mp H
 obtain ⟨t354, A20, H⟩ := H
 (try dsimp only at H)
 have A2 := Aside0.mk A20
 clear A20
 by_cases c3 : t354 = true
 ·subst c3
  rw [if_pos rfl] at H
  have H' := Aside0.mk H
  clear H
  go_enter Try.func56, Try.ntmps56
  go_wp2_with (first | ((refine gate_dst (N := 1) rfl ?_); refine box_event ?hg (N := 1) ?hd (cs := #[.slice A0_0 l0_0.length c0_0]) (t := 29) ?hr ?_; (case hd => rfl); (case hg => rfl); (case hr => first | (go_simp; done) | (go_simp; rfl)); intro gb353 hg w4 hbox hb; have BK353 := Aside0.mk (hbox); have GW353 := Aside0.mk ((by rw [hg]; exact (below_size (by repeat (with_reducible first | exact HB.out | apply zq2 | apply zq0 | apply zq1))) : w.heap.size ≤ gb353)); replace HB := Aside0.mk (zq7 (by repeat (with_reducible first | exact HB.out | apply zq2 | apply zq0 | apply zq1)) hb); have GE353 := GW353; clear hb hbox hg; obtain ⟨hcz5_0, hfz5_0⟩ := cells1 BK353.out) | ((refine gate_callee (f := 75) rfl ?_); refine goesL_ (some 8) rfl rfl Try.func75 (by kernel_rfl) rfl #[.int .i64 (l0_0.length : Int), .int .i64 1, .int .i64 500] rfl (by (try simp only [List.map_toArray, List.map_cons, List.map_nil]); first | done | rfl) ?_; (with_reducible refine (zq44.calls (l0_0.length : Int) 1 500 true _ A2.out).mono ?_); rintro e w' ⟨rfl, ⟨nd, rfl⟩⟩; refine ⟨_, rfl, ?_⟩))
  go_loopg [13] k (fun kq v13 w' => ∃ (x13_1 : Int), v13 = .int .i64 x13_1 ∧ Aside0 (zq35.l0 kq l0_0 (l0_0.length : Int) x13_1 l0_0 = some r) ∧ Aside0 (kq ≤ k) ∧ Aside0 (w'.heap[gb353]? = some (.cells #[(.slice A0_0 l0_0.length c0_0)] 29 (0, 0))) ∧ Aside0 (Below w.heap.size w w'))
  case atStart => exact ⟨(0), (by first | rfl | simp | simp [*]), H', ⟨Nat.le_refl _⟩, ⟨by (with_reducible repeat (first | refine zq4 ?_ _ | refine zq6 ?_ | refine zq5 ?_ _)); exact BK353.out⟩, ⟨by repeat (first | (with_reducible first | exact HB.out | apply zq2 | apply zq0 | apply zq1 | refine zq3 ?_ GE353.out) | exact HB.out)⟩⟩
  case round =>
   clear H'
   obtain ⟨x13_1, rfl, HA, HK1, BK353, HB⟩ := hrel
   cases gk with
   | zero => exact absurd HA.out (by simp [zq35.l0])
   | succ k1 =>
    have H := HA.out
    clear HA
    simp only [zq35.l0] at H
    by_cases c6 : x13_1 < (l0_0.length : Int)
    ·rw [if_pos c6] at H
     have c6b0 : decide (x13_1 < (l0_0.length : Int)) = true := decide_eq_true c6
     clear c6
     by_cases c7 : 0 ≤ x13_1
     ·rw [if_pos c7] at H
      have c7b0 : decide (0 ≤ x13_1) = true := decide_eq_true c7
      clear c7
      by_cases c8 : x13_1 < (l0_0.length : Int)
      ·rw [if_pos c8] at H
       have c8b0 : decide (x13_1 < (l0_0.length : Int)) = true := decide_eq_true c8
       clear c8
       replace H := Option.bind_eq_some_iff.mp H
       obtain ⟨t357, A90, H⟩ := H
       (try dsimp only at H)
       have A9 := Aside0.mk A90
       clear A90
       by_cases c10 : t357 = true
       ·subst c10
        rw [if_pos rfl] at H
        have H' := Aside0.mk H
        clear H
        have p355 : 0 ≤ (x13_1 : Int) := of_decide_eq_true (by assumption)
        have q355 : x13_1 < (l0_0.length : Int) := of_decide_eq_true (by assumption)
        obtain ⟨ad355, A355_2, c355_2, A355_5, c355_5, e355, hx355_0, hx355_1, hx355_2, hx355_3, hx355_4, hx355_5, hl355_2, hi355_2, hl355_5, hi355_5⟩ := at_T64 HR0_0.out x13_1 p355 q355
        cases e355
        replace hx355_0 := pw_cell_below HB.out hx355_0
        replace hx355_1 := pw_cell_below HB.out hx355_1
        replace hx355_2 := pw_cell_below HB.out hx355_2
        replace hx355_3 := pw_cell_below HB.out hx355_3
        replace hx355_4 := pw_cell_below HB.out hx355_4
        replace hx355_5 := pw_cell_below HB.out hx355_5
        have HR355_2 := Aside0.mk hi355_2
        have HC355_2 := Aside0.mk hl355_2
        clear hi355_2 hl355_2
        have HR355_5 := Aside0.mk hi355_5
        have HC355_5 := Aside0.mk hl355_5
        clear hi355_5 hl355_5
        replace p355 := eq_true p355
        replace q355 := eq_true q355
        go_wp2_with (first | ((refine gate_dst (N := 4) rfl ?_); refine box_event ?hg (N := 4) ?hd (cs := #[.int .i64 0, .string (⟨#[]⟩ : ByteArray), .slice none 0 0, .string (⟨#[]⟩ : ByteArray), .int .i64 0, .slice none 0 0]) (t := 64) ?hr ?_; (case hd => rfl); (case hg => rfl); (case hr => first | (go_simp; done) | (go_simp; rfl)); intro gb356 hg w11 hbox hb; have BK356 := Aside0.mk (hbox); have GW356 := Aside0.mk ((by rw [hg]; exact (below_size (by repeat (with_reducible first | exact HB.out | apply zq2 | apply zq0 | apply zq1 | refine zq3 ?_ GE353.out))) : w.heap.size ≤ gb356)); replace HB := Aside0.mk (zq7 (by repeat (with_reducible first | exact HB.out | apply zq2 | apply zq0 | apply zq1 | refine zq3 ?_ GE353.out)) hb); have NB353_356 := Aside0.mk ((by rw [hg]; exact Nat.ne_of_lt (blk_lt (g := gb353) (o := .cells #[.slice (some ad355) l0_0.length c0_0] 29 (0, 0)) (by (with_reducible repeat (first | refine zq4 ?_ _ | refine zq6 ?_ | refine zq5 ?_ _)); exact BK353.out)) : gb353 ≠ gb356)); have NB356_353 := Aside0.mk ((by rw [hg]; exact Nat.ne_of_gt (blk_lt (g := gb353) (o := .cells #[.slice (some ad355) l0_0.length c0_0] 29 (0, 0)) (by (with_reducible repeat (first | refine zq4 ?_ _ | refine zq6 ?_ | refine zq5 ?_ _)); exact BK353.out)) : gb356 ≠ gb353)); replace BK353 := Aside0.mk (zq10 (g := gb353) (o := .cells #[.slice (some ad355) l0_0.length c0_0] 29 (0, 0)) (by (with_reducible repeat (first | refine zq4 ?_ _ | refine zq6 ?_ | refine zq5 ?_ _)); exact BK353.out) hb); have GE356 := GW356; clear hb hbox hg; have hnb12 := NB356_353.out; have hnc12 := NB353_356.out; obtain ⟨hcz13_0, hcz13_1, hcz13_2, hcz13_3, hcz13_4, hcz13_5, hfz13_0, hfz13_1, hfz13_2, hfz13_3, hfz13_4, hfz13_5⟩ := cells6 BK356.out) | ((refine gate_callee (f := 88) rfl ?_); refine goesL_ (some 20) rfl rfl Try.func88 (by kernel_rfl) rfl #[.agg #[.int .i64 ((rd_T64 l0_0 x13_1).f0), .string ((rd_T64 l0_0 x13_1).f1), .slice A355_2 ((rd_T64 l0_0 x13_1).f2).length c355_2, .string ((rd_T64 l0_0 x13_1).f3), .int .i64 ((rd_T64 l0_0 x13_1).f4), .slice A355_5 ((rd_T64 l0_0 x13_1).f5).length c355_5], .int .i64 x13_1] rfl (by (try simp only [List.map_toArray, List.map_cons, List.map_nil]); first | done | rfl | (simp only [List.length_drop, List.length_take]; rfl)) ?_; (with_reducible refine (zq40.calls k1 ((rd_T64 l0_0 x13_1).f0) ((rd_T64 l0_0 x13_1).f1) _ _ ((rd_T64 l0_0 x13_1).f2) ((rd_T64 l0_0 x13_1).f3) ((rd_T64 l0_0 x13_1).f4) _ _ ((rd_T64 l0_0 x13_1).f5) x13_1 true _ ?side1 ?side2 ?side3 ?side4 A9.out).mono ?_); (case side1 => exact Kd.C_below HR355_2.out (by repeat (with_reducible first | exact HB.out | apply zq2 | apply zq0 | apply zq1 | refine zq3 ?_ GE353.out | refine zq3 ?_ GE356.out))); (case side2 => exact HC355_2.out); (case side3 => exact Kd.C_below HR355_5.out (by repeat (with_reducible first | exact HB.out | apply zq2 | apply zq0 | apply zq1 | refine zq3 ?_ GE353.out | refine zq3 ?_ GE356.out))); (case side4 => exact HC355_5.out); rintro e w14 ⟨rfl, hb⟩; refine ⟨_, rfl, ?_⟩; replace BK353 := Aside0.mk (zq10 (g := gb353) (o := .cells #[.slice (some ad355) l0_0.length c0_0] 29 (0, 0)) (by (with_reducible repeat (first | refine zq4 ?_ _ | refine zq6 ?_ | refine zq5 ?_ _ | refine blk_far ?_ NB353_356.out _)); exact BK353.out) hb); replace BK356 := Aside0.mk (zq10 (g := gb356) (o := .cells #[.int .i64 ((rd_T64 l0_0 x13_1).f0), .string ((rd_T64 l0_0 x13_1).f1), .slice A355_2 ((rd_T64 l0_0 x13_1).f2).length c355_2, .string ((rd_T64 l0_0 x13_1).f3), .int .i64 ((rd_T64 l0_0 x13_1).f4), .slice A355_5 ((rd_T64 l0_0 x13_1).f5).length c355_5] 64 (0, 0)) (by (with_reducible repeat (first | refine zq4 ?_ _ | refine zq6 ?_ | refine zq5 ?_ _)); refine blk_put (cs := #[.int .i64 ((rd_T64 l0_0 x13_1).f0), .string ((rd_T64 l0_0 x13_1).f1), .slice A355_2 ((rd_T64 l0_0 x13_1).f2).length c355_2, .string ((rd_T64 l0_0 x13_1).f3), .int .i64 ((rd_T64 l0_0 x13_1).f4), .slice none 0 0]) ?_ 5 _ rfl; (with_reducible repeat (first | refine zq4 ?_ _ | refine zq6 ?_ | refine zq5 ?_ _)); refine blk_put (cs := #[.int .i64 ((rd_T64 l0_0 x13_1).f0), .string ((rd_T64 l0_0 x13_1).f1), .slice A355_2 ((rd_T64 l0_0 x13_1).f2).length c355_2, .string ((rd_T64 l0_0 x13_1).f3), .int .i64 0, .slice none 0 0]) ?_ 4 _ rfl; (with_reducible repeat (first | refine zq4 ?_ _ | refine zq6 ?_ | refine zq5 ?_ _)); refine blk_put (cs := #[.int .i64 ((rd_T64 l0_0 x13_1).f0), .string ((rd_T64 l0_0 x13_1).f1), .slice A355_2 ((rd_T64 l0_0 x13_1).f2).length c355_2, .string (⟨#[]⟩ : ByteArray), .int .i64 0, .slice none 0 0]) ?_ 3 _ rfl; (with_reducible repeat (first | refine zq4 ?_ _ | refine zq6 ?_ | refine zq5 ?_ _)); refine blk_put (cs := #[.int .i64 ((rd_T64 l0_0 x13_1).f0), .string ((rd_T64 l0_0 x13_1).f1), .slice none 0 0, .string (⟨#[]⟩ : ByteArray), .int .i64 0, .slice none 0 0]) ?_ 2 _ rfl; (with_reducible repeat (first | refine zq4 ?_ _ | refine zq6 ?_ | refine zq5 ?_ _)); refine blk_put (cs := #[.int .i64 ((rd_T64 l0_0 x13_1).f0), .string (⟨#[]⟩ : ByteArray), .slice none 0 0, .string (⟨#[]⟩ : ByteArray), .int .i64 0, .slice none 0 0]) ?_ 1 _ rfl; (with_reducible repeat (first | refine zq4 ?_ _ | refine zq6 ?_ | refine zq5 ?_ _)); refine blk_put (cs := #[.int .i64 0, .string (⟨#[]⟩ : ByteArray), .slice none 0 0, .string (⟨#[]⟩ : ByteArray), .int .i64 0, .slice none 0 0]) ?_ 0 _ rfl; (with_reducible repeat (first | refine zq4 ?_ _ | refine zq6 ?_ | refine zq5 ?_ _)); exact BK356.out) hb); replace HB := Aside0.mk (zq7 (by repeat (with_reducible first | exact HB.out | apply zq2 | apply zq0 | apply zq1 | refine zq3 ?_ GE353.out | refine zq3 ?_ GE356.out)) hb); (try clear hb)))
        go_roundg k1
        case measure => have := HK1.out; omega
        case rel => exact ⟨(wrap64 (x13_1 + 1)), (by first | rfl | simp | simp [*]), H', ⟨by have := HK1.out; omega⟩, ⟨by (with_reducible repeat (first | refine zq4 ?_ _ | refine zq6 ?_ | refine zq5 ?_ _)); exact BK353.out⟩, ⟨by repeat (first | (with_reducible first | exact HB.out | apply zq2 | apply zq0 | apply zq1 | refine zq3 ?_ GE353.out | refine zq3 ?_ GE356.out) | exact HB.out)⟩⟩
       ·replace c10 := Bool.eq_false_iff.mpr c10
        subst c10
        rw [if_neg (show ¬ (false = true) by decide)] at H
        obtain rfl := Option.some.inj H
        have p355 : 0 ≤ (x13_1 : Int) := of_decide_eq_true (by assumption)
        have q355 : x13_1 < (l0_0.length : Int) := of_decide_eq_true (by assumption)
        obtain ⟨ad355, A355_2, c355_2, A355_5, c355_5, e355, hx355_0, hx355_1, hx355_2, hx355_3, hx355_4, hx355_5, hl355_2, hi355_2, hl355_5, hi355_5⟩ := at_T64 HR0_0.out x13_1 p355 q355
        cases e355
        replace hx355_0 := pw_cell_below HB.out hx355_0
        replace hx355_1 := pw_cell_below HB.out hx355_1
        replace hx355_2 := pw_cell_below HB.out hx355_2
        replace hx355_3 := pw_cell_below HB.out hx355_3
        replace hx355_4 := pw_cell_below HB.out hx355_4
        replace hx355_5 := pw_cell_below HB.out hx355_5
        have HR355_2 := Aside0.mk hi355_2
        have HC355_2 := Aside0.mk hl355_2
        clear hi355_2 hl355_2
        have HR355_5 := Aside0.mk hi355_5
        have HC355_5 := Aside0.mk hl355_5
        clear hi355_5 hl355_5
        replace p355 := eq_true p355
        replace q355 := eq_true q355
        go_wp2_with (first | ((refine gate_dst (N := 4) rfl ?_); refine box_event ?hg (N := 4) ?hd (cs := #[.int .i64 0, .string (⟨#[]⟩ : ByteArray), .slice none 0 0, .string (⟨#[]⟩ : ByteArray), .int .i64 0, .slice none 0 0]) (t := 64) ?hr ?_; (case hd => rfl); (case hg => rfl); (case hr => first | (go_simp; done) | (go_simp; rfl)); intro gb356 hg w15 hbox hb; have BK356 := Aside0.mk (hbox); have GW356 := Aside0.mk ((by rw [hg]; exact (below_size (by repeat (with_reducible first | exact HB.out | apply zq2 | apply zq0 | apply zq1 | refine zq3 ?_ GE353.out))) : w.heap.size ≤ gb356)); replace HB := Aside0.mk (zq7 (by repeat (with_reducible first | exact HB.out | apply zq2 | apply zq0 | apply zq1 | refine zq3 ?_ GE353.out)) hb); have NB353_356 := Aside0.mk ((by rw [hg]; exact Nat.ne_of_lt (blk_lt (g := gb353) (o := .cells #[.slice (some ad355) l0_0.length c0_0] 29 (0, 0)) (by (with_reducible repeat (first | refine zq4 ?_ _ | refine zq6 ?_ | refine zq5 ?_ _)); exact BK353.out)) : gb353 ≠ gb356)); have NB356_353 := Aside0.mk ((by rw [hg]; exact Nat.ne_of_gt (blk_lt (g := gb353) (o := .cells #[.slice (some ad355) l0_0.length c0_0] 29 (0, 0)) (by (with_reducible repeat (first | refine zq4 ?_ _ | refine zq6 ?_ | refine zq5 ?_ _)); exact BK353.out)) : gb356 ≠ gb353)); replace BK353 := Aside0.mk (zq10 (g := gb353) (o := .cells #[.slice (some ad355) l0_0.length c0_0] 29 (0, 0)) (by (with_reducible repeat (first | refine zq4 ?_ _ | refine zq6 ?_ | refine zq5 ?_ _)); exact BK353.out) hb); have GE356 := GW356; clear hb hbox hg; have hnb16 := NB356_353.out; have hnc16 := NB353_356.out; obtain ⟨hcz17_0, hcz17_1, hcz17_2, hcz17_3, hcz17_4, hcz17_5, hfz17_0, hfz17_1, hfz17_2, hfz17_3, hfz17_4, hfz17_5⟩ := cells6 BK356.out) | ((refine gate_callee (f := 88) rfl ?_); refine goesL_ (some 20) rfl rfl Try.func88 (by kernel_rfl) rfl #[.agg #[.int .i64 ((rd_T64 l0_0 x13_1).f0), .string ((rd_T64 l0_0 x13_1).f1), .slice A355_2 ((rd_T64 l0_0 x13_1).f2).length c355_2, .string ((rd_T64 l0_0 x13_1).f3), .int .i64 ((rd_T64 l0_0 x13_1).f4), .slice A355_5 ((rd_T64 l0_0 x13_1).f5).length c355_5], .int .i64 x13_1] rfl (by (try simp only [List.map_toArray, List.map_cons, List.map_nil]); first | done | rfl | (simp only [List.length_drop, List.length_take]; rfl)) ?_; (with_reducible refine (zq40.calls k1 ((rd_T64 l0_0 x13_1).f0) ((rd_T64 l0_0 x13_1).f1) _ _ ((rd_T64 l0_0 x13_1).f2) ((rd_T64 l0_0 x13_1).f3) ((rd_T64 l0_0 x13_1).f4) _ _ ((rd_T64 l0_0 x13_1).f5) x13_1 false _ ?side1 ?side2 ?side3 ?side4 A9.out).mono ?_); (case side1 => exact Kd.C_below HR355_2.out (by repeat (with_reducible first | exact HB.out | apply zq2 | apply zq0 | apply zq1 | refine zq3 ?_ GE353.out | refine zq3 ?_ GE356.out))); (case side2 => exact HC355_2.out); (case side3 => exact Kd.C_below HR355_5.out (by repeat (with_reducible first | exact HB.out | apply zq2 | apply zq0 | apply zq1 | refine zq3 ?_ GE353.out | refine zq3 ?_ GE356.out))); (case side4 => exact HC355_5.out); rintro e w18 ⟨rfl, hb⟩; refine ⟨_, rfl, ?_⟩; replace BK353 := Aside0.mk (zq10 (g := gb353) (o := .cells #[.slice (some ad355) l0_0.length c0_0] 29 (0, 0)) (by (with_reducible repeat (first | refine zq4 ?_ _ | refine zq6 ?_ | refine zq5 ?_ _ | refine blk_far ?_ NB353_356.out _)); exact BK353.out) hb); replace BK356 := Aside0.mk (zq10 (g := gb356) (o := .cells #[.int .i64 ((rd_T64 l0_0 x13_1).f0), .string ((rd_T64 l0_0 x13_1).f1), .slice A355_2 ((rd_T64 l0_0 x13_1).f2).length c355_2, .string ((rd_T64 l0_0 x13_1).f3), .int .i64 ((rd_T64 l0_0 x13_1).f4), .slice A355_5 ((rd_T64 l0_0 x13_1).f5).length c355_5] 64 (0, 0)) (by (with_reducible repeat (first | refine zq4 ?_ _ | refine zq6 ?_ | refine zq5 ?_ _)); refine blk_put (cs := #[.int .i64 ((rd_T64 l0_0 x13_1).f0), .string ((rd_T64 l0_0 x13_1).f1), .slice A355_2 ((rd_T64 l0_0 x13_1).f2).length c355_2, .string ((rd_T64 l0_0 x13_1).f3), .int .i64 ((rd_T64 l0_0 x13_1).f4), .slice none 0 0]) ?_ 5 _ rfl; (with_reducible repeat (first | refine zq4 ?_ _ | refine zq6 ?_ | refine zq5 ?_ _)); refine blk_put (cs := #[.int .i64 ((rd_T64 l0_0 x13_1).f0), .string ((rd_T64 l0_0 x13_1).f1), .slice A355_2 ((rd_T64 l0_0 x13_1).f2).length c355_2, .string ((rd_T64 l0_0 x13_1).f3), .int .i64 0, .slice none 0 0]) ?_ 4 _ rfl; (with_reducible repeat (first | refine zq4 ?_ _ | refine zq6 ?_ | refine zq5 ?_ _)); refine blk_put (cs := #[.int .i64 ((rd_T64 l0_0 x13_1).f0), .string ((rd_T64 l0_0 x13_1).f1), .slice A355_2 ((rd_T64 l0_0 x13_1).f2).length c355_2, .string (⟨#[]⟩ : ByteArray), .int .i64 0, .slice none 0 0]) ?_ 3 _ rfl; (with_reducible repeat (first | refine zq4 ?_ _ | refine zq6 ?_ | refine zq5 ?_ _)); refine blk_put (cs := #[.int .i64 ((rd_T64 l0_0 x13_1).f0), .string ((rd_T64 l0_0 x13_1).f1), .slice none 0 0, .string (⟨#[]⟩ : ByteArray), .int .i64 0, .slice none 0 0]) ?_ 2 _ rfl; (with_reducible repeat (first | refine zq4 ?_ _ | refine zq6 ?_ | refine zq5 ?_ _)); refine blk_put (cs := #[.int .i64 ((rd_T64 l0_0 x13_1).f0), .string (⟨#[]⟩ : ByteArray), .slice none 0 0, .string (⟨#[]⟩ : ByteArray), .int .i64 0, .slice none 0 0]) ?_ 1 _ rfl; (with_reducible repeat (first | refine zq4 ?_ _ | refine zq6 ?_ | refine zq5 ?_ _)); refine blk_put (cs := #[.int .i64 0, .string (⟨#[]⟩ : ByteArray), .slice none 0 0, .string (⟨#[]⟩ : ByteArray), .int .i64 0, .slice none 0 0]) ?_ 0 _ rfl; (with_reducible repeat (first | refine zq4 ?_ _ | refine zq6 ?_ | refine zq5 ?_ _)); exact BK356.out) hb); replace HB := Aside0.mk (zq7 (by repeat (with_reducible first | exact HB.out | apply zq2 | apply zq0 | apply zq1 | refine zq3 ?_ GE353.out | refine zq3 ?_ GE356.out)) hb); (try clear hb)))
        go_ret
        exact ⟨by first | rfl | simp | simp [*], by repeat (first | (with_reducible first | exact HB.out | apply zq2 | apply zq0 | apply zq1 | refine zq3 ?_ GE353.out | refine zq3 ?_ GE356.out) | exact HB.out)⟩
      ·rw [if_neg c8] at H
       exact absurd H (by simp)
     ·rw [if_neg c7] at H
      exact absurd H (by simp)
    ·rw [if_neg c6] at H
     have c6b0 : decide (x13_1 < (l0_0.length : Int)) = false := decide_eq_false c6
     clear c6
     replace H := Option.bind_eq_some_iff.mp H
     obtain ⟨t358, A190, H⟩ := H
     (try dsimp only at H)
     have A19 := Aside0.mk A190
     clear A190
     obtain rfl := Option.some.inj H
     go_wp2_with (first | ((refine gate_callee (f := 89) rfl ?_); refine goesL_ (some 23) rfl rfl Try.func89 (by kernel_rfl) rfl #[.pointer (some ⟨gb353, 0, none⟩)] rfl (by (try simp only [List.map_toArray, List.map_cons, List.map_nil]); first | done | rfl) ?_; (with_reducible refine (zq15.calls k1 gb353 A0_0 c0_0 l0_0 t358 _ ?side1 ?side2 ?side3 A19.out).mono ?_); (case side1 => exact (by (with_reducible repeat (first | refine zq4 ?_ _ | refine zq6 ?_ | refine zq5 ?_ _)); exact BK353.out)); (case side2 => repeat (first | exact (Kd.C_below HR0_0.out HB.out) | (with_reducible refine Kd.C_alloc ?_ _) | (with_reducible refine Kd.C_drewN ?_ _) | (with_reducible refine Kd.C_drew ?_))); (case side3 => exact HC0_0.out); rintro e w20 ⟨rfl, hb⟩; refine ⟨_, rfl, ?_⟩; replace BK353 := Aside0.mk (zq10 (g := gb353) (o := .cells #[.slice A0_0 l0_0.length c0_0] 29 (0, 0)) (by (with_reducible repeat (first | refine zq4 ?_ _ | refine zq6 ?_ | refine zq5 ?_ _)); exact BK353.out) hb); replace HB := Aside0.mk (zq7 (by repeat (with_reducible first | exact HB.out | apply zq2 | apply zq0 | apply zq1 | refine zq3 ?_ GE353.out)) hb); (try clear hb)))
     go_ret
     exact ⟨by first | rfl | simp | simp [*], by repeat (first | (with_reducible first | exact HB.out | apply zq2 | apply zq0 | apply zq1 | refine zq3 ?_ GE353.out) | exact HB.out)⟩
 ·replace c3 := Bool.eq_false_iff.mpr c3
  subst c3
  rw [if_neg (show ¬ (false = true) by decide)] at H
  obtain rfl := Option.some.inj H
  go_enter Try.func56, Try.ntmps56
  go_wp2_with (first | ((refine gate_dst (N := 1) rfl ?_); refine box_event ?hg (N := 1) ?hd (cs := #[.slice A0_0 l0_0.length c0_0]) (t := 29) ?hr ?_; (case hd => rfl); (case hg => rfl); (case hr => first | (go_simp; done) | (go_simp; rfl)); intro gb353 hg w21 hbox hb; have BK353 := Aside0.mk (hbox); have GW353 := Aside0.mk ((by rw [hg]; exact (below_size (by repeat (with_reducible first | exact HB.out | apply zq2 | apply zq0 | apply zq1))) : w.heap.size ≤ gb353)); replace HB := Aside0.mk (zq7 (by repeat (with_reducible first | exact HB.out | apply zq2 | apply zq0 | apply zq1)) hb); have GE353 := GW353; clear hb hbox hg; obtain ⟨hcz22_0, hfz22_0⟩ := cells1 BK353.out) | ((refine gate_callee (f := 75) rfl ?_); refine goesL_ (some 8) rfl rfl Try.func75 (by kernel_rfl) rfl #[.int .i64 (l0_0.length : Int), .int .i64 1, .int .i64 500] rfl (by (try simp only [List.map_toArray, List.map_cons, List.map_nil]); first | done | rfl) ?_; (with_reducible refine (zq44.calls (l0_0.length : Int) 1 500 false _ A2.out).mono ?_); rintro e w' ⟨rfl, ⟨nd, rfl⟩⟩; refine ⟨_, rfl, ?_⟩))
  go_ret
  exact ⟨by first | rfl | simp | simp [*], by repeat (first | (with_reducible first | exact HB.out | apply zq2 | apply zq0 | apply zq1 | refine zq3 ?_ GE353.out) | exact HB.out)⟩
/-! ### zq13: function 20 -/
def zq13.l0 : Nat → List Int → List Int → Int → Option (List Int)
 | 0, _, _, _ => none
 | k + 1, x0, x3, x4 => if x4 < (x0.length : Int) then (if 0 ≤ x4 then (if x4 < (x3.length : Int) then (zq13.l0 k x0 (x3.set (x4 : Int).toNat (rd x0 x4)) (wrap64 (x4 + 1))) else (none)) else (none)) else (some x3)
def zq13.f (k : Nat) (l0 : List Int) : Option (List Int) := if 0 ≤ (l0.length : Int) then (if ((l0.length : Int) : Int).toNat ≤ 35184372088832 then (zq13.l0 k l0 (List.replicate ((l0.length : Int) : Int).toNat 0) 0) else (none)) else (none)
theorem zq13.mono_l : ∀ k, (∀ y0 y1 y2, LeO (zq13.l0 k y0 y1 y2) (zq13.l0 (k + 1) y0 y1 y2))
 | 0 => fun _ _ _ r h => by simp [zq13.l0] at h
 | k + 1 => by
  have ih0 := zq13.mono_l k
  ·intro y0 y1 y2
   unfold zq13.l0
   repeat' first
   | (with_reducible exact ih0 _ _ _)
   | (with_reducible exact LeO.refl _)
   | (with_reducible exact LeO.none _)
   | (with_reducible refine LeO.ite ?_ ?_)
   | (with_reducible refine LeO.bind ?_ (fun _ => ?_))
theorem zq13.mono : ∀ a0 k, LeO (zq13.f k a0) (zq13.f (k + 1) a0) := by
 intro a0 k
 have ih0 := zq13.mono_l k
 unfold zq13.f
 repeat' first
   | (with_reducible exact ih0 _ _ _)
   | (with_reducible exact LeO.refl _)
   | (with_reducible exact LeO.none _)
   | (with_reducible refine LeO.ite ?_ ?_)
   | (with_reducible refine LeO.bind ?_ (fun _ => ?_))
set_option maxHeartbeats 8000000 in
set_option maxRecDepth 100000 in
theorem zq13.calls (k : Nat) (A0 : Option Addr) (c0 : Nat) (l0 : List Int) (r : List Int) (w : World) (hr0 : Kd.C (Kd.int .i64) w A0 l0.length l0) (hc0 : l0.length ≤ c0) (h : zq13.f k l0 = some r) :
  Calls Try.prog 20 #[.slice A0 l0.length c0] w fun e w' => ∃ v0_ : Value, e = .returned (v0_) ∧ Kd.R (Kd.int .i64) 3 w' w.heap.size (fun _ => True) v0_ r ∧ Below w.heap.size w w' := by
 have HR0 := Aside0.mk hr0
 have HC0 := Aside0.mk hc0
 clear hr0 hc0
 have HB := Aside0.mk (Below.refl w.heap.size w)
 have H : (if 0 ≤ (l0.length : Int) then (if ((l0.length : Int) : Int).toNat ≤ 35184372088832 then (zq13.l0 k l0 (List.replicate ((l0.length : Int) : Int).toNat 0) 0) else (none)) else (none)) = some r := h
 clear h
 by_cases c2 : 0 ≤ (l0.length : Int)
 ·rw [if_pos c2] at H
  have c2b0 := eq_true c2
  have c2b1 : decide (0 ≤ (l0.length : Int)) = true := decide_eq_true c2
  clear c2
  by_cases c3 : ((l0.length : Int) : Int).toNat ≤ 35184372088832
  ·rw [if_pos c3] at H
   have c3b0 := eq_true c3
   have c3b1 : decide (((l0.length : Int) : Int).toNat ≤ 35184372088832) = true := decide_eq_true c3
   clear c3
   obtain ⟨y223, hy223⟩ : ∃ y_ : List Int, y_ = (List.replicate ((l0.length : Int) : Int).toNat 0) := ⟨_, rfl⟩
   replace H : (zq13.l0 k l0 y223 0) = some r := by first | (rw [hy223]; with_reducible exact H) | (have H2_ := (Option.bind_some _ _).symm.trans H; rw [hy223]; with_reducible exact H2_) | (have H2_ := (Option.bind_some _ _).symm.trans H; with_reducible exact H2_) | with_reducible exact H | (rw [hy223]; exact H) | exact H
   have Ny223 := Aside0.mk hy223
   clear hy223
   have H' := Aside0.mk H
   clear H
   go_enter Try.func20, Try.ntmps20
   go_wp2_with (first | ((refine gate_dst (N := 7) rfl ?_); refine Kd.R_make (Kd.int .i64) _ 3 rfl (N := 7) rfl 33 _ _ rfl (l0.length : Int) rfl rfl Try.underlying33 (.int .i64 0) 8 info3 rfl (by decide) (by omega) 0 (ok := fun _ => True) (okp := fun _ => True) rfl (fun _ hk => hk) trivial (of_decide_eq_true (by assumption)) (Nat.le_trans (Nat.mul_le_mul_right _ (of_decide_eq_true (by assumption) : (l0.length : Int).toNat ≤ 35184372088832)) (by omega)) (Below.refl _ _) (Nat.le_refl _) ?_; intro v224 w4 ho5 hb hg_ hnew_; clear hg_ hnew_; (first | rw [← Ny223.out] at ho5 | (simp only [Int.reduceToNat] at ho5; rw [← Ny223.out] at ho5)); have HO225 := Aside0.mk (Kd.R_lower ho5 (below_size (by repeat (with_reducible first | exact HB.out | apply zq2 | apply zq0 | apply zq1)))); replace HB := Aside0.mk (zq7 (by repeat (with_reducible first | exact HB.out | apply zq2 | apply zq0 | apply zq1)) hb); clear hb ho5))
   go_loopg [4] k (fun kq v4 w' => ∃ (x3_1 : List Int) (x4_1 : Int), v4 = .int .i64 x4_1 ∧ Aside0 (zq13.l0 kq l0 x3_1 x4_1 = some r) ∧ Aside0 (kq ≤ k) ∧ Aside0 (Kd.R (Kd.int .i64) 3 w' w.heap.size (fun _ => True) v224 x3_1) ∧ Aside0 (Below w.heap.size w w'))
   case atStart => exact ⟨(y223), (0), (by first | rfl | simp | simp [*]), H', ⟨Nat.le_refl _⟩, ⟨by (with_reducible repeat (first | apply Kd.R_alloc | apply Kd.R_drewN | apply Kd.R_drew)); exact HO225.out⟩, ⟨by repeat (first | (with_reducible first | exact HB.out | apply zq2 | apply zq0 | apply zq1) | exact HB.out)⟩⟩
   case round =>
    clear H'
    obtain ⟨x3_1, x4_1, rfl, HA, HK1, HO_3, HB⟩ := hrel
    cases gk with
    | zero => exact absurd HA.out (by simp [zq13.l0])
    | succ k1 =>
     have H := HA.out
     clear HA
     simp only [zq13.l0] at H
     by_cases c6 : x4_1 < (l0.length : Int)
     ·rw [if_pos c6] at H
      have c6b0 : decide (x4_1 < (l0.length : Int)) = true := decide_eq_true c6
      clear c6
      by_cases c7 : 0 ≤ x4_1
      ·rw [if_pos c7] at H
       have c7b0 : decide (0 ≤ x4_1) = true := decide_eq_true c7
       clear c7
       by_cases c8 : x4_1 < (x3_1.length : Int)
       ·rw [if_pos c8] at H
        have c8b0 : decide (x4_1 < (x3_1.length : Int)) = true := decide_eq_true c8
        clear c8
        obtain ⟨y227, hy227⟩ : ∃ y_ : List Int, y_ = (x3_1.set (x4_1 : Int).toNat (rd l0 x4_1)) := ⟨_, rfl⟩
        replace H : (zq13.l0 k1 l0 y227 (wrap64 (x4_1 + 1))) = some r := by first | (rw [hy227]; with_reducible exact H) | (have H2_ := (Option.bind_some _ _).symm.trans H; rw [hy227]; with_reducible exact H2_) | (have H2_ := (Option.bind_some _ _).symm.trans H; with_reducible exact H2_) | with_reducible exact H | (rw [hy227]; exact H) | exact H
        have Ny227 := Aside0.mk hy227
        clear hy227
        have H' := Aside0.mk H
        clear H
        have p226 : 0 ≤ (x4_1 : Int) := of_decide_eq_true (by assumption)
        have q226 : x4_1 < (l0.length : Int) := of_decide_eq_true (by assumption)
        obtain ⟨ad226, e226, hx226_0⟩ := Kd.at_int HR0.out x4_1 p226 q226
        cases e226
        replace hx226_0 := pw_cell_below HB.out hx226_0
        replace p226 := eq_true p226
        replace q226 := eq_true q226
        have p9 : 0 ≤ (x4_1 : Int) := of_decide_eq_true (by assumption)
        have q9 : (x4_1 : Int) < ((x3_1.length : Int) : Int) := of_decide_eq_true (by assumption)
        obtain ⟨go9, co9, eo9, gb9, gl9, cl9, HG9⟩ := Kd.R_form HO_3.out (by omega)
        (first | cases eo9 | (injection eo9 with ea_ en_ ec_; (first | subst ea_ | (injection ea_ with ea_; subst ea_)); subst ec_; clear en_))
        have GB9 := Aside0.mk gb9
        have GG9 := Aside0.mk HG9
        clear gb9 gl9 HG9
        obtain ⟨hx9_0, hf9_0⟩ := Kd.R_celln 0 HO_3.out (x4_1 : Int) p9 q9
        replace p9 := eq_true p9
        replace q9 := eq_true q9
        have HP10 := Kd.R_putg HO_3.out (x4_1 : Int) (rd l0 x4_1)
        go_wp2_with (first | ((refine gate_store (t := 3) (p := 20) rfl ?_); refine store_event (t := 3) (p := 20) (v := ?vo_w11) (w1 := (wr.setCell ⟨go9, (x4_1 : Int).toNat, none⟩ (.int .i64 (rd l0 x4_1)))) ?hg ?ho ?hn ?hr ?_; (case ho => rfl); (case hg => rfl); (case hn => rfl); (case hr => first | (go_simp; done) | (go_simp; rfl)); intro w11 hw; have hg : wr.grownBy w11 (some go9) := (by rw [hw]; exact HP10.2); have hp_ : Kd.R (Kd.int .i64) 3 w11 w.heap.size (fun _ => True) (.slice (some ⟨go9, 0, none⟩) x3_1.length co9) y227 := (by rw [hw, Ny227.out]; exact HP10.1); clear HP10; replace HO_3 := Aside0.mk (hp_); replace HB := Aside0.mk ((by rw [hw]; exact zq3 (HB.out) GB9.out : Below w.heap.size w w11)); clear hg hw hp_))
        go_roundg k1
        case measure => have := HK1.out; omega
        case rel => exact ⟨(y227), (wrap64 (x4_1 + 1)), (by first | rfl | simp | simp [*]), H', ⟨by have := HK1.out; omega⟩, ⟨by (with_reducible repeat (first | apply Kd.R_alloc | apply Kd.R_drewN | apply Kd.R_drew)); exact HO_3.out⟩, ⟨by repeat (first | (with_reducible first | exact HB.out | apply zq2 | apply zq0 | apply zq1) | exact HB.out)⟩⟩
       ·rw [if_neg c8] at H
        exact absurd H (by simp)
      ·rw [if_neg c7] at H
       exact absurd H (by simp)
     ·rw [if_neg c6] at H
      have c6b0 : decide (x4_1 < (l0.length : Int)) = false := decide_eq_false c6
      clear c6
      obtain rfl := Option.some.inj H
      go_wp2
      go_ret
      exact ⟨_, by first | rfl | simp | simp [*], by (with_reducible repeat (first | apply Kd.R_alloc | apply Kd.R_drewN | apply Kd.R_drew)); exact HO_3.out, by repeat (first | (with_reducible first | exact HB.out | apply zq2 | apply zq0 | apply zq1) | exact HB.out)⟩
  ·rw [if_neg c3] at H
   exact absurd H (by simp)
 ·rw [if_neg c2] at H
  exact absurd H (by simp)
/-! ### zq16: function 22 -/
def zq16.l0 : Nat → List Int → List Int → Int → Option (Bool)
 | 0, _, _, _ => none
 | k + 1, x0, x1, x5 => if x5 < (x0.length : Int) then (if 0 ≤ x5 then (if x5 < (x1.length : Int) then (if (rd x0 x5) = (rd x1 x5) then (zq16.l0 k x0 x1 (wrap64 (x5 + 1))) else (some false)) else (none)) else (none)) else (some true)
def zq16.f (k : Nat) (l0 : List Int) (l1 : List Int) : Option (Bool) := if (l0.length : Int) = (l1.length : Int) then (zq16.l0 k l0 l1 0) else (some false)
theorem zq16.mono_l : ∀ k, (∀ y0 y1 y2, LeO (zq16.l0 k y0 y1 y2) (zq16.l0 (k + 1) y0 y1 y2))
 | 0 => fun _ _ _ r h => by simp [zq16.l0] at h
 | k + 1 => by
  have ih0 := zq16.mono_l k
  ·intro y0 y1 y2
   unfold zq16.l0
   repeat' first
   | (with_reducible exact ih0 _ _ _)
   | (with_reducible exact LeO.refl _)
   | (with_reducible exact LeO.none _)
   | (with_reducible refine LeO.ite ?_ ?_)
   | (with_reducible refine LeO.bind ?_ (fun _ => ?_))
theorem zq16.mono : ∀ a0 a1 k, LeO (zq16.f k a0 a1) (zq16.f (k + 1) a0 a1) := by
 intro a0 a1 k
 have ih0 := zq16.mono_l k
 unfold zq16.f
 repeat' first
   | (with_reducible exact ih0 _ _ _)
   | (with_reducible exact LeO.refl _)
   | (with_reducible exact LeO.none _)
   | (with_reducible refine LeO.ite ?_ ?_)
   | (with_reducible refine LeO.bind ?_ (fun _ => ?_))
set_option maxHeartbeats 8000000 in
set_option maxRecDepth 100000 in
theorem zq16.calls (k : Nat) (A0 : Option Addr) (c0 : Nat) (l0 : List Int) (A1 : Option Addr) (c1 : Nat) (l1 : List Int) (r : Bool) (w : World) (hr0 : Kd.C (Kd.int .i64) w A0 l0.length l0) (hc0 : l0.length ≤ c0) (hr1 : Kd.C (Kd.int .i64) w A1 l1.length l1) (hc1 : l1.length ≤ c1) (h : zq16.f k l0 l1 = some r) :
  Calls Try.prog 22 #[.slice A0 l0.length c0, .slice A1 l1.length c1] w fun e w' => e = .returned (.bool r) ∧ Drawn0 w w' := by
 have HR0 := Aside0.mk hr0
 have HC0 := Aside0.mk hc0
 clear hr0 hc0
 have HR1 := Aside0.mk hr1
 have HC1 := Aside0.mk hc1
 clear hr1 hc1
 have H : (if (l0.length : Int) = (l1.length : Int) then (zq16.l0 k l0 l1 0) else (some false)) = some r := h
 clear h
 by_cases c3 : (l0.length : Int) = (l1.length : Int)
 ·rw [if_pos c3] at H
  have c3b0 := beq_iff_eq.mpr c3
  have c3b1 := bne_eq_false_iff_eq.mpr c3
  have c3b2 : (l0.length == l1.length) = true := by first | simpa using c3 | (simp at c3 ⊢; omega)
  clear c3
  have H' := Aside0.mk H
  clear H
  go_enter Try.func22, Try.ntmps22
  go_wp2
  repeat (go_quiet (fail); try go_wp2)
  go_loopg [5] k (fun kq v5 w' => ∃ (x5_1 : Int), v5 = .int .i64 x5_1 ∧ Aside0 (zq16.l0 kq l0 l1 x5_1 = some r) ∧ Aside0 (kq ≤ k) ∧ Drawn0 w w')
  case atStart => exact ⟨(0), (by first | rfl | simp | simp [*]), H', ⟨Nat.le_refl _⟩, by repeat (first | exact Drawn0.refl _ | apply Drawn0.step)⟩
  case round =>
   clear H'
   obtain ⟨x5_1, rfl, HA, HK1, ⟨m1, rfl⟩⟩ := hrel
   cases gk with
   | zero => exact absurd HA.out (by simp [zq16.l0])
   | succ k1 =>
    have H := HA.out
    clear HA
    simp only [zq16.l0] at H
    by_cases c4 : x5_1 < (l0.length : Int)
    ·rw [if_pos c4] at H
     have c4b0 : decide (x5_1 < (l0.length : Int)) = true := decide_eq_true c4
     clear c4
     by_cases c5 : 0 ≤ x5_1
     ·rw [if_pos c5] at H
      have c5b0 : decide (0 ≤ x5_1) = true := decide_eq_true c5
      clear c5
      by_cases c6 : x5_1 < (l1.length : Int)
      ·rw [if_pos c6] at H
       have c6b0 : decide (x5_1 < (l1.length : Int)) = true := decide_eq_true c6
       clear c6
       by_cases c7 : (rd l0 x5_1) = (rd l1 x5_1)
       ·rw [if_pos c7] at H
        have c7b0 := beq_iff_eq.mpr c7
        have c7b1 := bne_eq_false_iff_eq.mpr c7
        clear c7
        have H' := Aside0.mk H
        clear H
        have p370 : 0 ≤ (x5_1 : Int) := of_decide_eq_true (by assumption)
        have q370 : x5_1 < (l0.length : Int) := of_decide_eq_true (by assumption)
        obtain ⟨ad370, e370, hx370_0⟩ := Kd.at_int HR0.out x5_1 p370 q370
        cases e370
        replace p370 := eq_true p370
        replace q370 := eq_true q370
        have p371 : 0 ≤ (x5_1 : Int) := of_decide_eq_true (by assumption)
        have q371 : x5_1 < (l1.length : Int) := of_decide_eq_true (by assumption)
        obtain ⟨ad371, e371, hx371_0⟩ := Kd.at_int HR1.out x5_1 p371 q371
        cases e371
        replace p371 := eq_true p371
        replace q371 := eq_true q371
        go_wp2
        repeat (go_quiet (fail); try go_wp2)
        go_roundg k1
        case measure => have := HK1.out; omega
        case rel => exact ⟨(wrap64 (x5_1 + 1)), (by first | rfl | simp | simp [*]), H', ⟨by have := HK1.out; omega⟩, by repeat (first | exact Drawn0.refl _ | apply Drawn0.step)⟩
       ·rw [if_neg c7] at H
        have c7b0 := beq_eq_false_iff_ne.mpr c7
        have c7b1 := bne_iff_ne.mpr c7
        obtain rfl := Option.some.inj H
        have p370 : 0 ≤ (x5_1 : Int) := of_decide_eq_true (by assumption)
        have q370 : x5_1 < (l0.length : Int) := of_decide_eq_true (by assumption)
        obtain ⟨ad370, e370, hx370_0⟩ := Kd.at_int HR0.out x5_1 p370 q370
        cases e370
        replace p370 := eq_true p370
        replace q370 := eq_true q370
        have p371 : 0 ≤ (x5_1 : Int) := of_decide_eq_true (by assumption)
        have q371 : x5_1 < (l1.length : Int) := of_decide_eq_true (by assumption)
        obtain ⟨ad371, e371, hx371_0⟩ := Kd.at_int HR1.out x5_1 p371 q371
        cases e371
        replace p371 := eq_true p371
        replace q371 := eq_true q371
        go_wp2
        repeat (go_quiet (fail); try go_wp2)
        go_ret
        exact ⟨by first | rfl | simp | simp [*], by repeat (first | exact Drawn0.refl _ | apply Drawn0.step)⟩
      ·rw [if_neg c6] at H
       exact absurd H (by simp)
     ·rw [if_neg c5] at H
      exact absurd H (by simp)
    ·rw [if_neg c4] at H
     have c4b0 : decide (x5_1 < (l0.length : Int)) = false := decide_eq_false c4
     clear c4
     obtain rfl := Option.some.inj H
     go_wp2
     repeat (go_quiet (fail); try go_wp2)
     go_ret
     exact ⟨by first | rfl | simp | simp [*], by repeat (first | exact Drawn0.refl _ | apply Drawn0.step)⟩
 ·rw [if_neg c3] at H
  have c3b0 := beq_eq_false_iff_ne.mpr c3
  have c3b1 := bne_iff_ne.mpr c3
  have c3b2 : (l0.length == l1.length) = false := by first | simpa using c3 | (simp at c3 ⊢; omega)
  obtain rfl := Option.some.inj H
  go_enter Try.func22, Try.ntmps22
  go_wp2
  repeat (go_quiet (fail); try go_wp2)
  go_ret
  exact ⟨by first | rfl | simp | simp [*], by repeat (first | exact Drawn0.refl _ | apply Drawn0.step)⟩
/-! ### laws_szIntS: function 81 -/
def laws_szIntS.f (l0 : List Int) (a1 : Int) : Option (Int) := if (wrap64 (a1 - (l0.length : Int))) < 0 then (some (-1)) else (some (wrap64 (a1 - (l0.length : Int))))
set_option maxHeartbeats 8000000 in
set_option maxRecDepth 100000 in
theorem laws_szIntS.calls (A0 : Option Addr) (c0 : Nat) (l0 : List Int) (a1 : Int) (r : Int) (w : World) (hr0 : Kd.C (Kd.int .i64) w A0 l0.length l0) (hc0 : l0.length ≤ c0) (h : laws_szIntS.f l0 a1 = some r) :
  Calls Try.prog 81 #[.slice A0 l0.length c0, .int .i64 a1] w fun e w' => e = .returned (.int .i64 r) ∧ Drawn0 w w' := by
 have HR0 := Aside0.mk hr0
 have HC0 := Aside0.mk hc0
 clear hr0 hc0
 have H : (if (wrap64 (a1 - (l0.length : Int))) < 0 then (some (-1)) else (some (wrap64 (a1 - (l0.length : Int))))) = some r := h
 clear h
 by_cases c3 : (wrap64 (a1 - (l0.length : Int))) < 0
 ·rw [if_pos c3] at H
  have c3b0 : decide ((wrap64 (a1 - (l0.length : Int))) < 0) = true := decide_eq_true c3
  clear c3
  obtain rfl := Option.some.inj H
  go_enter Try.func81, Try.ntmps81
  go_wp2
  go_ret
  exact ⟨by first | rfl | simp | simp [*], by repeat (first | exact Drawn0.refl _ | apply Drawn0.step)⟩
 ·rw [if_neg c3] at H
  have c3b0 : decide ((wrap64 (a1 - (l0.length : Int))) < 0) = false := decide_eq_false c3
  clear c3
  obtain rfl := Option.some.inj H
  go_enter Try.func81, Try.ntmps81
  go_wp2
  go_ret
  exact ⟨by first | rfl | simp | simp [*], by repeat (first | exact Drawn0.refl _ | apply Drawn0.step)⟩
/-! ### laws_szAttr: function 124 -/
def laws_szAttr.f (a0_0 : ByteArray) (a0_1 : ByteArray) (a1 : Int) : Option (Int) := if (wrap64 (a1 - (a0_0.size : Int))) < 0 then (some (-1)) else (if (wrap64 ((wrap64 (a1 - (a0_0.size : Int))) - (a0_1.size : Int))) < 0 then (some (-1)) else (some (wrap64 ((wrap64 (a1 - (a0_0.size : Int))) - (a0_1.size : Int)))))
set_option maxHeartbeats 8000000 in
set_option maxRecDepth 100000 in
theorem laws_szAttr.calls (a0_0 : ByteArray) (a0_1 : ByteArray) (a1 : Int) (r : Int) (w : World) (h : laws_szAttr.f a0_0 a0_1 a1 = some r) :
  Calls Try.prog 124 #[.agg #[.string a0_0, .string a0_1], .int .i64 a1] w fun e w' => e = .returned (.int .i64 r) ∧ Below w.heap.size w w' := by
 have hu124 := Try.underlying124
 have HB := Aside0.mk (Below.refl w.heap.size w)
 have H : (if (wrap64 (a1 - (a0_0.size : Int))) < 0 then (some (-1)) else (if (wrap64 ((wrap64 (a1 - (a0_0.size : Int))) - (a0_1.size : Int))) < 0 then (some (-1)) else (some (wrap64 ((wrap64 (a1 - (a0_0.size : Int))) - (a0_1.size : Int)))))) = some r := h
 clear h
 by_cases c3 : (wrap64 (a1 - (a0_0.size : Int))) < 0
 ·rw [if_pos c3] at H
  have c3b0 : decide ((wrap64 (a1 - (a0_0.size : Int))) < 0) = true := decide_eq_true c3
  clear c3
  obtain rfl := Option.some.inj H
  go_enter Try.func124, Try.ntmps124
  go_wp2_with (first | ((refine gate_dst (N := 2) rfl ?_); refine box_event ?hg (N := 2) ?hd (cs := #[.string a0_0, .string a0_1]) (t := 124) ?hr ?_; (case hd => rfl); (case hg => rfl); (case hr => first | (go_simp; done) | (go_simp; rfl)); intro gb101 hg w4 hbox hb; have BK101 := Aside0.mk (hbox); have GW101 := Aside0.mk ((by rw [hg]; exact (below_size (by repeat (with_reducible first | exact HB.out | apply zq2 | apply zq0 | apply zq1))) : w.heap.size ≤ gb101)); replace HB := Aside0.mk (zq7 (by repeat (with_reducible first | exact HB.out | apply zq2 | apply zq0 | apply zq1)) hb); have GE101 := GW101; clear hb hbox hg; obtain ⟨hcz5_0, hcz5_1, hfz5_0, hfz5_1⟩ := cells2 BK101.out))
  go_ret
  exact ⟨by first | rfl | simp | simp [*], by repeat (first | (with_reducible first | exact HB.out | apply zq2 | apply zq0 | apply zq1 | refine zq3 ?_ GE101.out) | exact HB.out)⟩
 ·rw [if_neg c3] at H
  have c3b0 : decide ((wrap64 (a1 - (a0_0.size : Int))) < 0) = false := decide_eq_false c3
  clear c3
  by_cases c6 : (wrap64 ((wrap64 (a1 - (a0_0.size : Int))) - (a0_1.size : Int))) < 0
  ·rw [if_pos c6] at H
   have c6b0 : decide ((wrap64 ((wrap64 (a1 - (a0_0.size : Int))) - (a0_1.size : Int))) < 0) = true := decide_eq_true c6
   clear c6
   obtain rfl := Option.some.inj H
   go_enter Try.func124, Try.ntmps124
   go_wp2_with (first | ((refine gate_dst (N := 2) rfl ?_); refine box_event ?hg (N := 2) ?hd (cs := #[.string a0_0, .string a0_1]) (t := 124) ?hr ?_; (case hd => rfl); (case hg => rfl); (case hr => first | (go_simp; done) | (go_simp; rfl)); intro gb101 hg w7 hbox hb; have BK101 := Aside0.mk (hbox); have GW101 := Aside0.mk ((by rw [hg]; exact (below_size (by repeat (with_reducible first | exact HB.out | apply zq2 | apply zq0 | apply zq1))) : w.heap.size ≤ gb101)); replace HB := Aside0.mk (zq7 (by repeat (with_reducible first | exact HB.out | apply zq2 | apply zq0 | apply zq1)) hb); have GE101 := GW101; clear hb hbox hg; obtain ⟨hcz8_0, hcz8_1, hfz8_0, hfz8_1⟩ := cells2 BK101.out))
   go_ret
   exact ⟨by first | rfl | simp | simp [*], by repeat (first | (with_reducible first | exact HB.out | apply zq2 | apply zq0 | apply zq1 | refine zq3 ?_ GE101.out) | exact HB.out)⟩
  ·rw [if_neg c6] at H
   have c6b0 : decide ((wrap64 ((wrap64 (a1 - (a0_0.size : Int))) - (a0_1.size : Int))) < 0) = false := decide_eq_false c6
   clear c6
   obtain rfl := Option.some.inj H
   go_enter Try.func124, Try.ntmps124
   go_wp2_with (first | ((refine gate_dst (N := 2) rfl ?_); refine box_event ?hg (N := 2) ?hd (cs := #[.string a0_0, .string a0_1]) (t := 124) ?hr ?_; (case hd => rfl); (case hg => rfl); (case hr => first | (go_simp; done) | (go_simp; rfl)); intro gb101 hg w9 hbox hb; have BK101 := Aside0.mk (hbox); have GW101 := Aside0.mk ((by rw [hg]; exact (below_size (by repeat (with_reducible first | exact HB.out | apply zq2 | apply zq0 | apply zq1))) : w.heap.size ≤ gb101)); replace HB := Aside0.mk (zq7 (by repeat (with_reducible first | exact HB.out | apply zq2 | apply zq0 | apply zq1)) hb); have GE101 := GW101; clear hb hbox hg; obtain ⟨hcz10_0, hcz10_1, hfz10_0, hfz10_1⟩ := cells2 BK101.out))
   go_ret
   exact ⟨by first | rfl | simp | simp [*], by repeat (first | (with_reducible first | exact HB.out | apply zq2 | apply zq0 | apply zq1 | refine zq3 ?_ GE101.out) | exact HB.out)⟩
/-! ### zq49: function 106 -/
def zq49.l0 : Nat → List (S124) → Int → Int → Option (Int)
 | 0, _, _, _ => none
 | k + 1, x0, x1, x5 => if x5 < (x0.length : Int) then (if 0 ≤ x5 then ((laws_szAttr.f ((rd_T124 x0 x5).f0) ((rd_T124 x0 x5).f1) x1).bind fun t103 => (if t103 < 0 then (some (-1)) else (zq49.l0 k x0 t103 (wrap64 (x5 + 1))))) else (none)) else (some x1)
def zq49.f (k : Nat) (l0 : List (S124)) (a1 : Int) : Option (Int) := if (wrap64 (a1 - (l0.length : Int))) < 0 then (some (-1)) else (zq49.l0 k l0 (wrap64 (a1 - (l0.length : Int))) 0)
theorem zq49.mono_l : ∀ k, (∀ y0 y1 y2, LeO (zq49.l0 k y0 y1 y2) (zq49.l0 (k + 1) y0 y1 y2))
 | 0 => fun _ _ _ r h => by simp [zq49.l0] at h
 | k + 1 => by
  have ih0 := zq49.mono_l k
  ·intro y0 y1 y2
   unfold zq49.l0
   repeat' first
   | (with_reducible exact ih0 _ _ _)
   | (with_reducible exact LeO.refl _)
   | (with_reducible exact LeO.none _)
   | (with_reducible refine LeO.ite ?_ ?_)
   | (with_reducible refine LeO.bind ?_ (fun _ => ?_))
theorem zq49.mono : ∀ a0 a1 k, LeO (zq49.f k a0 a1) (zq49.f (k + 1) a0 a1) := by
 intro a0 a1 k
 have ih0 := zq49.mono_l k
 unfold zq49.f
 repeat' first
   | (with_reducible exact ih0 _ _ _)
   | (with_reducible exact LeO.refl _)
   | (with_reducible exact LeO.none _)
   | (with_reducible refine LeO.ite ?_ ?_)
   | (with_reducible refine LeO.bind ?_ (fun _ => ?_))
set_option maxHeartbeats 8000000 in
set_option maxRecDepth 100000 in
theorem zq49.calls (k : Nat) (A0 : Option Addr) (c0 : Nat) (l0 : List (S124)) (a1 : Int) (r : Int) (w : World) (hr0 : Kd.C k124 w A0 l0.length l0) (hc0 : l0.length ≤ c0) (h : zq49.f k l0 a1 = some r) :
  Calls Try.prog 106 #[.slice A0 l0.length c0, .int .i64 a1] w fun e w' => e = .returned (.int .i64 r) ∧ Below w.heap.size w w' := by
 have hu124 := Try.underlying124
 have HR0 := Aside0.mk hr0
 have HC0 := Aside0.mk hc0
 clear hr0 hc0
 have HB := Aside0.mk (Below.refl w.heap.size w)
 have H : (if (wrap64 (a1 - (l0.length : Int))) < 0 then (some (-1)) else (zq49.l0 k l0 (wrap64 (a1 - (l0.length : Int))) 0)) = some r := h
 clear h
 by_cases c3 : (wrap64 (a1 - (l0.length : Int))) < 0
 ·rw [if_pos c3] at H
  have c3b0 : decide ((wrap64 (a1 - (l0.length : Int))) < 0) = true := decide_eq_true c3
  clear c3
  obtain rfl := Option.some.inj H
  go_enter Try.func106, Try.ntmps106
  go_wp2
  go_ret
  exact ⟨by first | rfl | simp | simp [*], by repeat (first | (with_reducible first | exact HB.out | apply zq2 | apply zq0 | apply zq1) | exact HB.out)⟩
 ·rw [if_neg c3] at H
  have c3b0 : decide ((wrap64 (a1 - (l0.length : Int))) < 0) = false := decide_eq_false c3
  clear c3
  have H' := Aside0.mk H
  clear H
  go_enter Try.func106, Try.ntmps106
  go_wp2
  go_loopg [1, 5] k (fun kq v1 v5 w' => ∃ (x1_1 : Int) (x5_1 : Int), v1 = .int .i64 x1_1 ∧ v5 = .int .i64 x5_1 ∧ Aside0 (zq49.l0 kq l0 x1_1 x5_1 = some r) ∧ Aside0 (kq ≤ k) ∧ Aside0 (Below w.heap.size w w'))
  case atStart => exact ⟨(wrap64 (a1 - (l0.length : Int))), (0), (by first | rfl | simp | simp [*]), (by first | rfl | simp | simp [*]), H', ⟨Nat.le_refl _⟩, ⟨by repeat (first | (with_reducible first | exact HB.out | apply zq2 | apply zq0 | apply zq1) | exact HB.out)⟩⟩
  case round =>
   clear H'
   obtain ⟨x1_1, x5_1, rfl, rfl, HA, HK1, HB⟩ := hrel
   cases gk with
   | zero => exact absurd HA.out (by simp [zq49.l0])
   | succ k1 =>
    have H := HA.out
    clear HA
    simp only [zq49.l0] at H
    by_cases c4 : x5_1 < (l0.length : Int)
    ·rw [if_pos c4] at H
     have c4b0 : decide (x5_1 < (l0.length : Int)) = true := decide_eq_true c4
     clear c4
     by_cases c5 : 0 ≤ x5_1
     ·rw [if_pos c5] at H
      have c5b0 : decide (0 ≤ x5_1) = true := decide_eq_true c5
      clear c5
      replace H := Option.bind_eq_some_iff.mp H
      obtain ⟨t103, A60, H⟩ := H
      (try dsimp only at H)
      have A6 := Aside0.mk A60
      clear A60
      by_cases c7 : t103 < 0
      ·rw [if_pos c7] at H
       have c7b0 : decide (t103 < 0) = true := decide_eq_true c7
       clear c7
       obtain rfl := Option.some.inj H
       have p102 : 0 ≤ (x5_1 : Int) := of_decide_eq_true (by assumption)
       have q102 : x5_1 < (l0.length : Int) := of_decide_eq_true (by assumption)
       obtain ⟨ad102, e102, hx102_0, hx102_1⟩ := at_T124 HR0.out x5_1 p102 q102
       cases e102
       replace hx102_0 := pw_cell_below HB.out hx102_0
       replace hx102_1 := pw_cell_below HB.out hx102_1
       replace p102 := eq_true p102
       replace q102 := eq_true q102
       go_wp2_with (first | ((refine gate_callee (f := 124) rfl ?_); refine goesL_ (some 23) rfl rfl Try.func124 (by kernel_rfl) rfl #[.agg #[.string ((rd_T124 l0 x5_1).f0), .string ((rd_T124 l0 x5_1).f1)], .int .i64 x1_1] rfl (by (try simp only [List.map_toArray, List.map_cons, List.map_nil]); first | done | rfl | (simp only [List.length_drop, List.length_take]; rfl)) ?_; (with_reducible refine (laws_szAttr.calls ((rd_T124 l0 x5_1).f0) ((rd_T124 l0 x5_1).f1) x1_1 t103 _ A6.out).mono ?_); rintro e w8 ⟨rfl, hb⟩; refine ⟨_, rfl, ?_⟩; replace HB := Aside0.mk (zq7 (by repeat (with_reducible first | exact HB.out | apply zq2 | apply zq0 | apply zq1)) hb); (try clear hb)))
       go_ret
       exact ⟨by first | rfl | simp | simp [*], by repeat (first | (with_reducible first | exact HB.out | apply zq2 | apply zq0 | apply zq1) | exact HB.out)⟩
      ·rw [if_neg c7] at H
       have c7b0 : decide (t103 < 0) = false := decide_eq_false c7
       clear c7
       have H' := Aside0.mk H
       clear H
       have p102 : 0 ≤ (x5_1 : Int) := of_decide_eq_true (by assumption)
       have q102 : x5_1 < (l0.length : Int) := of_decide_eq_true (by assumption)
       obtain ⟨ad102, e102, hx102_0, hx102_1⟩ := at_T124 HR0.out x5_1 p102 q102
       cases e102
       replace hx102_0 := pw_cell_below HB.out hx102_0
       replace hx102_1 := pw_cell_below HB.out hx102_1
       replace p102 := eq_true p102
       replace q102 := eq_true q102
       go_wp2_with (first | ((refine gate_callee (f := 124) rfl ?_); refine goesL_ (some 23) rfl rfl Try.func124 (by kernel_rfl) rfl #[.agg #[.string ((rd_T124 l0 x5_1).f0), .string ((rd_T124 l0 x5_1).f1)], .int .i64 x1_1] rfl (by (try simp only [List.map_toArray, List.map_cons, List.map_nil]); first | done | rfl | (simp only [List.length_drop, List.length_take]; rfl)) ?_; (with_reducible refine (laws_szAttr.calls ((rd_T124 l0 x5_1).f0) ((rd_T124 l0 x5_1).f1) x1_1 t103 _ A6.out).mono ?_); rintro e w9 ⟨rfl, hb⟩; refine ⟨_, rfl, ?_⟩; replace HB := Aside0.mk (zq7 (by repeat (with_reducible first | exact HB.out | apply zq2 | apply zq0 | apply zq1)) hb); (try clear hb)))
       go_roundg k1
       case measure => have := HK1.out; omega
       case rel => exact ⟨(t103), (wrap64 (x5_1 + 1)), (by first | rfl | simp | simp [*]), (by first | rfl | simp | simp [*]), H', ⟨by have := HK1.out; omega⟩, ⟨by repeat (first | (with_reducible first | exact HB.out | apply zq2 | apply zq0 | apply zq1) | exact HB.out)⟩⟩
     ·rw [if_neg c5] at H
      exact absurd H (by simp)
    ·rw [if_neg c4] at H
     have c4b0 : decide (x5_1 < (l0.length : Int)) = false := decide_eq_false c4
     clear c4
     obtain rfl := Option.some.inj H
     go_wp2
     go_ret
     exact ⟨by first | rfl | simp | simp [*], by repeat (first | (with_reducible first | exact HB.out | apply zq2 | apply zq0 | apply zq1) | exact HB.out)⟩
/-! ### laws_szNode: function 84 -/
def laws_szNode.f (k : Nat) (a0_0 : Int) (a0_1 : ByteArray) (l0_2 : List (S124)) (a0_3 : ByteArray) (a0_4 : Int) (l0_5 : List Int) (a1 : Int) : Option (Int) := if (wrap64 (a1 - (a0_1.size : Int))) < 0 then (some (-1)) else ((zq49.f k l0_2 (wrap64 (a1 - (a0_1.size : Int)))).bind fun t105 => (if t105 < 0 then (some (-1)) else (if (wrap64 (t105 - (a0_3.size : Int))) < 0 then (some (-1)) else ((laws_szIntS.f l0_5 (wrap64 (t105 - (a0_3.size : Int)))).bind fun t106 => (if t106 < 0 then (some (-1)) else (some t106))))))
theorem laws_szNode.mono : ∀ a0 a1 a2 a3 a4 a5 a6 k, LeO (laws_szNode.f k a0 a1 a2 a3 a4 a5 a6) (laws_szNode.f (k + 1) a0 a1 a2 a3 a4 a5 a6) := by
 intro a0 a1 a2 a3 a4 a5 a6 k
 unfold laws_szNode.f
 repeat' first
   | (with_reducible exact zq49.mono _ _ _)
   | (with_reducible exact LeO.refl _)
   | (with_reducible exact LeO.none _)
   | (with_reducible refine LeO.ite ?_ ?_)
   | (with_reducible refine LeO.bind ?_ (fun _ => ?_))
set_option maxHeartbeats 8000000 in
set_option maxRecDepth 100000 in
theorem laws_szNode.calls (k : Nat) (a0_0 : Int) (a0_1 : ByteArray) (A0_2 : Option Addr) (c0_2 : Nat) (l0_2 : List (S124)) (a0_3 : ByteArray) (a0_4 : Int) (A0_5 : Option Addr) (c0_5 : Nat) (l0_5 : List Int) (a1 : Int) (r : Int) (w : World) (hr0_2 : Kd.C k124 w A0_2 l0_2.length l0_2) (hc0_2 : l0_2.length ≤ c0_2) (hr0_5 : Kd.C (Kd.int .i64) w A0_5 l0_5.length l0_5) (hc0_5 : l0_5.length ≤ c0_5) (h : laws_szNode.f k a0_0 a0_1 l0_2 a0_3 a0_4 l0_5 a1 = some r) :
  Calls Try.prog 84 #[.agg #[.int .i64 a0_0, .string a0_1, .slice A0_2 l0_2.length c0_2, .string a0_3, .int .i64 a0_4, .slice A0_5 l0_5.length c0_5], .int .i64 a1] w fun e w' => e = .returned (.int .i64 r) ∧ Below w.heap.size w w' := by
 have hu88 := Try.underlying88
 have HR0_2 := Aside0.mk hr0_2
 have HC0_2 := Aside0.mk hc0_2
 clear hr0_2 hc0_2
 have HR0_5 := Aside0.mk hr0_5
 have HC0_5 := Aside0.mk hc0_5
 clear hr0_5 hc0_5
 have HB := Aside0.mk (Below.refl w.heap.size w)
 have H : (if (wrap64 (a1 - (a0_1.size : Int))) < 0 then (some (-1)) else ((zq49.f k l0_2 (wrap64 (a1 - (a0_1.size : Int)))).bind fun t105 => (if t105 < 0 then (some (-1)) else (if (wrap64 (t105 - (a0_3.size : Int))) < 0 then (some (-1)) else ((laws_szIntS.f l0_5 (wrap64 (t105 - (a0_3.size : Int)))).bind fun t106 => (if t106 < 0 then (some (-1)) else (some t106))))))) = some r := h
 clear h
 by_cases c3 : (wrap64 (a1 - (a0_1.size : Int))) < 0
 ·rw [if_pos c3] at H
  have c3b0 : decide ((wrap64 (a1 - (a0_1.size : Int))) < 0) = true := decide_eq_true c3
  clear c3
  obtain rfl := Option.some.inj H
  go_enter Try.func84, Try.ntmps84
  go_wp2_with (first | ((refine gate_dst (N := 2) rfl ?_); refine box_event ?hg (N := 2) ?hd (cs := #[.int .i64 a0_0, .string a0_1, .slice A0_2 l0_2.length c0_2, .string a0_3, .int .i64 a0_4, .slice A0_5 l0_5.length c0_5]) (t := 88) ?hr ?_; (case hd => rfl); (case hg => rfl); (case hr => first | (go_simp; done) | (go_simp; rfl)); intro gb104 hg w4 hbox hb; have BK104 := Aside0.mk (hbox); have GW104 := Aside0.mk ((by rw [hg]; exact (below_size (by repeat (with_reducible first | exact HB.out | apply zq2 | apply zq0 | apply zq1))) : w.heap.size ≤ gb104)); replace HB := Aside0.mk (zq7 (by repeat (with_reducible first | exact HB.out | apply zq2 | apply zq0 | apply zq1)) hb); have GE104 := GW104; clear hb hbox hg; obtain ⟨hcz5_0, hcz5_1, hcz5_2, hcz5_3, hcz5_4, hcz5_5, hfz5_0, hfz5_1, hfz5_2, hfz5_3, hfz5_4, hfz5_5⟩ := cells6 BK104.out))
  go_ret
  exact ⟨by first | rfl | simp | simp [*], by repeat (first | (with_reducible first | exact HB.out | apply zq2 | apply zq0 | apply zq1 | refine zq3 ?_ GE104.out) | exact HB.out)⟩
 ·rw [if_neg c3] at H
  have c3b0 : decide ((wrap64 (a1 - (a0_1.size : Int))) < 0) = false := decide_eq_false c3
  clear c3
  replace H := Option.bind_eq_some_iff.mp H
  obtain ⟨t105, A60, H⟩ := H
  (try dsimp only at H)
  have A6 := Aside0.mk A60
  clear A60
  by_cases c7 : t105 < 0
  ·rw [if_pos c7] at H
   have c7b0 : decide (t105 < 0) = true := decide_eq_true c7
   clear c7
   obtain rfl := Option.some.inj H
   go_enter Try.func84, Try.ntmps84
   go_wp2_with (first | ((refine gate_dst (N := 2) rfl ?_); refine box_event ?hg (N := 2) ?hd (cs := #[.int .i64 a0_0, .string a0_1, .slice A0_2 l0_2.length c0_2, .string a0_3, .int .i64 a0_4, .slice A0_5 l0_5.length c0_5]) (t := 88) ?hr ?_; (case hd => rfl); (case hg => rfl); (case hr => first | (go_simp; done) | (go_simp; rfl)); intro gb104 hg w8 hbox hb; have BK104 := Aside0.mk (hbox); have GW104 := Aside0.mk ((by rw [hg]; exact (below_size (by repeat (with_reducible first | exact HB.out | apply zq2 | apply zq0 | apply zq1))) : w.heap.size ≤ gb104)); replace HB := Aside0.mk (zq7 (by repeat (with_reducible first | exact HB.out | apply zq2 | apply zq0 | apply zq1)) hb); have GE104 := GW104; clear hb hbox hg; obtain ⟨hcz9_0, hcz9_1, hcz9_2, hcz9_3, hcz9_4, hcz9_5, hfz9_0, hfz9_1, hfz9_2, hfz9_3, hfz9_4, hfz9_5⟩ := cells6 BK104.out) | ((refine gate_callee (f := 106) rfl ?_); refine goesL_ (some 15) rfl rfl Try.func106 (by kernel_rfl) rfl #[.slice A0_2 l0_2.length c0_2, .int .i64 (wrap64 (a1 - (a0_1.size : Int)))] rfl (by (try simp only [List.map_toArray, List.map_cons, List.map_nil]); first | done | rfl) ?_; (with_reducible refine (zq49.calls k _ _ l0_2 (wrap64 (a1 - (a0_1.size : Int))) t105 _ ?side1 ?side2 A6.out).mono ?_); (case side1 => repeat (first | exact (Kd.C_below HR0_2.out HB.out) | (with_reducible refine Kd.C_alloc ?_ _) | (with_reducible refine Kd.C_drewN ?_ _) | (with_reducible refine Kd.C_drew ?_))); (case side2 => exact HC0_2.out); rintro e w10 ⟨rfl, hb⟩; refine ⟨_, rfl, ?_⟩; replace BK104 := Aside0.mk (zq10 (g := gb104) (o := .cells #[.int .i64 a0_0, .string a0_1, .slice A0_2 l0_2.length c0_2, .string a0_3, .int .i64 a0_4, .slice A0_5 l0_5.length c0_5] 88 (0, 0)) (by (with_reducible repeat (first | refine zq4 ?_ _ | refine zq6 ?_ | refine zq5 ?_ _)); exact BK104.out) hb); replace HB := Aside0.mk (zq7 (by repeat (with_reducible first | exact HB.out | apply zq2 | apply zq0 | apply zq1 | refine zq3 ?_ GE104.out)) hb); (try clear hb)))
   go_ret
   exact ⟨by first | rfl | simp | simp [*], by repeat (first | (with_reducible first | exact HB.out | apply zq2 | apply zq0 | apply zq1 | refine zq3 ?_ GE104.out) | exact HB.out)⟩
  ·rw [if_neg c7] at H
   have c7b0 : decide (t105 < 0) = false := decide_eq_false c7
   clear c7
   by_cases c11 : (wrap64 (t105 - (a0_3.size : Int))) < 0
   ·rw [if_pos c11] at H
    have c11b0 : decide ((wrap64 (t105 - (a0_3.size : Int))) < 0) = true := decide_eq_true c11
    clear c11
    obtain rfl := Option.some.inj H
    go_enter Try.func84, Try.ntmps84
    go_wp2_with (first | ((refine gate_dst (N := 2) rfl ?_); refine box_event ?hg (N := 2) ?hd (cs := #[.int .i64 a0_0, .string a0_1, .slice A0_2 l0_2.length c0_2, .string a0_3, .int .i64 a0_4, .slice A0_5 l0_5.length c0_5]) (t := 88) ?hr ?_; (case hd => rfl); (case hg => rfl); (case hr => first | (go_simp; done) | (go_simp; rfl)); intro gb104 hg w12 hbox hb; have BK104 := Aside0.mk (hbox); have GW104 := Aside0.mk ((by rw [hg]; exact (below_size (by repeat (with_reducible first | exact HB.out | apply zq2 | apply zq0 | apply zq1))) : w.heap.size ≤ gb104)); replace HB := Aside0.mk (zq7 (by repeat (with_reducible first | exact HB.out | apply zq2 | apply zq0 | apply zq1)) hb); have GE104 := GW104; clear hb hbox hg; obtain ⟨hcz13_0, hcz13_1, hcz13_2, hcz13_3, hcz13_4, hcz13_5, hfz13_0, hfz13_1, hfz13_2, hfz13_3, hfz13_4, hfz13_5⟩ := cells6 BK104.out) | ((refine gate_callee (f := 106) rfl ?_); refine goesL_ (some 15) rfl rfl Try.func106 (by kernel_rfl) rfl #[.slice A0_2 l0_2.length c0_2, .int .i64 (wrap64 (a1 - (a0_1.size : Int)))] rfl (by (try simp only [List.map_toArray, List.map_cons, List.map_nil]); first | done | rfl) ?_; (with_reducible refine (zq49.calls k _ _ l0_2 (wrap64 (a1 - (a0_1.size : Int))) t105 _ ?side1 ?side2 A6.out).mono ?_); (case side1 => repeat (first | exact (Kd.C_below HR0_2.out HB.out) | (with_reducible refine Kd.C_alloc ?_ _) | (with_reducible refine Kd.C_drewN ?_ _) | (with_reducible refine Kd.C_drew ?_))); (case side2 => exact HC0_2.out); rintro e w14 ⟨rfl, hb⟩; refine ⟨_, rfl, ?_⟩; replace BK104 := Aside0.mk (zq10 (g := gb104) (o := .cells #[.int .i64 a0_0, .string a0_1, .slice A0_2 l0_2.length c0_2, .string a0_3, .int .i64 a0_4, .slice A0_5 l0_5.length c0_5] 88 (0, 0)) (by (with_reducible repeat (first | refine zq4 ?_ _ | refine zq6 ?_ | refine zq5 ?_ _)); exact BK104.out) hb); replace HB := Aside0.mk (zq7 (by repeat (with_reducible first | exact HB.out | apply zq2 | apply zq0 | apply zq1 | refine zq3 ?_ GE104.out)) hb); (try clear hb); obtain ⟨hcz15_0, hcz15_1, hcz15_2, hcz15_3, hcz15_4, hcz15_5, hfz15_0, hfz15_1, hfz15_2, hfz15_3, hfz15_4, hfz15_5⟩ := cells6 BK104.out))
    go_ret
    exact ⟨by first | rfl | simp | simp [*], by repeat (first | (with_reducible first | exact HB.out | apply zq2 | apply zq0 | apply zq1 | refine zq3 ?_ GE104.out) | exact HB.out)⟩
   ·rw [if_neg c11] at H
    have c11b0 : decide ((wrap64 (t105 - (a0_3.size : Int))) < 0) = false := decide_eq_false c11
    clear c11
    replace H := Option.bind_eq_some_iff.mp H
    obtain ⟨t106, A160, H⟩ := H
    (try dsimp only at H)
    have A16 := Aside0.mk A160
    clear A160
    by_cases c17 : t106 < 0
    ·rw [if_pos c17] at H
     have c17b0 : decide (t106 < 0) = true := decide_eq_true c17
     clear c17
     obtain rfl := Option.some.inj H
     go_enter Try.func84, Try.ntmps84
     go_wp2_with (first | ((refine gate_dst (N := 2) rfl ?_); refine box_event ?hg (N := 2) ?hd (cs := #[.int .i64 a0_0, .string a0_1, .slice A0_2 l0_2.length c0_2, .string a0_3, .int .i64 a0_4, .slice A0_5 l0_5.length c0_5]) (t := 88) ?hr ?_; (case hd => rfl); (case hg => rfl); (case hr => first | (go_simp; done) | (go_simp; rfl)); intro gb104 hg w18 hbox hb; have BK104 := Aside0.mk (hbox); have GW104 := Aside0.mk ((by rw [hg]; exact (below_size (by repeat (with_reducible first | exact HB.out | apply zq2 | apply zq0 | apply zq1))) : w.heap.size ≤ gb104)); replace HB := Aside0.mk (zq7 (by repeat (with_reducible first | exact HB.out | apply zq2 | apply zq0 | apply zq1)) hb); have GE104 := GW104; clear hb hbox hg; obtain ⟨hcz19_0, hcz19_1, hcz19_2, hcz19_3, hcz19_4, hcz19_5, hfz19_0, hfz19_1, hfz19_2, hfz19_3, hfz19_4, hfz19_5⟩ := cells6 BK104.out) | ((refine gate_callee (f := 106) rfl ?_); refine goesL_ (some 15) rfl rfl Try.func106 (by kernel_rfl) rfl #[.slice A0_2 l0_2.length c0_2, .int .i64 (wrap64 (a1 - (a0_1.size : Int)))] rfl (by (try simp only [List.map_toArray, List.map_cons, List.map_nil]); first | done | rfl) ?_; (with_reducible refine (zq49.calls k _ _ l0_2 (wrap64 (a1 - (a0_1.size : Int))) t105 _ ?side1 ?side2 A6.out).mono ?_); (case side1 => repeat (first | exact (Kd.C_below HR0_2.out HB.out) | (with_reducible refine Kd.C_alloc ?_ _) | (with_reducible refine Kd.C_drewN ?_ _) | (with_reducible refine Kd.C_drew ?_))); (case side2 => exact HC0_2.out); rintro e w20 ⟨rfl, hb⟩; refine ⟨_, rfl, ?_⟩; replace BK104 := Aside0.mk (zq10 (g := gb104) (o := .cells #[.int .i64 a0_0, .string a0_1, .slice A0_2 l0_2.length c0_2, .string a0_3, .int .i64 a0_4, .slice A0_5 l0_5.length c0_5] 88 (0, 0)) (by (with_reducible repeat (first | refine zq4 ?_ _ | refine zq6 ?_ | refine zq5 ?_ _)); exact BK104.out) hb); replace HB := Aside0.mk (zq7 (by repeat (with_reducible first | exact HB.out | apply zq2 | apply zq0 | apply zq1 | refine zq3 ?_ GE104.out)) hb); (try clear hb); obtain ⟨hcz21_0, hcz21_1, hcz21_2, hcz21_3, hcz21_4, hcz21_5, hfz21_0, hfz21_1, hfz21_2, hfz21_3, hfz21_4, hfz21_5⟩ := cells6 BK104.out) | ((refine gate_callee (f := 81) rfl ?_); refine goesL_ (some 28) rfl rfl Try.func81 (by kernel_rfl) rfl #[.slice A0_5 l0_5.length c0_5, .int .i64 (wrap64 (t105 - (a0_3.size : Int)))] rfl (by (try simp only [List.map_toArray, List.map_cons, List.map_nil]); first | done | rfl) ?_; (with_reducible refine (laws_szIntS.calls _ _ l0_5 (wrap64 (t105 - (a0_3.size : Int))) t106 _ ?side1 ?side2 A16.out).mono ?_); (case side1 => repeat (first | exact (Kd.C_below HR0_5.out HB.out) | (with_reducible refine Kd.C_alloc ?_ _) | (with_reducible refine Kd.C_drewN ?_ _) | (with_reducible refine Kd.C_drew ?_))); (case side2 => exact HC0_5.out); rintro e w' ⟨rfl, ⟨nd, rfl⟩⟩; refine ⟨_, rfl, ?_⟩))
     go_ret
     exact ⟨by first | rfl | simp | simp [*], by repeat (first | (with_reducible first | exact HB.out | apply zq2 | apply zq0 | apply zq1 | refine zq3 ?_ GE104.out) | exact HB.out)⟩
    ·rw [if_neg c17] at H
     have c17b0 : decide (t106 < 0) = false := decide_eq_false c17
     clear c17
     obtain rfl := Option.some.inj H
     go_enter Try.func84, Try.ntmps84
     go_wp2_with (first | ((refine gate_dst (N := 2) rfl ?_); refine box_event ?hg (N := 2) ?hd (cs := #[.int .i64 a0_0, .string a0_1, .slice A0_2 l0_2.length c0_2, .string a0_3, .int .i64 a0_4, .slice A0_5 l0_5.length c0_5]) (t := 88) ?hr ?_; (case hd => rfl); (case hg => rfl); (case hr => first | (go_simp; done) | (go_simp; rfl)); intro gb104 hg w22 hbox hb; have BK104 := Aside0.mk (hbox); have GW104 := Aside0.mk ((by rw [hg]; exact (below_size (by repeat (with_reducible first | exact HB.out | apply zq2 | apply zq0 | apply zq1))) : w.heap.size ≤ gb104)); replace HB := Aside0.mk (zq7 (by repeat (with_reducible first | exact HB.out | apply zq2 | apply zq0 | apply zq1)) hb); have GE104 := GW104; clear hb hbox hg; obtain ⟨hcz23_0, hcz23_1, hcz23_2, hcz23_3, hcz23_4, hcz23_5, hfz23_0, hfz23_1, hfz23_2, hfz23_3, hfz23_4, hfz23_5⟩ := cells6 BK104.out) | ((refine gate_callee (f := 106) rfl ?_); refine goesL_ (some 15) rfl rfl Try.func106 (by kernel_rfl) rfl #[.slice A0_2 l0_2.length c0_2, .int .i64 (wrap64 (a1 - (a0_1.size : Int)))] rfl (by (try simp only [List.map_toArray, List.map_cons, List.map_nil]); first | done | rfl) ?_; (with_reducible refine (zq49.calls k _ _ l0_2 (wrap64 (a1 - (a0_1.size : Int))) t105 _ ?side1 ?side2 A6.out).mono ?_); (case side1 => repeat (first | exact (Kd.C_below HR0_2.out HB.out) | (with_reducible refine Kd.C_alloc ?_ _) | (with_reducible refine Kd.C_drewN ?_ _) | (with_reducible refine Kd.C_drew ?_))); (case side2 => exact HC0_2.out); rintro e w24 ⟨rfl, hb⟩; refine ⟨_, rfl, ?_⟩; replace BK104 := Aside0.mk (zq10 (g := gb104) (o := .cells #[.int .i64 a0_0, .string a0_1, .slice A0_2 l0_2.length c0_2, .string a0_3, .int .i64 a0_4, .slice A0_5 l0_5.length c0_5] 88 (0, 0)) (by (with_reducible repeat (first | refine zq4 ?_ _ | refine zq6 ?_ | refine zq5 ?_ _)); exact BK104.out) hb); replace HB := Aside0.mk (zq7 (by repeat (with_reducible first | exact HB.out | apply zq2 | apply zq0 | apply zq1 | refine zq3 ?_ GE104.out)) hb); (try clear hb); obtain ⟨hcz25_0, hcz25_1, hcz25_2, hcz25_3, hcz25_4, hcz25_5, hfz25_0, hfz25_1, hfz25_2, hfz25_3, hfz25_4, hfz25_5⟩ := cells6 BK104.out) | ((refine gate_callee (f := 81) rfl ?_); refine goesL_ (some 28) rfl rfl Try.func81 (by kernel_rfl) rfl #[.slice A0_5 l0_5.length c0_5, .int .i64 (wrap64 (t105 - (a0_3.size : Int)))] rfl (by (try simp only [List.map_toArray, List.map_cons, List.map_nil]); first | done | rfl) ?_; (with_reducible refine (laws_szIntS.calls _ _ l0_5 (wrap64 (t105 - (a0_3.size : Int))) t106 _ ?side1 ?side2 A16.out).mono ?_); (case side1 => repeat (first | exact (Kd.C_below HR0_5.out HB.out) | (with_reducible refine Kd.C_alloc ?_ _) | (with_reducible refine Kd.C_drewN ?_ _) | (with_reducible refine Kd.C_drew ?_))); (case side2 => exact HC0_5.out); rintro e w' ⟨rfl, ⟨nd, rfl⟩⟩; refine ⟨_, rfl, ?_⟩))
     go_ret
     exact ⟨by first | rfl | simp | simp [*], by repeat (first | (with_reducible first | exact HB.out | apply zq2 | apply zq0 | apply zq1 | refine zq3 ?_ GE104.out) | exact HB.out)⟩
/-! ### zq57: function 50 -/
def zq57.l0 : Nat → List (S88) → Int → Int → Option (Int)
 | 0, _, _, _ => none
 | k + 1, x0, x1, x5 => if x5 < (x0.length : Int) then (if 0 ≤ x5 then ((laws_szNode.f k ((rd_T88 x0 x5).f0) ((rd_T88 x0 x5).f1) ((rd_T88 x0 x5).f2) ((rd_T88 x0 x5).f3) ((rd_T88 x0 x5).f4) ((rd_T88 x0 x5).f5) x1).bind fun t108 => (if t108 < 0 then (some (-1)) else (zq57.l0 k x0 t108 (wrap64 (x5 + 1))))) else (none)) else (some x1)
def zq57.f (k : Nat) (l0 : List (S88)) (a1 : Int) : Option (Int) := if (wrap64 (a1 - (l0.length : Int))) < 0 then (some (-1)) else (zq57.l0 k l0 (wrap64 (a1 - (l0.length : Int))) 0)
theorem zq57.mono_l : ∀ k, (∀ y0 y1 y2, LeO (zq57.l0 k y0 y1 y2) (zq57.l0 (k + 1) y0 y1 y2))
 | 0 => fun _ _ _ r h => by simp [zq57.l0] at h
 | k + 1 => by
  have ih0 := zq57.mono_l k
  ·intro y0 y1 y2
   unfold zq57.l0
   repeat' first
   | (with_reducible exact ih0 _ _ _)
   | (with_reducible exact laws_szNode.mono _ _ _ _ _ _ _ _)
   | (with_reducible exact LeO.refl _)
   | (with_reducible exact LeO.none _)
   | (with_reducible refine LeO.ite ?_ ?_)
   | (with_reducible refine LeO.bind ?_ (fun _ => ?_))
theorem zq57.mono : ∀ a0 a1 k, LeO (zq57.f k a0 a1) (zq57.f (k + 1) a0 a1) := by
 intro a0 a1 k
 have ih0 := zq57.mono_l k
 unfold zq57.f
 repeat' first
   | (with_reducible exact ih0 _ _ _)
   | (with_reducible exact laws_szNode.mono _ _ _ _ _ _ _ _)
   | (with_reducible exact LeO.refl _)
   | (with_reducible exact LeO.none _)
   | (with_reducible refine LeO.ite ?_ ?_)
   | (with_reducible refine LeO.bind ?_ (fun _ => ?_))
set_option maxHeartbeats 8000000 in
set_option maxRecDepth 100000 in
theorem zq57.calls (k : Nat) (A0 : Option Addr) (c0 : Nat) (l0 : List (S88)) (a1 : Int) (r : Int) (w : World) (hr0 : Kd.C k88 w A0 l0.length l0) (hc0 : l0.length ≤ c0) (h : zq57.f k l0 a1 = some r) :
  Calls Try.prog 50 #[.slice A0 l0.length c0, .int .i64 a1] w fun e w' => e = .returned (.int .i64 r) ∧ Below w.heap.size w w' := by
 have hu88 := Try.underlying88
 have HR0 := Aside0.mk hr0
 have HC0 := Aside0.mk hc0
 clear hr0 hc0
 have HB := Aside0.mk (Below.refl w.heap.size w)
 have H : (if (wrap64 (a1 - (l0.length : Int))) < 0 then (some (-1)) else (zq57.l0 k l0 (wrap64 (a1 - (l0.length : Int))) 0)) = some r := h
 clear h
 by_cases c3 : (wrap64 (a1 - (l0.length : Int))) < 0
 ·rw [if_pos c3] at H
  have c3b0 : decide ((wrap64 (a1 - (l0.length : Int))) < 0) = true := decide_eq_true c3
  clear c3
  obtain rfl := Option.some.inj H
  go_enter Try.func50, Try.ntmps50
  go_wp2
  go_ret
  exact ⟨by first | rfl | simp | simp [*], by repeat (first | (with_reducible first | exact HB.out | apply zq2 | apply zq0 | apply zq1) | exact HB.out)⟩
 ·rw [if_neg c3] at H
  have c3b0 : decide ((wrap64 (a1 - (l0.length : Int))) < 0) = false := decide_eq_false c3
  clear c3
  have H' := Aside0.mk H
  clear H
  go_enter Try.func50, Try.ntmps50
  go_wp2
  go_loopg [1, 5] k (fun kq v1 v5 w' => ∃ (x1_1 : Int) (x5_1 : Int), v1 = .int .i64 x1_1 ∧ v5 = .int .i64 x5_1 ∧ Aside0 (zq57.l0 kq l0 x1_1 x5_1 = some r) ∧ Aside0 (kq ≤ k) ∧ Aside0 (Below w.heap.size w w'))
  case atStart => exact ⟨(wrap64 (a1 - (l0.length : Int))), (0), (by first | rfl | simp | simp [*]), (by first | rfl | simp | simp [*]), H', ⟨Nat.le_refl _⟩, ⟨by repeat (first | (with_reducible first | exact HB.out | apply zq2 | apply zq0 | apply zq1) | exact HB.out)⟩⟩
  case round =>
   clear H'
   obtain ⟨x1_1, x5_1, rfl, rfl, HA, HK1, HB⟩ := hrel
   cases gk with
   | zero => exact absurd HA.out (by simp [zq57.l0])
   | succ k1 =>
    have H := HA.out
    clear HA
    simp only [zq57.l0] at H
    by_cases c4 : x5_1 < (l0.length : Int)
    ·rw [if_pos c4] at H
     have c4b0 : decide (x5_1 < (l0.length : Int)) = true := decide_eq_true c4
     clear c4
     by_cases c5 : 0 ≤ x5_1
     ·rw [if_pos c5] at H
      have c5b0 : decide (0 ≤ x5_1) = true := decide_eq_true c5
      clear c5
      replace H := Option.bind_eq_some_iff.mp H
      obtain ⟨t108, A60, H⟩ := H
      (try dsimp only at H)
      have A6 := Aside0.mk A60
      clear A60
      by_cases c7 : t108 < 0
      ·rw [if_pos c7] at H
       have c7b0 : decide (t108 < 0) = true := decide_eq_true c7
       clear c7
       obtain rfl := Option.some.inj H
       have p107 : 0 ≤ (x5_1 : Int) := of_decide_eq_true (by assumption)
       have q107 : x5_1 < (l0.length : Int) := of_decide_eq_true (by assumption)
       obtain ⟨ad107, A107_2, c107_2, A107_5, c107_5, e107, hx107_0, hx107_1, hx107_2, hx107_3, hx107_4, hx107_5, hl107_2, hi107_2, hl107_5, hi107_5⟩ := at_T88 HR0.out x5_1 p107 q107
       cases e107
       replace hx107_0 := pw_cell_below HB.out hx107_0
       replace hx107_1 := pw_cell_below HB.out hx107_1
       replace hx107_2 := pw_cell_below HB.out hx107_2
       replace hx107_3 := pw_cell_below HB.out hx107_3
       replace hx107_4 := pw_cell_below HB.out hx107_4
       replace hx107_5 := pw_cell_below HB.out hx107_5
       have HR107_2 := Aside0.mk hi107_2
       have HC107_2 := Aside0.mk hl107_2
       clear hi107_2 hl107_2
       have HR107_5 := Aside0.mk hi107_5
       have HC107_5 := Aside0.mk hl107_5
       clear hi107_5 hl107_5
       replace p107 := eq_true p107
       replace q107 := eq_true q107
       go_wp2_with (first | ((refine gate_callee (f := 84) rfl ?_); refine goesL_ (some 23) rfl rfl Try.func84 (by kernel_rfl) rfl #[.agg #[.int .i64 ((rd_T88 l0 x5_1).f0), .string ((rd_T88 l0 x5_1).f1), .slice A107_2 ((rd_T88 l0 x5_1).f2).length c107_2, .string ((rd_T88 l0 x5_1).f3), .int .i64 ((rd_T88 l0 x5_1).f4), .slice A107_5 ((rd_T88 l0 x5_1).f5).length c107_5], .int .i64 x1_1] rfl (by (try simp only [List.map_toArray, List.map_cons, List.map_nil]); first | done | rfl | (simp only [List.length_drop, List.length_take]; rfl)) ?_; (with_reducible refine (laws_szNode.calls k1 ((rd_T88 l0 x5_1).f0) ((rd_T88 l0 x5_1).f1) _ _ ((rd_T88 l0 x5_1).f2) ((rd_T88 l0 x5_1).f3) ((rd_T88 l0 x5_1).f4) _ _ ((rd_T88 l0 x5_1).f5) x1_1 t108 _ ?side1 ?side2 ?side3 ?side4 A6.out).mono ?_); (case side1 => repeat (first | exact (Kd.C_below HR107_2.out HB.out) | (with_reducible refine Kd.C_alloc ?_ _) | (with_reducible refine Kd.C_drewN ?_ _) | (with_reducible refine Kd.C_drew ?_))); (case side2 => exact HC107_2.out); (case side3 => repeat (first | exact (Kd.C_below HR107_5.out HB.out) | (with_reducible refine Kd.C_alloc ?_ _) | (with_reducible refine Kd.C_drewN ?_ _) | (with_reducible refine Kd.C_drew ?_))); (case side4 => exact HC107_5.out); rintro e w8 ⟨rfl, hb⟩; refine ⟨_, rfl, ?_⟩; replace HB := Aside0.mk (zq7 (by repeat (with_reducible first | exact HB.out | apply zq2 | apply zq0 | apply zq1)) hb); (try clear hb)))
       go_ret
       exact ⟨by first | rfl | simp | simp [*], by repeat (first | (with_reducible first | exact HB.out | apply zq2 | apply zq0 | apply zq1) | exact HB.out)⟩
      ·rw [if_neg c7] at H
       have c7b0 : decide (t108 < 0) = false := decide_eq_false c7
       clear c7
       have H' := Aside0.mk H
       clear H
       have p107 : 0 ≤ (x5_1 : Int) := of_decide_eq_true (by assumption)
       have q107 : x5_1 < (l0.length : Int) := of_decide_eq_true (by assumption)
       obtain ⟨ad107, A107_2, c107_2, A107_5, c107_5, e107, hx107_0, hx107_1, hx107_2, hx107_3, hx107_4, hx107_5, hl107_2, hi107_2, hl107_5, hi107_5⟩ := at_T88 HR0.out x5_1 p107 q107
       cases e107
       replace hx107_0 := pw_cell_below HB.out hx107_0
       replace hx107_1 := pw_cell_below HB.out hx107_1
       replace hx107_2 := pw_cell_below HB.out hx107_2
       replace hx107_3 := pw_cell_below HB.out hx107_3
       replace hx107_4 := pw_cell_below HB.out hx107_4
       replace hx107_5 := pw_cell_below HB.out hx107_5
       have HR107_2 := Aside0.mk hi107_2
       have HC107_2 := Aside0.mk hl107_2
       clear hi107_2 hl107_2
       have HR107_5 := Aside0.mk hi107_5
       have HC107_5 := Aside0.mk hl107_5
       clear hi107_5 hl107_5
       replace p107 := eq_true p107
       replace q107 := eq_true q107
       go_wp2_with (first | ((refine gate_callee (f := 84) rfl ?_); refine goesL_ (some 23) rfl rfl Try.func84 (by kernel_rfl) rfl #[.agg #[.int .i64 ((rd_T88 l0 x5_1).f0), .string ((rd_T88 l0 x5_1).f1), .slice A107_2 ((rd_T88 l0 x5_1).f2).length c107_2, .string ((rd_T88 l0 x5_1).f3), .int .i64 ((rd_T88 l0 x5_1).f4), .slice A107_5 ((rd_T88 l0 x5_1).f5).length c107_5], .int .i64 x1_1] rfl (by (try simp only [List.map_toArray, List.map_cons, List.map_nil]); first | done | rfl | (simp only [List.length_drop, List.length_take]; rfl)) ?_; (with_reducible refine (laws_szNode.calls k1 ((rd_T88 l0 x5_1).f0) ((rd_T88 l0 x5_1).f1) _ _ ((rd_T88 l0 x5_1).f2) ((rd_T88 l0 x5_1).f3) ((rd_T88 l0 x5_1).f4) _ _ ((rd_T88 l0 x5_1).f5) x1_1 t108 _ ?side1 ?side2 ?side3 ?side4 A6.out).mono ?_); (case side1 => repeat (first | exact (Kd.C_below HR107_2.out HB.out) | (with_reducible refine Kd.C_alloc ?_ _) | (with_reducible refine Kd.C_drewN ?_ _) | (with_reducible refine Kd.C_drew ?_))); (case side2 => exact HC107_2.out); (case side3 => repeat (first | exact (Kd.C_below HR107_5.out HB.out) | (with_reducible refine Kd.C_alloc ?_ _) | (with_reducible refine Kd.C_drewN ?_ _) | (with_reducible refine Kd.C_drew ?_))); (case side4 => exact HC107_5.out); rintro e w9 ⟨rfl, hb⟩; refine ⟨_, rfl, ?_⟩; replace HB := Aside0.mk (zq7 (by repeat (with_reducible first | exact HB.out | apply zq2 | apply zq0 | apply zq1)) hb); (try clear hb)))
       go_roundg k1
       case measure => have := HK1.out; omega
       case rel => exact ⟨(t108), (wrap64 (x5_1 + 1)), (by first | rfl | simp | simp [*]), (by first | rfl | simp | simp [*]), H', ⟨by have := HK1.out; omega⟩, ⟨by repeat (first | (with_reducible first | exact HB.out | apply zq2 | apply zq0 | apply zq1) | exact HB.out)⟩⟩
     ·rw [if_neg c5] at H
      exact absurd H (by simp)
    ·rw [if_neg c4] at H
     have c4b0 : decide (x5_1 < (l0.length : Int)) = false := decide_eq_false c4
     clear c4
     obtain rfl := Option.some.inj H
     go_wp2
     go_ret
     exact ⟨by first | rfl | simp | simp [*], by repeat (first | (with_reducible first | exact HB.out | apply zq2 | apply zq0 | apply zq1) | exact HB.out)⟩
/-! ### zq22: function 14 -/
def zq22.f (k : Nat) (l0_0 : List (S88)) (a1 : Int) : Option (Int) := (zq57.f k l0_0 a1).bind fun t110 => (if t110 < 0 then (some (-1)) else (some t110))
theorem zq22.mono : ∀ a0 a1 k, LeO (zq22.f k a0 a1) (zq22.f (k + 1) a0 a1) := by
 intro a0 a1 k
 unfold zq22.f
 repeat' first
   | (with_reducible exact zq57.mono _ _ _)
   | (with_reducible exact LeO.refl _)
   | (with_reducible exact LeO.none _)
   | (with_reducible refine LeO.ite ?_ ?_)
   | (with_reducible refine LeO.bind ?_ (fun _ => ?_))
set_option maxHeartbeats 8000000 in
set_option maxRecDepth 100000 in
theorem zq22.calls (k : Nat) (A0_0 : Option Addr) (c0_0 : Nat) (l0_0 : List (S88)) (a1 : Int) (r : Int) (w : World) (hr0_0 : Kd.C k88 w A0_0 l0_0.length l0_0) (hc0_0 : l0_0.length ≤ c0_0) (h : zq22.f k l0_0 a1 = some r) :
  Calls Try.prog 14 #[.agg #[.slice A0_0 l0_0.length c0_0], .int .i64 a1] w fun e w' => e = .returned (.int .i64 r) ∧ Below w.heap.size w w' := by
 have hu24 := Try.underlying24
 have HR0_0 := Aside0.mk hr0_0
 have HC0_0 := Aside0.mk hc0_0
 clear hr0_0 hc0_0
 have HB := Aside0.mk (Below.refl w.heap.size w)
 have H : ((zq57.f k l0_0 a1).bind fun t110 => (if t110 < 0 then (some (-1)) else (some t110))) = some r := h
 clear h
 replace H := Option.bind_eq_some_iff.mp H
 obtain ⟨t110, A30, H⟩ := H
 (try dsimp only at H)
 have A3 := Aside0.mk A30
 clear A30
 by_cases c4 : t110 < 0
 ·rw [if_pos c4] at H
  have c4b0 : decide (t110 < 0) = true := decide_eq_true c4
  clear c4
  obtain rfl := Option.some.inj H
  go_enter Try.func14, Try.ntmps14
  go_wp2_with (first | ((refine gate_dst (N := 2) rfl ?_); refine box_event ?hg (N := 2) ?hd (cs := #[.slice A0_0 l0_0.length c0_0]) (t := 24) ?hr ?_; (case hd => rfl); (case hg => rfl); (case hr => first | (go_simp; done) | (go_simp; rfl)); intro gb109 hg w5 hbox hb; have BK109 := Aside0.mk (hbox); have GW109 := Aside0.mk ((by rw [hg]; exact (below_size (by repeat (with_reducible first | exact HB.out | apply zq2 | apply zq0 | apply zq1))) : w.heap.size ≤ gb109)); replace HB := Aside0.mk (zq7 (by repeat (with_reducible first | exact HB.out | apply zq2 | apply zq0 | apply zq1)) hb); have GE109 := GW109; clear hb hbox hg; obtain ⟨hcz6_0, hfz6_0⟩ := cells1 BK109.out) | ((refine gate_callee (f := 50) rfl ?_); refine goesL_ (some 8) rfl rfl Try.func50 (by kernel_rfl) rfl #[.slice A0_0 l0_0.length c0_0, .int .i64 a1] rfl (by (try simp only [List.map_toArray, List.map_cons, List.map_nil]); first | done | rfl) ?_; (with_reducible refine (zq57.calls k _ _ l0_0 a1 t110 _ ?side1 ?side2 A3.out).mono ?_); (case side1 => repeat (first | exact (Kd.C_below HR0_0.out HB.out) | (with_reducible refine Kd.C_alloc ?_ _) | (with_reducible refine Kd.C_drewN ?_ _) | (with_reducible refine Kd.C_drew ?_))); (case side2 => exact HC0_0.out); rintro e w7 ⟨rfl, hb⟩; refine ⟨_, rfl, ?_⟩; replace BK109 := Aside0.mk (zq10 (g := gb109) (o := .cells #[.slice A0_0 l0_0.length c0_0] 24 (0, 0)) (by (with_reducible repeat (first | refine zq4 ?_ _ | refine zq6 ?_ | refine zq5 ?_ _)); exact BK109.out) hb); replace HB := Aside0.mk (zq7 (by repeat (with_reducible first | exact HB.out | apply zq2 | apply zq0 | apply zq1 | refine zq3 ?_ GE109.out)) hb); (try clear hb)))
  go_ret
  exact ⟨by first | rfl | simp | simp [*], by repeat (first | (with_reducible first | exact HB.out | apply zq2 | apply zq0 | apply zq1 | refine zq3 ?_ GE109.out) | exact HB.out)⟩
 ·rw [if_neg c4] at H
  have c4b0 : decide (t110 < 0) = false := decide_eq_false c4
  clear c4
  obtain rfl := Option.some.inj H
  go_enter Try.func14, Try.ntmps14
  go_wp2_with (first | ((refine gate_dst (N := 2) rfl ?_); refine box_event ?hg (N := 2) ?hd (cs := #[.slice A0_0 l0_0.length c0_0]) (t := 24) ?hr ?_; (case hd => rfl); (case hg => rfl); (case hr => first | (go_simp; done) | (go_simp; rfl)); intro gb109 hg w8 hbox hb; have BK109 := Aside0.mk (hbox); have GW109 := Aside0.mk ((by rw [hg]; exact (below_size (by repeat (with_reducible first | exact HB.out | apply zq2 | apply zq0 | apply zq1))) : w.heap.size ≤ gb109)); replace HB := Aside0.mk (zq7 (by repeat (with_reducible first | exact HB.out | apply zq2 | apply zq0 | apply zq1)) hb); have GE109 := GW109; clear hb hbox hg; obtain ⟨hcz9_0, hfz9_0⟩ := cells1 BK109.out) | ((refine gate_callee (f := 50) rfl ?_); refine goesL_ (some 8) rfl rfl Try.func50 (by kernel_rfl) rfl #[.slice A0_0 l0_0.length c0_0, .int .i64 a1] rfl (by (try simp only [List.map_toArray, List.map_cons, List.map_nil]); first | done | rfl) ?_; (with_reducible refine (zq57.calls k _ _ l0_0 a1 t110 _ ?side1 ?side2 A3.out).mono ?_); (case side1 => repeat (first | exact (Kd.C_below HR0_0.out HB.out) | (with_reducible refine Kd.C_alloc ?_ _) | (with_reducible refine Kd.C_drewN ?_ _) | (with_reducible refine Kd.C_drew ?_))); (case side2 => exact HC0_0.out); rintro e w10 ⟨rfl, hb⟩; refine ⟨_, rfl, ?_⟩; replace BK109 := Aside0.mk (zq10 (g := gb109) (o := .cells #[.slice A0_0 l0_0.length c0_0] 24 (0, 0)) (by (with_reducible repeat (first | refine zq4 ?_ _ | refine zq6 ?_ | refine zq5 ?_ _)); exact BK109.out) hb); replace HB := Aside0.mk (zq7 (by repeat (with_reducible first | exact HB.out | apply zq2 | apply zq0 | apply zq1 | refine zq3 ?_ GE109.out)) hb); (try clear hb)))
  go_ret
  exact ⟨by first | rfl | simp | simp [*], by repeat (first | (with_reducible first | exact HB.out | apply zq2 | apply zq0 | apply zq1 | refine zq3 ?_ GE109.out) | exact HB.out)⟩
/-! ### laws_toAttr: function 128 -/
def laws_toAttr.f (a0_0 : ByteArray) (a0_1 : ByteArray) : Option (ByteArray × ByteArray) := some (a0_0, a0_1)
set_option maxHeartbeats 8000000 in
set_option maxRecDepth 100000 in
theorem laws_toAttr.calls (a0_0 : ByteArray) (a0_1 : ByteArray) (r1 : ByteArray) (r2 : ByteArray) (w : World) (h : laws_toAttr.f a0_0 a0_1 = some (r1, r2)) :
  Calls Try.prog 128 #[.agg #[.string a0_0, .string a0_1]] w fun e w' => e = .returned (.agg #[.string r1, .string r2]) ∧ Below w.heap.size w w' := by
 have hu124 := Try.underlying124
 have hu106 := Try.underlying106
 have HB := Aside0.mk (Below.refl w.heap.size w)
 have H : (some (a0_0, a0_1)) = some (r1, r2) := h
 clear h
 simp only [Option.some.injEq, Prod.mk.injEq] at H
 obtain ⟨rfl, rfl⟩ := H
 go_enter Try.func128, Try.ntmps128
 go_wp2_with (first | ((refine gate_dst (N := 1) rfl ?_); refine box_event ?hg (N := 1) ?hd (cs := #[.string a0_0, .string a0_1]) (t := 124) ?hr ?_; (case hd => rfl); (case hg => rfl); (case hr => first | (go_simp; done) | (go_simp; rfl)); intro gb228 hg w2 hbox hb; have BK228 := Aside0.mk (hbox); have GW228 := Aside0.mk ((by rw [hg]; exact (below_size (by repeat (with_reducible first | exact HB.out | apply zq2 | apply zq0 | apply zq1))) : w.heap.size ≤ gb228)); replace HB := Aside0.mk (zq7 (by repeat (with_reducible first | exact HB.out | apply zq2 | apply zq0 | apply zq1)) hb); have GE228 := GW228; clear hb hbox hg) | ((refine gate_dst (N := 2) rfl ?_); refine box_event ?hg (N := 2) ?hd (cs := #[.string (⟨#[]⟩ : ByteArray), .string (⟨#[]⟩ : ByteArray)]) (t := 106) ?hr ?_; (case hd => rfl); (case hg => rfl); (case hr => first | (go_simp; done) | (go_simp; rfl)); intro gb229 hg w3 hbox hb; have BK229 := Aside0.mk (hbox); have GW229 := Aside0.mk ((by rw [hg]; exact (below_size (by repeat (with_reducible first | exact HB.out | apply zq2 | apply zq0 | apply zq1 | refine zq3 ?_ GE228.out))) : w.heap.size ≤ gb229)); replace HB := Aside0.mk (zq7 (by repeat (with_reducible first | exact HB.out | apply zq2 | apply zq0 | apply zq1 | refine zq3 ?_ GE228.out)) hb); have NB228_229 := Aside0.mk ((by rw [hg]; exact Nat.ne_of_lt (blk_lt (g := gb228) (o := .cells #[.string a0_0, .string a0_1] 124 (0, 0)) (by (with_reducible repeat (first | refine zq4 ?_ _ | refine zq6 ?_ | refine zq5 ?_ _)); exact BK228.out)) : gb228 ≠ gb229)); have NB229_228 := Aside0.mk ((by rw [hg]; exact Nat.ne_of_gt (blk_lt (g := gb228) (o := .cells #[.string a0_0, .string a0_1] 124 (0, 0)) (by (with_reducible repeat (first | refine zq4 ?_ _ | refine zq6 ?_ | refine zq5 ?_ _)); exact BK228.out)) : gb229 ≠ gb228)); replace BK228 := Aside0.mk (zq10 (g := gb228) (o := .cells #[.string a0_0, .string a0_1] 124 (0, 0)) (by (with_reducible repeat (first | refine zq4 ?_ _ | refine zq6 ?_ | refine zq5 ?_ _)); exact BK228.out) hb); have GE229 := GW229; clear hb hbox hg) | ((refine gate_dst (N := 3) rfl ?_); refine box_event ?hg (N := 3) ?hd (cs := #[.string (⟨#[]⟩ : ByteArray), .string (⟨#[]⟩ : ByteArray)]) (t := 106) ?hr ?_; (case hd => rfl); (case hg => rfl); (case hr => first | (go_simp; done) | (go_simp; rfl)); intro gb230 hg w4 hbox hb; have BK230 := Aside0.mk (hbox); have GW230 := Aside0.mk ((by rw [hg]; exact (below_size (by repeat (with_reducible first | exact HB.out | apply zq2 | apply zq0 | apply zq1 | refine zq3 ?_ GE228.out | refine zq3 ?_ GE229.out))) : w.heap.size ≤ gb230)); replace HB := Aside0.mk (zq7 (by repeat (with_reducible first | exact HB.out | apply zq2 | apply zq0 | apply zq1 | refine zq3 ?_ GE228.out | refine zq3 ?_ GE229.out)) hb); have NB228_230 := Aside0.mk ((by rw [hg]; exact Nat.ne_of_lt (blk_lt (g := gb228) (o := .cells #[.string a0_0, .string a0_1] 124 (0, 0)) (by (with_reducible repeat (first | refine zq4 ?_ _ | refine zq6 ?_ | refine zq5 ?_ _)); exact BK228.out)) : gb228 ≠ gb230)); have NB230_228 := Aside0.mk ((by rw [hg]; exact Nat.ne_of_gt (blk_lt (g := gb228) (o := .cells #[.string a0_0, .string a0_1] 124 (0, 0)) (by (with_reducible repeat (first | refine zq4 ?_ _ | refine zq6 ?_ | refine zq5 ?_ _)); exact BK228.out)) : gb230 ≠ gb228)); replace BK228 := Aside0.mk (zq10 (g := gb228) (o := .cells #[.string a0_0, .string a0_1] 124 (0, 0)) (by (with_reducible repeat (first | refine zq4 ?_ _ | refine zq6 ?_ | refine zq5 ?_ _)); exact BK228.out) hb); have NB229_230 := Aside0.mk ((by rw [hg]; exact Nat.ne_of_lt (blk_lt (g := gb229) (o := .cells #[.string (⟨#[]⟩ : ByteArray), .string (⟨#[]⟩ : ByteArray)] 106 (0, 0)) (by (with_reducible repeat (first | refine zq4 ?_ _ | refine zq6 ?_ | refine zq5 ?_ _)); exact BK229.out)) : gb229 ≠ gb230)); have NB230_229 := Aside0.mk ((by rw [hg]; exact Nat.ne_of_gt (blk_lt (g := gb229) (o := .cells #[.string (⟨#[]⟩ : ByteArray), .string (⟨#[]⟩ : ByteArray)] 106 (0, 0)) (by (with_reducible repeat (first | refine zq4 ?_ _ | refine zq6 ?_ | refine zq5 ?_ _)); exact BK229.out)) : gb230 ≠ gb229)); replace BK229 := Aside0.mk (zq10 (g := gb229) (o := .cells #[.string (⟨#[]⟩ : ByteArray), .string (⟨#[]⟩ : ByteArray)] 106 (0, 0)) (by (with_reducible repeat (first | refine zq4 ?_ _ | refine zq6 ?_ | refine zq5 ?_ _)); exact BK229.out) hb); have GE230 := GW230; clear hb hbox hg; have hnb5 := NB228_229.out; have hnc5 := NB229_228.out; have hnb6 := NB228_230.out; have hnc6 := NB230_228.out; obtain ⟨hcz7_0, hcz7_1, hfz7_0, hfz7_1⟩ := cells2 BK228.out; have hnb8 := NB230_229.out; have hnc8 := NB229_230.out; obtain ⟨hcz9_0, hcz9_1, hfz9_0, hfz9_1⟩ := cells2 BK230.out; obtain ⟨hcz10_0, hcz10_1, hfz10_0, hfz10_1⟩ := cells2 BK229.out))
 refine bodyPost_ret (results_cell_row rfl _ _ gb229 106 #[.string a0_0, .string a0_1] (0, 0) _ rfl (by (with_reducible repeat (first | refine zq4 ?_ _ | refine zq6 ?_ | refine zq5 ?_ _)); refine blk_put (cs := #[.string a0_0, .string (⟨#[]⟩ : ByteArray)]) ?_ 1 _ rfl; (with_reducible repeat (first | refine zq4 ?_ _ | refine zq6 ?_ | refine zq5 ?_ _)); refine blk_put (cs := #[.string (⟨#[]⟩ : ByteArray), .string (⟨#[]⟩ : ByteArray)]) ?_ 0 _ rfl; (with_reducible repeat (first | refine zq4 ?_ _ | refine zq6 ?_ | refine zq5 ?_ _ | refine blk_far ?_ NB229_230.out _)); exact BK229.out) Try.underlying106 rfl (by kernel_rfl)) rfl ?_
 exact ⟨by first | rfl | simp | simp [*], by repeat (first | (with_reducible first | exact HB.out | apply zq2 | apply zq0 | apply zq1 | refine zq3 ?_ GE228.out | refine zq3 ?_ GE229.out | refine zq3 ?_ GE230.out) | exact HB.out)⟩
/-! ### zq56: function 110 -/
def zq56.l0 : Nat → List (S124) → List (S106) → Int → Option ((List (S106)))
 | 0, _, _, _ => none
 | k + 1, x0, x3, x4 => if x4 < (x0.length : Int) then (if 0 ≤ x4 then ((laws_toAttr.f ((rd_T124 x0 x4).f0) ((rd_T124 x0 x4).f1)).bind fun bt235 => (if x4 < (x3.length : Int) then (zq56.l0 k x0 (x3.set (x4 : Int).toNat (⟨bt235.1, bt235.2⟩ : S106)) (wrap64 (x4 + 1))) else (none))) else (none)) else (some x3)
def zq56.f (k : Nat) (l0 : List (S124)) : Option ((List (S106))) := if 0 ≤ (l0.length : Int) then (if ((l0.length : Int) : Int).toNat ≤ 8796093022208 then (zq56.l0 k l0 (List.replicate ((l0.length : Int) : Int).toNat z106) 0) else (none)) else (none)
theorem zq56.mono_l : ∀ k, (∀ y0 y1 y2, LeO (zq56.l0 k y0 y1 y2) (zq56.l0 (k + 1) y0 y1 y2))
 | 0 => fun _ _ _ r h => by simp [zq56.l0] at h
 | k + 1 => by
  have ih0 := zq56.mono_l k
  ·intro y0 y1 y2
   unfold zq56.l0
   repeat' first
   | (with_reducible exact ih0 _ _ _)
   | (with_reducible exact LeO.refl _)
   | (with_reducible exact LeO.none _)
   | (with_reducible refine LeO.ite ?_ ?_)
   | (with_reducible refine LeO.bind ?_ (fun _ => ?_))
theorem zq56.mono : ∀ a0 k, LeO (zq56.f k a0) (zq56.f (k + 1) a0) := by
 intro a0 k
 have ih0 := zq56.mono_l k
 unfold zq56.f
 repeat' first
   | (with_reducible exact ih0 _ _ _)
   | (with_reducible exact LeO.refl _)
   | (with_reducible exact LeO.none _)
   | (with_reducible refine LeO.ite ?_ ?_)
   | (with_reducible refine LeO.bind ?_ (fun _ => ?_))
set_option maxHeartbeats 8000000 in
set_option maxRecDepth 100000 in
theorem zq56.calls (k : Nat) (A0 : Option Addr) (c0 : Nat) (l0 : List (S124)) (r : List (S106)) (w : World) (hr0 : Kd.C k124 w A0 l0.length l0) (hc0 : l0.length ≤ c0) (h : zq56.f k l0 = some r) :
  Calls Try.prog 110 #[.slice A0 l0.length c0] w fun e w' => ∃ v0_ : Value, e = .returned (v0_) ∧ Kd.R k106 106 w' w.heap.size (fun _ => True) v0_ r ∧ Below w.heap.size w w' := by
 have hu124 := Try.underlying124
 have hu106 := Try.underlying106
 have HR0 := Aside0.mk hr0
 have HC0 := Aside0.mk hc0
 clear hr0 hc0
 have HB := Aside0.mk (Below.refl w.heap.size w)
 have H : (if 0 ≤ (l0.length : Int) then (if ((l0.length : Int) : Int).toNat ≤ 8796093022208 then (zq56.l0 k l0 (List.replicate ((l0.length : Int) : Int).toNat z106) 0) else (none)) else (none)) = some r := h
 clear h
 by_cases c2 : 0 ≤ (l0.length : Int)
 ·rw [if_pos c2] at H
  have c2b0 := eq_true c2
  have c2b1 : decide (0 ≤ (l0.length : Int)) = true := decide_eq_true c2
  clear c2
  by_cases c3 : ((l0.length : Int) : Int).toNat ≤ 8796093022208
  ·rw [if_pos c3] at H
   have c3b0 := eq_true c3
   have c3b1 : decide (((l0.length : Int) : Int).toNat ≤ 8796093022208) = true := decide_eq_true c3
   clear c3
   obtain ⟨y231, hy231⟩ : ∃ y_ : List (S106), y_ = (List.replicate ((l0.length : Int) : Int).toNat z106) := ⟨_, rfl⟩
   replace H : (zq56.l0 k l0 y231 0) = some r := by first | (rw [hy231]; with_reducible exact H) | (have H2_ := (Option.bind_some _ _).symm.trans H; rw [hy231]; with_reducible exact H2_) | (have H2_ := (Option.bind_some _ _).symm.trans H; with_reducible exact H2_) | with_reducible exact H | (rw [hy231]; exact H) | exact H
   have Ny231 := Aside0.mk hy231
   clear hy231
   have H' := Aside0.mk H
   clear H
   go_enter Try.func110, Try.ntmps110
   go_wp2_with (first | ((refine gate_dst (N := 7) rfl ?_); refine Kd.R_make k106 _ 106 rfl (N := 7) rfl 62 _ _ rfl (l0.length : Int) rfl rfl Try.underlying62 (.agg #[(.string ⟨#[]⟩), (.string ⟨#[]⟩)]) 32 info106 rfl (by decide) (by omega) z106 (ok := fun _ => True) (okp := fun _ => True) (k106_mkM _ _ _ z106 ) (fun _ hk => hk) trivial (of_decide_eq_true (by assumption)) (Nat.le_trans (Nat.mul_le_mul_right _ (of_decide_eq_true (by assumption) : (l0.length : Int).toNat ≤ 8796093022208)) (by omega)) (Below.refl _ _) (Nat.le_refl _) ?_; intro v232 w4 ho5 hb hg_ hnew_; clear hg_ hnew_; (first | rw [← Ny231.out] at ho5 | (simp only [Int.reduceToNat] at ho5; rw [← Ny231.out] at ho5)); have HO233 := Aside0.mk (Kd.R_lower ho5 (below_size (by repeat (with_reducible first | exact HB.out | apply zq2 | apply zq0 | apply zq1)))); replace HB := Aside0.mk (zq7 (by repeat (with_reducible first | exact HB.out | apply zq2 | apply zq0 | apply zq1)) hb); clear hb ho5))
   go_loopg [4] k (fun kq v4 w' => ∃ (x3_1 : List (S106)) (x4_1 : Int), v4 = .int .i64 x4_1 ∧ Aside0 (zq56.l0 kq l0 x3_1 x4_1 = some r) ∧ Aside0 (kq ≤ k) ∧ Aside0 (Kd.R k106 106 w' w.heap.size (fun _ => True) v232 x3_1) ∧ Aside0 (Below w.heap.size w w'))
   case atStart => exact ⟨(y231), (0), (by first | rfl | simp | simp [*]), H', ⟨Nat.le_refl _⟩, ⟨by (with_reducible repeat (first | apply Kd.R_alloc | apply Kd.R_drewN | apply Kd.R_drew)); exact HO233.out⟩, ⟨by repeat (first | (with_reducible first | exact HB.out | apply zq2 | apply zq0 | apply zq1) | exact HB.out)⟩⟩
   case round =>
    clear H'
    obtain ⟨x3_1, x4_1, rfl, HA, HK1, HO_3, HB⟩ := hrel
    cases gk with
    | zero => exact absurd HA.out (by simp [zq56.l0])
    | succ k1 =>
     have H := HA.out
     clear HA
     simp only [zq56.l0] at H
     by_cases c6 : x4_1 < (l0.length : Int)
     ·rw [if_pos c6] at H
      have c6b0 : decide (x4_1 < (l0.length : Int)) = true := decide_eq_true c6
      clear c6
      by_cases c7 : 0 ≤ x4_1
      ·rw [if_pos c7] at H
       have c7b0 : decide (0 ≤ x4_1) = true := decide_eq_true c7
       clear c7
       replace H := Option.bind_eq_some_iff.mp H
       obtain ⟨⟨t235, t236⟩, A80, H⟩ := H
       (try dsimp only at H)
       have A8 := Aside0.mk A80
       clear A80
       by_cases c9 : x4_1 < (x3_1.length : Int)
       ·rw [if_pos c9] at H
        have c9b0 : decide (x4_1 < (x3_1.length : Int)) = true := decide_eq_true c9
        clear c9
        obtain ⟨y237, hy237⟩ : ∃ y_ : List (S106), y_ = (x3_1.set (x4_1 : Int).toNat (⟨t235, t236⟩ : S106)) := ⟨_, rfl⟩
        replace H : (zq56.l0 k1 l0 y237 (wrap64 (x4_1 + 1))) = some r := by first | (rw [hy237]; with_reducible exact H) | (have H2_ := (Option.bind_some _ _).symm.trans H; rw [hy237]; with_reducible exact H2_) | (have H2_ := (Option.bind_some _ _).symm.trans H; with_reducible exact H2_) | with_reducible exact H | (rw [hy237]; exact H) | exact H
        have Ny237 := Aside0.mk hy237
        clear hy237
        have H' := Aside0.mk H
        clear H
        have p234 : 0 ≤ (x4_1 : Int) := of_decide_eq_true (by assumption)
        have q234 : x4_1 < (l0.length : Int) := of_decide_eq_true (by assumption)
        obtain ⟨ad234, e234, hx234_0, hx234_1⟩ := at_T124 HR0.out x4_1 p234 q234
        cases e234
        replace hx234_0 := pw_cell_below HB.out hx234_0
        replace hx234_1 := pw_cell_below HB.out hx234_1
        replace p234 := eq_true p234
        replace q234 := eq_true q234
        go_wp2_with (first | ((refine gate_callee (f := 128) rfl ?_); refine goesL_ (some 20) rfl rfl Try.func128 (by kernel_rfl) rfl #[.agg #[.string ((rd_T124 l0 x4_1).f0), .string ((rd_T124 l0 x4_1).f1)]] rfl (by (try simp only [List.map_toArray, List.map_cons, List.map_nil]); first | done | rfl | (simp only [List.length_drop, List.length_take]; rfl)) ?_; (with_reducible refine (laws_toAttr.calls ((rd_T124 l0 x4_1).f0) ((rd_T124 l0 x4_1).f1) t235 t236 _ A8.out).mono ?_); rintro e w11 ⟨rfl, hb⟩; refine ⟨_, rfl, ?_⟩; replace HO_3 := Aside0.mk (Kd.R_below (by (with_reducible repeat (first | apply Kd.R_alloc | apply Kd.R_drewN | apply Kd.R_drew)); exact HO_3.out) hb); replace HB := Aside0.mk (zq7 (by repeat (with_reducible first | exact HB.out | apply zq2 | apply zq0 | apply zq1)) hb); (try clear hb); have p10 : 0 ≤ (x4_1 : Int) := of_decide_eq_true (by assumption); have q10 : (x4_1 : Int) < ((x3_1.length : Int) : Int) := of_decide_eq_true (by assumption); obtain ⟨go10, co10, eo10, gb10, gl10, cl10, HG10⟩ := Kd.R_form HO_3.out (by omega); (first | cases eo10 | (injection eo10 with ea_ en_ ec_; (first | subst ea_ | (injection ea_ with ea_; subst ea_)); subst ec_; clear en_)); have GB10 := Aside0.mk gb10; have GG10 := Aside0.mk HG10; clear gb10 gl10 HG10; obtain ⟨ce10, hcl10, hM10, hcc10, hfr10⟩ := Kd.R_elem HO_3.out z106 (x4_1 : Int) p10 q10; obtain rfl := k106_openM hM10; have hx10_0 : w11.cell? ⟨go10, (x4_1 : Int).toNat * 2, none⟩ = some (.string ((rd_T106 x3_1 x4_1).f0)) := hcc10 0 _ rfl; have hx10_1 : w11.cell? ⟨go10, (x4_1 : Int).toNat * 2 + 1, none⟩ = some (.string ((rd_T106 x3_1 x4_1).f1)) := hcc10 1 _ rfl; have hf10_0 : w11.frozen? ⟨go10, (x4_1 : Int).toNat * 2, none⟩ = false := hfr10 0; have hf10_1 : w11.frozen? ⟨go10, (x4_1 : Int).toNat * 2 + 1, none⟩ = false := hfr10 1; clear hcl10 hcc10 hfr10 hM10; replace p10 := eq_true p10; replace q10 := eq_true q10; have HX12 := Aside0.mk (show Kd.R k106 106 w11 w.heap.size (fun _ => True) (.slice (some ⟨go10, 0, none⟩) x3_1.length co10) x3_1 from (by (with_reducible repeat (first | apply Kd.R_alloc | apply Kd.R_drewN | apply Kd.R_drew)); exact HO_3.out)); obtain ⟨ce12, hcl12, hM12, hcc12, hfr12⟩ := Kd.R_elem HX12.out z106 (x4_1 : Int) (of_decide_eq_true (by assumption)) (by have h_ : (x4_1 : Int) < ((x3_1.length : Int) : Int) := of_decide_eq_true (by assumption); first | exact h_ | (have e_ := (Kd.R_reads' HO_3.out).1; omega) | simpa using h_); obtain rfl := k106_openM hM12; have HP12 := Kd.R_seg HX12.out (x4_1 : Int) (of_decide_eq_true (by assumption)) (by have h_ : (x4_1 : Int) < ((x3_1.length : Int) : Int) := of_decide_eq_true (by assumption); first | exact h_ | (have e_ := (Kd.R_reads' HO_3.out).1; omega) | simpa using h_) (seg := [.string t235, .string t236]) (j := 0) hcl12 hcc12 (show 2 ≤ 2 from by decide) (x' := (⟨t235, t236⟩ : S106)) (k106_mkM _ _ _ (⟨t235, t236⟩ : S106) ) (fun _ hk => hk); have hx12_0 := hcc12 0 _ rfl; (try simp only [show (k106).sz = 2 from rfl, Nat.mul_one, Nat.add_zero] at hx12_0); have hf12_0 := hfr12 0; (try simp only [show (k106).sz = 2 from rfl, Nat.mul_one, Nat.add_zero] at hf12_0); have hx12_1 := hcc12 1 _ rfl; (try simp only [show (k106).sz = 2 from rfl, Nat.mul_one, Nat.add_zero] at hx12_1); have hf12_1 := hfr12 1; (try simp only [show (k106).sz = 2 from rfl, Nat.mul_one, Nat.add_zero] at hf12_1); clear hcl12 hcc12 hfr12 hM12) | ((refine gate_store (t := 106) (p := 21) rfl ?_); refine store_event (t := 106) (p := 21) (v := ?vo_w13) (w1 := ((w11.setCell ⟨go10, (x4_1 : Int).toNat * 2, none⟩ (.string t235)).setCell ⟨go10, (x4_1 : Int).toNat * 2 + 1, none⟩ (.string t236))) ?hg ?ho ?hn ?hr ?_; (case ho => rfl); (case hg => rfl); (case hn => rfl); (case hr => first | (go_simp; done) | (go_simp; rfl)); intro w13 hw; have hg : w11.grownBy w13 (some go10) := (by rw [hw]; exact HP12.2); have hp_ : Kd.R k106 106 w13 w.heap.size (fun _ => True) (.slice (some ⟨go10, 0, none⟩) x3_1.length co10) y237 := (by rw [hw, Ny237.out]; exact HP12.1); clear HP12; replace HO_3 := Aside0.mk (hp_); replace HB := Aside0.mk ((by rw [hw]; exact zq3 (zq3 (HB.out) GB10.out) GB10.out : Below w.heap.size w w13)); clear hg hw hp_))
        go_roundg k1
        case measure => have := HK1.out; omega
        case rel => exact ⟨(y237), (wrap64 (x4_1 + 1)), (by first | rfl | simp | simp [*]), H', ⟨by have := HK1.out; omega⟩, ⟨by (with_reducible repeat (first | apply Kd.R_alloc | apply Kd.R_drewN | apply Kd.R_drew)); exact HO_3.out⟩, ⟨by repeat (first | (with_reducible first | exact HB.out | apply zq2 | apply zq0 | apply zq1) | exact HB.out)⟩⟩
       ·rw [if_neg c9] at H
        exact absurd H (by simp)
      ·rw [if_neg c7] at H
       exact absurd H (by simp)
     ·rw [if_neg c6] at H
      have c6b0 : decide (x4_1 < (l0.length : Int)) = false := decide_eq_false c6
      clear c6
      obtain rfl := Option.some.inj H
      go_wp2
      go_ret
      exact ⟨_, by first | rfl | simp | simp [*], by (with_reducible repeat (first | apply Kd.R_alloc | apply Kd.R_drewN | apply Kd.R_drew)); exact HO_3.out, by repeat (first | (with_reducible first | exact HB.out | apply zq2 | apply zq0 | apply zq1) | exact HB.out)⟩
  ·rw [if_neg c3] at H
   exact absurd H (by simp)
 ·rw [if_neg c2] at H
  exact absurd H (by simp)
/-! ### laws_toNode: function 86 -/
def laws_toNode.f (k : Nat) (a0_0 : Int) (a0_1 : ByteArray) (l0_2 : List (S124)) (a0_3 : ByteArray) (a0_4 : Int) (l0_5 : List Int) : Option (Int × ByteArray × (List (S106)) × ByteArray × Int × List Int) := (zq56.f k l0_2).bind fun t241 => ((zq13.f k l0_5).bind fun t244 => (some (a0_0, a0_1, t241, a0_3, a0_4, t244)))
theorem laws_toNode.mono : ∀ a0 a1 a2 a3 a4 a5 k, LeO (laws_toNode.f k a0 a1 a2 a3 a4 a5) (laws_toNode.f (k + 1) a0 a1 a2 a3 a4 a5) := by
 intro a0 a1 a2 a3 a4 a5 k
 unfold laws_toNode.f
 repeat' first
   | (with_reducible exact zq56.mono _ _)
   | (with_reducible exact zq13.mono _ _)
   | (with_reducible exact LeO.refl _)
   | (with_reducible exact LeO.none _)
   | (with_reducible refine LeO.ite ?_ ?_)
   | (with_reducible refine LeO.bind ?_ (fun _ => ?_))
set_option maxHeartbeats 8000000 in
set_option maxRecDepth 100000 in
theorem laws_toNode.calls (k : Nat) (a0_0 : Int) (a0_1 : ByteArray) (A0_2 : Option Addr) (c0_2 : Nat) (l0_2 : List (S124)) (a0_3 : ByteArray) (a0_4 : Int) (A0_5 : Option Addr) (c0_5 : Nat) (l0_5 : List Int) (r1 : Int) (r2 : ByteArray) (r3 : List (S106)) (r4 : ByteArray) (r5 : Int) (r6 : List Int) (w : World) (hr0_2 : Kd.C k124 w A0_2 l0_2.length l0_2) (hc0_2 : l0_2.length ≤ c0_2) (hr0_5 : Kd.C (Kd.int .i64) w A0_5 l0_5.length l0_5) (hc0_5 : l0_5.length ≤ c0_5) (h : laws_toNode.f k a0_0 a0_1 l0_2 a0_3 a0_4 l0_5 = some (r1, r2, r3, r4, r5, r6)) :
  Calls Try.prog 86 #[.agg #[.int .i64 a0_0, .string a0_1, .slice A0_2 l0_2.length c0_2, .string a0_3, .int .i64 a0_4, .slice A0_5 l0_5.length c0_5]] w fun e w' => ∃ v2_ v5_ : Value, e = .returned (.agg #[.int .i64 r1, .string r2, v2_, .string r4, .int .i64 r5, v5_]) ∧ Kd.R k106 106 w' w.heap.size (fun _ => True) v2_ r3 ∧ Kd.R (Kd.int .i64) 3 w' w.heap.size (fun _ => True) v5_ r6 ∧ Below w.heap.size w w' := by
 have hu88 := Try.underlying88
 have hu64 := Try.underlying64
 have HR0_2 := Aside0.mk hr0_2
 have HC0_2 := Aside0.mk hc0_2
 clear hr0_2 hc0_2
 have HR0_5 := Aside0.mk hr0_5
 have HC0_5 := Aside0.mk hc0_5
 clear hr0_5 hc0_5
 have HB := Aside0.mk (Below.refl w.heap.size w)
 have H : ((zq56.f k l0_2).bind fun t241 => ((zq13.f k l0_5).bind fun t244 => (some (a0_0, a0_1, t241, a0_3, a0_4, t244)))) = some (r1, r2, r3, r4, r5, r6) := h
 clear h
 replace H := Option.bind_eq_some_iff.mp H
 obtain ⟨t241, A20, H⟩ := H
 (try dsimp only at H)
 have A2 := Aside0.mk A20
 clear A20
 replace H := Option.bind_eq_some_iff.mp H
 obtain ⟨t244, A30, H⟩ := H
 (try dsimp only at H)
 have A3 := Aside0.mk A30
 clear A30
 simp only [Option.some.injEq, Prod.mk.injEq] at H
 obtain ⟨rfl, rfl, rfl, rfl, rfl, rfl⟩ := H
 go_enter Try.func86, Try.ntmps86
 go_wp2_with (first | ((refine gate_dst (N := 1) rfl ?_); refine box_event ?hg (N := 1) ?hd (cs := #[.int .i64 a0_0, .string a0_1, .slice A0_2 l0_2.length c0_2, .string a0_3, .int .i64 a0_4, .slice A0_5 l0_5.length c0_5]) (t := 88) ?hr ?_; (case hd => rfl); (case hg => rfl); (case hr => first | (go_simp; done) | (go_simp; rfl)); intro gb238 hg w4 hbox hb; have BK238 := Aside0.mk (hbox); have GW238 := Aside0.mk ((by rw [hg]; exact (below_size (by repeat (with_reducible first | exact HB.out | apply zq2 | apply zq0 | apply zq1))) : w.heap.size ≤ gb238)); replace HB := Aside0.mk (zq7 (by repeat (with_reducible first | exact HB.out | apply zq2 | apply zq0 | apply zq1)) hb); have GE238 := GW238; clear hb hbox hg) | ((refine gate_dst (N := 2) rfl ?_); refine box_event ?hg (N := 2) ?hd (cs := #[.int .i64 0, .string (⟨#[]⟩ : ByteArray), .slice none 0 0, .string (⟨#[]⟩ : ByteArray), .int .i64 0, .slice none 0 0]) (t := 64) ?hr ?_; (case hd => rfl); (case hg => rfl); (case hr => first | (go_simp; done) | (go_simp; rfl)); intro gb239 hg w5 hbox hb; have BK239 := Aside0.mk (hbox); have GW239 := Aside0.mk ((by rw [hg]; exact (below_size (by repeat (with_reducible first | exact HB.out | apply zq2 | apply zq0 | apply zq1 | refine zq3 ?_ GE238.out))) : w.heap.size ≤ gb239)); replace HB := Aside0.mk (zq7 (by repeat (with_reducible first | exact HB.out | apply zq2 | apply zq0 | apply zq1 | refine zq3 ?_ GE238.out)) hb); have NB238_239 := Aside0.mk ((by rw [hg]; exact Nat.ne_of_lt (blk_lt (g := gb238) (o := .cells #[.int .i64 a0_0, .string a0_1, .slice A0_2 l0_2.length c0_2, .string a0_3, .int .i64 a0_4, .slice A0_5 l0_5.length c0_5] 88 (0, 0)) (by (with_reducible repeat (first | refine zq4 ?_ _ | refine zq6 ?_ | refine zq5 ?_ _)); exact BK238.out)) : gb238 ≠ gb239)); have NB239_238 := Aside0.mk ((by rw [hg]; exact Nat.ne_of_gt (blk_lt (g := gb238) (o := .cells #[.int .i64 a0_0, .string a0_1, .slice A0_2 l0_2.length c0_2, .string a0_3, .int .i64 a0_4, .slice A0_5 l0_5.length c0_5] 88 (0, 0)) (by (with_reducible repeat (first | refine zq4 ?_ _ | refine zq6 ?_ | refine zq5 ?_ _)); exact BK238.out)) : gb239 ≠ gb238)); replace BK238 := Aside0.mk (zq10 (g := gb238) (o := .cells #[.int .i64 a0_0, .string a0_1, .slice A0_2 l0_2.length c0_2, .string a0_3, .int .i64 a0_4, .slice A0_5 l0_5.length c0_5] 88 (0, 0)) (by (with_reducible repeat (first | refine zq4 ?_ _ | refine zq6 ?_ | refine zq5 ?_ _)); exact BK238.out) hb); have GE239 := GW239; clear hb hbox hg) | ((refine gate_dst (N := 3) rfl ?_); refine box_event ?hg (N := 3) ?hd (cs := #[.int .i64 0, .string (⟨#[]⟩ : ByteArray), .slice none 0 0, .string (⟨#[]⟩ : ByteArray), .int .i64 0, .slice none 0 0]) (t := 64) ?hr ?_; (case hd => rfl); (case hg => rfl); (case hr => first | (go_simp; done) | (go_simp; rfl)); intro gb240 hg w6 hbox hb; have BK240 := Aside0.mk (hbox); have GW240 := Aside0.mk ((by rw [hg]; exact (below_size (by repeat (with_reducible first | exact HB.out | apply zq2 | apply zq0 | apply zq1 | refine zq3 ?_ GE238.out | refine zq3 ?_ GE239.out))) : w.heap.size ≤ gb240)); replace HB := Aside0.mk (zq7 (by repeat (with_reducible first | exact HB.out | apply zq2 | apply zq0 | apply zq1 | refine zq3 ?_ GE238.out | refine zq3 ?_ GE239.out)) hb); have NB238_240 := Aside0.mk ((by rw [hg]; exact Nat.ne_of_lt (blk_lt (g := gb238) (o := .cells #[.int .i64 a0_0, .string a0_1, .slice A0_2 l0_2.length c0_2, .string a0_3, .int .i64 a0_4, .slice A0_5 l0_5.length c0_5] 88 (0, 0)) (by (with_reducible repeat (first | refine zq4 ?_ _ | refine zq6 ?_ | refine zq5 ?_ _)); exact BK238.out)) : gb238 ≠ gb240)); have NB240_238 := Aside0.mk ((by rw [hg]; exact Nat.ne_of_gt (blk_lt (g := gb238) (o := .cells #[.int .i64 a0_0, .string a0_1, .slice A0_2 l0_2.length c0_2, .string a0_3, .int .i64 a0_4, .slice A0_5 l0_5.length c0_5] 88 (0, 0)) (by (with_reducible repeat (first | refine zq4 ?_ _ | refine zq6 ?_ | refine zq5 ?_ _)); exact BK238.out)) : gb240 ≠ gb238)); replace BK238 := Aside0.mk (zq10 (g := gb238) (o := .cells #[.int .i64 a0_0, .string a0_1, .slice A0_2 l0_2.length c0_2, .string a0_3, .int .i64 a0_4, .slice A0_5 l0_5.length c0_5] 88 (0, 0)) (by (with_reducible repeat (first | refine zq4 ?_ _ | refine zq6 ?_ | refine zq5 ?_ _)); exact BK238.out) hb); have NB239_240 := Aside0.mk ((by rw [hg]; exact Nat.ne_of_lt (blk_lt (g := gb239) (o := .cells #[.int .i64 0, .string (⟨#[]⟩ : ByteArray), .slice none 0 0, .string (⟨#[]⟩ : ByteArray), .int .i64 0, .slice none 0 0] 64 (0, 0)) (by (with_reducible repeat (first | refine zq4 ?_ _ | refine zq6 ?_ | refine zq5 ?_ _)); exact BK239.out)) : gb239 ≠ gb240)); have NB240_239 := Aside0.mk ((by rw [hg]; exact Nat.ne_of_gt (blk_lt (g := gb239) (o := .cells #[.int .i64 0, .string (⟨#[]⟩ : ByteArray), .slice none 0 0, .string (⟨#[]⟩ : ByteArray), .int .i64 0, .slice none 0 0] 64 (0, 0)) (by (with_reducible repeat (first | refine zq4 ?_ _ | refine zq6 ?_ | refine zq5 ?_ _)); exact BK239.out)) : gb240 ≠ gb239)); replace BK239 := Aside0.mk (zq10 (g := gb239) (o := .cells #[.int .i64 0, .string (⟨#[]⟩ : ByteArray), .slice none 0 0, .string (⟨#[]⟩ : ByteArray), .int .i64 0, .slice none 0 0] 64 (0, 0)) (by (with_reducible repeat (first | refine zq4 ?_ _ | refine zq6 ?_ | refine zq5 ?_ _)); exact BK239.out) hb); have GE240 := GW240; clear hb hbox hg; have hnb7 := NB238_239.out; have hnc7 := NB239_238.out; have hnb8 := NB238_240.out; have hnc8 := NB240_238.out; obtain ⟨hcz9_0, hcz9_1, hcz9_2, hcz9_3, hcz9_4, hcz9_5, hfz9_0, hfz9_1, hfz9_2, hfz9_3, hfz9_4, hfz9_5⟩ := cells6 BK238.out; have hnb10 := NB240_239.out; have hnc10 := NB239_240.out; obtain ⟨hcz11_0, hcz11_1, hcz11_2, hcz11_3, hcz11_4, hcz11_5, hfz11_0, hfz11_1, hfz11_2, hfz11_3, hfz11_4, hfz11_5⟩ := cells6 BK240.out) | ((refine gate_callee (f := 110) rfl ?_); refine goesL_ (some 12) rfl rfl Try.func110 (by kernel_rfl) rfl #[.slice A0_2 l0_2.length c0_2] rfl (by (try simp only [List.map_toArray, List.map_cons, List.map_nil]); first | done | rfl) ?_; (with_reducible refine (zq56.calls k _ _ l0_2 t241 _ ?side1 ?side2 A2.out).mono ?_); (case side1 => exact Kd.C_below HR0_2.out (by repeat (with_reducible first | exact HB.out | apply zq2 | apply zq0 | apply zq1 | refine zq3 ?_ GE238.out | refine zq3 ?_ GE239.out | refine zq3 ?_ GE240.out))); (case side2 => exact HC0_2.out); rintro e w12 ⟨v242, rfl, ho0, hb⟩; refine ⟨_, rfl, ?_⟩; have HO243 := Aside0.mk (Kd.R_lower ho0 (below_size (by repeat (with_reducible first | exact HB.out | apply zq2 | apply zq0 | apply zq1 | refine zq3 ?_ GE238.out | refine zq3 ?_ GE239.out | refine zq3 ?_ GE240.out)))); replace BK238 := Aside0.mk (zq10 (g := gb238) (o := .cells #[.int .i64 a0_0, .string a0_1, .slice A0_2 l0_2.length c0_2, .string a0_3, .int .i64 a0_4, .slice A0_5 l0_5.length c0_5] 88 (0, 0)) (by (with_reducible repeat (first | refine zq4 ?_ _ | refine zq6 ?_ | refine zq5 ?_ _ | refine blk_far ?_ NB238_240.out _)); exact BK238.out) hb); replace BK239 := Aside0.mk (zq10 (g := gb239) (o := .cells #[.int .i64 0, .string (⟨#[]⟩ : ByteArray), .slice none 0 0, .string (⟨#[]⟩ : ByteArray), .int .i64 0, .slice none 0 0] 64 (0, 0)) (by (with_reducible repeat (first | refine zq4 ?_ _ | refine zq6 ?_ | refine zq5 ?_ _ | refine blk_far ?_ NB239_240.out _)); exact BK239.out) hb); replace BK240 := Aside0.mk (zq10 (g := gb240) (o := .cells #[.int .i64 a0_0, .string a0_1, .slice none 0 0, .string (⟨#[]⟩ : ByteArray), .int .i64 0, .slice none 0 0] 64 (0, 0)) (by (with_reducible repeat (first | refine zq4 ?_ _ | refine zq6 ?_ | refine zq5 ?_ _)); refine blk_put (cs := #[.int .i64 a0_0, .string (⟨#[]⟩ : ByteArray), .slice none 0 0, .string (⟨#[]⟩ : ByteArray), .int .i64 0, .slice none 0 0]) ?_ 1 _ rfl; (with_reducible repeat (first | refine zq4 ?_ _ | refine zq6 ?_ | refine zq5 ?_ _)); refine blk_put (cs := #[.int .i64 0, .string (⟨#[]⟩ : ByteArray), .slice none 0 0, .string (⟨#[]⟩ : ByteArray), .int .i64 0, .slice none 0 0]) ?_ 0 _ rfl; (with_reducible repeat (first | refine zq4 ?_ _ | refine zq6 ?_ | refine zq5 ?_ _)); exact BK240.out) hb); replace HB := Aside0.mk (zq7 (by repeat (with_reducible first | exact HB.out | apply zq2 | apply zq0 | apply zq1 | refine zq3 ?_ GE238.out | refine zq3 ?_ GE239.out | refine zq3 ?_ GE240.out)) hb); (try clear hb); (try clear ho0); obtain ⟨Ao13, co13, eo13⟩ := Kd.R_slice HO243.out; subst eo13; obtain ⟨hcz14_0, hcz14_1, hcz14_2, hcz14_3, hcz14_4, hcz14_5, hfz14_0, hfz14_1, hfz14_2, hfz14_3, hfz14_4, hfz14_5⟩ := cells6 BK240.out; obtain ⟨hcz15_0, hcz15_1, hcz15_2, hcz15_3, hcz15_4, hcz15_5, hfz15_0, hfz15_1, hfz15_2, hfz15_3, hfz15_4, hfz15_5⟩ := cells6 BK238.out) | ((refine gate_callee (f := 20) rfl ?_); refine goesL_ (some 22) rfl rfl Try.func20 (by kernel_rfl) rfl #[.slice A0_5 l0_5.length c0_5] rfl (by (try simp only [List.map_toArray, List.map_cons, List.map_nil]); first | done | rfl) ?_; (with_reducible refine (zq13.calls k _ _ l0_5 t244 _ ?side1 ?side2 A3.out).mono ?_); (case side1 => exact Kd.C_below HR0_5.out (by repeat (with_reducible first | exact HB.out | apply zq2 | apply zq0 | apply zq1 | refine zq3 ?_ GE238.out | refine zq3 ?_ GE239.out | refine zq3 ?_ GE240.out))); (case side2 => exact HC0_5.out); rintro e w16 ⟨v245, rfl, ho0, hb⟩; refine ⟨_, rfl, ?_⟩; replace HO243 := Aside0.mk (Kd.R_below (by (with_reducible repeat (first | apply Kd.R_alloc | apply Kd.R_drewN | apply Kd.R_drew)); exact (Kd.R_mono (Kd.R_far (p := ⟨gb240, 4, none⟩) (Kd.R_far (p := ⟨gb240, 3, none⟩) (Kd.R_far (p := ⟨gb240, 2, none⟩) (Kd.R_types HO243.out BK240.out (by decide)) (fun _ hk => hk.2) (.slice Ao13 t241.length co13)) (fun _ hk => hk.2) (.string a0_3)) (fun _ hk => hk.2) (.int .i64 a0_4)) (fun _ h_ => h_.1))) hb); have HO246 := Aside0.mk (Kd.R_lower ho0 (below_size (by repeat (with_reducible first | exact HB.out | apply zq2 | apply zq0 | apply zq1 | refine zq3 ?_ GE238.out | refine zq3 ?_ GE239.out | refine zq3 ?_ GE240.out)))); replace BK238 := Aside0.mk (zq10 (g := gb238) (o := .cells #[.int .i64 a0_0, .string a0_1, .slice A0_2 l0_2.length c0_2, .string a0_3, .int .i64 a0_4, .slice A0_5 l0_5.length c0_5] 88 (0, 0)) (by (with_reducible repeat (first | refine zq4 ?_ _ | refine zq6 ?_ | refine zq5 ?_ _ | refine blk_far ?_ NB238_240.out _)); exact BK238.out) hb); replace BK239 := Aside0.mk (zq10 (g := gb239) (o := .cells #[.int .i64 0, .string (⟨#[]⟩ : ByteArray), .slice none 0 0, .string (⟨#[]⟩ : ByteArray), .int .i64 0, .slice none 0 0] 64 (0, 0)) (by (with_reducible repeat (first | refine zq4 ?_ _ | refine zq6 ?_ | refine zq5 ?_ _ | refine blk_far ?_ NB239_240.out _)); exact BK239.out) hb); replace BK240 := Aside0.mk (zq10 (g := gb240) (o := .cells #[.int .i64 a0_0, .string a0_1, .slice Ao13 t241.length co13, .string a0_3, .int .i64 a0_4, .slice none 0 0] 64 (0, 0)) (by (with_reducible repeat (first | refine zq4 ?_ _ | refine zq6 ?_ | refine zq5 ?_ _)); refine blk_put (cs := #[.int .i64 a0_0, .string a0_1, .slice Ao13 t241.length co13, .string a0_3, .int .i64 0, .slice none 0 0]) ?_ 4 _ rfl; (with_reducible repeat (first | refine zq4 ?_ _ | refine zq6 ?_ | refine zq5 ?_ _)); refine blk_put (cs := #[.int .i64 a0_0, .string a0_1, .slice Ao13 t241.length co13, .string (⟨#[]⟩ : ByteArray), .int .i64 0, .slice none 0 0]) ?_ 3 _ rfl; (with_reducible repeat (first | refine zq4 ?_ _ | refine zq6 ?_ | refine zq5 ?_ _)); refine blk_put (cs := #[.int .i64 a0_0, .string a0_1, .slice none 0 0, .string (⟨#[]⟩ : ByteArray), .int .i64 0, .slice none 0 0]) ?_ 2 _ rfl; (with_reducible repeat (first | refine zq4 ?_ _ | refine zq6 ?_ | refine zq5 ?_ _)); exact BK240.out) hb); replace HB := Aside0.mk (zq7 (by repeat (with_reducible first | exact HB.out | apply zq2 | apply zq0 | apply zq1 | refine zq3 ?_ GE238.out | refine zq3 ?_ GE239.out | refine zq3 ?_ GE240.out)) hb); (try clear hb); (try clear ho0); obtain ⟨Ao17, co17, eo17⟩ := Kd.R_slice HO246.out; subst eo17; obtain ⟨hcz18_0, hcz18_1, hcz18_2, hcz18_3, hcz18_4, hcz18_5, hfz18_0, hfz18_1, hfz18_2, hfz18_3, hfz18_4, hfz18_5⟩ := cells6 BK240.out; obtain ⟨hcz19_0, hcz19_1, hcz19_2, hcz19_3, hcz19_4, hcz19_5, hfz19_0, hfz19_1, hfz19_2, hfz19_3, hfz19_4, hfz19_5⟩ := cells6 BK239.out))
 refine bodyPost_ret (results_cell_row rfl _ _ gb239 64 #[.int .i64 a0_0, .string a0_1, .slice Ao13 t241.length co13, .string a0_3, .int .i64 a0_4, .slice Ao17 t244.length co17] (0, 0) _ rfl (by (with_reducible repeat (first | refine zq4 ?_ _ | refine zq6 ?_ | refine zq5 ?_ _)); refine blk_put (cs := #[.int .i64 a0_0, .string a0_1, .slice Ao13 t241.length co13, .string a0_3, .int .i64 a0_4, .slice none 0 0]) ?_ 5 _ rfl; (with_reducible repeat (first | refine zq4 ?_ _ | refine zq6 ?_ | refine zq5 ?_ _)); refine blk_put (cs := #[.int .i64 a0_0, .string a0_1, .slice Ao13 t241.length co13, .string a0_3, .int .i64 0, .slice none 0 0]) ?_ 4 _ rfl; (with_reducible repeat (first | refine zq4 ?_ _ | refine zq6 ?_ | refine zq5 ?_ _)); refine blk_put (cs := #[.int .i64 a0_0, .string a0_1, .slice Ao13 t241.length co13, .string (⟨#[]⟩ : ByteArray), .int .i64 0, .slice none 0 0]) ?_ 3 _ rfl; (with_reducible repeat (first | refine zq4 ?_ _ | refine zq6 ?_ | refine zq5 ?_ _)); refine blk_put (cs := #[.int .i64 a0_0, .string a0_1, .slice none 0 0, .string (⟨#[]⟩ : ByteArray), .int .i64 0, .slice none 0 0]) ?_ 2 _ rfl; (with_reducible repeat (first | refine zq4 ?_ _ | refine zq6 ?_ | refine zq5 ?_ _)); refine blk_put (cs := #[.int .i64 a0_0, .string (⟨#[]⟩ : ByteArray), .slice none 0 0, .string (⟨#[]⟩ : ByteArray), .int .i64 0, .slice none 0 0]) ?_ 1 _ rfl; (with_reducible repeat (first | refine zq4 ?_ _ | refine zq6 ?_ | refine zq5 ?_ _)); refine blk_put (cs := #[.int .i64 0, .string (⟨#[]⟩ : ByteArray), .slice none 0 0, .string (⟨#[]⟩ : ByteArray), .int .i64 0, .slice none 0 0]) ?_ 0 _ rfl; (with_reducible repeat (first | refine zq4 ?_ _ | refine zq6 ?_ | refine zq5 ?_ _ | refine blk_far ?_ NB239_240.out _)); exact BK239.out) Try.underlying64 rfl (by kernel_rfl)) rfl ?_
 exact ⟨_, _, by first | rfl | simp | simp [*], by (with_reducible repeat (first | apply Kd.R_alloc | apply Kd.R_drewN | apply Kd.R_drew)); exact Kd.R_mono (Kd.R_far (p := ⟨gb239, 5, none⟩) (Kd.R_far (p := ⟨gb239, 4, none⟩) (Kd.R_far (p := ⟨gb239, 3, none⟩) (Kd.R_far (p := ⟨gb239, 2, none⟩) (Kd.R_far (p := ⟨gb239, 1, none⟩) (Kd.R_far (p := ⟨gb239, 0, none⟩) (Kd.R_far (p := ⟨gb240, 5, none⟩) (Kd.R_types (Kd.R_types HO243.out BK240.out (by decide)) BK239.out (by decide)) (fun _ hk => hk.1.2) (.slice Ao17 t244.length co17)) (fun _ hk => hk.2) (.int .i64 a0_0)) (fun _ hk => hk.2) (.string a0_1)) (fun _ hk => hk.2) (.slice Ao13 t241.length co13)) (fun _ hk => hk.2) (.string a0_3)) (fun _ hk => hk.2) (.int .i64 a0_4)) (fun _ hk => hk.2) (.slice Ao17 t244.length co17)) (fun _ hk => trivial), by (with_reducible repeat (first | apply Kd.R_alloc | apply Kd.R_drewN | apply Kd.R_drew)); exact Kd.R_mono (Kd.R_far (p := ⟨gb239, 5, none⟩) (Kd.R_far (p := ⟨gb239, 4, none⟩) (Kd.R_far (p := ⟨gb239, 3, none⟩) (Kd.R_far (p := ⟨gb239, 2, none⟩) (Kd.R_far (p := ⟨gb239, 1, none⟩) (Kd.R_far (p := ⟨gb239, 0, none⟩) (Kd.R_far (p := ⟨gb240, 5, none⟩) (Kd.R_types (Kd.R_types HO246.out BK240.out (by decide)) BK239.out (by decide)) (fun _ hk => hk.1.2) (.slice Ao17 t244.length co17)) (fun _ hk => hk.2) (.int .i64 a0_0)) (fun _ hk => hk.2) (.string a0_1)) (fun _ hk => hk.2) (.slice Ao13 t241.length co13)) (fun _ hk => hk.2) (.string a0_3)) (fun _ hk => hk.2) (.int .i64 a0_4)) (fun _ hk => hk.2) (.slice Ao17 t244.length co17)) (fun _ hk => trivial), by repeat (first | (with_reducible first | exact HB.out | apply zq2 | apply zq0 | apply zq1 | refine zq3 ?_ GE238.out | refine zq3 ?_ GE239.out | refine zq3 ?_ GE240.out) | exact HB.out)⟩
end Go.Proofs.Ytpojadoklfdfiaa.G

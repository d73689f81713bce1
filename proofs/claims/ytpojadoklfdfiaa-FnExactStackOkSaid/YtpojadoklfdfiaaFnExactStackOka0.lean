/- What the law FnExactStackOk reaches: for each Go function its Lean twin, and that Go's call comes to just what the twin says; no condition but the twin's own answer. -/
import Derived.Test.YtpojadoklfdfiaaCorea0
import Derived.Test.YtpojadoklfdfiaaCorea1
import Derived.Test.YtpojadoklfdfiaaCorea2
import Derived.Test.YtpojadoklfdfiaaCorea3
import Derived.Test.YtpojadoklfdfiaaCorea4
import Derived.Test.YtpojadoklfdfiaaCoreb0

namespace Go.Proofs.Ytpojadoklfdfiaa.G
open Go.RowKit Go.Proofs.Ytpojadoklfdfiaa.B Go.Proofs.YtpojadoklfdfiaaW.PrintWords Go.Proofs.YtpojadoklfdfiaaW.PrintLast Go.Proofs.YtpojadoklfdfiaaW.PrintMore
attribute [local go_sem] max2_int min2_int max_two min_two max_three min_three max_four min_four   -- for this text's walks alone
set_option linter.unusedVariables false
set_option linter.unusedSimpArgs false
/-! ### zq20: function 15 -/
mutual
def zq20.l0 : Nat → ByteArray → Int → Int → List (S64) → Option (Int)
 | 0, _, _, _, _ => none
 | k + 1, x1, x5, x6, x220000 => if x6 < (x220000.length : Int) then ((zq11.f k x220000).bind fun t220 => (zq20.j1 k x1 x5 x6 t220 x220000)) else (zq20.j1 k x1 x5 x6 false x220000)
def zq20.j1 : Nat → ByteArray → Int → Int → Bool → List (S64) → Option (Int)
 | 0, _, _, _, _, _ => none
 | k + 1, x1, x5, x6, x15, x220000 => if x15 = true then (if 0 ≤ x6 then (if x6 < (x220000.length : Int) then (if ((rd_T64 x220000 x6).f0) = 3 then (if ((rd_T64 x220000 x6).f1).toList = x1.toList then (zq20.l0 k x1 (wrap64 (x5 + 1)) (wrap64 (x6 + 1)) x220000) else (zq20.l0 k x1 x5 (wrap64 (x6 + 1)) x220000)) else (zq20.l0 k x1 x5 (wrap64 (x6 + 1)) x220000)) else (none)) else (none)) else (some x5)
end
def zq20.f (k : Nat) (l0_0 : List (S64)) (a1 : ByteArray) : Option (Int) := zq20.l0 k a1 0 0 l0_0
theorem zq20.mono_l : ∀ k, (∀ y0 y1 y2 y3, LeO (zq20.l0 k y0 y1 y2 y3) (zq20.l0 (k + 1) y0 y1 y2 y3)) ∧ (∀ y0 y1 y2 y3 y4, LeO (zq20.j1 k y0 y1 y2 y3 y4) (zq20.j1 (k + 1) y0 y1 y2 y3 y4))
 | 0 => ⟨fun _ _ _ _ r h => by simp [zq20.l0] at h, fun _ _ _ _ _ r h => by simp [zq20.j1] at h⟩
 | k + 1 => by
  obtain ⟨ih0, ih1⟩ := zq20.mono_l k
  refine ⟨?_, ?_⟩
  ·intro y0 y1 y2 y3
   unfold zq20.l0
   repeat' first
   | (with_reducible exact ih0 _ _ _ _)
   | (with_reducible exact ih1 _ _ _ _ _)
   | (with_reducible exact zq11.mono _ _)
   | (with_reducible exact LeO.refl _)
   | (with_reducible exact LeO.none _)
   | (with_reducible refine LeO.ite ?_ ?_)
   | (with_reducible refine LeO.bind ?_ (fun _ => ?_))
  ·intro y0 y1 y2 y3 y4
   unfold zq20.j1
   repeat' first
   | (with_reducible exact ih0 _ _ _ _)
   | (with_reducible exact ih1 _ _ _ _ _)
   | (with_reducible exact zq11.mono _ _)
   | (with_reducible exact LeO.refl _)
   | (with_reducible exact LeO.none _)
   | (with_reducible refine LeO.ite ?_ ?_)
   | (with_reducible refine LeO.bind ?_ (fun _ => ?_))
theorem zq20.mono : ∀ a0 a1 k, LeO (zq20.f k a0 a1) (zq20.f (k + 1) a0 a1) := by
 intro a0 a1 k
 obtain ⟨ih0, ih1⟩ := zq20.mono_l k
 unfold zq20.f
 repeat' first
   | (with_reducible exact ih0 _ _ _ _)
   | (with_reducible exact ih1 _ _ _ _ _)
   | (with_reducible exact zq11.mono _ _)
   | (with_reducible exact LeO.refl _)
   | (with_reducible exact LeO.none _)
   | (with_reducible refine LeO.ite ?_ ?_)
   | (with_reducible refine LeO.bind ?_ (fun _ => ?_))
set_option maxHeartbeats 8000000 in
set_option maxRecDepth 100000 in
theorem zq20.calls (k : Nat) (A0_0 : Option Addr) (c0_0 : Nat) (l0_0 : List (S64)) (a1 : ByteArray) (r : Int) (w : World) (hr0_0 : Kd.C k64 w A0_0 l0_0.length l0_0) (hc0_0 : l0_0.length ≤ c0_0) (h : zq20.f k l0_0 a1 = some r) :
  Calls Try.prog 15 #[.agg #[.slice A0_0 l0_0.length c0_0], .string a1] w fun e w' => e = .returned (.int .i64 r) ∧ Below w.heap.size w w' := by
 have hu29 := Try.underlying29
 have HR0_0 := Aside0.mk hr0_0
 have HC0_0 := Aside0.mk hc0_0
 clear hr0_0 hc0_0
 have HB := Aside0.mk (Below.refl w.heap.size w)
 have H : (zq20.l0 k a1 0 0 l0_0) = some r := h
 clear h
 have H' := Aside0.mk H
 clear H
 go_enter Try.func15, Try.ntmps15
 go_wp2_with (first | ((refine gate_dst (N := 2) rfl ?_); refine box_event ?hg (N := 2) ?hd (cs := #[.slice A0_0 l0_0.length c0_0]) (t := 29) ?hr ?_; (case hd => rfl); (case hg => rfl); (case hr => first | (go_simp; done) | (go_simp; rfl)); intro gb219 hg w3 hbox hb; have BK219 := Aside0.mk (hbox); have GW219 := Aside0.mk ((by rw [hg]; exact (below_size (by repeat (with_reducible first | exact HB.out | apply zq2 | apply zq0 | apply zq1))) : w.heap.size ≤ gb219)); replace HB := Aside0.mk (zq7 (by repeat (with_reducible first | exact HB.out | apply zq2 | apply zq0 | apply zq1)) hb); have GE219 := GW219; clear hb hbox hg))
 go_loopg [5, 6] k (fun kq v5 v6 w' => ∃ (x5_1 : Int) (x6_1 : Int), v5 = .int .i64 x5_1 ∧ v6 = .int .i64 x6_1 ∧ Aside0 (zq20.l0 kq a1 x5_1 x6_1 l0_0 = some r) ∧ Aside0 (kq ≤ k) ∧ Aside0 (w'.heap[gb219]? = some (.cells #[(.slice A0_0 l0_0.length c0_0)] 29 (0, 0))) ∧ Aside0 (Below w.heap.size w w'))
 case atStart => exact ⟨(0), (0), (by first | rfl | simp | simp [*]), (by first | rfl | simp | simp [*]), H', ⟨Nat.le_refl _⟩, ⟨by (with_reducible repeat (first | refine zq4 ?_ _ | refine zq6 ?_ | refine zq5 ?_ _)); exact BK219.out⟩, ⟨by repeat (first | (with_reducible first | exact HB.out | apply zq2 | apply zq0 | apply zq1 | refine zq3 ?_ GE219.out) | exact HB.out)⟩⟩
 case round =>
  clear H'
  obtain ⟨x5_1, x6_1, rfl, rfl, HA, HK1, BK219, HB⟩ := hrel
  cases gk with
  | zero => exact absurd HA.out (by simp [zq20.l0])
  | succ k1 =>
   have H := HA.out
   clear HA
   simp only [zq20.l0] at H
   have HC4 := Aside0.mk H
   clear H
   go_upto_region 3 with (fail)
   go_cut [15] (fun v15 wc => ∃ (kq : Nat) (x15_3 : Bool), v15 = .bool x15_3 ∧ Aside0 (zq20.j1 kq a1 x5_1 x6_1 x15_3 l0_0 = some r) ∧ Aside0 (kq ≤ k1) ∧ Aside0 (wc.heap[gb219]? = some (.cells #[(.slice A0_0 l0_0.length c0_0)] 29 (0, 0))) ∧ Aside0 (Below w.heap.size w wc))
   case first =>
    have H := HC4.out
    clear HC4
    by_cases c5 : x6_1 < (l0_0.length : Int)
    ·rw [if_pos c5] at H
     have c5b0 : decide (x6_1 < (l0_0.length : Int)) = true := decide_eq_true c5
     clear c5
     (first | rw [c5b0] | (simp only [i64_w, i32_w]; rw [c5b0]) | skip)
     replace H := Option.bind_eq_some_iff.mp H
     obtain ⟨t220, A60, H⟩ := H
     (try dsimp only at H)
     have A6 := Aside0.mk A60
     clear A60
     have H' := Aside0.mk H
     clear H
     obtain ⟨hcz7_0, hfz7_0⟩ := cells1 BK219.out
     go_wp2_with (first | (go_at_call 51; (with_reducible refine (zq11.calls k1 _ _ l0_0 t220 _ ?side1 ?side2 A6.out).mono ?_); (case side1 => repeat (first | exact (Kd.C_below HR0_0.out HB.out) | (with_reducible refine Kd.C_alloc ?_ _) | (with_reducible refine Kd.C_drewN ?_ _) | (with_reducible refine Kd.C_drew ?_))); (case side2 => exact HC0_0.out); rintro e w8 ⟨rfl, hb⟩; replace BK219 := Aside0.mk (zq10 (g := gb219) (o := .cells #[.slice A0_0 l0_0.length c0_0] 29 (0, 0)) (by (with_reducible repeat (first | refine zq4 ?_ _ | refine zq6 ?_ | refine zq5 ?_ _)); exact BK219.out) hb); replace HB := Aside0.mk (zq7 (by repeat (with_reducible first | exact HB.out | apply zq2 | apply zq0 | apply zq1 | refine zq3 ?_ GE219.out)) hb); (try clear hb)))
     go_meet
     case rel => exact ⟨_, (t220), (by first | rfl | simp | simp [*]), H', ⟨by have := HK1.out; first | omega | exact Nat.le_refl _⟩, ⟨by (with_reducible repeat (first | refine zq4 ?_ _ | refine zq6 ?_ | refine zq5 ?_ _)); exact BK219.out⟩, ⟨by repeat (first | (with_reducible first | exact HB.out | apply zq2 | apply zq0 | apply zq1 | refine zq3 ?_ GE219.out) | exact HB.out)⟩⟩
    ·rw [if_neg c5] at H
     have c5b0 : decide (x6_1 < (l0_0.length : Int)) = false := decide_eq_false c5
     clear c5
     (first | rw [c5b0] | (simp only [i64_w, i32_w]; rw [c5b0]) | skip)
     have H' := Aside0.mk H
     clear H
     obtain ⟨hcz9_0, hfz9_0⟩ := cells1 BK219.out
     go_wp2
     go_meet
     case rel => exact ⟨_, (false), (by first | rfl | simp | simp [*]), H', ⟨by have := HK1.out; first | omega | exact Nat.le_refl _⟩, ⟨by (with_reducible repeat (first | refine zq4 ?_ _ | refine zq6 ?_ | refine zq5 ?_ _)); exact BK219.out⟩, ⟨by repeat (first | (with_reducible first | exact HB.out | apply zq2 | apply zq0 | apply zq1 | refine zq3 ?_ GE219.out) | exact HB.out)⟩⟩
   case rest =>
    clear HC4
    obtain ⟨kq, x15_3, rfl, HA, HJ3, BK219, HB⟩ := hcut
    cases kq with
    | zero => exact absurd HA.out (by simp [zq20.j1])
    | succ kj3 =>
     have H := HA.out
     clear HA
     simp only [zq20.j1] at H
     by_cases c10 : x15_3 = true
     ·subst c10
      rw [if_pos rfl] at H
      by_cases c11 : 0 ≤ x6_1
      ·rw [if_pos c11] at H
       have c11b0 : decide (0 ≤ x6_1) = true := decide_eq_true c11
       clear c11
       by_cases c12 : x6_1 < (l0_0.length : Int)
       ·rw [if_pos c12] at H
        have c12b0 : decide (x6_1 < (l0_0.length : Int)) = true := decide_eq_true c12
        clear c12
        by_cases c13 : ((rd_T64 l0_0 x6_1).f0) = 3
        ·rw [if_pos c13] at H
         have c13b0 := beq_iff_eq.mpr c13
         have c13b1 := bne_eq_false_iff_eq.mpr c13
         clear c13
         by_cases c14 : ((rd_T64 l0_0 x6_1).f1).toList = a1.toList
         ·rw [if_pos c14] at H
          have c14b0 := beq_iff_eq.mpr c14
          have c14b1 := bne_eq_false_iff_eq.mpr c14
          clear c14
          have H' := Aside0.mk H
          clear H
          obtain ⟨hcz15_0, hfz15_0⟩ := cells1 BK219.out
          have p221 : 0 ≤ (x6_1 : Int) := of_decide_eq_true (by assumption)
          have q221 : x6_1 < (l0_0.length : Int) := of_decide_eq_true (by assumption)
          obtain ⟨ad221, A221_2, c221_2, A221_5, c221_5, e221, hx221_0, hx221_1, hx221_2, hx221_3, hx221_4, hx221_5, hl221_2, hi221_2, hl221_5, hi221_5⟩ := at_T64 HR0_0.out x6_1 p221 q221
          cases e221
          replace hx221_0 := pw_cell_below HB.out hx221_0
          replace hx221_1 := pw_cell_below HB.out hx221_1
          replace hx221_2 := pw_cell_below HB.out hx221_2
          replace hx221_3 := pw_cell_below HB.out hx221_3
          replace hx221_4 := pw_cell_below HB.out hx221_4
          replace hx221_5 := pw_cell_below HB.out hx221_5
          have HR221_2 := Aside0.mk hi221_2
          have HC221_2 := Aside0.mk hl221_2
          clear hi221_2 hl221_2
          have HR221_5 := Aside0.mk hi221_5
          have HC221_5 := Aside0.mk hl221_5
          clear hi221_5 hl221_5
          replace p221 := eq_true p221
          replace q221 := eq_true q221
          have p222 : 0 ≤ (x6_1 : Int) := of_decide_eq_true (by assumption)
          have q222 : x6_1 < (l0_0.length : Int) := of_decide_eq_true (by assumption)
          obtain ⟨ad222, A222_2, c222_2, A222_5, c222_5, e222, hx222_0, hx222_1, hx222_2, hx222_3, hx222_4, hx222_5, hl222_2, hi222_2, hl222_5, hi222_5⟩ := at_T64 HR0_0.out x6_1 p222 q222
          obtain rfl : ad221 = ad222 := (by injection e222)
          replace hx222_0 := pw_cell_below HB.out hx222_0
          replace hx222_1 := pw_cell_below HB.out hx222_1
          replace hx222_2 := pw_cell_below HB.out hx222_2
          replace hx222_3 := pw_cell_below HB.out hx222_3
          replace hx222_4 := pw_cell_below HB.out hx222_4
          replace hx222_5 := pw_cell_below HB.out hx222_5
          have HR222_2 := Aside0.mk hi222_2
          have HC222_2 := Aside0.mk hl222_2
          clear hi222_2 hl222_2
          have HR222_5 := Aside0.mk hi222_5
          have HC222_5 := Aside0.mk hl222_5
          clear hi222_5 hl222_5
          replace p222 := eq_true p222
          replace q222 := eq_true q222
          have ea_ := Option.some.inj (hx221_2.symm.trans hx222_2)
          injection ea_ with ea_ en_ ec_
          subst ea_
          subst ec_
          clear en_
          have ea_ := Option.some.inj (hx221_5.symm.trans hx222_5)
          injection ea_ with ea_ en_ ec_
          subst ea_
          subst ec_
          clear en_
          go_wp2
          go_roundg kj3
          case measure => have := HK1.out; have := HJ3.out; omega
          case rel => exact ⟨(wrap64 (x5_1 + 1)), (wrap64 (x6_1 + 1)), (by first | rfl | simp | simp [*]), (by first | rfl | simp | simp [*]), H', ⟨by have := HK1.out; have := HJ3.out; omega⟩, ⟨by (with_reducible repeat (first | refine zq4 ?_ _ | refine zq6 ?_ | refine zq5 ?_ _)); exact BK219.out⟩, ⟨by repeat (first | (with_reducible first | exact HB.out | apply zq2 | apply zq0 | apply zq1 | refine zq3 ?_ GE219.out) | exact HB.out)⟩⟩
         ·rw [if_neg c14] at H
          have c14b0 := beq_eq_false_iff_ne.mpr c14
          have c14b1 := bne_iff_ne.mpr c14
          have H' := Aside0.mk H
          clear H
          obtain ⟨hcz16_0, hfz16_0⟩ := cells1 BK219.out
          have p221 : 0 ≤ (x6_1 : Int) := of_decide_eq_true (by assumption)
          have q221 : x6_1 < (l0_0.length : Int) := of_decide_eq_true (by assumption)
          obtain ⟨ad221, A221_2, c221_2, A221_5, c221_5, e221, hx221_0, hx221_1, hx221_2, hx221_3, hx221_4, hx221_5, hl221_2, hi221_2, hl221_5, hi221_5⟩ := at_T64 HR0_0.out x6_1 p221 q221
          cases e221
          replace hx221_0 := pw_cell_below HB.out hx221_0
          replace hx221_1 := pw_cell_below HB.out hx221_1
          replace hx221_2 := pw_cell_below HB.out hx221_2
          replace hx221_3 := pw_cell_below HB.out hx221_3
          replace hx221_4 := pw_cell_below HB.out hx221_4
          replace hx221_5 := pw_cell_below HB.out hx221_5
          have HR221_2 := Aside0.mk hi221_2
          have HC221_2 := Aside0.mk hl221_2
          clear hi221_2 hl221_2
          have HR221_5 := Aside0.mk hi221_5
          have HC221_5 := Aside0.mk hl221_5
          clear hi221_5 hl221_5
          replace p221 := eq_true p221
          replace q221 := eq_true q221
          have p222 : 0 ≤ (x6_1 : Int) := of_decide_eq_true (by assumption)
          have q222 : x6_1 < (l0_0.length : Int) := of_decide_eq_true (by assumption)
          obtain ⟨ad222, A222_2, c222_2, A222_5, c222_5, e222, hx222_0, hx222_1, hx222_2, hx222_3, hx222_4, hx222_5, hl222_2, hi222_2, hl222_5, hi222_5⟩ := at_T64 HR0_0.out x6_1 p222 q222
          obtain rfl : ad221 = ad222 := (by injection e222)
          replace hx222_0 := pw_cell_below HB.out hx222_0
          replace hx222_1 := pw_cell_below HB.out hx222_1
          replace hx222_2 := pw_cell_below HB.out hx222_2
          replace hx222_3 := pw_cell_below HB.out hx222_3
          replace hx222_4 := pw_cell_below HB.out hx222_4
          replace hx222_5 := pw_cell_below HB.out hx222_5
          have HR222_2 := Aside0.mk hi222_2
          have HC222_2 := Aside0.mk hl222_2
          clear hi222_2 hl222_2
          have HR222_5 := Aside0.mk hi222_5
          have HC222_5 := Aside0.mk hl222_5
          clear hi222_5 hl222_5
          replace p222 := eq_true p222
          replace q222 := eq_true q222
          have ea_ := Option.some.inj (hx221_2.symm.trans hx222_2)
          injection ea_ with ea_ en_ ec_
          subst ea_
          subst ec_
          clear en_
          have ea_ := Option.some.inj (hx221_5.symm.trans hx222_5)
          injection ea_ with ea_ en_ ec_
          subst ea_
          subst ec_
          clear en_
          go_wp2
          go_roundg kj3
          case measure => have := HK1.out; have := HJ3.out; omega
          case rel => exact ⟨(x5_1), (wrap64 (x6_1 + 1)), (by first | rfl | simp | simp [*]), (by first | rfl | simp | simp [*]), H', ⟨by have := HK1.out; have := HJ3.out; omega⟩, ⟨by (with_reducible repeat (first | refine zq4 ?_ _ | refine zq6 ?_ | refine zq5 ?_ _)); exact BK219.out⟩, ⟨by repeat (first | (with_reducible first | exact HB.out | apply zq2 | apply zq0 | apply zq1 | refine zq3 ?_ GE219.out) | exact HB.out)⟩⟩
        ·rw [if_neg c13] at H
         have c13b0 := beq_eq_false_iff_ne.mpr c13
         have c13b1 := bne_iff_ne.mpr c13
         have H' := Aside0.mk H
         clear H
         obtain ⟨hcz17_0, hfz17_0⟩ := cells1 BK219.out
         have p221 : 0 ≤ (x6_1 : Int) := of_decide_eq_true (by assumption)
         have q221 : x6_1 < (l0_0.length : Int) := of_decide_eq_true (by assumption)
         obtain ⟨ad221, A221_2, c221_2, A221_5, c221_5, e221, hx221_0, hx221_1, hx221_2, hx221_3, hx221_4, hx221_5, hl221_2, hi221_2, hl221_5, hi221_5⟩ := at_T64 HR0_0.out x6_1 p221 q221
         cases e221
         replace hx221_0 := pw_cell_below HB.out hx221_0
         replace hx221_1 := pw_cell_below HB.out hx221_1
         replace hx221_2 := pw_cell_below HB.out hx221_2
         replace hx221_3 := pw_cell_below HB.out hx221_3
         replace hx221_4 := pw_cell_below HB.out hx221_4
         replace hx221_5 := pw_cell_below HB.out hx221_5
         have HR221_2 := Aside0.mk hi221_2
         have HC221_2 := Aside0.mk hl221_2
         clear hi221_2 hl221_2
         have HR221_5 := Aside0.mk hi221_5
         have HC221_5 := Aside0.mk hl221_5
         clear hi221_5 hl221_5
         replace p221 := eq_true p221
         replace q221 := eq_true q221
         go_wp2
         go_roundg kj3
         case measure => have := HK1.out; have := HJ3.out; omega
         case rel => exact ⟨(x5_1), (wrap64 (x6_1 + 1)), (by first | rfl | simp | simp [*]), (by first | rfl | simp | simp [*]), H', ⟨by have := HK1.out; have := HJ3.out; omega⟩, ⟨by (with_reducible repeat (first | refine zq4 ?_ _ | refine zq6 ?_ | refine zq5 ?_ _)); exact BK219.out⟩, ⟨by repeat (first | (with_reducible first | exact HB.out | apply zq2 | apply zq0 | apply zq1 | refine zq3 ?_ GE219.out) | exact HB.out)⟩⟩
       ·rw [if_neg c12] at H
        exact absurd H (by simp)
      ·rw [if_neg c11] at H
       exact absurd H (by simp)
     ·replace c10 := Bool.eq_false_iff.mpr c10
      subst c10
      rw [if_neg (show ¬ (false = true) by decide)] at H
      obtain rfl := Option.some.inj H
      go_wp2
      go_ret
      exact ⟨by first | rfl | simp | simp [*], by repeat (first | (with_reducible first | exact HB.out | apply zq2 | apply zq0 | apply zq1 | refine zq3 ?_ GE219.out) | exact HB.out)⟩
/-! ### zq36: function 53 -/
def zq36.l0 : Nat → ByteArray → List Int → List (S64) → Int → Int → Option (List Int)
 | 0, _, _, _, _, _ => none
 | k + 1, x1, x5, x12, x13, x14 => if x14 < x13 then (if 0 ≤ x14 then (if x14 < (x12.length : Int) then (if ((rd_T64 x12 x14).f0) = 3 then (if ((rd_T64 x12 x14).f1).toList = x1.toList then (if x5.length < 17592186044416 then (zq36.l0 k x1 (x5 ++ [x14]) x12 x13 (wrap64 (x14 + 1))) else (none)) else (zq36.l0 k x1 x5 x12 x13 (wrap64 (x14 + 1)))) else (zq36.l0 k x1 x5 x12 x13 (wrap64 (x14 + 1)))) else (none)) else (none)) else (some x5)
def zq36.f (k : Nat) (l0_0 : List (S64)) (a1 : ByteArray) : Option (List Int) := (zq35.f k l0_0).bind fun t360 => (if t360 = true then (zq36.l0 k a1 ([] : List Int) l0_0 (l0_0.length : Int) 0) else (some ([] : List Int)))
theorem zq36.mono_l : ∀ k, (∀ y0 y1 y2 y3 y4, LeO (zq36.l0 k y0 y1 y2 y3 y4) (zq36.l0 (k + 1) y0 y1 y2 y3 y4))
 | 0 => fun _ _ _ _ _ r h => by simp [zq36.l0] at h
 | k + 1 => by
  have ih0 := zq36.mono_l k
  ·intro y0 y1 y2 y3 y4
   unfold zq36.l0
   repeat' first
   | (with_reducible exact ih0 _ _ _ _ _)
   | (with_reducible exact zq35.mono _ _)
   | (with_reducible exact LeO.refl _)
   | (with_reducible exact LeO.none _)
   | (with_reducible refine LeO.ite ?_ ?_)
   | (with_reducible refine LeO.bind ?_ (fun _ => ?_))
theorem zq36.mono : ∀ a0 a1 k, LeO (zq36.f k a0 a1) (zq36.f (k + 1) a0 a1) := by
 intro a0 a1 k
 have ih0 := zq36.mono_l k
 unfold zq36.f
 repeat' first
   | (with_reducible exact ih0 _ _ _ _ _)
   | (with_reducible exact zq35.mono _ _)
   | (with_reducible exact LeO.refl _)
   | (with_reducible exact LeO.none _)
   | (with_reducible refine LeO.ite ?_ ?_)
   | (with_reducible refine LeO.bind ?_ (fun _ => ?_))
set_option maxHeartbeats 8000000 in
set_option maxRecDepth 100000 in
theorem zq36.calls (k : Nat) (A0_0 : Option Addr) (c0_0 : Nat) (l0_0 : List (S64)) (a1 : ByteArray) (r : List Int) (w : World) (hr0_0 : Kd.C k64 w A0_0 l0_0.length l0_0) (hc0_0 : l0_0.length ≤ c0_0) (h : zq36.f k l0_0 a1 = some r) :
  Calls Try.prog 53 #[.agg #[.slice A0_0 l0_0.length c0_0], .string a1] w fun e w' => ∃ v0_ : Value, e = .returned (v0_) ∧ Kd.R (Kd.int .i64) 3 w' w.heap.size (fun _ => True) v0_ r ∧ Below w.heap.size w w' := by
 have hu29 := Try.underlying29
 have hu64 := Try.underlying64
 have HR0_0 := Aside0.mk hr0_0
 have HC0_0 := Aside0.mk hc0_0
 clear hr0_0 hc0_0
 have HB := Aside0.mk (Below.refl w.heap.size w)
 have H : ((zq35.f k l0_0).bind fun t360 => (if t360 = true then (zq36.l0 k a1 ([] : List Int) l0_0 (l0_0.length : Int) 0) else (some ([] : List Int)))) = some r := h
 clear h
 replace H := Option.bind_eq_some_iff.mp H
 obtain ⟨t360, A30, H⟩ := H
 (try dsimp only at H)
 have A3 := Aside0.mk A30
 clear A30
 by_cases c4 : t360 = true
 ·subst c4
  rw [if_pos rfl] at H
  have H' := Aside0.mk H
  clear H
  go_enter Try.func53, Try.ntmps53
  go_wp2_with (first | ((refine gate_dst (N := 2) rfl ?_); refine box_event ?hg (N := 2) ?hd (cs := #[.slice A0_0 l0_0.length c0_0]) (t := 29) ?hr ?_; (case hd => rfl); (case hg => rfl); (case hr => first | (go_simp; done) | (go_simp; rfl)); intro gb359 hg w5 hbox hb; have BK359 := Aside0.mk (hbox); have GW359 := Aside0.mk ((by rw [hg]; exact (below_size (by repeat (with_reducible first | exact HB.out | apply zq2 | apply zq0 | apply zq1))) : w.heap.size ≤ gb359)); replace HB := Aside0.mk (zq7 (by repeat (with_reducible first | exact HB.out | apply zq2 | apply zq0 | apply zq1)) hb); have GE359 := GW359; clear hb hbox hg; obtain ⟨hcz6_0, hfz6_0⟩ := cells1 BK359.out) | ((refine gate_callee (f := 56) rfl ?_); refine goesL_ (some 9) rfl rfl Try.func56 (by kernel_rfl) rfl #[.agg #[.slice A0_0 l0_0.length c0_0]] rfl (by (try simp only [List.map_toArray, List.map_cons, List.map_nil]); first | done | rfl | (simp only [List.length_drop, List.length_take]; rfl)) ?_; (with_reducible refine (zq35.calls k _ _ l0_0 true _ ?side1 ?side2 A3.out).mono ?_); (case side1 => repeat (first | exact (Kd.C_below HR0_0.out HB.out) | (with_reducible refine Kd.C_alloc ?_ _) | (with_reducible refine Kd.C_drewN ?_ _) | (with_reducible refine Kd.C_drew ?_))); (case side2 => exact HC0_0.out); rintro e w7 ⟨rfl, hb⟩; refine ⟨_, rfl, ?_⟩; replace BK359 := Aside0.mk (zq10 (g := gb359) (o := .cells #[.slice A0_0 l0_0.length c0_0] 29 (0, 0)) (by (with_reducible repeat (first | refine zq4 ?_ _ | refine zq6 ?_ | refine zq5 ?_ _)); exact BK359.out) hb); replace HB := Aside0.mk (zq7 (by repeat (with_reducible first | exact HB.out | apply zq2 | apply zq0 | apply zq1 | refine zq3 ?_ GE359.out)) hb); (try clear hb); obtain ⟨hcz8_0, hfz8_0⟩ := cells1 BK359.out))
  go_loopg [5, 14] k (fun kq v5 v14 w' => ∃ (x5_1 : List Int) (x14_1 : Int), v14 = .int .i64 x14_1 ∧ Aside0 (zq36.l0 kq a1 x5_1 l0_0 (l0_0.length : Int) x14_1 = some r) ∧ Aside0 (kq ≤ k) ∧ Aside0 (Kd.R (Kd.int .i64) 3 w' w.heap.size (fun _ => True) v5 x5_1) ∧ Aside0 (w'.heap[gb359]? = some (.cells #[(.slice A0_0 l0_0.length c0_0)] 29 (0, 0))) ∧ Aside0 (Below w.heap.size w w'))
  case atStart => exact ⟨(([] : List Int)), (0), (by first | rfl | simp | simp [*]), H', ⟨Nat.le_refl _⟩, ⟨by first | exact Kd.R_nil _ _ _ _ _ | exact Kd.N_nil _ _ _ _ _ | exact Kd.V_nil _ _ _ _ _ | exact Kd.Q_nil _ _ _ _ _ | exact Kd.S_nil _ _ _ _ _⟩, ⟨by (with_reducible repeat (first | refine zq4 ?_ _ | refine zq6 ?_ | refine zq5 ?_ _)); exact BK359.out⟩, ⟨by repeat (first | (with_reducible first | exact HB.out | apply zq2 | apply zq0 | apply zq1 | refine zq3 ?_ GE359.out) | exact HB.out)⟩⟩
  case round =>
   clear H'
   obtain ⟨x5_1, x14_1, rfl, HA, HK1, HO_5, BK359, HB⟩ := hrel
   cases gk with
   | zero => exact absurd HA.out (by simp [zq36.l0])
   | succ k1 =>
    have H := HA.out
    clear HA
    simp only [zq36.l0] at H
    by_cases c9 : x14_1 < (l0_0.length : Int)
    ·rw [if_pos c9] at H
     have c9b0 : decide (x14_1 < (l0_0.length : Int)) = true := decide_eq_true c9
     clear c9
     by_cases c10 : 0 ≤ x14_1
     ·rw [if_pos c10] at H
      have c10b0 : decide (0 ≤ x14_1) = true := decide_eq_true c10
      clear c10
      by_cases c11 : x14_1 < (l0_0.length : Int)
      ·rw [if_pos c11] at H
       have c11b0 : decide (x14_1 < (l0_0.length : Int)) = true := decide_eq_true c11
       clear c11
       by_cases c12 : ((rd_T64 l0_0 x14_1).f0) = 3
       ·rw [if_pos c12] at H
        have c12b0 := beq_iff_eq.mpr c12
        have c12b1 := bne_eq_false_iff_eq.mpr c12
        clear c12
        by_cases c13 : ((rd_T64 l0_0 x14_1).f1).toList = a1.toList
        ·rw [if_pos c13] at H
         have c13b0 := beq_iff_eq.mpr c13
         have c13b1 := bne_eq_false_iff_eq.mpr c13
         clear c13
         by_cases c14 : x5_1.length < 17592186044416
         ·rw [if_pos c14] at H
          have LMc14 := Aside0.mk c14
          clear c14
          obtain ⟨y363, hy363⟩ : ∃ y_ : List Int, y_ = (x5_1 ++ [x14_1]) := ⟨_, rfl⟩
          replace H : (zq36.l0 k1 a1 y363 l0_0 (l0_0.length : Int) (wrap64 (x14_1 + 1))) = some r := by first | (rw [hy363]; with_reducible exact H) | (have H2_ := (Option.bind_some _ _).symm.trans H; rw [hy363]; with_reducible exact H2_) | (have H2_ := (Option.bind_some _ _).symm.trans H; with_reducible exact H2_) | with_reducible exact H | (rw [hy363]; exact H) | exact H
          have Ny363 := Aside0.mk hy363
          clear hy363
          have H' := Aside0.mk H
          clear H
          have p361 : 0 ≤ (x14_1 : Int) := of_decide_eq_true (by assumption)
          have q361 : x14_1 < (l0_0.length : Int) := of_decide_eq_true (by assumption)
          obtain ⟨ad361, A361_2, c361_2, A361_5, c361_5, e361, hx361_0, hx361_1, hx361_2, hx361_3, hx361_4, hx361_5, hl361_2, hi361_2, hl361_5, hi361_5⟩ := at_T64 HR0_0.out x14_1 p361 q361
          cases e361
          replace hx361_0 := pw_cell_below HB.out hx361_0
          replace hx361_1 := pw_cell_below HB.out hx361_1
          replace hx361_2 := pw_cell_below HB.out hx361_2
          replace hx361_3 := pw_cell_below HB.out hx361_3
          replace hx361_4 := pw_cell_below HB.out hx361_4
          replace hx361_5 := pw_cell_below HB.out hx361_5
          have HR361_2 := Aside0.mk hi361_2
          have HC361_2 := Aside0.mk hl361_2
          clear hi361_2 hl361_2
          have HR361_5 := Aside0.mk hi361_5
          have HC361_5 := Aside0.mk hl361_5
          clear hi361_5 hl361_5
          replace p361 := eq_true p361
          replace q361 := eq_true q361
          go_wp2_with (first | ((refine gate_dst (N := 7) rfl ?_); refine box_event ?hg (N := 7) ?hd (cs := #[.int .i64 0, .string (⟨#[]⟩ : ByteArray), .slice none 0 0, .string (⟨#[]⟩ : ByteArray), .int .i64 0, .slice none 0 0]) (t := 64) ?hr ?_; (case hd => rfl); (case hg => rfl); (case hr => first | (go_simp; done) | (go_simp; rfl)); intro gb362 hg w15 hbox hb; replace HO_5 := Aside0.mk (Kd.R_below (by (with_reducible repeat (first | apply Kd.R_alloc | apply Kd.R_drewN | apply Kd.R_drew)); exact HO_5.out) hb); have BK362 := Aside0.mk (hbox); have GW362 := Aside0.mk ((by rw [hg]; exact (below_size (by repeat (with_reducible first | exact HB.out | apply zq2 | apply zq0 | apply zq1 | refine zq3 ?_ GE359.out))) : w.heap.size ≤ gb362)); replace HB := Aside0.mk (zq7 (by repeat (with_reducible first | exact HB.out | apply zq2 | apply zq0 | apply zq1 | refine zq3 ?_ GE359.out)) hb); have NB359_362 := Aside0.mk ((by rw [hg]; exact Nat.ne_of_lt (blk_lt (g := gb359) (o := .cells #[.slice (some ad361) l0_0.length c0_0] 29 (0, 0)) (by (with_reducible repeat (first | refine zq4 ?_ _ | refine zq6 ?_ | refine zq5 ?_ _)); exact BK359.out)) : gb359 ≠ gb362)); have NB362_359 := Aside0.mk ((by rw [hg]; exact Nat.ne_of_gt (blk_lt (g := gb359) (o := .cells #[.slice (some ad361) l0_0.length c0_0] 29 (0, 0)) (by (with_reducible repeat (first | refine zq4 ?_ _ | refine zq6 ?_ | refine zq5 ?_ _)); exact BK359.out)) : gb362 ≠ gb359)); replace BK359 := Aside0.mk (zq10 (g := gb359) (o := .cells #[.slice (some ad361) l0_0.length c0_0] 29 (0, 0)) (by (with_reducible repeat (first | refine zq4 ?_ _ | refine zq6 ?_ | refine zq5 ?_ _)); exact BK359.out) hb); have GE362 := GW362; clear hb hbox hg; have hnb16 := NB362_359.out; have hnc16 := NB359_362.out; obtain ⟨hcz17_0, hcz17_1, hcz17_2, hcz17_3, hcz17_4, hcz17_5, hfz17_0, hfz17_1, hfz17_2, hfz17_3, hfz17_4, hfz17_5⟩ := cells6 BK362.out) | ((refine gate_builtin (b := .append) (xs := #[.tmp 28, .tmp 30]) rfl ?_); at_builtin; refine Kd.R_append (Kd.int .i64) (w0 := w) w.heap.size rfl (.tmp 28) (.tmp 30) 33 3 (.int .i64 0) 8 rfl Try.underlying33 info3 rfl (by decide) (by omega) u5 x5_1 x14_1 [.int .i64 x14_1] (fun _ => True) (fun _ => False) rfl (by first | (go_simp; done) | (go_simp; rfl)) ?aP (fun _ hk => hk.elim) ?aF ?aO ?aB ?aS ?aL ?_; (case aP => exact rfl); (case aB => exact (by repeat (with_reducible first | exact HB.out | apply zq2 | apply zq0 | apply zq1 | refine zq3 ?_ GE359.out | refine zq3 ?_ GE362.out))); (case aF => exact (fun _ _ => trivial)); (case aO => exact (by (with_reducible repeat (first | apply Kd.R_alloc | apply Kd.R_drewN | apply Kd.R_drew)); exact Kd.R_mono (Kd.R_far (p := ⟨gb362, 5, none⟩) (Kd.R_far (p := ⟨gb362, 4, none⟩) (Kd.R_far (p := ⟨gb362, 3, none⟩) (Kd.R_far (p := ⟨gb362, 2, none⟩) (Kd.R_far (p := ⟨gb362, 1, none⟩) (Kd.R_far (p := ⟨gb362, 0, none⟩) (Kd.R_types HO_5.out BK362.out (by decide)) (fun _ hk => hk.2) (.int .i64 ((rd_T64 l0_0 x14_1).f0))) (fun _ hk => hk.2) (.string ((rd_T64 l0_0 x14_1).f1))) (fun _ hk => hk.2) (.slice A361_2 ((rd_T64 l0_0 x14_1).f2).length c361_2)) (fun _ hk => hk.2) (.string ((rd_T64 l0_0 x14_1).f3))) (fun _ hk => hk.2) (.int .i64 ((rd_T64 l0_0 x14_1).f4))) (fun _ hk => hk.2) (.slice A361_5 ((rd_T64 l0_0 x14_1).f5).length c361_5)) (fun _ hk => trivial))); (case aS => exact (below_size (by repeat (with_reducible first | exact HB.out | apply zq2 | apply zq0 | apply zq1 | refine zq3 ?_ GE359.out | refine zq3 ?_ GE362.out)))); (case aL => have := LMc14.out; omega); intro v364 w18 ho hb hg hat; rw [← Ny363.out] at ho; replace BK359 := Aside0.mk (blk_grown (g := gb359) (o := .cells #[.slice (some ad361) l0_0.length c0_0] 29 (0, 0)) (by (with_reducible repeat (first | refine zq4 ?_ _ | refine zq6 ?_ | refine zq5 ?_ _ | refine blk_far ?_ NB359_362.out _)); exact BK359.out) hg (Kd.R_ne HO_5.out BK359.out (by decide))); replace BK362 := Aside0.mk (blk_grown (g := gb362) (o := .cells #[.int .i64 ((rd_T64 l0_0 x14_1).f0), .string ((rd_T64 l0_0 x14_1).f1), .slice A361_2 ((rd_T64 l0_0 x14_1).f2).length c361_2, .string ((rd_T64 l0_0 x14_1).f3), .int .i64 ((rd_T64 l0_0 x14_1).f4), .slice A361_5 ((rd_T64 l0_0 x14_1).f5).length c361_5] 64 (0, 0)) (by (with_reducible repeat (first | refine zq4 ?_ _ | refine zq6 ?_ | refine zq5 ?_ _)); refine blk_put (cs := #[.int .i64 ((rd_T64 l0_0 x14_1).f0), .string ((rd_T64 l0_0 x14_1).f1), .slice A361_2 ((rd_T64 l0_0 x14_1).f2).length c361_2, .string ((rd_T64 l0_0 x14_1).f3), .int .i64 ((rd_T64 l0_0 x14_1).f4), .slice none 0 0]) ?_ 5 _ rfl; (with_reducible repeat (first | refine zq4 ?_ _ | refine zq6 ?_ | refine zq5 ?_ _)); refine blk_put (cs := #[.int .i64 ((rd_T64 l0_0 x14_1).f0), .string ((rd_T64 l0_0 x14_1).f1), .slice A361_2 ((rd_T64 l0_0 x14_1).f2).length c361_2, .string ((rd_T64 l0_0 x14_1).f3), .int .i64 0, .slice none 0 0]) ?_ 4 _ rfl; (with_reducible repeat (first | refine zq4 ?_ _ | refine zq6 ?_ | refine zq5 ?_ _)); refine blk_put (cs := #[.int .i64 ((rd_T64 l0_0 x14_1).f0), .string ((rd_T64 l0_0 x14_1).f1), .slice A361_2 ((rd_T64 l0_0 x14_1).f2).length c361_2, .string (⟨#[]⟩ : ByteArray), .int .i64 0, .slice none 0 0]) ?_ 3 _ rfl; (with_reducible repeat (first | refine zq4 ?_ _ | refine zq6 ?_ | refine zq5 ?_ _)); refine blk_put (cs := #[.int .i64 ((rd_T64 l0_0 x14_1).f0), .string ((rd_T64 l0_0 x14_1).f1), .slice none 0 0, .string (⟨#[]⟩ : ByteArray), .int .i64 0, .slice none 0 0]) ?_ 2 _ rfl; (with_reducible repeat (first | refine zq4 ?_ _ | refine zq6 ?_ | refine zq5 ?_ _)); refine blk_put (cs := #[.int .i64 ((rd_T64 l0_0 x14_1).f0), .string (⟨#[]⟩ : ByteArray), .slice none 0 0, .string (⟨#[]⟩ : ByteArray), .int .i64 0, .slice none 0 0]) ?_ 1 _ rfl; (with_reducible repeat (first | refine zq4 ?_ _ | refine zq6 ?_ | refine zq5 ?_ _)); refine blk_put (cs := #[.int .i64 0, .string (⟨#[]⟩ : ByteArray), .slice none 0 0, .string (⟨#[]⟩ : ByteArray), .int .i64 0, .slice none 0 0]) ?_ 0 _ rfl; (with_reducible repeat (first | refine zq4 ?_ _ | refine zq6 ?_ | refine zq5 ?_ _)); exact BK362.out) hg (Kd.R_ne HO_5.out BK362.out (by decide))); replace HB := Aside0.mk (hb); have HO365 := Aside0.mk (ho); clear HO_5; clear ho hb hg hat))
          go_roundg k1
          case measure => have := HK1.out; omega
          case rel => exact ⟨(y363), (wrap64 (x14_1 + 1)), (by first | rfl | simp | simp [*]), H', ⟨by have := HK1.out; omega⟩, ⟨by (with_reducible repeat (first | apply Kd.R_alloc | apply Kd.R_drewN | apply Kd.R_drew)); exact HO365.out⟩, ⟨by (with_reducible repeat (first | refine zq4 ?_ _ | refine zq6 ?_ | refine zq5 ?_ _)); exact BK359.out⟩, ⟨by repeat (first | (with_reducible first | exact HB.out | apply zq2 | apply zq0 | apply zq1 | refine zq3 ?_ GE359.out | refine zq3 ?_ GE362.out) | exact HB.out)⟩⟩
         ·rw [if_neg c14] at H
          exact absurd H (by simp)
        ·rw [if_neg c13] at H
         have c13b0 := beq_eq_false_iff_ne.mpr c13
         have c13b1 := bne_iff_ne.mpr c13
         have H' := Aside0.mk H
         clear H
         have p361 : 0 ≤ (x14_1 : Int) := of_decide_eq_true (by assumption)
         have q361 : x14_1 < (l0_0.length : Int) := of_decide_eq_true (by assumption)
         obtain ⟨ad361, A361_2, c361_2, A361_5, c361_5, e361, hx361_0, hx361_1, hx361_2, hx361_3, hx361_4, hx361_5, hl361_2, hi361_2, hl361_5, hi361_5⟩ := at_T64 HR0_0.out x14_1 p361 q361
         cases e361
         replace hx361_0 := pw_cell_below HB.out hx361_0
         replace hx361_1 := pw_cell_below HB.out hx361_1
         replace hx361_2 := pw_cell_below HB.out hx361_2
         replace hx361_3 := pw_cell_below HB.out hx361_3
         replace hx361_4 := pw_cell_below HB.out hx361_4
         replace hx361_5 := pw_cell_below HB.out hx361_5
         have HR361_2 := Aside0.mk hi361_2
         have HC361_2 := Aside0.mk hl361_2
         clear hi361_2 hl361_2
         have HR361_5 := Aside0.mk hi361_5
         have HC361_5 := Aside0.mk hl361_5
         clear hi361_5 hl361_5
         replace p361 := eq_true p361
         replace q361 := eq_true q361
         go_wp2_with (first | ((refine gate_dst (N := 7) rfl ?_); refine box_event ?hg (N := 7) ?hd (cs := #[.int .i64 0, .string (⟨#[]⟩ : ByteArray), .slice none 0 0, .string (⟨#[]⟩ : ByteArray), .int .i64 0, .slice none 0 0]) (t := 64) ?hr ?_; (case hd => rfl); (case hg => rfl); (case hr => first | (go_simp; done) | (go_simp; rfl)); intro gb362 hg w19 hbox hb; replace HO_5 := Aside0.mk (Kd.R_below (by (with_reducible repeat (first | apply Kd.R_alloc | apply Kd.R_drewN | apply Kd.R_drew)); exact HO_5.out) hb); have BK362 := Aside0.mk (hbox); have GW362 := Aside0.mk ((by rw [hg]; exact (below_size (by repeat (with_reducible first | exact HB.out | apply zq2 | apply zq0 | apply zq1 | refine zq3 ?_ GE359.out))) : w.heap.size ≤ gb362)); replace HB := Aside0.mk (zq7 (by repeat (with_reducible first | exact HB.out | apply zq2 | apply zq0 | apply zq1 | refine zq3 ?_ GE359.out)) hb); have NB359_362 := Aside0.mk ((by rw [hg]; exact Nat.ne_of_lt (blk_lt (g := gb359) (o := .cells #[.slice (some ad361) l0_0.length c0_0] 29 (0, 0)) (by (with_reducible repeat (first | refine zq4 ?_ _ | refine zq6 ?_ | refine zq5 ?_ _)); exact BK359.out)) : gb359 ≠ gb362)); have NB362_359 := Aside0.mk ((by rw [hg]; exact Nat.ne_of_gt (blk_lt (g := gb359) (o := .cells #[.slice (some ad361) l0_0.length c0_0] 29 (0, 0)) (by (with_reducible repeat (first | refine zq4 ?_ _ | refine zq6 ?_ | refine zq5 ?_ _)); exact BK359.out)) : gb362 ≠ gb359)); replace BK359 := Aside0.mk (zq10 (g := gb359) (o := .cells #[.slice (some ad361) l0_0.length c0_0] 29 (0, 0)) (by (with_reducible repeat (first | refine zq4 ?_ _ | refine zq6 ?_ | refine zq5 ?_ _)); exact BK359.out) hb); have GE362 := GW362; clear hb hbox hg; have hnb20 := NB362_359.out; have hnc20 := NB359_362.out; obtain ⟨hcz21_0, hcz21_1, hcz21_2, hcz21_3, hcz21_4, hcz21_5, hfz21_0, hfz21_1, hfz21_2, hfz21_3, hfz21_4, hfz21_5⟩ := cells6 BK362.out))
         go_roundg k1
         case measure => have := HK1.out; omega
         case rel => exact ⟨(x5_1), (wrap64 (x14_1 + 1)), (by first | rfl | simp | simp [*]), H', ⟨by have := HK1.out; omega⟩, ⟨by (with_reducible repeat (first | apply Kd.R_alloc | apply Kd.R_drewN | apply Kd.R_drew)); exact Kd.R_mono (Kd.R_far (p := ⟨gb362, 5, none⟩) (Kd.R_far (p := ⟨gb362, 4, none⟩) (Kd.R_far (p := ⟨gb362, 3, none⟩) (Kd.R_far (p := ⟨gb362, 2, none⟩) (Kd.R_far (p := ⟨gb362, 1, none⟩) (Kd.R_far (p := ⟨gb362, 0, none⟩) (Kd.R_types HO_5.out BK362.out (by decide)) (fun _ hk => hk.2) (.int .i64 ((rd_T64 l0_0 x14_1).f0))) (fun _ hk => hk.2) (.string ((rd_T64 l0_0 x14_1).f1))) (fun _ hk => hk.2) (.slice A361_2 ((rd_T64 l0_0 x14_1).f2).length c361_2)) (fun _ hk => hk.2) (.string ((rd_T64 l0_0 x14_1).f3))) (fun _ hk => hk.2) (.int .i64 ((rd_T64 l0_0 x14_1).f4))) (fun _ hk => hk.2) (.slice A361_5 ((rd_T64 l0_0 x14_1).f5).length c361_5)) (fun _ hk => trivial)⟩, ⟨by (with_reducible repeat (first | refine zq4 ?_ _ | refine zq6 ?_ | refine zq5 ?_ _ | refine blk_far ?_ NB359_362.out _)); exact BK359.out⟩, ⟨by repeat (first | (with_reducible first | exact HB.out | apply zq2 | apply zq0 | apply zq1 | refine zq3 ?_ GE359.out | refine zq3 ?_ GE362.out) | exact HB.out)⟩⟩
       ·rw [if_neg c12] at H
        have c12b0 := beq_eq_false_iff_ne.mpr c12
        have c12b1 := bne_iff_ne.mpr c12
        have H' := Aside0.mk H
        clear H
        have p361 : 0 ≤ (x14_1 : Int) := of_decide_eq_true (by assumption)
        have q361 : x14_1 < (l0_0.length : Int) := of_decide_eq_true (by assumption)
        obtain ⟨ad361, A361_2, c361_2, A361_5, c361_5, e361, hx361_0, hx361_1, hx361_2, hx361_3, hx361_4, hx361_5, hl361_2, hi361_2, hl361_5, hi361_5⟩ := at_T64 HR0_0.out x14_1 p361 q361
        cases e361
        replace hx361_0 := pw_cell_below HB.out hx361_0
        replace hx361_1 := pw_cell_below HB.out hx361_1
        replace hx361_2 := pw_cell_below HB.out hx361_2
        replace hx361_3 := pw_cell_below HB.out hx361_3
        replace hx361_4 := pw_cell_below HB.out hx361_4
        replace hx361_5 := pw_cell_below HB.out hx361_5
        have HR361_2 := Aside0.mk hi361_2
        have HC361_2 := Aside0.mk hl361_2
        clear hi361_2 hl361_2
        have HR361_5 := Aside0.mk hi361_5
        have HC361_5 := Aside0.mk hl361_5
        clear hi361_5 hl361_5
        replace p361 := eq_true p361
        replace q361 := eq_true q361
        go_wp2_with (first | ((refine gate_dst (N := 7) rfl ?_); refine box_event ?hg (N := 7) ?hd (cs := #[.int .i64 0, .string (⟨#[]⟩ : ByteArray), .slice none 0 0, .string (⟨#[]⟩ : ByteArray), .int .i64 0, .slice none 0 0]) (t := 64) ?hr ?_; (case hd => rfl); (case hg => rfl); (case hr => first | (go_simp; done) | (go_simp; rfl)); intro gb362 hg w22 hbox hb; replace HO_5 := Aside0.mk (Kd.R_below (by (with_reducible repeat (first | apply Kd.R_alloc | apply Kd.R_drewN | apply Kd.R_drew)); exact HO_5.out) hb); have BK362 := Aside0.mk (hbox); have GW362 := Aside0.mk ((by rw [hg]; exact (below_size (by repeat (with_reducible first | exact HB.out | apply zq2 | apply zq0 | apply zq1 | refine zq3 ?_ GE359.out))) : w.heap.size ≤ gb362)); replace HB := Aside0.mk (zq7 (by repeat (with_reducible first | exact HB.out | apply zq2 | apply zq0 | apply zq1 | refine zq3 ?_ GE359.out)) hb); have NB359_362 := Aside0.mk ((by rw [hg]; exact Nat.ne_of_lt (blk_lt (g := gb359) (o := .cells #[.slice (some ad361) l0_0.length c0_0] 29 (0, 0)) (by (with_reducible repeat (first | refine zq4 ?_ _ | refine zq6 ?_ | refine zq5 ?_ _)); exact BK359.out)) : gb359 ≠ gb362)); have NB362_359 := Aside0.mk ((by rw [hg]; exact Nat.ne_of_gt (blk_lt (g := gb359) (o := .cells #[.slice (some ad361) l0_0.length c0_0] 29 (0, 0)) (by (with_reducible repeat (first | refine zq4 ?_ _ | refine zq6 ?_ | refine zq5 ?_ _)); exact BK359.out)) : gb362 ≠ gb359)); replace BK359 := Aside0.mk (zq10 (g := gb359) (o := .cells #[.slice (some ad361) l0_0.length c0_0] 29 (0, 0)) (by (with_reducible repeat (first | refine zq4 ?_ _ | refine zq6 ?_ | refine zq5 ?_ _)); exact BK359.out) hb); have GE362 := GW362; clear hb hbox hg; have hnb23 := NB362_359.out; have hnc23 := NB359_362.out; obtain ⟨hcz24_0, hcz24_1, hcz24_2, hcz24_3, hcz24_4, hcz24_5, hfz24_0, hfz24_1, hfz24_2, hfz24_3, hfz24_4, hfz24_5⟩ := cells6 BK362.out))
        go_roundg k1
        case measure => have := HK1.out; omega
        case rel => exact ⟨(x5_1), (wrap64 (x14_1 + 1)), (by first | rfl | simp | simp [*]), H', ⟨by have := HK1.out; omega⟩, ⟨by (with_reducible repeat (first | apply Kd.R_alloc | apply Kd.R_drewN | apply Kd.R_drew)); exact Kd.R_mono (Kd.R_far (p := ⟨gb362, 5, none⟩) (Kd.R_far (p := ⟨gb362, 4, none⟩) (Kd.R_far (p := ⟨gb362, 3, none⟩) (Kd.R_far (p := ⟨gb362, 2, none⟩) (Kd.R_far (p := ⟨gb362, 1, none⟩) (Kd.R_far (p := ⟨gb362, 0, none⟩) (Kd.R_types HO_5.out BK362.out (by decide)) (fun _ hk => hk.2) (.int .i64 ((rd_T64 l0_0 x14_1).f0))) (fun _ hk => hk.2) (.string ((rd_T64 l0_0 x14_1).f1))) (fun _ hk => hk.2) (.slice A361_2 ((rd_T64 l0_0 x14_1).f2).length c361_2)) (fun _ hk => hk.2) (.string ((rd_T64 l0_0 x14_1).f3))) (fun _ hk => hk.2) (.int .i64 ((rd_T64 l0_0 x14_1).f4))) (fun _ hk => hk.2) (.slice A361_5 ((rd_T64 l0_0 x14_1).f5).length c361_5)) (fun _ hk => trivial)⟩, ⟨by (with_reducible repeat (first | refine zq4 ?_ _ | refine zq6 ?_ | refine zq5 ?_ _ | refine blk_far ?_ NB359_362.out _)); exact BK359.out⟩, ⟨by repeat (first | (with_reducible first | exact HB.out | apply zq2 | apply zq0 | apply zq1 | refine zq3 ?_ GE359.out | refine zq3 ?_ GE362.out) | exact HB.out)⟩⟩
      ·rw [if_neg c11] at H
       exact absurd H (by simp)
     ·rw [if_neg c10] at H
      exact absurd H (by simp)
    ·rw [if_neg c9] at H
     have c9b0 : decide (x14_1 < (l0_0.length : Int)) = false := decide_eq_false c9
     clear c9
     obtain rfl := Option.some.inj H
     go_wp2
     go_ret
     exact ⟨_, by first | rfl | simp | simp [*], by (with_reducible repeat (first | apply Kd.R_alloc | apply Kd.R_drewN | apply Kd.R_drew)); exact HO_5.out, by repeat (first | (with_reducible first | exact HB.out | apply zq2 | apply zq0 | apply zq1 | refine zq3 ?_ GE359.out) | exact HB.out)⟩
 ·replace c4 := Bool.eq_false_iff.mpr c4
  subst c4
  rw [if_neg (show ¬ (false = true) by decide)] at H
  obtain rfl := Option.some.inj H
  go_enter Try.func53, Try.ntmps53
  go_wp2_with (first | ((refine gate_dst (N := 2) rfl ?_); refine box_event ?hg (N := 2) ?hd (cs := #[.slice A0_0 l0_0.length c0_0]) (t := 29) ?hr ?_; (case hd => rfl); (case hg => rfl); (case hr => first | (go_simp; done) | (go_simp; rfl)); intro gb359 hg w25 hbox hb; have BK359 := Aside0.mk (hbox); have GW359 := Aside0.mk ((by rw [hg]; exact (below_size (by repeat (with_reducible first | exact HB.out | apply zq2 | apply zq0 | apply zq1))) : w.heap.size ≤ gb359)); replace HB := Aside0.mk (zq7 (by repeat (with_reducible first | exact HB.out | apply zq2 | apply zq0 | apply zq1)) hb); have GE359 := GW359; clear hb hbox hg; obtain ⟨hcz26_0, hfz26_0⟩ := cells1 BK359.out) | ((refine gate_callee (f := 56) rfl ?_); refine goesL_ (some 9) rfl rfl Try.func56 (by kernel_rfl) rfl #[.agg #[.slice A0_0 l0_0.length c0_0]] rfl (by (try simp only [List.map_toArray, List.map_cons, List.map_nil]); first | done | rfl | (simp only [List.length_drop, List.length_take]; rfl)) ?_; (with_reducible refine (zq35.calls k _ _ l0_0 false _ ?side1 ?side2 A3.out).mono ?_); (case side1 => repeat (first | exact (Kd.C_below HR0_0.out HB.out) | (with_reducible refine Kd.C_alloc ?_ _) | (with_reducible refine Kd.C_drewN ?_ _) | (with_reducible refine Kd.C_drew ?_))); (case side2 => exact HC0_0.out); rintro e w27 ⟨rfl, hb⟩; refine ⟨_, rfl, ?_⟩; replace BK359 := Aside0.mk (zq10 (g := gb359) (o := .cells #[.slice A0_0 l0_0.length c0_0] 29 (0, 0)) (by (with_reducible repeat (first | refine zq4 ?_ _ | refine zq6 ?_ | refine zq5 ?_ _)); exact BK359.out) hb); replace HB := Aside0.mk (zq7 (by repeat (with_reducible first | exact HB.out | apply zq2 | apply zq0 | apply zq1 | refine zq3 ?_ GE359.out)) hb); (try clear hb)))
  go_ret
  exact ⟨_, by first | rfl | simp | simp [*], by first | exact Kd.R_nil _ _ _ _ _ | exact Kd.N_nil _ _ _ _ _ | exact Kd.V_nil _ _ _ _ _ | exact Kd.Q_nil _ _ _ _ _ | exact Kd.S_nil _ _ _ _ _, by repeat (first | (with_reducible first | exact HB.out | apply zq2 | apply zq0 | apply zq1 | refine zq3 ?_ GE359.out) | exact HB.out)⟩
/-! ### impl_PageCount: function 17 -/
def impl_PageCount.f (k : Nat) (l0_0 : List (S64)) (a1 : ByteArray) : Option (Int) := (zq36.f k l0_0 a1).bind fun t367 => (some (t367.length : Int))
theorem impl_PageCount.mono : ∀ a0 a1 k, LeO (impl_PageCount.f k a0 a1) (impl_PageCount.f (k + 1) a0 a1) := by
 intro a0 a1 k
 unfold impl_PageCount.f
 repeat' first
   | (with_reducible exact zq36.mono _ _ _)
   | (with_reducible exact LeO.refl _)
   | (with_reducible exact LeO.none _)
   | (with_reducible refine LeO.ite ?_ ?_)
   | (with_reducible refine LeO.bind ?_ (fun _ => ?_))
set_option maxHeartbeats 8000000 in
set_option maxRecDepth 100000 in
theorem impl_PageCount.calls (k : Nat) (A0_0 : Option Addr) (c0_0 : Nat) (l0_0 : List (S64)) (a1 : ByteArray) (r : Int) (w : World) (hr0_0 : Kd.C k64 w A0_0 l0_0.length l0_0) (hc0_0 : l0_0.length ≤ c0_0) (h : impl_PageCount.f k l0_0 a1 = some r) :
  Calls Try.prog 17 #[.agg #[.slice A0_0 l0_0.length c0_0], .string a1] w fun e w' => e = .returned (.int .i64 r) ∧ Below w.heap.size w w' := by
 have hu29 := Try.underlying29
 have HR0_0 := Aside0.mk hr0_0
 have HC0_0 := Aside0.mk hc0_0
 clear hr0_0 hc0_0
 have HB := Aside0.mk (Below.refl w.heap.size w)
 have H : ((zq36.f k l0_0 a1).bind fun t367 => (some (t367.length : Int))) = some r := h
 clear h
 replace H := Option.bind_eq_some_iff.mp H
 obtain ⟨t367, A30, H⟩ := H
 (try dsimp only at H)
 have A3 := Aside0.mk A30
 clear A30
 obtain rfl := Option.some.inj H
 go_enter Try.func17, Try.ntmps17
 go_wp2_with (first | ((refine gate_dst (N := 2) rfl ?_); refine box_event ?hg (N := 2) ?hd (cs := #[.slice A0_0 l0_0.length c0_0]) (t := 29) ?hr ?_; (case hd => rfl); (case hg => rfl); (case hr => first | (go_simp; done) | (go_simp; rfl)); intro gb366 hg w4 hbox hb; have BK366 := Aside0.mk (hbox); have GW366 := Aside0.mk ((by rw [hg]; exact (below_size (by repeat (with_reducible first | exact HB.out | apply zq2 | apply zq0 | apply zq1))) : w.heap.size ≤ gb366)); replace HB := Aside0.mk (zq7 (by repeat (with_reducible first | exact HB.out | apply zq2 | apply zq0 | apply zq1)) hb); have GE366 := GW366; clear hb hbox hg; obtain ⟨hcz5_0, hfz5_0⟩ := cells1 BK366.out) | ((refine gate_callee (f := 53) rfl ?_); refine goesL_ (some 7) rfl rfl Try.func53 (by kernel_rfl) rfl #[.agg #[.slice A0_0 l0_0.length c0_0], .string a1] rfl (by (try simp only [List.map_toArray, List.map_cons, List.map_nil]); first | done | rfl | (simp only [List.length_drop, List.length_take]; rfl)) ?_; (with_reducible refine (zq36.calls k _ _ l0_0 a1 t367 _ ?side1 ?side2 A3.out).mono ?_); (case side1 => repeat (first | exact (Kd.C_below HR0_0.out HB.out) | (with_reducible refine Kd.C_alloc ?_ _) | (with_reducible refine Kd.C_drewN ?_ _) | (with_reducible refine Kd.C_drew ?_))); (case side2 => exact HC0_0.out); rintro e w6 ⟨v368, rfl, ho0, hb⟩; refine ⟨_, rfl, ?_⟩; have HO369 := Aside0.mk (Kd.R_lower ho0 (below_size (by repeat (with_reducible first | exact HB.out | apply zq2 | apply zq0 | apply zq1 | refine zq3 ?_ GE366.out)))); replace BK366 := Aside0.mk (zq10 (g := gb366) (o := .cells #[.slice A0_0 l0_0.length c0_0] 29 (0, 0)) (by (with_reducible repeat (first | refine zq4 ?_ _ | refine zq6 ?_ | refine zq5 ?_ _)); exact BK366.out) hb); replace HB := Aside0.mk (zq7 (by repeat (with_reducible first | exact HB.out | apply zq2 | apply zq0 | apply zq1 | refine zq3 ?_ GE366.out)) hb); (try clear hb); (try clear ho0); obtain ⟨Ao7, co7, eo7⟩ := Kd.R_slice HO369.out; subst eo7))
 go_ret
 exact ⟨by first | rfl | simp | simp [*], by repeat (first | (with_reducible first | exact HB.out | apply zq2 | apply zq0 | apply zq1 | refine zq3 ?_ GE366.out) | exact HB.out)⟩
/-! ### zq26: function 55 -/
mutual
def zq26.l0 : Nat → List Int → Int → List (S64) → Option (Bool)
 | 0, _, _, _ => none
 | k + 1, x1, x5, x408000 => if x5 < (x1.length : Int) then (if 0 ≤ x5 then ((spec_l10Element.f x408000 (rd x1 x5)).bind fun t409 => (if t409 = true then (zq26.l1 k x1 x5 0 x408000) else (some false))) else (none)) else (some true)
def zq26.l1 : Nat → List Int → Int → Int → List (S64) → Option (Bool)
 | 0, _, _, _, _ => none
 | k + 1, x1, x5, x6, x408000 => if x6 < x5 then (if 0 ≤ x6 then (if x6 < (x1.length : Int) then (if 0 ≤ x5 then (if x5 < (x1.length : Int) then (if (rd x1 x6) = (rd x1 x5) then (some false) else (zq26.l1 k x1 x5 (wrap64 (x6 + 1)) x408000)) else (none)) else (none)) else (none)) else (none)) else (zq26.l0 k x1 (wrap64 (x5 + 1)) x408000)
end
def zq26.f (k : Nat) (l0_0 : List (S64)) (l1 : List Int) : Option (Bool) := if (l1.length : Int) > 40 then (some false) else (zq26.l0 k l1 0 l0_0)
theorem zq26.mono_l : ∀ k, (∀ y0 y1 y2, LeO (zq26.l0 k y0 y1 y2) (zq26.l0 (k + 1) y0 y1 y2)) ∧ (∀ y0 y1 y2 y3, LeO (zq26.l1 k y0 y1 y2 y3) (zq26.l1 (k + 1) y0 y1 y2 y3))
 | 0 => ⟨fun _ _ _ r h => by simp [zq26.l0] at h, fun _ _ _ _ r h => by simp [zq26.l1] at h⟩
 | k + 1 => by
  obtain ⟨ih0, ih1⟩ := zq26.mono_l k
  refine ⟨?_, ?_⟩
  ·intro y0 y1 y2
   unfold zq26.l0
   repeat' first
   | (with_reducible exact ih0 _ _ _)
   | (with_reducible exact ih1 _ _ _ _)
   | (with_reducible exact LeO.refl _)
   | (with_reducible exact LeO.none _)
   | (with_reducible refine LeO.ite ?_ ?_)
   | (with_reducible refine LeO.bind ?_ (fun _ => ?_))
  ·intro y0 y1 y2 y3
   unfold zq26.l1
   repeat' first
   | (with_reducible exact ih0 _ _ _)
   | (with_reducible exact ih1 _ _ _ _)
   | (with_reducible exact LeO.refl _)
   | (with_reducible exact LeO.none _)
   | (with_reducible refine LeO.ite ?_ ?_)
   | (with_reducible refine LeO.bind ?_ (fun _ => ?_))
theorem zq26.mono : ∀ a0 a1 k, LeO (zq26.f k a0 a1) (zq26.f (k + 1) a0 a1) := by
 intro a0 a1 k
 obtain ⟨ih0, ih1⟩ := zq26.mono_l k
 unfold zq26.f
 repeat' first
   | (with_reducible exact ih0 _ _ _)
   | (with_reducible exact ih1 _ _ _ _)
   | (with_reducible exact LeO.refl _)
   | (with_reducible exact LeO.none _)
   | (with_reducible refine LeO.ite ?_ ?_)
   | (with_reducible refine LeO.bind ?_ (fun _ => ?_))
def zq26.T11 : Bool × List (List Nat × List Nat) := (true, [([], []), ([], []), ([0, 1], [0, 1]), ([2], [2]), ([], []), ([], []), ([4, 5], [4, 5]), ([6], [6]), ([3, 7], [3, 7])])
def zq26.B11 : List Nat := [0, 0, 3, 7, 0, 0, 48, 112, 255]
theorem zq26.tab11 : rtab .any (opsOf Try.f55 11) = zq26.T11 := by kernel_rfl
theorem zq26.bits11 : waitsOk zq26.T11.2 zq26.B11 = true := by kernel_rfl
set_option maxHeartbeats 8000000 in
set_option maxRecDepth 100000 in
theorem zq26.calls (k : Nat) (A0_0 : Option Addr) (c0_0 : Nat) (l0_0 : List (S64)) (A1 : Option Addr) (c1 : Nat) (l1 : List Int) (r : Bool) (w : World) (hr0_0 : Kd.C k64 w A0_0 l0_0.length l0_0) (hc0_0 : l0_0.length ≤ c0_0) (hr1 : Kd.C (Kd.int .i64) w A1 l1.length l1) (hc1 : l1.length ≤ c1) (h : zq26.f k l0_0 l1 = some r) :
  Calls Try.prog 55 #[.agg #[.slice A0_0 l0_0.length c0_0], .slice A1 l1.length c1] w fun e w' => e = .returned (.bool r) ∧ Below w.heap.size w w' := by
 have hu29 := Try.underlying29
 have HR0_0 := Aside0.mk hr0_0
 have HC0_0 := Aside0.mk hc0_0
 clear hr0_0 hc0_0
 have HR1 := Aside0.mk hr1
 have HC1 := Aside0.mk hc1
 clear hr1 hc1
 have HB := Aside0.mk (Below.refl w.heap.size w)
 have H : (if (l1.length : Int) > 40 then (some false) else (zq26.l0 k l1 0 l0_0)) = some r := h
 clear h
 by_cases c3 : (l1.length : Int) > 40
 ·rw [if_pos c3] at H
  have c3b0 : decide (40 < (l1.length : Int)) = true := decide_eq_true c3
  have c3b1 : decide (40 < l1.length) = true := decide_eq_true (by omega)
  clear c3
  obtain rfl := Option.some.inj H
  go_enter Try.func55, Try.ntmps55
  go_wp2_with (first | ((refine gate_dst (N := 2) rfl ?_); refine box_event ?hg (N := 2) ?hd (cs := #[.slice A0_0 l0_0.length c0_0]) (t := 29) ?hr ?_; (case hd => rfl); (case hg => rfl); (case hr => first | (go_simp; done) | (go_simp; rfl)); intro gb407 hg w4 hbox hb; have BK407 := Aside0.mk (hbox); have GW407 := Aside0.mk ((by rw [hg]; exact (below_size (by repeat (with_reducible first | exact HB.out | apply zq2 | apply zq0 | apply zq1))) : w.heap.size ≤ gb407)); replace HB := Aside0.mk (zq7 (by repeat (with_reducible first | exact HB.out | apply zq2 | apply zq0 | apply zq1)) hb); have GE407 := GW407; clear hb hbox hg))
  go_ret
  exact ⟨by first | rfl | simp | simp [*], by repeat (first | (with_reducible first | exact HB.out | apply zq2 | apply zq0 | apply zq1 | refine zq3 ?_ GE407.out) | exact HB.out)⟩
 ·rw [if_neg c3] at H
  have c3b0 : decide (40 < (l1.length : Int)) = false := decide_eq_false c3
  have c3b1 : decide (40 < l1.length) = false := decide_eq_false (by omega)
  clear c3
  have H' := Aside0.mk H
  clear H
  go_enter Try.func55, Try.ntmps55
  go_wp2_with (first | ((refine gate_dst (N := 2) rfl ?_); refine box_event ?hg (N := 2) ?hd (cs := #[.slice A0_0 l0_0.length c0_0]) (t := 29) ?hr ?_; (case hd => rfl); (case hg => rfl); (case hr => first | (go_simp; done) | (go_simp; rfl)); intro gb407 hg w5 hbox hb; have BK407 := Aside0.mk (hbox); have GW407 := Aside0.mk ((by rw [hg]; exact (below_size (by repeat (with_reducible first | exact HB.out | apply zq2 | apply zq0 | apply zq1))) : w.heap.size ≤ gb407)); replace HB := Aside0.mk (zq7 (by repeat (with_reducible first | exact HB.out | apply zq2 | apply zq0 | apply zq1)) hb); have GE407 := GW407; clear hb hbox hg))
  go_loopg [5] k (fun kq v5 w' => ∃ (x5_1 : Int), v5 = .int .i64 x5_1 ∧ Aside0 (zq26.l0 kq l1 x5_1 l0_0 = some r) ∧ Aside0 (kq ≤ k) ∧ Aside0 (w'.heap[gb407]? = some (.cells #[(.slice A0_0 l0_0.length c0_0)] 29 (0, 0))) ∧ Aside0 (Below w.heap.size w w'))
  case atStart => exact ⟨(0), (by first | rfl | simp | simp [*]), H', ⟨Nat.le_refl _⟩, ⟨by (with_reducible repeat (first | refine zq4 ?_ _ | refine zq6 ?_ | refine zq5 ?_ _)); exact BK407.out⟩, ⟨by repeat (first | (with_reducible first | exact HB.out | apply zq2 | apply zq0 | apply zq1 | refine zq3 ?_ GE407.out) | exact HB.out)⟩⟩
  case round =>
   clear H'
   obtain ⟨x5_1, rfl, HA, HK1, BK407, HB⟩ := hrel
   cases gk with
   | zero => exact absurd HA.out (by simp [zq26.l0])
   | succ k1 =>
    have H := HA.out
    clear HA
    simp only [zq26.l0] at H
    by_cases c6 : x5_1 < (l1.length : Int)
    ·rw [if_pos c6] at H
     have c6b0 : decide (x5_1 < (l1.length : Int)) = true := decide_eq_true c6
     clear c6
     by_cases c7 : 0 ≤ x5_1
     ·rw [if_pos c7] at H
      have c7b0 : decide (0 ≤ x5_1) = true := decide_eq_true c7
      clear c7
      replace H := Option.bind_eq_some_iff.mp H
      obtain ⟨t409, A80, H⟩ := H
      (try dsimp only at H)
      have A8 := Aside0.mk A80
      clear A80
      by_cases c9 : t409 = true
      ·subst c9
       rw [if_pos rfl] at H
       have H' := Aside0.mk H
       clear H
       try go_wp2
       have n0_ := Aside0.mk (zq6 BK407.out)
       have n1_ := Aside0.mk (zq1 HB.out)
       clear BK407
       clear HB
       have BK407 := n0_
       have HB := n1_
       clear n0_ n1_
       have p408 : 0 ≤ (x5_1 : Int) := of_decide_eq_true (by assumption)
       have q408 : x5_1 < (l1.length : Int) := of_decide_eq_true (by assumption)
       obtain ⟨ad408, e408, hx408_0⟩ := Kd.at_int HR1.out x5_1 p408 q408
       have hw408_0 := hx408_0
       cases e408
       replace hx408_0 := pw_cell_below HB.out hx408_0
       replace p408 := eq_true p408
       replace q408 := eq_true q408
       refine start_ (n := 7) (S := fun w' => w'.cell? ⟨gb407, 0, none⟩ = some (.slice A0_0 l0_0.length c0_0) ∧ w'.cell? (ad408.add (x5_1).toNat) = some (.int .i64 (rd l1 x5_1))) (ds := []) #[false, false, false, false, false, false, false] (by kernel_rfl) rfl rfl ⟨(blk_cell BK407.out 0).trans rfl, ((HB.out.cell (World.block_lt_of_cell? w _ hw408_0)).trans hw408_0)⟩ (fun hHeld => ?_)
       generalize wr.drew = w10 at BK407 HB hx408_0 hHeld ⊢
       refine pure_ (i := 1) (N := some 17) (v := ?_) (a' := ?_) #[false, true, false, false, false, false, false] rfl rfl (by kernel_rfl) (fun _ _ _ h => h) (Or.inl ⟨by rfl, ?_⟩) ?_ ?_
       rotate_left
       ·intro w'
        go_simp
        with_reducible rfl
       rotate_left
       ·simp only [Act.put, List.setIfInBounds_toArray, List.set_cons_zero, List.set_cons_succ, i64_w, i32_w]
        rfl
       refine pure_ (i := 2) (N := some 18) (v := ?_) (a' := ?_) #[false, true, true, false, false, false, false] rfl rfl (by kernel_rfl) (fun _ _ _ h => h) (Or.inl ⟨by rfl, ?_⟩) ?_ ?_
       rotate_left
       ·intro w'
        go_simp
        with_reducible rfl
       rotate_left
       ·simp only [Act.put, List.setIfInBounds_toArray, List.set_cons_zero, List.set_cons_succ, i64_w, i32_w]
        rfl
       refine pure_ (i := 3) (N := some 19) (v := ?_) (a' := ?_) #[false, true, true, true, false, false, false] rfl rfl (by kernel_rfl) (fun _ _ _ h => h) (Or.inl ⟨by rfl, ?_⟩) ?_ ?_
       rotate_left
       ·intro w'
        go_simp
        with_reducible rfl
       rotate_left
       ·simp only [Act.put, List.setIfInBounds_toArray, List.set_cons_zero, List.set_cons_succ, i64_w, i32_w]
        rfl
       refine take_ (i := 0) (N := some 16) (v := ?_) (a' := ?_) #[true, true, true, true, false, false, false] rfl rfl (by kernel_rfl) (fun _ _ _ h => h) (Or.inl ⟨by rfl, ?_⟩) hHeld ?_ ?_
       rotate_left
       ·rintro w' ⟨s0, s1⟩
        go_simp
        with_reducible rfl
       rotate_left
       ·simp only [Act.put, List.setIfInBounds_toArray, List.set_cons_zero, List.set_cons_succ, i64_w, i32_w]
        rfl
       refine take_ (i := 4) (N := some 20) (v := ?_) (a' := ?_) #[true, true, true, true, true, false, false] rfl rfl (by kernel_rfl) (fun _ _ _ h => h) (Or.inl ⟨by rfl, ?_⟩) hHeld ?_ ?_
       rotate_left
       ·rintro w' ⟨s0, s1⟩
        go_simp
        with_reducible rfl
       rotate_left
       ·simp only [Act.put, List.setIfInBounds_toArray, List.set_cons_zero, List.set_cons_succ, i64_w, i32_w]
        rfl
       refine one_ (i := 5) (N := some 21) #[true, true, true, true, true, true, false] rfl rfl (by kernel_rfl) (by decide) (fun K hK => ?_)
       refine goes_ Try.func82 (by kernel_rfl) rfl #[.agg #[.slice A0_0 l0_0.length c0_0], .int .i64 (rd l1 x5_1)] (by rfl) rfl rfl (by (try simp only [List.map_toArray, List.map_cons, List.map_nil]); first | done | rfl | (simp only [List.length_drop, List.length_take]; rfl)) ?_
       with_reducible refine (spec_l10Element.calls _ _ l0_0 (rd l1 x5_1) true _ ?side1 ?side2 A8.out).mono ?_
       (case side1 => repeat (first | exact (Kd.C_below HR0_0.out HB.out) | (with_reducible refine Kd.C_alloc ?_ _) | (with_reducible refine Kd.C_drewN ?_ _) | (with_reducible refine Kd.C_drew ?_)))
       (case side2 => exact HC0_0.out)
       rintro e w11 ⟨rfl, hb⟩
       refine ⟨_, rfl, ?_⟩
       have n0_ := Aside0.mk (zq10 (g := gb407) (o := .cells #[.slice A0_0 l0_0.length c0_0] 29 (0, 0)) (by (with_reducible repeat (first | refine zq4 ?_ _ | refine zq6 ?_ | refine zq5 ?_ _)); exact BK407.out) hb)
       have n1_ := Aside0.mk (zq7 (by repeat (with_reducible first | exact HB.out | apply zq2 | apply zq0 | apply zq1 | refine zq3 ?_ GE407.out)) hb)
       clear BK407
       clear HB
       have BK407 := n0_
       have HB := n1_
       clear n0_ n1_
       (try clear hb)
       (try clear hb2)
       (try clear hk)
       (try clear hi)
       refine hK.out _ _ ⟨(blk_cell BK407.out 0).trans rfl, ((HB.out.cell (World.block_lt_of_cell? w _ hw408_0)).trans hw408_0)⟩ (fun hHeld => ?_)
       clear hK K
       refine norm_ (a' := ?_) ?_ ?_
       rotate_left
       ·show Act.put _ (some 21) _ = _
        simp only [Act.put, List.setIfInBounds_toArray, List.set_cons_zero, List.set_cons_succ, i64_w, i32_w]
        rfl
       refine pure_ (i := 6) (N := some 22) (v := ?_) (a' := ?_) #[true, true, true, true, true, true, true] rfl rfl (by kernel_rfl) (fun _ _ _ h => h) (Or.inl ⟨by rfl, ?_⟩) ?_ ?_
       rotate_left
       ·intro w'
        go_simp
        with_reducible rfl
       rotate_left
       ·simp only [Act.put, List.setIfInBounds_toArray, List.set_cons_zero, List.set_cons_succ, i64_w, i32_w]
        rfl
       refine done_ (by kernel_rfl) ?_
       try go_wp2
       go_loopg [6] k1 (fun kq v6 w' => ∃ (x6_2 : Int), v6 = .int .i64 x6_2 ∧ Aside0 (zq26.l1 kq l1 x5_1 x6_2 l0_0 = some r) ∧ Aside0 (kq ≤ k1) ∧ Aside0 (w'.heap[gb407]? = some (.cells #[(.slice A0_0 l0_0.length c0_0)] 29 (0, 0))) ∧ Aside0 (Below w.heap.size w w'))
       case atStart => exact ⟨(0), (by first | rfl | simp | simp [*]), H', ⟨Nat.le_refl _⟩, ⟨by (with_reducible repeat (first | refine zq4 ?_ _ | refine zq6 ?_ | refine zq5 ?_ _)); exact BK407.out⟩, ⟨by repeat (first | (with_reducible first | exact HB.out | apply zq2 | apply zq0 | apply zq1 | refine zq3 ?_ GE407.out) | exact HB.out)⟩⟩
       case round =>
        clear H'
        obtain ⟨x6_2, rfl, HA, HK2, BK407, HB⟩ := hrel
        cases gk with
        | zero => exact absurd HA.out (by simp [zq26.l1])
        | succ k2 =>
         have H := HA.out
         clear HA
         simp only [zq26.l1] at H
         by_cases c12 : x6_2 < x5_1
         ·rw [if_pos c12] at H
          have c12b0 : decide (x6_2 < x5_1) = true := decide_eq_true c12
          clear c12
          by_cases c13 : 0 ≤ x6_2
          ·rw [if_pos c13] at H
           have c13b0 : decide (0 ≤ x6_2) = true := decide_eq_true c13
           clear c13
           by_cases c14 : x6_2 < (l1.length : Int)
           ·rw [if_pos c14] at H
            have c14b0 : decide (x6_2 < (l1.length : Int)) = true := decide_eq_true c14
            clear c14
            by_cases c15 : 0 ≤ x5_1
            ·rw [if_pos c15] at H
             have c15b0 : decide (0 ≤ x5_1) = true := decide_eq_true c15
             clear c15
             by_cases c16 : x5_1 < (l1.length : Int)
             ·rw [if_pos c16] at H
              have c16b0 : decide (x5_1 < (l1.length : Int)) = true := decide_eq_true c16
              clear c16
              by_cases c17 : (rd l1 x6_2) = (rd l1 x5_1)
              ·rw [if_pos c17] at H
               have c17b0 := beq_iff_eq.mpr c17
               have c17b1 := bne_eq_false_iff_eq.mpr c17
               clear c17
               obtain rfl := Option.some.inj H
               try go_wp2
               have n0_ := Aside0.mk (zq6 BK407.out)
               have n1_ := Aside0.mk (zq1 HB.out)
               clear BK407
               clear HB
               have BK407 := n0_
               have HB := n1_
               clear n0_ n1_
               have p410 : 0 ≤ (x6_2 : Int) := of_decide_eq_true (by assumption)
               have q410 : x6_2 < (l1.length : Int) := of_decide_eq_true (by assumption)
               obtain ⟨ad410, e410, hx410_0⟩ := Kd.at_int HR1.out x6_2 p410 q410
               have hw410_0 := hx410_0
               obtain rfl : ad408 = ad410 := (by injection e410)
               replace hx410_0 := pw_cell_below HB.out hx410_0
               replace p410 := eq_true p410
               replace q410 := eq_true q410
               have p411 : 0 ≤ (x5_1 : Int) := of_decide_eq_true (by assumption)
               have q411 : x5_1 < (l1.length : Int) := of_decide_eq_true (by assumption)
               obtain ⟨ad411, e411, hx411_0⟩ := Kd.at_int HR1.out x5_1 p411 q411
               have hw411_0 := hx411_0
               obtain rfl : ad408 = ad411 := (by injection e411)
               replace hx411_0 := pw_cell_below HB.out hx411_0
               replace p411 := eq_true p411
               replace q411 := eq_true q411
               refine start_ (n := 9) (S := fun w' => w'.cell? (ad408.add (x6_2).toNat) = some (.int .i64 (rd l1 x6_2)) ∧ w'.cell? (ad408.add (x5_1).toNat) = some (.int .i64 (rd l1 x5_1))) (ds := []) #[false, false, false, false, false, false, false, false, false] (by kernel_rfl) rfl rfl ⟨((HB.out.cell (World.block_lt_of_cell? w _ hw410_0)).trans hw410_0), ((HB.out.cell (World.block_lt_of_cell? w _ hw411_0)).trans hw411_0)⟩ (fun hHeld => ?_); refine with_tabW zq26.tab11 zq26.bits11 (fun HT_ HW_ => ?_)
               generalize wr.drew = w18 at BK407 HB hx410_0 hx411_0 hHeld ⊢
               refine pure_ (i := 0) (N := some 28) (v := ?_) (a' := ?_) #[true, false, false, false, false, false, false, false, false] rfl rfl (any_of HT_.out (by kernel_rfl)) (fun _ _ _ h => h) (Or.inl ⟨by rfl, ?_⟩) ?_ ?_
               rotate_left
               ·intro w'
                go_simp
                with_reducible rfl
               rotate_left
               ·simp only [Act.put, List.setIfInBounds_toArray, List.set_cons_zero, List.set_cons_succ, i64_w, i32_w]
                rfl
               refine pure_ (i := 1) (N := some 29) (v := ?_) (a' := ?_) #[true, true, false, false, false, false, false, false, false] rfl rfl (any_of HT_.out (by kernel_rfl)) (fun _ _ _ h => h) (Or.inl ⟨by rfl, ?_⟩) ?_ ?_
               rotate_left
               ·intro w'
                go_simp
                with_reducible rfl
               rotate_left
               ·simp only [Act.put, List.setIfInBounds_toArray, List.set_cons_zero, List.set_cons_succ, i64_w, i32_w]
                rfl
               refine pure_ (i := 2) (N := some 30) (v := ?_) (a' := ?_) #[true, true, true, false, false, false, false, false, false] rfl rfl (any_of HT_.out (by kernel_rfl)) (fun _ _ _ h => h) (Or.inl ⟨by rfl, ?_⟩) ?_ ?_
               rotate_left
               ·intro w'
                go_simp
                with_reducible rfl
               rotate_left
               ·simp only [Act.put, List.setIfInBounds_toArray, List.set_cons_zero, List.set_cons_succ, i64_w, i32_w]
                rfl
               refine pure_ (i := 4) (N := some 32) (v := ?_) (a' := ?_) #[true, true, true, false, true, false, false, false, false] rfl rfl (any_of HT_.out (by kernel_rfl)) (fun _ _ _ h => h) (Or.inl ⟨by rfl, ?_⟩) ?_ ?_
               rotate_left
               ·intro w'
                go_simp
                with_reducible rfl
               rotate_left
               ·simp only [Act.put, List.setIfInBounds_toArray, List.set_cons_zero, List.set_cons_succ, i64_w, i32_w]
                rfl
               refine pure_ (i := 5) (N := some 33) (v := ?_) (a' := ?_) #[true, true, true, false, true, true, false, false, false] rfl rfl (any_of HT_.out (by kernel_rfl)) (fun _ _ _ h => h) (Or.inl ⟨by rfl, ?_⟩) ?_ ?_
               rotate_left
               ·intro w'
                go_simp
                with_reducible rfl
               rotate_left
               ·simp only [Act.put, List.setIfInBounds_toArray, List.set_cons_zero, List.set_cons_succ, i64_w, i32_w]
                rfl
               refine pure_ (i := 6) (N := some 34) (v := ?_) (a' := ?_) #[true, true, true, false, true, true, true, false, false] rfl rfl (any_of HT_.out (by kernel_rfl)) (fun _ _ _ h => h) (Or.inl ⟨by rfl, ?_⟩) ?_ ?_
               rotate_left
               ·intro w'
                go_simp
                with_reducible rfl
               rotate_left
               ·simp only [Act.put, List.setIfInBounds_toArray, List.set_cons_zero, List.set_cons_succ, i64_w, i32_w]
                rfl
               refine take_ (i := 3) (N := some 31) (v := ?_) (a' := ?_) #[true, true, true, true, true, true, true, false, false] rfl rfl (take_ofW HT_.out HW_.out (by kernel_rfl)) (fun _ _ _ h => h) (Or.inl ⟨by rfl, ?_⟩) hHeld ?_ ?_
               rotate_left
               ·rintro w' ⟨s0, s1⟩
                go_simp
                with_reducible rfl
               rotate_left
               ·simp only [Act.put, List.setIfInBounds_toArray, List.set_cons_zero, List.set_cons_succ, i64_w, i32_w]
                rfl
               refine take_ (i := 7) (N := some 35) (v := ?_) (a' := ?_) #[true, true, true, true, true, true, true, true, false] rfl rfl (take_ofW HT_.out HW_.out (by kernel_rfl)) (fun _ _ _ h => h) (Or.inl ⟨by rfl, ?_⟩) hHeld ?_ ?_
               rotate_left
               ·rintro w' ⟨s0, s1⟩
                go_simp
                with_reducible rfl
               rotate_left
               ·simp only [Act.put, List.setIfInBounds_toArray, List.set_cons_zero, List.set_cons_succ, i64_w, i32_w]
                rfl
               refine pure_ (i := 8) (N := some 36) (v := ?_) (a' := ?_) #[true, true, true, true, true, true, true, true, true] rfl rfl (any_of HT_.out (by kernel_rfl)) (fun _ _ _ h => h) (Or.inl ⟨by rfl, ?_⟩) ?_ ?_
               rotate_left
               ·intro w'
                go_simp
                with_reducible rfl
               rotate_left
               ·simp only [Act.put, List.setIfInBounds_toArray, List.set_cons_zero, List.set_cons_succ, i64_w, i32_w]
                rfl
               refine done_ (done_of HT_.out (by kernel_rfl)) ?_
               try go_wp2
               go_ret
               exact ⟨by first | rfl | simp | simp [*], by repeat (first | (with_reducible first | exact HB.out | apply zq2 | apply zq0 | apply zq1 | refine zq3 ?_ GE407.out) | exact HB.out)⟩
              ·rw [if_neg c17] at H
               have c17b0 := beq_eq_false_iff_ne.mpr c17
               have c17b1 := bne_iff_ne.mpr c17
               have H' := Aside0.mk H
               clear H
               try go_wp2
               have n0_ := Aside0.mk (zq6 BK407.out)
               have n1_ := Aside0.mk (zq1 HB.out)
               clear BK407
               clear HB
               have BK407 := n0_
               have HB := n1_
               clear n0_ n1_
               have p410 : 0 ≤ (x6_2 : Int) := of_decide_eq_true (by assumption)
               have q410 : x6_2 < (l1.length : Int) := of_decide_eq_true (by assumption)
               obtain ⟨ad410, e410, hx410_0⟩ := Kd.at_int HR1.out x6_2 p410 q410
               have hw410_0 := hx410_0
               obtain rfl : ad408 = ad410 := (by injection e410)
               replace hx410_0 := pw_cell_below HB.out hx410_0
               replace p410 := eq_true p410
               replace q410 := eq_true q410
               have p411 : 0 ≤ (x5_1 : Int) := of_decide_eq_true (by assumption)
               have q411 : x5_1 < (l1.length : Int) := of_decide_eq_true (by assumption)
               obtain ⟨ad411, e411, hx411_0⟩ := Kd.at_int HR1.out x5_1 p411 q411
               have hw411_0 := hx411_0
               obtain rfl : ad408 = ad411 := (by injection e411)
               replace hx411_0 := pw_cell_below HB.out hx411_0
               replace p411 := eq_true p411
               replace q411 := eq_true q411
               refine start_ (n := 9) (S := fun w' => w'.cell? (ad408.add (x6_2).toNat) = some (.int .i64 (rd l1 x6_2)) ∧ w'.cell? (ad408.add (x5_1).toNat) = some (.int .i64 (rd l1 x5_1))) (ds := []) #[false, false, false, false, false, false, false, false, false] (by kernel_rfl) rfl rfl ⟨((HB.out.cell (World.block_lt_of_cell? w _ hw410_0)).trans hw410_0), ((HB.out.cell (World.block_lt_of_cell? w _ hw411_0)).trans hw411_0)⟩ (fun hHeld => ?_); refine with_tabW zq26.tab11 zq26.bits11 (fun HT_ HW_ => ?_)
               generalize wr.drew = w19 at BK407 HB hx410_0 hx411_0 hHeld ⊢
               refine pure_ (i := 0) (N := some 28) (v := ?_) (a' := ?_) #[true, false, false, false, false, false, false, false, false] rfl rfl (any_of HT_.out (by kernel_rfl)) (fun _ _ _ h => h) (Or.inl ⟨by rfl, ?_⟩) ?_ ?_
               rotate_left
               ·intro w'
                go_simp
                with_reducible rfl
               rotate_left
               ·simp only [Act.put, List.setIfInBounds_toArray, List.set_cons_zero, List.set_cons_succ, i64_w, i32_w]
                rfl
               refine pure_ (i := 1) (N := some 29) (v := ?_) (a' := ?_) #[true, true, false, false, false, false, false, false, false] rfl rfl (any_of HT_.out (by kernel_rfl)) (fun _ _ _ h => h) (Or.inl ⟨by rfl, ?_⟩) ?_ ?_
               rotate_left
               ·intro w'
                go_simp
                with_reducible rfl
               rotate_left
               ·simp only [Act.put, List.setIfInBounds_toArray, List.set_cons_zero, List.set_cons_succ, i64_w, i32_w]
                rfl
               refine pure_ (i := 2) (N := some 30) (v := ?_) (a' := ?_) #[true, true, true, false, false, false, false, false, false] rfl rfl (any_of HT_.out (by kernel_rfl)) (fun _ _ _ h => h) (Or.inl ⟨by rfl, ?_⟩) ?_ ?_
               rotate_left
               ·intro w'
                go_simp
                with_reducible rfl
               rotate_left
               ·simp only [Act.put, List.setIfInBounds_toArray, List.set_cons_zero, List.set_cons_succ, i64_w, i32_w]
                rfl
               refine pure_ (i := 4) (N := some 32) (v := ?_) (a' := ?_) #[true, true, true, false, true, false, false, false, false] rfl rfl (any_of HT_.out (by kernel_rfl)) (fun _ _ _ h => h) (Or.inl ⟨by rfl, ?_⟩) ?_ ?_
               rotate_left
               ·intro w'
                go_simp
                with_reducible rfl
               rotate_left
               ·simp only [Act.put, List.setIfInBounds_toArray, List.set_cons_zero, List.set_cons_succ, i64_w, i32_w]
                rfl
               refine pure_ (i := 5) (N := some 33) (v := ?_) (a' := ?_) #[true, true, true, false, true, true, false, false, false] rfl rfl (any_of HT_.out (by kernel_rfl)) (fun _ _ _ h => h) (Or.inl ⟨by rfl, ?_⟩) ?_ ?_
               rotate_left
               ·intro w'
                go_simp
                with_reducible rfl
               rotate_left
               ·simp only [Act.put, List.setIfInBounds_toArray, List.set_cons_zero, List.set_cons_succ, i64_w, i32_w]
                rfl
               refine pure_ (i := 6) (N := some 34) (v := ?_) (a' := ?_) #[true, true, true, false, true, true, true, false, false] rfl rfl (any_of HT_.out (by kernel_rfl)) (fun _ _ _ h => h) (Or.inl ⟨by rfl, ?_⟩) ?_ ?_
               rotate_left
               ·intro w'
                go_simp
                with_reducible rfl
               rotate_left
               ·simp only [Act.put, List.setIfInBounds_toArray, List.set_cons_zero, List.set_cons_succ, i64_w, i32_w]
                rfl
               refine take_ (i := 3) (N := some 31) (v := ?_) (a' := ?_) #[true, true, true, true, true, true, true, false, false] rfl rfl (take_ofW HT_.out HW_.out (by kernel_rfl)) (fun _ _ _ h => h) (Or.inl ⟨by rfl, ?_⟩) hHeld ?_ ?_
               rotate_left
               ·rintro w' ⟨s0, s1⟩
                go_simp
                with_reducible rfl
               rotate_left
               ·simp only [Act.put, List.setIfInBounds_toArray, List.set_cons_zero, List.set_cons_succ, i64_w, i32_w]
                rfl
               refine take_ (i := 7) (N := some 35) (v := ?_) (a' := ?_) #[true, true, true, true, true, true, true, true, false] rfl rfl (take_ofW HT_.out HW_.out (by kernel_rfl)) (fun _ _ _ h => h) (Or.inl ⟨by rfl, ?_⟩) hHeld ?_ ?_
               rotate_left
               ·rintro w' ⟨s0, s1⟩
                go_simp
                with_reducible rfl
               rotate_left
               ·simp only [Act.put, List.setIfInBounds_toArray, List.set_cons_zero, List.set_cons_succ, i64_w, i32_w]
                rfl
               refine pure_ (i := 8) (N := some 36) (v := ?_) (a' := ?_) #[true, true, true, true, true, true, true, true, true] rfl rfl (any_of HT_.out (by kernel_rfl)) (fun _ _ _ h => h) (Or.inl ⟨by rfl, ?_⟩) ?_ ?_
               rotate_left
               ·intro w'
                go_simp
                with_reducible rfl
               rotate_left
               ·simp only [Act.put, List.setIfInBounds_toArray, List.set_cons_zero, List.set_cons_succ, i64_w, i32_w]
                rfl
               refine done_ (done_of HT_.out (by kernel_rfl)) ?_
               try go_wp2
               go_roundg k2
               case measure => have := HK1.out; have := HK2.out; omega
               case rel => exact ⟨(wrap64 (x6_2 + 1)), (by first | rfl | simp | simp [*]), H', ⟨by have := HK1.out; have := HK2.out; omega⟩, ⟨by (with_reducible repeat (first | refine zq4 ?_ _ | refine zq6 ?_ | refine zq5 ?_ _)); exact BK407.out⟩, ⟨by repeat (first | (with_reducible first | exact HB.out | apply zq2 | apply zq0 | apply zq1 | refine zq3 ?_ GE407.out) | exact HB.out)⟩⟩
             ·rw [if_neg c16] at H
              exact absurd H (by simp)
            ·rw [if_neg c15] at H
             exact absurd H (by simp)
           ·rw [if_neg c14] at H
            exact absurd H (by simp)
          ·rw [if_neg c13] at H
           exact absurd H (by simp)
         ·rw [if_neg c12] at H
          have c12b0 : decide (x6_2 < x5_1) = false := decide_eq_false c12
          clear c12
          have H' := Aside0.mk H
          clear H
          go_wp2
          go_roundg k2
          case measure => have := HK1.out; have := HK2.out; omega
          case rel => exact ⟨(wrap64 (x5_1 + 1)), (by first | rfl | simp | simp [*]), H', ⟨by have := HK1.out; have := HK2.out; omega⟩, ⟨by (with_reducible repeat (first | refine zq4 ?_ _ | refine zq6 ?_ | refine zq5 ?_ _)); exact BK407.out⟩, ⟨by repeat (first | (with_reducible first | exact HB.out | apply zq2 | apply zq0 | apply zq1 | refine zq3 ?_ GE407.out) | exact HB.out)⟩⟩
      ·replace c9 := Bool.eq_false_iff.mpr c9
       subst c9
       rw [if_neg (show ¬ (false = true) by decide)] at H
       obtain rfl := Option.some.inj H
       try go_wp2
       have n0_ := Aside0.mk (zq6 BK407.out)
       have n1_ := Aside0.mk (zq1 HB.out)
       clear BK407
       clear HB
       have BK407 := n0_
       have HB := n1_
       clear n0_ n1_
       have p408 : 0 ≤ (x5_1 : Int) := of_decide_eq_true (by assumption)
       have q408 : x5_1 < (l1.length : Int) := of_decide_eq_true (by assumption)
       obtain ⟨ad408, e408, hx408_0⟩ := Kd.at_int HR1.out x5_1 p408 q408
       have hw408_0 := hx408_0
       cases e408
       replace hx408_0 := pw_cell_below HB.out hx408_0
       replace p408 := eq_true p408
       replace q408 := eq_true q408
       refine start_ (n := 7) (S := fun w' => w'.cell? ⟨gb407, 0, none⟩ = some (.slice A0_0 l0_0.length c0_0) ∧ w'.cell? (ad408.add (x5_1).toNat) = some (.int .i64 (rd l1 x5_1))) (ds := []) #[false, false, false, false, false, false, false] (by kernel_rfl) rfl rfl ⟨(blk_cell BK407.out 0).trans rfl, ((HB.out.cell (World.block_lt_of_cell? w _ hw408_0)).trans hw408_0)⟩ (fun hHeld => ?_)
       generalize wr.drew = w20 at BK407 HB hx408_0 hHeld ⊢
       refine pure_ (i := 1) (N := some 17) (v := ?_) (a' := ?_) #[false, true, false, false, false, false, false] rfl rfl (by kernel_rfl) (fun _ _ _ h => h) (Or.inl ⟨by rfl, ?_⟩) ?_ ?_
       rotate_left
       ·intro w'
        go_simp
        with_reducible rfl
       rotate_left
       ·simp only [Act.put, List.setIfInBounds_toArray, List.set_cons_zero, List.set_cons_succ, i64_w, i32_w]
        rfl
       refine pure_ (i := 2) (N := some 18) (v := ?_) (a' := ?_) #[false, true, true, false, false, false, false] rfl rfl (by kernel_rfl) (fun _ _ _ h => h) (Or.inl ⟨by rfl, ?_⟩) ?_ ?_
       rotate_left
       ·intro w'
        go_simp
        with_reducible rfl
       rotate_left
       ·simp only [Act.put, List.setIfInBounds_toArray, List.set_cons_zero, List.set_cons_succ, i64_w, i32_w]
        rfl
       refine pure_ (i := 3) (N := some 19) (v := ?_) (a' := ?_) #[false, true, true, true, false, false, false] rfl rfl (by kernel_rfl) (fun _ _ _ h => h) (Or.inl ⟨by rfl, ?_⟩) ?_ ?_
       rotate_left
       ·intro w'
        go_simp
        with_reducible rfl
       rotate_left
       ·simp only [Act.put, List.setIfInBounds_toArray, List.set_cons_zero, List.set_cons_succ, i64_w, i32_w]
        rfl
       refine take_ (i := 0) (N := some 16) (v := ?_) (a' := ?_) #[true, true, true, true, false, false, false] rfl rfl (by kernel_rfl) (fun _ _ _ h => h) (Or.inl ⟨by rfl, ?_⟩) hHeld ?_ ?_
       rotate_left
       ·rintro w' ⟨s0, s1⟩
        go_simp
        with_reducible rfl
       rotate_left
       ·simp only [Act.put, List.setIfInBounds_toArray, List.set_cons_zero, List.set_cons_succ, i64_w, i32_w]
        rfl
       refine take_ (i := 4) (N := some 20) (v := ?_) (a' := ?_) #[true, true, true, true, true, false, false] rfl rfl (by kernel_rfl) (fun _ _ _ h => h) (Or.inl ⟨by rfl, ?_⟩) hHeld ?_ ?_
       rotate_left
       ·rintro w' ⟨s0, s1⟩
        go_simp
        with_reducible rfl
       rotate_left
       ·simp only [Act.put, List.setIfInBounds_toArray, List.set_cons_zero, List.set_cons_succ, i64_w, i32_w]
        rfl
       refine one_ (i := 5) (N := some 21) #[true, true, true, true, true, true, false] rfl rfl (by kernel_rfl) (by decide) (fun K hK => ?_)
       refine goes_ Try.func82 (by kernel_rfl) rfl #[.agg #[.slice A0_0 l0_0.length c0_0], .int .i64 (rd l1 x5_1)] (by rfl) rfl rfl (by (try simp only [List.map_toArray, List.map_cons, List.map_nil]); first | done | rfl | (simp only [List.length_drop, List.length_take]; rfl)) ?_
       with_reducible refine (spec_l10Element.calls _ _ l0_0 (rd l1 x5_1) false _ ?side1 ?side2 A8.out).mono ?_
       (case side1 => repeat (first | exact (Kd.C_below HR0_0.out HB.out) | (with_reducible refine Kd.C_alloc ?_ _) | (with_reducible refine Kd.C_drewN ?_ _) | (with_reducible refine Kd.C_drew ?_)))
       (case side2 => exact HC0_0.out)
       rintro e w21 ⟨rfl, hb⟩
       refine ⟨_, rfl, ?_⟩
       have n0_ := Aside0.mk (zq10 (g := gb407) (o := .cells #[.slice A0_0 l0_0.length c0_0] 29 (0, 0)) (by (with_reducible repeat (first | refine zq4 ?_ _ | refine zq6 ?_ | refine zq5 ?_ _)); exact BK407.out) hb)
       have n1_ := Aside0.mk (zq7 (by repeat (with_reducible first | exact HB.out | apply zq2 | apply zq0 | apply zq1 | refine zq3 ?_ GE407.out)) hb)
       clear BK407
       clear HB
       have BK407 := n0_
       have HB := n1_
       clear n0_ n1_
       (try clear hb)
       (try clear hb2)
       (try clear hk)
       (try clear hi)
       refine hK.out _ _ ⟨(blk_cell BK407.out 0).trans rfl, ((HB.out.cell (World.block_lt_of_cell? w _ hw408_0)).trans hw408_0)⟩ (fun hHeld => ?_)
       clear hK K
       refine norm_ (a' := ?_) ?_ ?_
       rotate_left
       ·show Act.put _ (some 21) _ = _
        simp only [Act.put, List.setIfInBounds_toArray, List.set_cons_zero, List.set_cons_succ, i64_w, i32_w]
        rfl
       refine pure_ (i := 6) (N := some 22) (v := ?_) (a' := ?_) #[true, true, true, true, true, true, true] rfl rfl (by kernel_rfl) (fun _ _ _ h => h) (Or.inl ⟨by rfl, ?_⟩) ?_ ?_
       rotate_left
       ·intro w'
        go_simp
        with_reducible rfl
       rotate_left
       ·simp only [Act.put, List.setIfInBounds_toArray, List.set_cons_zero, List.set_cons_succ, i64_w, i32_w]
        rfl
       refine done_ (by kernel_rfl) ?_
       try go_wp2
       go_ret
       exact ⟨by first | rfl | simp | simp [*], by repeat (first | (with_reducible first | exact HB.out | apply zq2 | apply zq0 | apply zq1 | refine zq3 ?_ GE407.out) | exact HB.out)⟩
     ·rw [if_neg c7] at H
      exact absurd H (by simp)
    ·rw [if_neg c6] at H
     have c6b0 : decide (x5_1 < (l1.length : Int)) = false := decide_eq_false c6
     clear c6
     obtain rfl := Option.some.inj H
     go_wp2
     go_ret
     exact ⟨by first | rfl | simp | simp [*], by repeat (first | (with_reducible first | exact HB.out | apply zq2 | apply zq0 | apply zq1 | refine zq3 ?_ GE407.out) | exact HB.out)⟩
/-! ### zq53: function 19 -/
def zq53.f (k : Nat) (l0_0 : List (S64)) (l1 : List Int) : Option (Bool) := (zq11.f k l0_0).bind fun t413 => (if t413 = true then ((zq26.f k l0_0 l1).bind fun t414 => (some t414)) else (some false))
theorem zq53.mono : ∀ a0 a1 k, LeO (zq53.f k a0 a1) (zq53.f (k + 1) a0 a1) := by
 intro a0 a1 k
 unfold zq53.f
 repeat' first
   | (with_reducible exact zq11.mono _ _)
   | (with_reducible exact zq26.mono _ _ _)
   | (with_reducible exact LeO.refl _)
   | (with_reducible exact LeO.none _)
   | (with_reducible refine LeO.ite ?_ ?_)
   | (with_reducible refine LeO.bind ?_ (fun _ => ?_))
set_option maxHeartbeats 8000000 in
set_option maxRecDepth 100000 in
theorem zq53.calls (k : Nat) (A0_0 : Option Addr) (c0_0 : Nat) (l0_0 : List (S64)) (A1 : Option Addr) (c1 : Nat) (l1 : List Int) (r : Bool) (w : World) (hr0_0 : Kd.C k64 w A0_0 l0_0.length l0_0) (hc0_0 : l0_0.length ≤ c0_0) (hr1 : Kd.C (Kd.int .i64) w A1 l1.length l1) (hc1 : l1.length ≤ c1) (h : zq53.f k l0_0 l1 = some r) :
  Calls Try.prog 19 #[.agg #[.slice A0_0 l0_0.length c0_0], .slice A1 l1.length c1] w fun e w' => e = .returned (.bool r) ∧ Below w.heap.size w w' := by
 have hu29 := Try.underlying29
 have HR0_0 := Aside0.mk hr0_0
 have HC0_0 := Aside0.mk hc0_0
 clear hr0_0 hc0_0
 have HR1 := Aside0.mk hr1
 have HC1 := Aside0.mk hc1
 clear hr1 hc1
 have HB := Aside0.mk (Below.refl w.heap.size w)
 have H : ((zq11.f k l0_0).bind fun t413 => (if t413 = true then ((zq26.f k l0_0 l1).bind fun t414 => (some t414)) else (some false))) = some r := h
 clear h
 replace H := Option.bind_eq_some_iff.mp H
 obtain ⟨t413, A30, H⟩ := H
 (try dsimp only at H)
 have A3 := Aside0.mk A30
 clear A30
 by_cases c4 : t413 = true
 ·subst c4
  rw [if_pos rfl] at H
  replace H := Option.bind_eq_some_iff.mp H
  obtain ⟨t414, A50, H⟩ := H
  (try dsimp only at H)
  have A5 := Aside0.mk A50
  clear A50
  obtain rfl := Option.some.inj H
  go_enter Try.func19, Try.ntmps19
  go_wp2_with (first | ((refine gate_dst (N := 2) rfl ?_); refine box_event ?hg (N := 2) ?hd (cs := #[.slice A0_0 l0_0.length c0_0]) (t := 29) ?hr ?_; (case hd => rfl); (case hg => rfl); (case hr => first | (go_simp; done) | (go_simp; rfl)); intro gb412 hg w6 hbox hb; have BK412 := Aside0.mk (hbox); have GW412 := Aside0.mk ((by rw [hg]; exact (below_size (by repeat (with_reducible first | exact HB.out | apply zq2 | apply zq0 | apply zq1))) : w.heap.size ≤ gb412)); replace HB := Aside0.mk (zq7 (by repeat (with_reducible first | exact HB.out | apply zq2 | apply zq0 | apply zq1)) hb); have GE412 := GW412; clear hb hbox hg; obtain ⟨hcz7_0, hfz7_0⟩ := cells1 BK412.out) | ((refine gate_callee (f := 51) rfl ?_); refine goesL_ (some 6) rfl rfl Try.func51 (by kernel_rfl) rfl #[.agg #[.slice A0_0 l0_0.length c0_0]] rfl (by (try simp only [List.map_toArray, List.map_cons, List.map_nil]); first | done | rfl | (simp only [List.length_drop, List.length_take]; rfl)) ?_; (with_reducible refine (zq11.calls k _ _ l0_0 true _ ?side1 ?side2 A3.out).mono ?_); (case side1 => repeat (first | exact (Kd.C_below HR0_0.out HB.out) | (with_reducible refine Kd.C_alloc ?_ _) | (with_reducible refine Kd.C_drewN ?_ _) | (with_reducible refine Kd.C_drew ?_))); (case side2 => exact HC0_0.out); rintro e w8 ⟨rfl, hb⟩; refine ⟨_, rfl, ?_⟩; replace BK412 := Aside0.mk (zq10 (g := gb412) (o := .cells #[.slice A0_0 l0_0.length c0_0] 29 (0, 0)) (by (with_reducible repeat (first | refine zq4 ?_ _ | refine zq6 ?_ | refine zq5 ?_ _)); exact BK412.out) hb); replace HB := Aside0.mk (zq7 (by repeat (with_reducible first | exact HB.out | apply zq2 | apply zq0 | apply zq1 | refine zq3 ?_ GE412.out)) hb); (try clear hb); obtain ⟨hcz9_0, hfz9_0⟩ := cells1 BK412.out) | (go_at_call 55; (with_reducible refine (zq26.calls k _ _ l0_0 _ _ l1 t414 _ ?side1 ?side2 ?side3 ?side4 A5.out).mono ?_); (case side1 => repeat (first | exact (Kd.C_below HR0_0.out HB.out) | (with_reducible refine Kd.C_alloc ?_ _) | (with_reducible refine Kd.C_drewN ?_ _) | (with_reducible refine Kd.C_drew ?_))); (case side2 => exact HC0_0.out); (case side3 => repeat (first | exact (Kd.C_below HR1.out HB.out) | (with_reducible refine Kd.C_alloc ?_ _) | (with_reducible refine Kd.C_drewN ?_ _) | (with_reducible refine Kd.C_drew ?_))); (case side4 => exact HC1.out); rintro e w10 ⟨rfl, hb⟩; replace BK412 := Aside0.mk (zq10 (g := gb412) (o := .cells #[.slice A0_0 l0_0.length c0_0] 29 (0, 0)) (by (with_reducible repeat (first | refine zq4 ?_ _ | refine zq6 ?_ | refine zq5 ?_ _)); exact BK412.out) hb); replace HB := Aside0.mk (zq7 (by repeat (with_reducible first | exact HB.out | apply zq2 | apply zq0 | apply zq1 | refine zq3 ?_ GE412.out)) hb); (try clear hb)))
  go_ret
  exact ⟨by first | rfl | simp | simp [*], by repeat (first | (with_reducible first | exact HB.out | apply zq2 | apply zq0 | apply zq1 | refine zq3 ?_ GE412.out) | exact HB.out)⟩
 ·replace c4 := Bool.eq_false_iff.mpr c4
  subst c4
  rw [if_neg (show ¬ (false = true) by decide)] at H
  obtain rfl := Option.some.inj H
  go_enter Try.func19, Try.ntmps19
  go_wp2_with (first | ((refine gate_dst (N := 2) rfl ?_); refine box_event ?hg (N := 2) ?hd (cs := #[.slice A0_0 l0_0.length c0_0]) (t := 29) ?hr ?_; (case hd => rfl); (case hg => rfl); (case hr => first | (go_simp; done) | (go_simp; rfl)); intro gb412 hg w11 hbox hb; have BK412 := Aside0.mk (hbox); have GW412 := Aside0.mk ((by rw [hg]; exact (below_size (by repeat (with_reducible first | exact HB.out | apply zq2 | apply zq0 | apply zq1))) : w.heap.size ≤ gb412)); replace HB := Aside0.mk (zq7 (by repeat (with_reducible first | exact HB.out | apply zq2 | apply zq0 | apply zq1)) hb); have GE412 := GW412; clear hb hbox hg; obtain ⟨hcz12_0, hfz12_0⟩ := cells1 BK412.out) | ((refine gate_callee (f := 51) rfl ?_); refine goesL_ (some 6) rfl rfl Try.func51 (by kernel_rfl) rfl #[.agg #[.slice A0_0 l0_0.length c0_0]] rfl (by (try simp only [List.map_toArray, List.map_cons, List.map_nil]); first | done | rfl | (simp only [List.length_drop, List.length_take]; rfl)) ?_; (with_reducible refine (zq11.calls k _ _ l0_0 false _ ?side1 ?side2 A3.out).mono ?_); (case side1 => repeat (first | exact (Kd.C_below HR0_0.out HB.out) | (with_reducible refine Kd.C_alloc ?_ _) | (with_reducible refine Kd.C_drewN ?_ _) | (with_reducible refine Kd.C_drew ?_))); (case side2 => exact HC0_0.out); rintro e w13 ⟨rfl, hb⟩; refine ⟨_, rfl, ?_⟩; replace BK412 := Aside0.mk (zq10 (g := gb412) (o := .cells #[.slice A0_0 l0_0.length c0_0] 29 (0, 0)) (by (with_reducible repeat (first | refine zq4 ?_ _ | refine zq6 ?_ | refine zq5 ?_ _)); exact BK412.out) hb); replace HB := Aside0.mk (zq7 (by repeat (with_reducible first | exact HB.out | apply zq2 | apply zq0 | apply zq1 | refine zq3 ?_ GE412.out)) hb); (try clear hb)))
  go_ret
  exact ⟨by first | rfl | simp | simp [*], by repeat (first | (with_reducible first | exact HB.out | apply zq2 | apply zq0 | apply zq1 | refine zq3 ?_ GE412.out) | exact HB.out)⟩
/-! ### zq23: function 21 -/
mutual
def zq23.j0 : Nat → List Int → Bool → List (S64) → Option (Bool)
 | 0, _, _, _ => none
 | k + 1, x1, x14, x417000 => if x14 = true then (some false) else (zq23.l0 k x1 x1 (x1.length : Int) 0 x417000)
def zq23.l0 : Nat → List Int → List Int → Int → Int → List (S64) → Option (Bool)
 | 0, _, _, _, _, _ => none
 | k + 1, x1, x15, x16, x17, x417000 => if x17 < x16 then (if 0 ≤ x17 then (if x17 < (x15.length : Int) then ((zq33.f x417000 (rd x15 x17)).bind fun t419 => (if t419 = true then (if 0 ≤ (rd x15 x17) then (if (rd x15 x17) < (x417000.length : Int) then (if ((rd_T64 x417000 (rd x15 x17)).f0) = 3 then ((zq18.f k x1 (rd x15 x17)).bind fun t421 => (if t421 = x17 then (zq23.l0 k x1 x15 x16 (wrap64 (x17 + 1)) x417000) else (some false))) else (some false)) else (none)) else (none)) else (some false))) else (none)) else (none)) else (some true)
end
def zq23.f (k : Nat) (l0_0 : List (S64)) (l1 : List Int) : Option (Bool) := if (l1.length : Int) > 40 then (zq23.j0 k l1 true l0_0) else ((zq35.f k l0_0).bind fun t417 => (zq23.j0 k l1 (!t417) l0_0))
theorem zq23.mono_l : ∀ k, (∀ y0 y1 y2, LeO (zq23.j0 k y0 y1 y2) (zq23.j0 (k + 1) y0 y1 y2)) ∧ (∀ y0 y1 y2 y3 y4, LeO (zq23.l0 k y0 y1 y2 y3 y4) (zq23.l0 (k + 1) y0 y1 y2 y3 y4))
 | 0 => ⟨fun _ _ _ r h => by simp [zq23.j0] at h, fun _ _ _ _ _ r h => by simp [zq23.l0] at h⟩
 | k + 1 => by
  obtain ⟨ih0, ih1⟩ := zq23.mono_l k
  refine ⟨?_, ?_⟩
  ·intro y0 y1 y2
   unfold zq23.j0
   repeat' first
   | (with_reducible exact ih0 _ _ _)
   | (with_reducible exact ih1 _ _ _ _ _)
   | (with_reducible exact zq35.mono _ _)
   | (with_reducible exact zq18.mono _ _ _)
   | (with_reducible exact LeO.refl _)
   | (with_reducible exact LeO.none _)
   | (with_reducible refine LeO.ite ?_ ?_)
   | (with_reducible refine LeO.bind ?_ (fun _ => ?_))
  ·intro y0 y1 y2 y3 y4
   unfold zq23.l0
   repeat' first
   | (with_reducible exact ih0 _ _ _)
   | (with_reducible exact ih1 _ _ _ _ _)
   | (with_reducible exact zq35.mono _ _)
   | (with_reducible exact zq18.mono _ _ _)
   | (with_reducible exact LeO.refl _)
   | (with_reducible exact LeO.none _)
   | (with_reducible refine LeO.ite ?_ ?_)
   | (with_reducible refine LeO.bind ?_ (fun _ => ?_))
theorem zq23.mono : ∀ a0 a1 k, LeO (zq23.f k a0 a1) (zq23.f (k + 1) a0 a1) := by
 intro a0 a1 k
 obtain ⟨ih0, ih1⟩ := zq23.mono_l k
 unfold zq23.f
 repeat' first
   | (with_reducible exact ih0 _ _ _)
   | (with_reducible exact ih1 _ _ _ _ _)
   | (with_reducible exact zq35.mono _ _)
   | (with_reducible exact zq18.mono _ _ _)
   | (with_reducible exact LeO.refl _)
   | (with_reducible exact LeO.none _)
   | (with_reducible refine LeO.ite ?_ ?_)
   | (with_reducible refine LeO.bind ?_ (fun _ => ?_))
set_option maxHeartbeats 8000000 in
set_option maxRecDepth 100000 in
theorem zq23.calls (k : Nat) (A0_0 : Option Addr) (c0_0 : Nat) (l0_0 : List (S64)) (A1 : Option Addr) (c1 : Nat) (l1 : List Int) (r : Bool) (w : World) (hr0_0 : Kd.C k64 w A0_0 l0_0.length l0_0) (hc0_0 : l0_0.length ≤ c0_0) (hr1 : Kd.C (Kd.int .i64) w A1 l1.length l1) (hc1 : l1.length ≤ c1) (h : zq23.f k l0_0 l1 = some r) :
  Calls Try.prog 21 #[.agg #[.slice A0_0 l0_0.length c0_0], .slice A1 l1.length c1] w fun e w' => e = .returned (.bool r) ∧ Below w.heap.size w w' := by
 have hu29 := Try.underlying29
 have HR0_0 := Aside0.mk hr0_0
 have HC0_0 := Aside0.mk hc0_0
 clear hr0_0 hc0_0
 have HR1 := Aside0.mk hr1
 have HC1 := Aside0.mk hc1
 clear hr1 hc1
 have HB := Aside0.mk (Below.refl w.heap.size w)
 have H : (if (l1.length : Int) > 40 then (zq23.j0 k l1 true l0_0) else ((zq35.f k l0_0).bind fun t417 => (zq23.j0 k l1 (!t417) l0_0))) = some r := h
 clear h
 have HC3 := Aside0.mk H
 clear H
 go_enter Try.func21, Try.ntmps21
 go_upto_region 1 with (first | ((refine gate_dst (N := 2) rfl ?_); refine box_event ?hg (N := 2) ?hd (cs := #[.slice A0_0 l0_0.length c0_0]) (t := 29) ?hr ?_; (case hd => rfl); (case hg => rfl); (case hr => first | (go_simp; done) | (go_simp; rfl)); intro gb416 hg w4 hbox hb; have BK416 := Aside0.mk (hbox); have GW416 := Aside0.mk ((by rw [hg]; exact (below_size (by repeat (with_reducible first | exact HB.out | apply zq2 | apply zq0 | apply zq1))) : w.heap.size ≤ gb416)); replace HB := Aside0.mk (zq7 (by repeat (with_reducible first | exact HB.out | apply zq2 | apply zq0 | apply zq1)) hb); have GE416 := GW416; clear hb hbox hg))
 (try simp only [Act.put, List.setIfInBounds_toArray, List.set_cons_zero, List.set_cons_succ])
 go_cut [14] (fun v14 wc => ∃ (kq : Nat) (x14_2 : Bool), v14 = .bool x14_2 ∧ Aside0 (zq23.j0 kq l1 x14_2 l0_0 = some r) ∧ Aside0 (kq ≤ k) ∧ Aside0 (wc.heap[gb416]? = some (.cells #[(.slice A0_0 l0_0.length c0_0)] 29 (0, 0))) ∧ Aside0 (Below w.heap.size w wc))
 case first =>
  have H := HC3.out
  clear HC3
  by_cases c5 : (l1.length : Int) > 40
  ·rw [if_pos c5] at H
   have c5b0 : decide (40 < (l1.length : Int)) = true := decide_eq_true c5
   have c5b1 : decide (40 < l1.length) = true := decide_eq_true (by omega)
   clear c5
   (first | rw [c5b0] | (simp only [i64_w, i32_w]; rw [c5b0]) | skip)
   have H' := Aside0.mk H
   clear H
   go_wp2
   go_meet
   case rel => exact ⟨_, (true), (by first | rfl | simp | simp [*]), H', ⟨by first | omega | exact Nat.le_refl _⟩, ⟨by (with_reducible repeat (first | refine zq4 ?_ _ | refine zq6 ?_ | refine zq5 ?_ _)); exact BK416.out⟩, ⟨by repeat (first | (with_reducible first | exact HB.out | apply zq2 | apply zq0 | apply zq1 | refine zq3 ?_ GE416.out) | exact HB.out)⟩⟩
  ·rw [if_neg c5] at H
   have c5b0 : decide (40 < (l1.length : Int)) = false := decide_eq_false c5
   have c5b1 : decide (40 < l1.length) = false := decide_eq_false (by omega)
   clear c5
   (first | rw [c5b0] | (simp only [i64_w, i32_w]; rw [c5b0]) | skip)
   replace H := Option.bind_eq_some_iff.mp H
   obtain ⟨t417, A60, H⟩ := H
   (try dsimp only at H)
   have A6 := Aside0.mk A60
   clear A60
   have H' := Aside0.mk H
   clear H
   obtain ⟨hcz7_0, hfz7_0⟩ := cells1 BK416.out
   go_wp2_with (first | (go_at_call 56; (with_reducible refine (zq35.calls k _ _ l0_0 t417 _ ?side1 ?side2 A6.out).mono ?_); (case side1 => repeat (first | exact (Kd.C_below HR0_0.out HB.out) | (with_reducible refine Kd.C_alloc ?_ _) | (with_reducible refine Kd.C_drewN ?_ _) | (with_reducible refine Kd.C_drew ?_))); (case side2 => exact HC0_0.out); rintro e w8 ⟨rfl, hb⟩; replace BK416 := Aside0.mk (zq10 (g := gb416) (o := .cells #[.slice A0_0 l0_0.length c0_0] 29 (0, 0)) (by (with_reducible repeat (first | refine zq4 ?_ _ | refine zq6 ?_ | refine zq5 ?_ _)); exact BK416.out) hb); replace HB := Aside0.mk (zq7 (by repeat (with_reducible first | exact HB.out | apply zq2 | apply zq0 | apply zq1 | refine zq3 ?_ GE416.out)) hb); (try clear hb)))
   go_meet
   case rel => exact ⟨_, (!t417), (by first | rfl | simp | simp [*]), H', ⟨by first | omega | exact Nat.le_refl _⟩, ⟨by (with_reducible repeat (first | refine zq4 ?_ _ | refine zq6 ?_ | refine zq5 ?_ _)); exact BK416.out⟩, ⟨by repeat (first | (with_reducible first | exact HB.out | apply zq2 | apply zq0 | apply zq1 | refine zq3 ?_ GE416.out) | exact HB.out)⟩⟩
 case rest =>
  clear HC3
  obtain ⟨kq, x14_2, rfl, HA, HJ2, BK416, HB⟩ := hcut
  cases kq with
  | zero => exact absurd HA.out (by simp [zq23.j0])
  | succ kj2 =>
   have H := HA.out
   clear HA
   simp only [zq23.j0] at H
   by_cases c9 : x14_2 = true
   ·subst c9
    rw [if_pos rfl] at H
    obtain rfl := Option.some.inj H
    go_wp2
    go_ret
    exact ⟨by first | rfl | simp | simp [*], by repeat (first | (with_reducible first | exact HB.out | apply zq2 | apply zq0 | apply zq1 | refine zq3 ?_ GE416.out) | exact HB.out)⟩
   ·replace c9 := Bool.eq_false_iff.mpr c9
    subst c9
    rw [if_neg (show ¬ (false = true) by decide)] at H
    have H' := Aside0.mk H
    clear H
    go_wp2
    go_loopg [17] kj2 (fun kq v17 w' => ∃ (x17_2 : Int), v17 = .int .i64 x17_2 ∧ Aside0 (zq23.l0 kq l1 l1 (l1.length : Int) x17_2 l0_0 = some r) ∧ Aside0 (kq ≤ kj2) ∧ Aside0 (w'.heap[gb416]? = some (.cells #[(.slice A0_0 l0_0.length c0_0)] 29 (0, 0))) ∧ Aside0 (Below w.heap.size w w'))
    case atStart => exact ⟨(0), (by first | rfl | simp | simp [*]), H', ⟨Nat.le_refl _⟩, ⟨by (with_reducible repeat (first | refine zq4 ?_ _ | refine zq6 ?_ | refine zq5 ?_ _)); exact BK416.out⟩, ⟨by repeat (first | (with_reducible first | exact HB.out | apply zq2 | apply zq0 | apply zq1 | refine zq3 ?_ GE416.out) | exact HB.out)⟩⟩
    case round =>
     clear H'
     obtain ⟨x17_2, rfl, HA, HK2, BK416, HB⟩ := hrel
     cases gk with
     | zero => exact absurd HA.out (by simp [zq23.l0])
     | succ k2 =>
      have H := HA.out
      clear HA
      simp only [zq23.l0] at H
      by_cases c10 : x17_2 < (l1.length : Int)
      ·rw [if_pos c10] at H
       have c10b0 : decide (x17_2 < (l1.length : Int)) = true := decide_eq_true c10
       clear c10
       by_cases c11 : 0 ≤ x17_2
       ·rw [if_pos c11] at H
        have c11b0 : decide (0 ≤ x17_2) = true := decide_eq_true c11
        clear c11
        by_cases c12 : x17_2 < (l1.length : Int)
        ·rw [if_pos c12] at H
         have c12b0 : decide (x17_2 < (l1.length : Int)) = true := decide_eq_true c12
         clear c12
         replace H := Option.bind_eq_some_iff.mp H
         obtain ⟨t419, A130, H⟩ := H
         (try dsimp only at H)
         have A13 := Aside0.mk A130
         clear A130
         by_cases c14 : t419 = true
         ·subst c14
          rw [if_pos rfl] at H
          by_cases c15 : 0 ≤ (rd l1 x17_2)
          ·rw [if_pos c15] at H
           have c15b0 : decide (0 ≤ (rd l1 x17_2)) = true := decide_eq_true c15
           clear c15
           by_cases c16 : (rd l1 x17_2) < (l0_0.length : Int)
           ·rw [if_pos c16] at H
            have c16b0 : decide ((rd l1 x17_2) < (l0_0.length : Int)) = true := decide_eq_true c16
            clear c16
            by_cases c17 : ((rd_T64 l0_0 (rd l1 x17_2)).f0) = 3
            ·rw [if_pos c17] at H
             have c17b0 := beq_iff_eq.mpr c17
             have c17b1 := bne_eq_false_iff_eq.mpr c17
             clear c17
             replace H := Option.bind_eq_some_iff.mp H
             obtain ⟨t421, A180, H⟩ := H
             (try dsimp only at H)
             have A18 := Aside0.mk A180
             clear A180
             by_cases c19 : t421 = x17_2
             ·rw [if_pos c19] at H
              have c19b0 := beq_iff_eq.mpr c19
              have c19b1 := bne_eq_false_iff_eq.mpr c19
              clear c19
              have H' := Aside0.mk H
              clear H
              have p418 : 0 ≤ (x17_2 : Int) := of_decide_eq_true (by assumption)
              have q418 : x17_2 < (l1.length : Int) := of_decide_eq_true (by assumption)
              obtain ⟨ad418, e418, hx418_0⟩ := Kd.at_int HR1.out x17_2 p418 q418
              cases e418
              replace hx418_0 := pw_cell_below HB.out hx418_0
              replace p418 := eq_true p418
              replace q418 := eq_true q418
              go_wp2_with (first | ((refine gate_callee (f := 57) rfl ?_); refine goesL_ (some 23) rfl rfl Try.func57 (by kernel_rfl) rfl #[.pointer (some ⟨gb416, 0, none⟩), .int .i64 (rd l1 x17_2)] rfl (by (try simp only [List.map_toArray, List.map_cons, List.map_nil]); first | done | rfl) ?_; (with_reducible refine (zq33.calls gb416 A0_0 c0_0 l0_0 (rd l1 x17_2) true _ ?side1 ?side2 ?side3 A13.out).mono ?_); (case side1 => exact (by (with_reducible repeat (first | refine zq4 ?_ _ | refine zq6 ?_ | refine zq5 ?_ _)); exact BK416.out)); (case side2 => repeat (first | exact (Kd.C_below HR0_0.out HB.out) | (with_reducible refine Kd.C_alloc ?_ _) | (with_reducible refine Kd.C_drewN ?_ _) | (with_reducible refine Kd.C_drew ?_))); (case side3 => exact HC0_0.out); rintro e w' ⟨rfl, ⟨nd, rfl⟩⟩; refine ⟨_, rfl, ?_⟩; obtain ⟨hcz20_0, hfz20_0⟩ := cells1 BK416.out; have p420 : 0 ≤ ((rd l1 x17_2) : Int) := of_decide_eq_true (by assumption); have q420 : (rd l1 x17_2) < (l0_0.length : Int) := of_decide_eq_true (by assumption); obtain ⟨ad420, A420_2, c420_2, A420_5, c420_5, e420, hx420_0, hx420_1, hx420_2, hx420_3, hx420_4, hx420_5, hl420_2, hi420_2, hl420_5, hi420_5⟩ := at_T64 HR0_0.out (rd l1 x17_2) p420 q420; cases e420; replace hx420_0 := pw_cell_below HB.out hx420_0; replace hx420_1 := pw_cell_below HB.out hx420_1; replace hx420_2 := pw_cell_below HB.out hx420_2; replace hx420_3 := pw_cell_below HB.out hx420_3; replace hx420_4 := pw_cell_below HB.out hx420_4; replace hx420_5 := pw_cell_below HB.out hx420_5; have HR420_2 := Aside0.mk hi420_2; have HC420_2 := Aside0.mk hl420_2; clear hi420_2 hl420_2; have HR420_5 := Aside0.mk hi420_5; have HC420_5 := Aside0.mk hl420_5; clear hi420_5 hl420_5; replace p420 := eq_true p420; replace q420 := eq_true q420) | (go_at_call 58; (with_reducible refine (zq18.calls k2 _ _ l1 (rd l1 x17_2) t421 _ ?side1 ?side2 A18.out).mono ?_); (case side1 => repeat (first | exact (Kd.C_below HR1.out (by repeat (with_reducible first | exact HB.out | apply zq2 | apply zq0 | apply zq1 | refine zq3 ?_ GE416.out))) | (with_reducible refine Kd.C_alloc ?_ _) | (with_reducible refine Kd.C_drewN ?_ _) | (with_reducible refine Kd.C_drew ?_))); (case side2 => exact HC1.out); rintro e w' ⟨rfl, ⟨nd, rfl⟩⟩))
              go_roundg k2
              case measure => have := HJ2.out; have := HK2.out; omega
              case rel => exact ⟨(wrap64 (x17_2 + 1)), (by first | rfl | simp | simp [*]), H', ⟨by have := HJ2.out; have := HK2.out; omega⟩, ⟨by (with_reducible repeat (first | refine zq4 ?_ _ | refine zq6 ?_ | refine zq5 ?_ _)); exact BK416.out⟩, ⟨by repeat (first | (with_reducible first | exact HB.out | apply zq2 | apply zq0 | apply zq1 | refine zq3 ?_ GE416.out) | exact HB.out)⟩⟩
             ·rw [if_neg c19] at H
              have c19b0 := beq_eq_false_iff_ne.mpr c19
              have c19b1 := bne_iff_ne.mpr c19
              obtain rfl := Option.some.inj H
              have p418 : 0 ≤ (x17_2 : Int) := of_decide_eq_true (by assumption)
              have q418 : x17_2 < (l1.length : Int) := of_decide_eq_true (by assumption)
              obtain ⟨ad418, e418, hx418_0⟩ := Kd.at_int HR1.out x17_2 p418 q418
              cases e418
              replace hx418_0 := pw_cell_below HB.out hx418_0
              replace p418 := eq_true p418
              replace q418 := eq_true q418
              go_wp2_with (first | ((refine gate_callee (f := 57) rfl ?_); refine goesL_ (some 23) rfl rfl Try.func57 (by kernel_rfl) rfl #[.pointer (some ⟨gb416, 0, none⟩), .int .i64 (rd l1 x17_2)] rfl (by (try simp only [List.map_toArray, List.map_cons, List.map_nil]); first | done | rfl) ?_; (with_reducible refine (zq33.calls gb416 A0_0 c0_0 l0_0 (rd l1 x17_2) true _ ?side1 ?side2 ?side3 A13.out).mono ?_); (case side1 => exact (by (with_reducible repeat (first | refine zq4 ?_ _ | refine zq6 ?_ | refine zq5 ?_ _)); exact BK416.out)); (case side2 => repeat (first | exact (Kd.C_below HR0_0.out HB.out) | (with_reducible refine Kd.C_alloc ?_ _) | (with_reducible refine Kd.C_drewN ?_ _) | (with_reducible refine Kd.C_drew ?_))); (case side3 => exact HC0_0.out); rintro e w' ⟨rfl, ⟨nd, rfl⟩⟩; refine ⟨_, rfl, ?_⟩; obtain ⟨hcz21_0, hfz21_0⟩ := cells1 BK416.out; have p420 : 0 ≤ ((rd l1 x17_2) : Int) := of_decide_eq_true (by assumption); have q420 : (rd l1 x17_2) < (l0_0.length : Int) := of_decide_eq_true (by assumption); obtain ⟨ad420, A420_2, c420_2, A420_5, c420_5, e420, hx420_0, hx420_1, hx420_2, hx420_3, hx420_4, hx420_5, hl420_2, hi420_2, hl420_5, hi420_5⟩ := at_T64 HR0_0.out (rd l1 x17_2) p420 q420; cases e420; replace hx420_0 := pw_cell_below HB.out hx420_0; replace hx420_1 := pw_cell_below HB.out hx420_1; replace hx420_2 := pw_cell_below HB.out hx420_2; replace hx420_3 := pw_cell_below HB.out hx420_3; replace hx420_4 := pw_cell_below HB.out hx420_4; replace hx420_5 := pw_cell_below HB.out hx420_5; have HR420_2 := Aside0.mk hi420_2; have HC420_2 := Aside0.mk hl420_2; clear hi420_2 hl420_2; have HR420_5 := Aside0.mk hi420_5; have HC420_5 := Aside0.mk hl420_5; clear hi420_5 hl420_5; replace p420 := eq_true p420; replace q420 := eq_true q420) | (go_at_call 58; (with_reducible refine (zq18.calls k2 _ _ l1 (rd l1 x17_2) t421 _ ?side1 ?side2 A18.out).mono ?_); (case side1 => repeat (first | exact (Kd.C_below HR1.out (by repeat (with_reducible first | exact HB.out | apply zq2 | apply zq0 | apply zq1 | refine zq3 ?_ GE416.out))) | (with_reducible refine Kd.C_alloc ?_ _) | (with_reducible refine Kd.C_drewN ?_ _) | (with_reducible refine Kd.C_drew ?_))); (case side2 => exact HC1.out); rintro e w' ⟨rfl, ⟨nd, rfl⟩⟩))
              go_ret
              exact ⟨by first | rfl | simp | simp [*], by repeat (first | (with_reducible first | exact HB.out | apply zq2 | apply zq0 | apply zq1 | refine zq3 ?_ GE416.out) | exact HB.out)⟩
            ·rw [if_neg c17] at H
             have c17b0 := beq_eq_false_iff_ne.mpr c17
             have c17b1 := bne_iff_ne.mpr c17
             obtain rfl := Option.some.inj H
             have p418 : 0 ≤ (x17_2 : Int) := of_decide_eq_true (by assumption)
             have q418 : x17_2 < (l1.length : Int) := of_decide_eq_true (by assumption)
             obtain ⟨ad418, e418, hx418_0⟩ := Kd.at_int HR1.out x17_2 p418 q418
             cases e418
             replace hx418_0 := pw_cell_below HB.out hx418_0
             replace p418 := eq_true p418
             replace q418 := eq_true q418
             go_wp2_with (first | ((refine gate_callee (f := 57) rfl ?_); refine goesL_ (some 23) rfl rfl Try.func57 (by kernel_rfl) rfl #[.pointer (some ⟨gb416, 0, none⟩), .int .i64 (rd l1 x17_2)] rfl (by (try simp only [List.map_toArray, List.map_cons, List.map_nil]); first | done | rfl) ?_; (with_reducible refine (zq33.calls gb416 A0_0 c0_0 l0_0 (rd l1 x17_2) true _ ?side1 ?side2 ?side3 A13.out).mono ?_); (case side1 => exact (by (with_reducible repeat (first | refine zq4 ?_ _ | refine zq6 ?_ | refine zq5 ?_ _)); exact BK416.out)); (case side2 => repeat (first | exact (Kd.C_below HR0_0.out HB.out) | (with_reducible refine Kd.C_alloc ?_ _) | (with_reducible refine Kd.C_drewN ?_ _) | (with_reducible refine Kd.C_drew ?_))); (case side3 => exact HC0_0.out); rintro e w' ⟨rfl, ⟨nd, rfl⟩⟩; refine ⟨_, rfl, ?_⟩; obtain ⟨hcz22_0, hfz22_0⟩ := cells1 BK416.out; have p420 : 0 ≤ ((rd l1 x17_2) : Int) := of_decide_eq_true (by assumption); have q420 : (rd l1 x17_2) < (l0_0.length : Int) := of_decide_eq_true (by assumption); obtain ⟨ad420, A420_2, c420_2, A420_5, c420_5, e420, hx420_0, hx420_1, hx420_2, hx420_3, hx420_4, hx420_5, hl420_2, hi420_2, hl420_5, hi420_5⟩ := at_T64 HR0_0.out (rd l1 x17_2) p420 q420; cases e420; replace hx420_0 := pw_cell_below HB.out hx420_0; replace hx420_1 := pw_cell_below HB.out hx420_1; replace hx420_2 := pw_cell_below HB.out hx420_2; replace hx420_3 := pw_cell_below HB.out hx420_3; replace hx420_4 := pw_cell_below HB.out hx420_4; replace hx420_5 := pw_cell_below HB.out hx420_5; have HR420_2 := Aside0.mk hi420_2; have HC420_2 := Aside0.mk hl420_2; clear hi420_2 hl420_2; have HR420_5 := Aside0.mk hi420_5; have HC420_5 := Aside0.mk hl420_5; clear hi420_5 hl420_5; replace p420 := eq_true p420; replace q420 := eq_true q420))
             go_ret
             exact ⟨by first | rfl | simp | simp [*], by repeat (first | (with_reducible first | exact HB.out | apply zq2 | apply zq0 | apply zq1 | refine zq3 ?_ GE416.out) | exact HB.out)⟩
           ·rw [if_neg c16] at H
            exact absurd H (by simp)
          ·rw [if_neg c15] at H
           exact absurd H (by simp)
         ·replace c14 := Bool.eq_false_iff.mpr c14
          subst c14
          rw [if_neg (show ¬ (false = true) by decide)] at H
          obtain rfl := Option.some.inj H
          have p418 : 0 ≤ (x17_2 : Int) := of_decide_eq_true (by assumption)
          have q418 : x17_2 < (l1.length : Int) := of_decide_eq_true (by assumption)
          obtain ⟨ad418, e418, hx418_0⟩ := Kd.at_int HR1.out x17_2 p418 q418
          cases e418
          replace hx418_0 := pw_cell_below HB.out hx418_0
          replace p418 := eq_true p418
          replace q418 := eq_true q418
          go_wp2_with (first | ((refine gate_callee (f := 57) rfl ?_); refine goesL_ (some 23) rfl rfl Try.func57 (by kernel_rfl) rfl #[.pointer (some ⟨gb416, 0, none⟩), .int .i64 (rd l1 x17_2)] rfl (by (try simp only [List.map_toArray, List.map_cons, List.map_nil]); first | done | rfl) ?_; (with_reducible refine (zq33.calls gb416 A0_0 c0_0 l0_0 (rd l1 x17_2) false _ ?side1 ?side2 ?side3 A13.out).mono ?_); (case side1 => exact (by (with_reducible repeat (first | refine zq4 ?_ _ | refine zq6 ?_ | refine zq5 ?_ _)); exact BK416.out)); (case side2 => repeat (first | exact (Kd.C_below HR0_0.out HB.out) | (with_reducible refine Kd.C_alloc ?_ _) | (with_reducible refine Kd.C_drewN ?_ _) | (with_reducible refine Kd.C_drew ?_))); (case side3 => exact HC0_0.out); rintro e w' ⟨rfl, ⟨nd, rfl⟩⟩; refine ⟨_, rfl, ?_⟩))
          go_ret
          exact ⟨by first | rfl | simp | simp [*], by repeat (first | (with_reducible first | exact HB.out | apply zq2 | apply zq0 | apply zq1 | refine zq3 ?_ GE416.out) | exact HB.out)⟩
        ·rw [if_neg c12] at H
         exact absurd H (by simp)
       ·rw [if_neg c11] at H
        exact absurd H (by simp)
      ·rw [if_neg c10] at H
       have c10b0 : decide (x17_2 < (l1.length : Int)) = false := decide_eq_false c10
       clear c10
       obtain rfl := Option.some.inj H
       go_wp2
       go_ret
       exact ⟨by first | rfl | simp | simp [*], by repeat (first | (with_reducible first | exact HB.out | apply zq2 | apply zq0 | apply zq1 | refine zq3 ?_ GE416.out) | exact HB.out)⟩
end Go.Proofs.Ytpojadoklfdfiaa.G

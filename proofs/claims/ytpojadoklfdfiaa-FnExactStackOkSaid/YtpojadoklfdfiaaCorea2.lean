/- What several laws reach: for each Go function its Lean twin, and that Go's call comes to just what the twin says; no condition but the twin's own answer. -/
import Derived.Test.YtpojadoklfdfiaaCorea0
import Derived.Test.YtpojadoklfdfiaaCorea1

namespace Go.Proofs.Ytpojadoklfdfiaa.G
open Go.RowKit Go.Proofs.Ytpojadoklfdfiaa.B Go.Proofs.YtpojadoklfdfiaaW.PrintWords Go.Proofs.YtpojadoklfdfiaaW.PrintLast Go.Proofs.YtpojadoklfdfiaaW.PrintMore
attribute [local go_sem] max2_int min2_int max_two min_two max_three min_three max_four min_four   -- for this text's walks alone
set_option linter.unusedVariables false
set_option linter.unusedSimpArgs false
/-! ### zq40: function 88 -/
def zq40.j0 : Nat → Bool → Int → ByteArray → List (S106) → ByteArray → Int → List Int → Option (Bool)
 | 0, _, _, _, _, _, _, _ => none
 | k + 1, x32, x328000, x328001, x328002, x328003, x328004, x328005 => if x32 = true then (some false) else (if x328000 = 1 then (if x328001.toList = ([] : List UInt8) then (if x328003.toList = ([] : List UInt8) then (some (x328004 == (-1))) else (some false)) else (some false)) else (if x328000 = 2 then ((impl_doctypeOk.f k x328001).bind fun t329 => (if t329 = true then (some (x328003.toList == ([] : List UInt8))) else (some false))) else (if x328000 = 3 then ((zq28.f k x328001).bind fun t330 => (if t330 = true then ((zq58.f k x328002).bind fun t331 => (if t331 = true then (some (x328003.toList == ([] : List UInt8))) else (some false))) else (some false))) else (if x328000 = 4 then (if x328001.toList = ([] : List UInt8) then (if x328003.toList = ([] : List UInt8) then (some false) else ((zq45.f k x328003).bind fun t332 => (some t332))) else (some false)) else (if x328000 = 5 then (if x328001.toList = ([] : List UInt8) then ((zq45.f k x328003).bind fun t333 => (some t333)) else (some false)) else (some false))))))
def zq40.f (k : Nat) (a0_0 : Int) (a0_1 : ByteArray) (l0_2 : List (S106)) (a0_3 : ByteArray) (a0_4 : Int) (l0_5 : List Int) (a1 : Int) : Option (Bool) := if ((a0_0 == 1) != (a1 == 0)) = true then (zq40.j0 k true a0_0 a0_1 l0_2 a0_3 a0_4 l0_5) else (if (l0_5.length : Int) > 0 then ((impl_Node_mayHold.f a0_0 a0_1 l0_2 a0_3 a0_4 l0_5).bind fun t328 => (if t328 = true then (if a0_0 = 3 then (zq40.j0 k false a0_0 a0_1 l0_2 a0_3 a0_4 l0_5) else (zq40.j0 k (decide ((l0_2.length : Int) > 0)) a0_0 a0_1 l0_2 a0_3 a0_4 l0_5)) else (zq40.j0 k true a0_0 a0_1 l0_2 a0_3 a0_4 l0_5))) else (if a0_0 = 3 then (zq40.j0 k false a0_0 a0_1 l0_2 a0_3 a0_4 l0_5) else (zq40.j0 k (decide ((l0_2.length : Int) > 0)) a0_0 a0_1 l0_2 a0_3 a0_4 l0_5)))
theorem zq40.mono_l : ∀ k, (∀ y0 y1 y2 y3 y4 y5 y6, LeO (zq40.j0 k y0 y1 y2 y3 y4 y5 y6) (zq40.j0 (k + 1) y0 y1 y2 y3 y4 y5 y6))
 | 0 => fun _ _ _ _ _ _ _ r h => by simp [zq40.j0] at h
 | k + 1 => by
  have ih0 := zq40.mono_l k
  ·intro y0 y1 y2 y3 y4 y5 y6
   unfold zq40.j0
   repeat' first
   | (with_reducible exact ih0 _ _ _ _ _ _ _)
   | (with_reducible exact zq58.mono _ _)
   | (with_reducible exact zq28.mono _ _)
   | (with_reducible exact impl_doctypeOk.mono _ _)
   | (with_reducible exact zq45.mono _ _)
   | (with_reducible exact LeO.refl _)
   | (with_reducible exact LeO.none _)
   | (with_reducible refine LeO.ite ?_ ?_)
   | (with_reducible refine LeO.bind ?_ (fun _ => ?_))
theorem zq40.mono : ∀ a0 a1 a2 a3 a4 a5 a6 k, LeO (zq40.f k a0 a1 a2 a3 a4 a5 a6) (zq40.f (k + 1) a0 a1 a2 a3 a4 a5 a6) := by
 intro a0 a1 a2 a3 a4 a5 a6 k
 have ih0 := zq40.mono_l k
 unfold zq40.f
 repeat' first
   | (with_reducible exact ih0 _ _ _ _ _ _ _)
   | (with_reducible exact zq58.mono _ _)
   | (with_reducible exact zq28.mono _ _)
   | (with_reducible exact impl_doctypeOk.mono _ _)
   | (with_reducible exact zq45.mono _ _)
   | (with_reducible exact LeO.refl _)
   | (with_reducible exact LeO.none _)
   | (with_reducible refine LeO.ite ?_ ?_)
   | (with_reducible refine LeO.bind ?_ (fun _ => ?_))
set_option maxHeartbeats 8000000 in
set_option maxRecDepth 100000 in
theorem zq40.calls (k : Nat) (a0_0 : Int) (a0_1 : ByteArray) (A0_2 : Option Addr) (c0_2 : Nat) (l0_2 : List (S106)) (a0_3 : ByteArray) (a0_4 : Int) (A0_5 : Option Addr) (c0_5 : Nat) (l0_5 : List Int) (a1 : Int) (r : Bool) (w : World) (hr0_2 : Kd.C k106 w A0_2 l0_2.length l0_2) (hc0_2 : l0_2.length ≤ c0_2) (hr0_5 : Kd.C (Kd.int .i64) w A0_5 l0_5.length l0_5) (hc0_5 : l0_5.length ≤ c0_5) (h : zq40.f k a0_0 a0_1 l0_2 a0_3 a0_4 l0_5 a1 = some r) :
  Calls Try.prog 88 #[.agg #[.int .i64 a0_0, .string a0_1, .slice A0_2 l0_2.length c0_2, .string a0_3, .int .i64 a0_4, .slice A0_5 l0_5.length c0_5], .int .i64 a1] w fun e w' => e = .returned (.bool r) ∧ Below w.heap.size w w' := by
 have hu64 := Try.underlying64
 have HR0_2 := Aside0.mk hr0_2
 have HC0_2 := Aside0.mk hc0_2
 clear hr0_2 hc0_2
 have HR0_5 := Aside0.mk hr0_5
 have HC0_5 := Aside0.mk hc0_5
 clear hr0_5 hc0_5
 have HB := Aside0.mk (Below.refl w.heap.size w)
 have H : (if ((a0_0 == 1) != (a1 == 0)) = true then (zq40.j0 k true a0_0 a0_1 l0_2 a0_3 a0_4 l0_5) else (if (l0_5.length : Int) > 0 then ((impl_Node_mayHold.f a0_0 a0_1 l0_2 a0_3 a0_4 l0_5).bind fun t328 => (if t328 = true then (if a0_0 = 3 then (zq40.j0 k false a0_0 a0_1 l0_2 a0_3 a0_4 l0_5) else (zq40.j0 k (decide ((l0_2.length : Int) > 0)) a0_0 a0_1 l0_2 a0_3 a0_4 l0_5)) else (zq40.j0 k true a0_0 a0_1 l0_2 a0_3 a0_4 l0_5))) else (if a0_0 = 3 then (zq40.j0 k false a0_0 a0_1 l0_2 a0_3 a0_4 l0_5) else (zq40.j0 k (decide ((l0_2.length : Int) > 0)) a0_0 a0_1 l0_2 a0_3 a0_4 l0_5)))) = some r := h
 clear h
 have HC3 := Aside0.mk H
 clear H
 go_enter Try.func88, Try.ntmps88
 go_upto_region 1 with (first | ((refine gate_dst (N := 2) rfl ?_); (try (refine gate_guard (by rfl) ?_; dsimp only)); refine box_event ?hg (N := 2) ?hd (cs := #[.int .i64 a0_0, .string a0_1, .slice A0_2 l0_2.length c0_2, .string a0_3, .int .i64 a0_4, .slice A0_5 l0_5.length c0_5]) (t := 64) ?hr ?_; (case hd => rfl); (case hg => rfl); (case hr => first | (go_simp; done) | (go_simp; rfl)); intro gb327 hg w4 hbox hb; have BK327 := Aside0.mk (hbox); have GW327 := Aside0.mk ((by rw [hg]; exact (below_size (by repeat (with_reducible first | exact HB.out | apply zq2 | apply zq0 | apply zq1))) : w.heap.size ≤ gb327)); replace HB := Aside0.mk (zq7 (by repeat (with_reducible first | exact HB.out | apply zq2 | apply zq0 | apply zq1)) hb); have GE327 := GW327; clear hb hbox hg))
 (try simp only [Act.put, List.setIfInBounds_toArray, List.set_cons_zero, List.set_cons_succ])
 go_cut [32] (fun v32 wc => ∃ (kq : Nat) (x32_2 : Bool), v32 = .bool x32_2 ∧ Aside0 (zq40.j0 kq x32_2 a0_0 a0_1 l0_2 a0_3 a0_4 l0_5 = some r) ∧ Aside0 (kq ≤ k) ∧ Aside0 (wc.heap[gb327]? = some (.cells #[.int .i64 a0_0, .string a0_1, (.slice A0_2 l0_2.length c0_2), .string a0_3, .int .i64 a0_4, (.slice A0_5 l0_5.length c0_5)] 64 (0, 0))) ∧ Aside0 (Below w.heap.size w wc))
 case first =>
  have H := HC3.out
  clear HC3
  by_cases c5 : ((a0_0 == 1) != (a1 == 0)) = true
  ·rw [if_pos c5] at H
   have c5b0 : ((a0_0 == 1) != (a1 == 0)) = true := c5
   (try (have c5b1 : decide ((a0_0 == 1) = (a1 == 0)) = false := by simpa using c5))
   (try (have c5b2 : ((a0_0 == 1) == (a1 == 0)) = false := by simpa using c5))
   (try (have c5b3 : ¬ ((a0_0 == 1) = (a1 == 0)) := by simpa using c5))
   clear c5
   (first | rw [c5b0] | (simp only [i64_w, i32_w]; rw [c5b0]) | skip)
   have H' := Aside0.mk H
   clear H
   obtain ⟨hcz6_0, hcz6_1, hcz6_2, hcz6_3, hcz6_4, hcz6_5, hfz6_0, hfz6_1, hfz6_2, hfz6_3, hfz6_4, hfz6_5⟩ := cells6 BK327.out
   go_wp2
   go_meet
   case rel => exact ⟨_, (true), (by first | rfl | simp | simp [*]), H', ⟨by first | omega | exact Nat.le_refl _⟩, ⟨by (with_reducible repeat (first | refine zq4 ?_ _ | refine zq6 ?_ | refine zq5 ?_ _)); exact BK327.out⟩, ⟨by repeat (first | (with_reducible first | exact HB.out | apply zq2 | apply zq0 | apply zq1 | refine zq3 ?_ GE327.out) | exact HB.out)⟩⟩
  ·rw [if_neg c5] at H
   have c5b0 : ((a0_0 == 1) != (a1 == 0)) = false := by simpa using c5
   (try (have c5b1 : decide ((a0_0 == 1) = (a1 == 0)) = true := by simpa using c5))
   (try (have c5b2 : ((a0_0 == 1) == (a1 == 0)) = true := by simpa using c5))
   clear c5
   (first | rw [c5b0] | (simp only [i64_w, i32_w]; rw [c5b0]) | skip)
   by_cases c7 : (l0_5.length : Int) > 0
   ·rw [if_pos c7] at H
    have c7b0 : decide (0 < (l0_5.length : Int)) = true := decide_eq_true c7
    have c7b1 : decide (0 < l0_5.length) = true := decide_eq_true (by omega)
    clear c7
    replace H := Option.bind_eq_some_iff.mp H
    obtain ⟨t328, A80, H⟩ := H
    (try dsimp only at H)
    have A8 := Aside0.mk A80
    clear A80
    by_cases c9 : t328 = true
    ·subst c9
     rw [if_pos rfl] at H
     by_cases c10 : a0_0 = 3
     ·rw [if_pos c10] at H
      have c10b0 := beq_iff_eq.mpr c10
      have c10b1 := bne_eq_false_iff_eq.mpr c10
      clear c10
      have H' := Aside0.mk H
      clear H
      obtain ⟨hcz11_0, hcz11_1, hcz11_2, hcz11_3, hcz11_4, hcz11_5, hfz11_0, hfz11_1, hfz11_2, hfz11_3, hfz11_4, hfz11_5⟩ := cells6 BK327.out
      go_wp2_with (first | (go_at_call 112; (with_reducible refine (impl_Node_mayHold.calls a0_0 a0_1 _ _ l0_2 a0_3 a0_4 _ _ l0_5 true _ ?side1 ?side2 ?side3 ?side4 A8.out).mono ?_); (case side1 => repeat (first | exact (Kd.C_below HR0_2.out HB.out) | (with_reducible refine Kd.C_alloc ?_ _) | (with_reducible refine Kd.C_drewN ?_ _) | (with_reducible refine Kd.C_drew ?_))); (case side2 => exact HC0_2.out); (case side3 => repeat (first | exact (Kd.C_below HR0_5.out HB.out) | (with_reducible refine Kd.C_alloc ?_ _) | (with_reducible refine Kd.C_drewN ?_ _) | (with_reducible refine Kd.C_drew ?_))); (case side4 => exact HC0_5.out); rintro e w12 ⟨rfl, hb⟩; replace BK327 := Aside0.mk (zq10 (g := gb327) (o := .cells #[.int .i64 a0_0, .string a0_1, .slice A0_2 l0_2.length c0_2, .string a0_3, .int .i64 a0_4, .slice A0_5 l0_5.length c0_5] 64 (0, 0)) (by (with_reducible repeat (first | refine zq4 ?_ _ | refine zq6 ?_ | refine zq5 ?_ _)); exact BK327.out) hb); replace HB := Aside0.mk (zq7 (by repeat (with_reducible first | exact HB.out | apply zq2 | apply zq0 | apply zq1 | refine zq3 ?_ GE327.out)) hb); (try clear hb); obtain ⟨hcz13_0, hcz13_1, hcz13_2, hcz13_3, hcz13_4, hcz13_5, hfz13_0, hfz13_1, hfz13_2, hfz13_3, hfz13_4, hfz13_5⟩ := cells6 BK327.out))
      go_meet
      case rel => exact ⟨_, (false), (by first | rfl | simp | simp [*]), H', ⟨by first | omega | exact Nat.le_refl _⟩, ⟨by (with_reducible repeat (first | refine zq4 ?_ _ | refine zq6 ?_ | refine zq5 ?_ _)); exact BK327.out⟩, ⟨by repeat (first | (with_reducible first | exact HB.out | apply zq2 | apply zq0 | apply zq1 | refine zq3 ?_ GE327.out) | exact HB.out)⟩⟩
     ·rw [if_neg c10] at H
      have c10b0 := beq_eq_false_iff_ne.mpr c10
      have c10b1 := bne_iff_ne.mpr c10
      have H' := Aside0.mk H
      clear H
      obtain ⟨hcz14_0, hcz14_1, hcz14_2, hcz14_3, hcz14_4, hcz14_5, hfz14_0, hfz14_1, hfz14_2, hfz14_3, hfz14_4, hfz14_5⟩ := cells6 BK327.out
      go_wp2_with (first | (go_at_call 112; (with_reducible refine (impl_Node_mayHold.calls a0_0 a0_1 _ _ l0_2 a0_3 a0_4 _ _ l0_5 true _ ?side1 ?side2 ?side3 ?side4 A8.out).mono ?_); (case side1 => repeat (first | exact (Kd.C_below HR0_2.out HB.out) | (with_reducible refine Kd.C_alloc ?_ _) | (with_reducible refine Kd.C_drewN ?_ _) | (with_reducible refine Kd.C_drew ?_))); (case side2 => exact HC0_2.out); (case side3 => repeat (first | exact (Kd.C_below HR0_5.out HB.out) | (with_reducible refine Kd.C_alloc ?_ _) | (with_reducible refine Kd.C_drewN ?_ _) | (with_reducible refine Kd.C_drew ?_))); (case side4 => exact HC0_5.out); rintro e w15 ⟨rfl, hb⟩; replace BK327 := Aside0.mk (zq10 (g := gb327) (o := .cells #[.int .i64 a0_0, .string a0_1, .slice A0_2 l0_2.length c0_2, .string a0_3, .int .i64 a0_4, .slice A0_5 l0_5.length c0_5] 64 (0, 0)) (by (with_reducible repeat (first | refine zq4 ?_ _ | refine zq6 ?_ | refine zq5 ?_ _)); exact BK327.out) hb); replace HB := Aside0.mk (zq7 (by repeat (with_reducible first | exact HB.out | apply zq2 | apply zq0 | apply zq1 | refine zq3 ?_ GE327.out)) hb); (try clear hb); obtain ⟨hcz16_0, hcz16_1, hcz16_2, hcz16_3, hcz16_4, hcz16_5, hfz16_0, hfz16_1, hfz16_2, hfz16_3, hfz16_4, hfz16_5⟩ := cells6 BK327.out))
      go_meet
      case rel => exact ⟨_, (decide ((l0_2.length : Int) > 0)), (by first | rfl | simp | simp [*]), H', ⟨by first | omega | exact Nat.le_refl _⟩, ⟨by (with_reducible repeat (first | refine zq4 ?_ _ | refine zq6 ?_ | refine zq5 ?_ _)); exact BK327.out⟩, ⟨by repeat (first | (with_reducible first | exact HB.out | apply zq2 | apply zq0 | apply zq1 | refine zq3 ?_ GE327.out) | exact HB.out)⟩⟩
    ·replace c9 := Bool.eq_false_iff.mpr c9
     subst c9
     rw [if_neg (show ¬ (false = true) by decide)] at H
     have H' := Aside0.mk H
     clear H
     obtain ⟨hcz17_0, hcz17_1, hcz17_2, hcz17_3, hcz17_4, hcz17_5, hfz17_0, hfz17_1, hfz17_2, hfz17_3, hfz17_4, hfz17_5⟩ := cells6 BK327.out
     go_wp2_with (first | (go_at_call 112; (with_reducible refine (impl_Node_mayHold.calls a0_0 a0_1 _ _ l0_2 a0_3 a0_4 _ _ l0_5 false _ ?side1 ?side2 ?side3 ?side4 A8.out).mono ?_); (case side1 => repeat (first | exact (Kd.C_below HR0_2.out HB.out) | (with_reducible refine Kd.C_alloc ?_ _) | (with_reducible refine Kd.C_drewN ?_ _) | (with_reducible refine Kd.C_drew ?_))); (case side2 => exact HC0_2.out); (case side3 => repeat (first | exact (Kd.C_below HR0_5.out HB.out) | (with_reducible refine Kd.C_alloc ?_ _) | (with_reducible refine Kd.C_drewN ?_ _) | (with_reducible refine Kd.C_drew ?_))); (case side4 => exact HC0_5.out); rintro e w18 ⟨rfl, hb⟩; replace BK327 := Aside0.mk (zq10 (g := gb327) (o := .cells #[.int .i64 a0_0, .string a0_1, .slice A0_2 l0_2.length c0_2, .string a0_3, .int .i64 a0_4, .slice A0_5 l0_5.length c0_5] 64 (0, 0)) (by (with_reducible repeat (first | refine zq4 ?_ _ | refine zq6 ?_ | refine zq5 ?_ _)); exact BK327.out) hb); replace HB := Aside0.mk (zq7 (by repeat (with_reducible first | exact HB.out | apply zq2 | apply zq0 | apply zq1 | refine zq3 ?_ GE327.out)) hb); (try clear hb)))
     go_meet
     case rel => exact ⟨_, (true), (by first | rfl | simp | simp [*]), H', ⟨by first | omega | exact Nat.le_refl _⟩, ⟨by (with_reducible repeat (first | refine zq4 ?_ _ | refine zq6 ?_ | refine zq5 ?_ _)); exact BK327.out⟩, ⟨by repeat (first | (with_reducible first | exact HB.out | apply zq2 | apply zq0 | apply zq1 | refine zq3 ?_ GE327.out) | exact HB.out)⟩⟩
   ·rw [if_neg c7] at H
    have c7b0 : decide (0 < (l0_5.length : Int)) = false := decide_eq_false c7
    have c7b1 : decide (0 < l0_5.length) = false := decide_eq_false (by omega)
    clear c7
    by_cases c19 : a0_0 = 3
    ·rw [if_pos c19] at H
     have c19b0 := beq_iff_eq.mpr c19
     have c19b1 := bne_eq_false_iff_eq.mpr c19
     clear c19
     have H' := Aside0.mk H
     clear H
     obtain ⟨hcz20_0, hcz20_1, hcz20_2, hcz20_3, hcz20_4, hcz20_5, hfz20_0, hfz20_1, hfz20_2, hfz20_3, hfz20_4, hfz20_5⟩ := cells6 BK327.out
     go_wp2
     go_meet
     case rel => exact ⟨_, (false), (by first | rfl | simp | simp [*]), H', ⟨by first | omega | exact Nat.le_refl _⟩, ⟨by (with_reducible repeat (first | refine zq4 ?_ _ | refine zq6 ?_ | refine zq5 ?_ _)); exact BK327.out⟩, ⟨by repeat (first | (with_reducible first | exact HB.out | apply zq2 | apply zq0 | apply zq1 | refine zq3 ?_ GE327.out) | exact HB.out)⟩⟩
    ·rw [if_neg c19] at H
     have c19b0 := beq_eq_false_iff_ne.mpr c19
     have c19b1 := bne_iff_ne.mpr c19
     have H' := Aside0.mk H
     clear H
     obtain ⟨hcz21_0, hcz21_1, hcz21_2, hcz21_3, hcz21_4, hcz21_5, hfz21_0, hfz21_1, hfz21_2, hfz21_3, hfz21_4, hfz21_5⟩ := cells6 BK327.out
     go_wp2
     go_meet
     case rel => exact ⟨_, (decide ((l0_2.length : Int) > 0)), (by first | rfl | simp | simp [*]), H', ⟨by first | omega | exact Nat.le_refl _⟩, ⟨by (with_reducible repeat (first | refine zq4 ?_ _ | refine zq6 ?_ | refine zq5 ?_ _)); exact BK327.out⟩, ⟨by repeat (first | (with_reducible first | exact HB.out | apply zq2 | apply zq0 | apply zq1 | refine zq3 ?_ GE327.out) | exact HB.out)⟩⟩
 case rest =>
  clear HC3
  obtain ⟨kq, x32_2, rfl, HA, HJ2, BK327, HB⟩ := hcut
  cases kq with
  | zero => exact absurd HA.out (by simp [zq40.j0])
  | succ kj2 =>
   have H := HA.out
   clear HA
   simp only [zq40.j0] at H
   by_cases c22 : x32_2 = true
   ·subst c22
    rw [if_pos rfl] at H
    obtain rfl := Option.some.inj H
    go_wp2
    go_ret
    exact ⟨by first | rfl | simp | simp [*], by repeat (first | (with_reducible first | exact HB.out | apply zq2 | apply zq0 | apply zq1 | refine zq3 ?_ GE327.out) | exact HB.out)⟩
   ·replace c22 := Bool.eq_false_iff.mpr c22
    subst c22
    rw [if_neg (show ¬ (false = true) by decide)] at H
    by_cases c23 : a0_0 = 1
    ·rw [if_pos c23] at H
     have c23b0 := beq_iff_eq.mpr c23
     have c23b1 := bne_eq_false_iff_eq.mpr c23
     (try (have c23x0 : (a1 == 0) = true := by (have h_ := c5b0; rw [c23b0] at h_; simpa using h_)))
     (try (have c23x1 : (a1 == 0) = false := by (have h_ := c5b0; rw [c23b0] at h_; simpa using h_)))
     (try (have c23x2 : (a1 == 0) = true := by (have h_ := c5b0; rw [c23b0] at h_; simpa using h_)))
     (try (have c23x3 : (a1 == 0) = false := by (have h_ := c5b0; rw [c23b0] at h_; simpa using h_)))
     clear c23
     by_cases c24 : a0_1.toList = ([] : List UInt8)
     ·rw [if_pos c24] at H
      have c24b0 := beq_iff_eq.mpr c24
      have c24b1 := bne_eq_false_iff_eq.mpr c24
      clear c24
      by_cases c25 : a0_3.toList = ([] : List UInt8)
      ·rw [if_pos c25] at H
       have c25b0 := beq_iff_eq.mpr c25
       have c25b1 := bne_eq_false_iff_eq.mpr c25
       clear c25
       obtain rfl := Option.some.inj H
       obtain ⟨hcz26_0, hcz26_1, hcz26_2, hcz26_3, hcz26_4, hcz26_5, hfz26_0, hfz26_1, hfz26_2, hfz26_3, hfz26_4, hfz26_5⟩ := cells6 BK327.out
       go_wp2
       go_ret
       exact ⟨by first | rfl | simp | simp [*], by repeat (first | (with_reducible first | exact HB.out | apply zq2 | apply zq0 | apply zq1 | refine zq3 ?_ GE327.out) | exact HB.out)⟩
      ·rw [if_neg c25] at H
       have c25b0 := beq_eq_false_iff_ne.mpr c25
       have c25b1 := bne_iff_ne.mpr c25
       obtain rfl := Option.some.inj H
       obtain ⟨hcz27_0, hcz27_1, hcz27_2, hcz27_3, hcz27_4, hcz27_5, hfz27_0, hfz27_1, hfz27_2, hfz27_3, hfz27_4, hfz27_5⟩ := cells6 BK327.out
       go_wp2
       go_ret
       exact ⟨by first | rfl | simp | simp [*], by repeat (first | (with_reducible first | exact HB.out | apply zq2 | apply zq0 | apply zq1 | refine zq3 ?_ GE327.out) | exact HB.out)⟩
     ·rw [if_neg c24] at H
      have c24b0 := beq_eq_false_iff_ne.mpr c24
      have c24b1 := bne_iff_ne.mpr c24
      obtain rfl := Option.some.inj H
      obtain ⟨hcz28_0, hcz28_1, hcz28_2, hcz28_3, hcz28_4, hcz28_5, hfz28_0, hfz28_1, hfz28_2, hfz28_3, hfz28_4, hfz28_5⟩ := cells6 BK327.out
      go_wp2
      go_ret
      exact ⟨by first | rfl | simp | simp [*], by repeat (first | (with_reducible first | exact HB.out | apply zq2 | apply zq0 | apply zq1 | refine zq3 ?_ GE327.out) | exact HB.out)⟩
    ·rw [if_neg c23] at H
     have c23b0 := beq_eq_false_iff_ne.mpr c23
     have c23b1 := bne_iff_ne.mpr c23
     (try (have c23x0 : (a1 == 0) = true := by (have h_ := c5b0; rw [c23b0] at h_; simpa using h_)))
     (try (have c23x1 : (a1 == 0) = false := by (have h_ := c5b0; rw [c23b0] at h_; simpa using h_)))
     (try (have c23x2 : (a1 == 0) = true := by (have h_ := c5b0; rw [c23b0] at h_; simpa using h_)))
     (try (have c23x3 : (a1 == 0) = false := by (have h_ := c5b0; rw [c23b0] at h_; simpa using h_)))
     by_cases c29 : a0_0 = 2
     ·rw [if_pos c29] at H
      have c29b0 := beq_iff_eq.mpr c29
      have c29b1 := bne_eq_false_iff_eq.mpr c29
      clear c29
      replace H := Option.bind_eq_some_iff.mp H
      obtain ⟨t329, A300, H⟩ := H
      (try dsimp only at H)
      have A30 := Aside0.mk A300
      clear A300
      by_cases c31 : t329 = true
      ·subst c31
       rw [if_pos rfl] at H
       obtain rfl := Option.some.inj H
       obtain ⟨hcz32_0, hcz32_1, hcz32_2, hcz32_3, hcz32_4, hcz32_5, hfz32_0, hfz32_1, hfz32_2, hfz32_3, hfz32_4, hfz32_5⟩ := cells6 BK327.out
       go_wp2_with (first | ((refine gate_callee (f := 113) rfl ?_); refine goesL_ (some 54) rfl rfl Try.func113 (by kernel_rfl) rfl #[.string a0_1] rfl (by (try simp only [List.map_toArray, List.map_cons, List.map_nil]); first | done | rfl) ?_; (with_reducible refine (impl_doctypeOk.calls kj2 a0_1 true _ A30.out).mono ?_); rintro e w33 ⟨rfl, hb⟩; refine ⟨_, rfl, ?_⟩; replace BK327 := Aside0.mk (zq10 (g := gb327) (o := .cells #[.int .i64 a0_0, .string a0_1, .slice A0_2 l0_2.length c0_2, .string a0_3, .int .i64 a0_4, .slice A0_5 l0_5.length c0_5] 64 (0, 0)) (by (with_reducible repeat (first | refine zq4 ?_ _ | refine zq6 ?_ | refine zq5 ?_ _)); exact BK327.out) hb); replace HB := Aside0.mk (zq7 (by repeat (with_reducible first | exact HB.out | apply zq2 | apply zq0 | apply zq1 | refine zq3 ?_ GE327.out)) hb); (try clear hb); obtain ⟨hcz34_0, hcz34_1, hcz34_2, hcz34_3, hcz34_4, hcz34_5, hfz34_0, hfz34_1, hfz34_2, hfz34_3, hfz34_4, hfz34_5⟩ := cells6 BK327.out))
       go_ret
       exact ⟨by first | rfl | simp | simp [*], by repeat (first | (with_reducible first | exact HB.out | apply zq2 | apply zq0 | apply zq1 | refine zq3 ?_ GE327.out) | exact HB.out)⟩
      ·replace c31 := Bool.eq_false_iff.mpr c31
       subst c31
       rw [if_neg (show ¬ (false = true) by decide)] at H
       obtain rfl := Option.some.inj H
       obtain ⟨hcz35_0, hcz35_1, hcz35_2, hcz35_3, hcz35_4, hcz35_5, hfz35_0, hfz35_1, hfz35_2, hfz35_3, hfz35_4, hfz35_5⟩ := cells6 BK327.out
       go_wp2_with (first | ((refine gate_callee (f := 113) rfl ?_); refine goesL_ (some 54) rfl rfl Try.func113 (by kernel_rfl) rfl #[.string a0_1] rfl (by (try simp only [List.map_toArray, List.map_cons, List.map_nil]); first | done | rfl) ?_; (with_reducible refine (impl_doctypeOk.calls kj2 a0_1 false _ A30.out).mono ?_); rintro e w36 ⟨rfl, hb⟩; refine ⟨_, rfl, ?_⟩; replace BK327 := Aside0.mk (zq10 (g := gb327) (o := .cells #[.int .i64 a0_0, .string a0_1, .slice A0_2 l0_2.length c0_2, .string a0_3, .int .i64 a0_4, .slice A0_5 l0_5.length c0_5] 64 (0, 0)) (by (with_reducible repeat (first | refine zq4 ?_ _ | refine zq6 ?_ | refine zq5 ?_ _)); exact BK327.out) hb); replace HB := Aside0.mk (zq7 (by repeat (with_reducible first | exact HB.out | apply zq2 | apply zq0 | apply zq1 | refine zq3 ?_ GE327.out)) hb); (try clear hb)))
       go_ret
       exact ⟨by first | rfl | simp | simp [*], by repeat (first | (with_reducible first | exact HB.out | apply zq2 | apply zq0 | apply zq1 | refine zq3 ?_ GE327.out) | exact HB.out)⟩
     ·rw [if_neg c29] at H
      have c29b0 := beq_eq_false_iff_ne.mpr c29
      have c29b1 := bne_iff_ne.mpr c29
      by_cases c37 : a0_0 = 3
      ·rw [if_pos c37] at H
       have c37b0 := beq_iff_eq.mpr c37
       have c37b1 := bne_eq_false_iff_eq.mpr c37
       clear c37
       replace H := Option.bind_eq_some_iff.mp H
       obtain ⟨t330, A380, H⟩ := H
       (try dsimp only at H)
       have A38 := Aside0.mk A380
       clear A380
       by_cases c39 : t330 = true
       ·subst c39
        rw [if_pos rfl] at H
        replace H := Option.bind_eq_some_iff.mp H
        obtain ⟨t331, A400, H⟩ := H
        (try dsimp only at H)
        have A40 := Aside0.mk A400
        clear A400
        by_cases c41 : t331 = true
        ·subst c41
         rw [if_pos rfl] at H
         obtain rfl := Option.some.inj H
         obtain ⟨hcz42_0, hcz42_1, hcz42_2, hcz42_3, hcz42_4, hcz42_5, hfz42_0, hfz42_1, hfz42_2, hfz42_3, hfz42_4, hfz42_5⟩ := cells6 BK327.out
         go_wp2_with (first | ((refine gate_callee (f := 114) rfl ?_); refine goesL_ (some 64) rfl rfl Try.func114 (by kernel_rfl) rfl #[.string a0_1] rfl (by (try simp only [List.map_toArray, List.map_cons, List.map_nil]); first | done | rfl) ?_; (with_reducible refine (zq28.calls kj2 a0_1 true _ A38.out).mono ?_); rintro e w43 ⟨rfl, hb⟩; refine ⟨_, rfl, ?_⟩; replace BK327 := Aside0.mk (zq10 (g := gb327) (o := .cells #[.int .i64 a0_0, .string a0_1, .slice A0_2 l0_2.length c0_2, .string a0_3, .int .i64 a0_4, .slice A0_5 l0_5.length c0_5] 64 (0, 0)) (by (with_reducible repeat (first | refine zq4 ?_ _ | refine zq6 ?_ | refine zq5 ?_ _)); exact BK327.out) hb); replace HB := Aside0.mk (zq7 (by repeat (with_reducible first | exact HB.out | apply zq2 | apply zq0 | apply zq1 | refine zq3 ?_ GE327.out)) hb); (try clear hb); obtain ⟨hcz44_0, hcz44_1, hcz44_2, hcz44_3, hcz44_4, hcz44_5, hfz44_0, hfz44_1, hfz44_2, hfz44_3, hfz44_4, hfz44_5⟩ := cells6 BK327.out) | (go_at_call 115; (with_reducible refine (zq58.calls kj2 _ _ l0_2 true _ ?side1 ?side2 A40.out).mono ?_); (case side1 => repeat (first | exact (Kd.C_below HR0_2.out HB.out) | (with_reducible refine Kd.C_alloc ?_ _) | (with_reducible refine Kd.C_drewN ?_ _) | (with_reducible refine Kd.C_drew ?_))); (case side2 => exact HC0_2.out); rintro e w45 ⟨rfl, hb⟩; replace BK327 := Aside0.mk (zq10 (g := gb327) (o := .cells #[.int .i64 a0_0, .string a0_1, .slice A0_2 l0_2.length c0_2, .string a0_3, .int .i64 a0_4, .slice A0_5 l0_5.length c0_5] 64 (0, 0)) (by (with_reducible repeat (first | refine zq4 ?_ _ | refine zq6 ?_ | refine zq5 ?_ _)); exact BK327.out) hb); replace HB := Aside0.mk (zq7 (by repeat (with_reducible first | exact HB.out | apply zq2 | apply zq0 | apply zq1 | refine zq3 ?_ GE327.out)) hb); (try clear hb); obtain ⟨hcz46_0, hcz46_1, hcz46_2, hcz46_3, hcz46_4, hcz46_5, hfz46_0, hfz46_1, hfz46_2, hfz46_3, hfz46_4, hfz46_5⟩ := cells6 BK327.out))
         go_ret
         exact ⟨by first | rfl | simp | simp [*], by repeat (first | (with_reducible first | exact HB.out | apply zq2 | apply zq0 | apply zq1 | refine zq3 ?_ GE327.out) | exact HB.out)⟩
        ·replace c41 := Bool.eq_false_iff.mpr c41
         subst c41
         rw [if_neg (show ¬ (false = true) by decide)] at H
         obtain rfl := Option.some.inj H
         obtain ⟨hcz47_0, hcz47_1, hcz47_2, hcz47_3, hcz47_4, hcz47_5, hfz47_0, hfz47_1, hfz47_2, hfz47_3, hfz47_4, hfz47_5⟩ := cells6 BK327.out
         go_wp2_with (first | ((refine gate_callee (f := 114) rfl ?_); refine goesL_ (some 64) rfl rfl Try.func114 (by kernel_rfl) rfl #[.string a0_1] rfl (by (try simp only [List.map_toArray, List.map_cons, List.map_nil]); first | done | rfl) ?_; (with_reducible refine (zq28.calls kj2 a0_1 true _ A38.out).mono ?_); rintro e w48 ⟨rfl, hb⟩; refine ⟨_, rfl, ?_⟩; replace BK327 := Aside0.mk (zq10 (g := gb327) (o := .cells #[.int .i64 a0_0, .string a0_1, .slice A0_2 l0_2.length c0_2, .string a0_3, .int .i64 a0_4, .slice A0_5 l0_5.length c0_5] 64 (0, 0)) (by (with_reducible repeat (first | refine zq4 ?_ _ | refine zq6 ?_ | refine zq5 ?_ _)); exact BK327.out) hb); replace HB := Aside0.mk (zq7 (by repeat (with_reducible first | exact HB.out | apply zq2 | apply zq0 | apply zq1 | refine zq3 ?_ GE327.out)) hb); (try clear hb); obtain ⟨hcz49_0, hcz49_1, hcz49_2, hcz49_3, hcz49_4, hcz49_5, hfz49_0, hfz49_1, hfz49_2, hfz49_3, hfz49_4, hfz49_5⟩ := cells6 BK327.out) | (go_at_call 115; (with_reducible refine (zq58.calls kj2 _ _ l0_2 false _ ?side1 ?side2 A40.out).mono ?_); (case side1 => repeat (first | exact (Kd.C_below HR0_2.out HB.out) | (with_reducible refine Kd.C_alloc ?_ _) | (with_reducible refine Kd.C_drewN ?_ _) | (with_reducible refine Kd.C_drew ?_))); (case side2 => exact HC0_2.out); rintro e w50 ⟨rfl, hb⟩; replace BK327 := Aside0.mk (zq10 (g := gb327) (o := .cells #[.int .i64 a0_0, .string a0_1, .slice A0_2 l0_2.length c0_2, .string a0_3, .int .i64 a0_4, .slice A0_5 l0_5.length c0_5] 64 (0, 0)) (by (with_reducible repeat (first | refine zq4 ?_ _ | refine zq6 ?_ | refine zq5 ?_ _)); exact BK327.out) hb); replace HB := Aside0.mk (zq7 (by repeat (with_reducible first | exact HB.out | apply zq2 | apply zq0 | apply zq1 | refine zq3 ?_ GE327.out)) hb); (try clear hb)))
         go_ret
         exact ⟨by first | rfl | simp | simp [*], by repeat (first | (with_reducible first | exact HB.out | apply zq2 | apply zq0 | apply zq1 | refine zq3 ?_ GE327.out) | exact HB.out)⟩
       ·replace c39 := Bool.eq_false_iff.mpr c39
        subst c39
        rw [if_neg (show ¬ (false = true) by decide)] at H
        obtain rfl := Option.some.inj H
        obtain ⟨hcz51_0, hcz51_1, hcz51_2, hcz51_3, hcz51_4, hcz51_5, hfz51_0, hfz51_1, hfz51_2, hfz51_3, hfz51_4, hfz51_5⟩ := cells6 BK327.out
        go_wp2_with (first | ((refine gate_callee (f := 114) rfl ?_); refine goesL_ (some 64) rfl rfl Try.func114 (by kernel_rfl) rfl #[.string a0_1] rfl (by (try simp only [List.map_toArray, List.map_cons, List.map_nil]); first | done | rfl) ?_; (with_reducible refine (zq28.calls kj2 a0_1 false _ A38.out).mono ?_); rintro e w52 ⟨rfl, hb⟩; refine ⟨_, rfl, ?_⟩; replace BK327 := Aside0.mk (zq10 (g := gb327) (o := .cells #[.int .i64 a0_0, .string a0_1, .slice A0_2 l0_2.length c0_2, .string a0_3, .int .i64 a0_4, .slice A0_5 l0_5.length c0_5] 64 (0, 0)) (by (with_reducible repeat (first | refine zq4 ?_ _ | refine zq6 ?_ | refine zq5 ?_ _)); exact BK327.out) hb); replace HB := Aside0.mk (zq7 (by repeat (with_reducible first | exact HB.out | apply zq2 | apply zq0 | apply zq1 | refine zq3 ?_ GE327.out)) hb); (try clear hb)))
        go_ret
        exact ⟨by first | rfl | simp | simp [*], by repeat (first | (with_reducible first | exact HB.out | apply zq2 | apply zq0 | apply zq1 | refine zq3 ?_ GE327.out) | exact HB.out)⟩
      ·rw [if_neg c37] at H
       have c37b0 := beq_eq_false_iff_ne.mpr c37
       have c37b1 := bne_iff_ne.mpr c37
       by_cases c53 : a0_0 = 4
       ·rw [if_pos c53] at H
        have c53b0 := beq_iff_eq.mpr c53
        have c53b1 := bne_eq_false_iff_eq.mpr c53
        clear c53
        by_cases c54 : a0_1.toList = ([] : List UInt8)
        ·rw [if_pos c54] at H
         have c54b0 := beq_iff_eq.mpr c54
         have c54b1 := bne_eq_false_iff_eq.mpr c54
         clear c54
         by_cases c55 : a0_3.toList = ([] : List UInt8)
         ·rw [if_pos c55] at H
          have c55b0 := beq_iff_eq.mpr c55
          have c55b1 := bne_eq_false_iff_eq.mpr c55
          clear c55
          obtain rfl := Option.some.inj H
          obtain ⟨hcz56_0, hcz56_1, hcz56_2, hcz56_3, hcz56_4, hcz56_5, hfz56_0, hfz56_1, hfz56_2, hfz56_3, hfz56_4, hfz56_5⟩ := cells6 BK327.out
          go_wp2
          go_ret
          exact ⟨by first | rfl | simp | simp [*], by repeat (first | (with_reducible first | exact HB.out | apply zq2 | apply zq0 | apply zq1 | refine zq3 ?_ GE327.out) | exact HB.out)⟩
         ·rw [if_neg c55] at H
          have c55b0 := beq_eq_false_iff_ne.mpr c55
          have c55b1 := bne_iff_ne.mpr c55
          replace H := Option.bind_eq_some_iff.mp H
          obtain ⟨t332, A570, H⟩ := H
          (try dsimp only at H)
          have A57 := Aside0.mk A570
          clear A570
          obtain rfl := Option.some.inj H
          obtain ⟨hcz58_0, hcz58_1, hcz58_2, hcz58_3, hcz58_4, hcz58_5, hfz58_0, hfz58_1, hfz58_2, hfz58_3, hfz58_4, hfz58_5⟩ := cells6 BK327.out
          go_wp2_with (first | (go_at_call 116; (with_reducible refine (zq45.calls kj2 a0_3 t332 _ A57.out).mono ?_); rintro e w59 ⟨rfl, hb⟩; replace BK327 := Aside0.mk (zq10 (g := gb327) (o := .cells #[.int .i64 a0_0, .string a0_1, .slice A0_2 l0_2.length c0_2, .string a0_3, .int .i64 a0_4, .slice A0_5 l0_5.length c0_5] 64 (0, 0)) (by (with_reducible repeat (first | refine zq4 ?_ _ | refine zq6 ?_ | refine zq5 ?_ _)); exact BK327.out) hb); replace HB := Aside0.mk (zq7 (by repeat (with_reducible first | exact HB.out | apply zq2 | apply zq0 | apply zq1 | refine zq3 ?_ GE327.out)) hb); (try clear hb)))
          go_ret
          exact ⟨by first | rfl | simp | simp [*], by repeat (first | (with_reducible first | exact HB.out | apply zq2 | apply zq0 | apply zq1 | refine zq3 ?_ GE327.out) | exact HB.out)⟩
        ·rw [if_neg c54] at H
         have c54b0 := beq_eq_false_iff_ne.mpr c54
         have c54b1 := bne_iff_ne.mpr c54
         obtain rfl := Option.some.inj H
         obtain ⟨hcz60_0, hcz60_1, hcz60_2, hcz60_3, hcz60_4, hcz60_5, hfz60_0, hfz60_1, hfz60_2, hfz60_3, hfz60_4, hfz60_5⟩ := cells6 BK327.out
         go_wp2
         go_ret
         exact ⟨by first | rfl | simp | simp [*], by repeat (first | (with_reducible first | exact HB.out | apply zq2 | apply zq0 | apply zq1 | refine zq3 ?_ GE327.out) | exact HB.out)⟩
       ·rw [if_neg c53] at H
        have c53b0 := beq_eq_false_iff_ne.mpr c53
        have c53b1 := bne_iff_ne.mpr c53
        by_cases c61 : a0_0 = 5
        ·rw [if_pos c61] at H
         have c61b0 := beq_iff_eq.mpr c61
         have c61b1 := bne_eq_false_iff_eq.mpr c61
         clear c61
         by_cases c62 : a0_1.toList = ([] : List UInt8)
         ·rw [if_pos c62] at H
          have c62b0 := beq_iff_eq.mpr c62
          have c62b1 := bne_eq_false_iff_eq.mpr c62
          clear c62
          replace H := Option.bind_eq_some_iff.mp H
          obtain ⟨t333, A630, H⟩ := H
          (try dsimp only at H)
          have A63 := Aside0.mk A630
          clear A630
          obtain rfl := Option.some.inj H
          obtain ⟨hcz64_0, hcz64_1, hcz64_2, hcz64_3, hcz64_4, hcz64_5, hfz64_0, hfz64_1, hfz64_2, hfz64_3, hfz64_4, hfz64_5⟩ := cells6 BK327.out
          go_wp2_with (first | (go_at_call 116; (with_reducible refine (zq45.calls kj2 a0_3 t333 _ A63.out).mono ?_); rintro e w65 ⟨rfl, hb⟩; replace BK327 := Aside0.mk (zq10 (g := gb327) (o := .cells #[.int .i64 a0_0, .string a0_1, .slice A0_2 l0_2.length c0_2, .string a0_3, .int .i64 a0_4, .slice A0_5 l0_5.length c0_5] 64 (0, 0)) (by (with_reducible repeat (first | refine zq4 ?_ _ | refine zq6 ?_ | refine zq5 ?_ _)); exact BK327.out) hb); replace HB := Aside0.mk (zq7 (by repeat (with_reducible first | exact HB.out | apply zq2 | apply zq0 | apply zq1 | refine zq3 ?_ GE327.out)) hb); (try clear hb)))
          go_ret
          exact ⟨by first | rfl | simp | simp [*], by repeat (first | (with_reducible first | exact HB.out | apply zq2 | apply zq0 | apply zq1 | refine zq3 ?_ GE327.out) | exact HB.out)⟩
         ·rw [if_neg c62] at H
          have c62b0 := beq_eq_false_iff_ne.mpr c62
          have c62b1 := bne_iff_ne.mpr c62
          obtain rfl := Option.some.inj H
          obtain ⟨hcz66_0, hcz66_1, hcz66_2, hcz66_3, hcz66_4, hcz66_5, hfz66_0, hfz66_1, hfz66_2, hfz66_3, hfz66_4, hfz66_5⟩ := cells6 BK327.out
          go_wp2
          go_ret
          exact ⟨by first | rfl | simp | simp [*], by repeat (first | (with_reducible first | exact HB.out | apply zq2 | apply zq0 | apply zq1 | refine zq3 ?_ GE327.out) | exact HB.out)⟩
        ·rw [if_neg c61] at H
         have c61b0 := beq_eq_false_iff_ne.mpr c61
         have c61b1 := bne_iff_ne.mpr c61
         obtain rfl := Option.some.inj H
         obtain ⟨hcz67_0, hcz67_1, hcz67_2, hcz67_3, hcz67_4, hcz67_5, hfz67_0, hfz67_1, hfz67_2, hfz67_3, hfz67_4, hfz67_5⟩ := cells6 BK327.out
         go_wp2
         go_ret
         exact ⟨by first | rfl | simp | simp [*], by repeat (first | (with_reducible first | exact HB.out | apply zq2 | apply zq0 | apply zq1 | refine zq3 ?_ GE327.out) | exact HB.out)⟩
/-! ### zq11: function 51 -/
mutual
def zq11.l0 : Nat → Int → List Bool → Int → List (S64) → Option (Bool)
 | 0, _, _, _, _ => none
 | k + 1, x3, x4, x5, x203000 => if x5 < x3 then (if 0 ≤ x5 then (if x5 < (x203000.length : Int) then ((zq41.f k ((rd_T64 x203000 x5).f0) ((rd_T64 x203000 x5).f1) ((rd_T64 x203000 x5).f2) ((rd_T64 x203000 x5).f3) ((rd_T64 x203000 x5).f4) ((rd_T64 x203000 x5).f5)).bind fun t209 => (if t209 = true then (if ((((rd_T64 x203000 x5).f0) == 1) != (x5 == 0)) = true then (zq11.j1 k x3 x4 x5 true x203000 ((rd_T64 x203000 x5).f0) ((rd_T64 x203000 x5).f1) ((rd_T64 x203000 x5).f2) ((rd_T64 x203000 x5).f3) ((rd_T64 x203000 x5).f4) ((rd_T64 x203000 x5).f5)) else ((zq17.f ((rd_T64 x203000 x5).f4) (-1) (wrap64 (x3 - 1))).bind fun t210 => (if t210 = true then (if x5 = 0 then (zq11.j1 k x3 x4 x5 (((rd_T64 x203000 x5).f4) != (-1)) x203000 ((rd_T64 x203000 x5).f0) ((rd_T64 x203000 x5).f1) ((rd_T64 x203000 x5).f2) ((rd_T64 x203000 x5).f3) ((rd_T64 x203000 x5).f4) ((rd_T64 x203000 x5).f5)) else (zq11.j1 k x3 x4 x5 false x203000 ((rd_T64 x203000 x5).f0) ((rd_T64 x203000 x5).f1) ((rd_T64 x203000 x5).f2) ((rd_T64 x203000 x5).f3) ((rd_T64 x203000 x5).f4) ((rd_T64 x203000 x5).f5))) else (zq11.j1 k x3 x4 x5 true x203000 ((rd_T64 x203000 x5).f0) ((rd_T64 x203000 x5).f1) ((rd_T64 x203000 x5).f2) ((rd_T64 x203000 x5).f3) ((rd_T64 x203000 x5).f4) ((rd_T64 x203000 x5).f5))))) else (zq11.j1 k x3 x4 x5 true x203000 ((rd_T64 x203000 x5).f0) ((rd_T64 x203000 x5).f1) ((rd_T64 x203000 x5).f2) ((rd_T64 x203000 x5).f3) ((rd_T64 x203000 x5).f4) ((rd_T64 x203000 x5).f5)))) else (none)) else (none)) else (zq11.l2 k x3 x4 0 x203000)
def zq11.j1 : Nat → Int → List Bool → Int → Bool → List (S64) → Int → ByteArray → List (S106) → ByteArray → Int → List Int → Option (Bool)
 | 0, _, _, _, _, _, _, _, _, _, _, _ => none
 | k + 1, x3, x4, x5, x57, x203000, x209000, x209001, x209002, x209003, x209004, x209005 => if x57 = true then (some false) else (zq11.l1 k x3 x4 x5 0 x203000 x209000 x209001 x209002 x209003 x209004 x209005)
def zq11.l1 : Nat → Int → List Bool → Int → Int → List (S64) → Int → ByteArray → List (S106) → ByteArray → Int → List Int → Option (Bool)
 | 0, _, _, _, _, _, _, _, _, _, _, _ => none
 | k + 1, x3, x4, x5, x7, x203000, x209000, x209001, x209002, x209003, x209004, x209005 => if x7 < (x209005.length : Int) then (if 0 ≤ x7 then ((zq17.f (rd x209005 x7) 1 (wrap64 (x3 - 1))).bind fun t212 => (if t212 = true then (if 0 ≤ (rd x209005 x7) then (if (rd x209005 x7) < (x4.length : Int) then (if rdOf false x4 (rd x209005 x7) = true then (some false) else (if (rd x209005 x7) < (x203000.length : Int) then (if ((rd_T64 x203000 (rd x209005 x7)).f4) = x5 then (zq11.l1 k x3 (x4.set ((rd x209005 x7) : Int).toNat true) x5 (wrap64 (x7 + 1)) x203000 x209000 x209001 x209002 x209003 x209004 x209005) else (some false)) else (none))) else (none)) else (none)) else (some false))) else (none)) else (zq11.l0 k x3 x4 (wrap64 (x5 + 1)) x203000)
def zq11.l2 : Nat → Int → List Bool → Int → List (S64) → Option (Bool)
 | 0, _, _, _, _ => none
 | k + 1, x3, x4, x9, x203000 => if x9 < x3 then (if 0 ≤ x9 then (if x9 < (x4.length : Int) then (if x9 < (x203000.length : Int) then (if ((rdOf false x4 x9) != (decide (((rd_T64 x203000 x9).f4) ≥ 0))) = true then (some false) else (zq11.l3 k x3 x4 x9 x9 0 x203000)) else (none)) else (none)) else (none)) else (some true)
def zq11.l3 : Nat → Int → List Bool → Int → Int → Int → List (S64) → Option (Bool)
 | 0, _, _, _, _, _, _ => none
 | k + 1, x3, x4, x9, x10, x11, x203000 => if x10 ≥ 0 then (if x11 > x3 then (some false) else (if 0 ≤ x10 then (if x10 < (x203000.length : Int) then (zq11.l3 k x3 x4 x9 ((rd_T64 x203000 x10).f4) (wrap64 (x11 + 1)) x203000) else (none)) else (none))) else (zq11.l2 k x3 x4 (wrap64 (x9 + 1)) x203000)
end
def zq11.f (k : Nat) (l0_0 : List (S64)) : Option (Bool) := (zq17.f (l0_0.length : Int) 1 500).bind fun t203 => (if t203 = true then (if 0 ≤ (l0_0.length : Int) then (if ((l0_0.length : Int) : Int).toNat ≤ 281474976710656 then (zq11.l0 k (l0_0.length : Int) (List.replicate ((l0_0.length : Int) : Int).toNat false) 0 l0_0) else (none)) else (none)) else (some false))
theorem zq11.mono_l : ∀ k, (∀ y0 y1 y2 y3, LeO (zq11.l0 k y0 y1 y2 y3) (zq11.l0 (k + 1) y0 y1 y2 y3)) ∧ (∀ y0 y1 y2 y3 y4 y5 y6 y7 y8 y9 y10, LeO (zq11.j1 k y0 y1 y2 y3 y4 y5 y6 y7 y8 y9 y10) (zq11.j1 (k + 1) y0 y1 y2 y3 y4 y5 y6 y7 y8 y9 y10)) ∧ (∀ y0 y1 y2 y3 y4 y5 y6 y7 y8 y9 y10, LeO (zq11.l1 k y0 y1 y2 y3 y4 y5 y6 y7 y8 y9 y10) (zq11.l1 (k + 1) y0 y1 y2 y3 y4 y5 y6 y7 y8 y9 y10)) ∧ (∀ y0 y1 y2 y3, LeO (zq11.l2 k y0 y1 y2 y3) (zq11.l2 (k + 1) y0 y1 y2 y3)) ∧ (∀ y0 y1 y2 y3 y4 y5, LeO (zq11.l3 k y0 y1 y2 y3 y4 y5) (zq11.l3 (k + 1) y0 y1 y2 y3 y4 y5))
 | 0 => ⟨fun _ _ _ _ r h => by simp [zq11.l0] at h, fun _ _ _ _ _ _ _ _ _ _ _ r h => by simp [zq11.j1] at h, fun _ _ _ _ _ _ _ _ _ _ _ r h => by simp [zq11.l1] at h, fun _ _ _ _ r h => by simp [zq11.l2] at h, fun _ _ _ _ _ _ r h => by simp [zq11.l3] at h⟩
 | k + 1 => by
  obtain ⟨ih0, ih1, ih2, ih3, ih4⟩ := zq11.mono_l k
  refine ⟨?_, ?_, ?_, ?_, ?_⟩
  ·intro y0 y1 y2 y3
   unfold zq11.l0
   repeat' first
   | (with_reducible exact ih0 _ _ _ _)
   | (with_reducible exact ih1 _ _ _ _ _ _ _ _ _ _ _)
   | (with_reducible exact ih2 _ _ _ _ _ _ _ _ _ _ _)
   | (with_reducible exact ih3 _ _ _ _)
   | (with_reducible exact ih4 _ _ _ _ _ _)
   | (with_reducible exact zq41.mono _ _ _ _ _ _ _)
   | (with_reducible exact LeO.refl _)
   | (with_reducible exact LeO.none _)
   | (with_reducible refine LeO.ite ?_ ?_)
   | (with_reducible refine LeO.bind ?_ (fun _ => ?_))
  ·intro y0 y1 y2 y3 y4 y5 y6 y7 y8 y9 y10
   unfold zq11.j1
   repeat' first
   | (with_reducible exact ih0 _ _ _ _)
   | (with_reducible exact ih1 _ _ _ _ _ _ _ _ _ _ _)
   | (with_reducible exact ih2 _ _ _ _ _ _ _ _ _ _ _)
   | (with_reducible exact ih3 _ _ _ _)
   | (with_reducible exact ih4 _ _ _ _ _ _)
   | (with_reducible exact zq41.mono _ _ _ _ _ _ _)
   | (with_reducible exact LeO.refl _)
   | (with_reducible exact LeO.none _)
   | (with_reducible refine LeO.ite ?_ ?_)
   | (with_reducible refine LeO.bind ?_ (fun _ => ?_))
  ·intro y0 y1 y2 y3 y4 y5 y6 y7 y8 y9 y10
   unfold zq11.l1
   repeat' first
   | (with_reducible exact ih0 _ _ _ _)
   | (with_reducible exact ih1 _ _ _ _ _ _ _ _ _ _ _)
   | (with_reducible exact ih2 _ _ _ _ _ _ _ _ _ _ _)
   | (with_reducible exact ih3 _ _ _ _)
   | (with_reducible exact ih4 _ _ _ _ _ _)
   | (with_reducible exact zq41.mono _ _ _ _ _ _ _)
   | (with_reducible exact LeO.refl _)
   | (with_reducible exact LeO.none _)
   | (with_reducible refine LeO.ite ?_ ?_)
   | (with_reducible refine LeO.bind ?_ (fun _ => ?_))
  ·intro y0 y1 y2 y3
   unfold zq11.l2
   repeat' first
   | (with_reducible exact ih0 _ _ _ _)
   | (with_reducible exact ih1 _ _ _ _ _ _ _ _ _ _ _)
   | (with_reducible exact ih2 _ _ _ _ _ _ _ _ _ _ _)
   | (with_reducible exact ih3 _ _ _ _)
   | (with_reducible exact ih4 _ _ _ _ _ _)
   | (with_reducible exact zq41.mono _ _ _ _ _ _ _)
   | (with_reducible exact LeO.refl _)
   | (with_reducible exact LeO.none _)
   | (with_reducible refine LeO.ite ?_ ?_)
   | (with_reducible refine LeO.bind ?_ (fun _ => ?_))
  ·intro y0 y1 y2 y3 y4 y5
   unfold zq11.l3
   repeat' first
   | (with_reducible exact ih0 _ _ _ _)
   | (with_reducible exact ih1 _ _ _ _ _ _ _ _ _ _ _)
   | (with_reducible exact ih2 _ _ _ _ _ _ _ _ _ _ _)
   | (with_reducible exact ih3 _ _ _ _)
   | (with_reducible exact ih4 _ _ _ _ _ _)
   | (with_reducible exact zq41.mono _ _ _ _ _ _ _)
   | (with_reducible exact LeO.refl _)
   | (with_reducible exact LeO.none _)
   | (with_reducible refine LeO.ite ?_ ?_)
   | (with_reducible refine LeO.bind ?_ (fun _ => ?_))
theorem zq11.mono : ∀ a0 k, LeO (zq11.f k a0) (zq11.f (k + 1) a0) := by
 intro a0 k
 obtain ⟨ih0, ih1, ih2, ih3, ih4⟩ := zq11.mono_l k
 unfold zq11.f
 repeat' first
   | (with_reducible exact ih0 _ _ _ _)
   | (with_reducible exact ih1 _ _ _ _ _ _ _ _ _ _ _)
   | (with_reducible exact ih2 _ _ _ _ _ _ _ _ _ _ _)
   | (with_reducible exact ih3 _ _ _ _)
   | (with_reducible exact ih4 _ _ _ _ _ _)
   | (with_reducible exact zq41.mono _ _ _ _ _ _ _)
   | (with_reducible exact LeO.refl _)
   | (with_reducible exact LeO.none _)
   | (with_reducible refine LeO.ite ?_ ?_)
   | (with_reducible refine LeO.bind ?_ (fun _ => ?_))
set_option maxHeartbeats 8000000 in
set_option maxRecDepth 100000 in
theorem zq11.calls (k : Nat) (A0_0 : Option Addr) (c0_0 : Nat) (l0_0 : List (S64)) (r : Bool) (w : World) (hr0_0 : Kd.C k64 w A0_0 l0_0.length l0_0) (hc0_0 : l0_0.length ≤ c0_0) (h : zq11.f k l0_0 = some r) :
  Calls Try.prog 51 #[.agg #[.slice A0_0 l0_0.length c0_0]] w fun e w' => e = .returned (.bool r) ∧ Below w.heap.size w w' := by
 have hu29 := Try.underlying29
 have hu64 := Try.underlying64
 have HR0_0 := Aside0.mk hr0_0
 have HC0_0 := Aside0.mk hc0_0
 clear hr0_0 hc0_0
 have HB := Aside0.mk (Below.refl w.heap.size w)
 have H : ((zq17.f (l0_0.length : Int) 1 500).bind fun t203 => (if t203 = true then (if 0 ≤ (l0_0.length : Int) then (if ((l0_0.length : Int) : Int).toNat ≤ 281474976710656 then (zq11.l0 k (l0_0.length : Int) (List.replicate ((l0_0.length : Int) : Int).toNat false) 0 l0_0) else (none)) else (none)) else (some false))) = some r := h
 clear h
 replace H := Option.bind_eq_some_iff.mp H
 obtain ⟨t203, A20, H⟩ := H
 (try dsimp only at H)
 have A2 := Aside0.mk A20
 clear A20
 by_cases c3 : t203 = true
 ·subst c3
  rw [if_pos rfl] at H
  by_cases c4 : 0 ≤ (l0_0.length : Int)
  ·rw [if_pos c4] at H
   have c4b0 := eq_true c4
   have c4b1 : decide (0 ≤ (l0_0.length : Int)) = true := decide_eq_true c4
   clear c4
   by_cases c5 : ((l0_0.length : Int) : Int).toNat ≤ 281474976710656
   ·rw [if_pos c5] at H
    have c5b0 := eq_true c5
    have c5b1 : decide (((l0_0.length : Int) : Int).toNat ≤ 281474976710656) = true := decide_eq_true c5
    clear c5
    obtain ⟨y204, hy204⟩ : ∃ y_ : List Bool, y_ = (List.replicate ((l0_0.length : Int) : Int).toNat false) := ⟨_, rfl⟩
    replace H : (zq11.l0 k (l0_0.length : Int) y204 0 l0_0) = some r := by first | (rw [hy204]; with_reducible exact H) | (have H2_ := (Option.bind_some _ _).symm.trans H; rw [hy204]; with_reducible exact H2_) | (have H2_ := (Option.bind_some _ _).symm.trans H; with_reducible exact H2_) | with_reducible exact H | (rw [hy204]; exact H) | exact H
    have Ny204 := Aside0.mk hy204
    clear hy204
    have H' := Aside0.mk H
    clear H
    go_enter Try.func51, Try.ntmps51
    go_wp2_with (first | ((refine gate_dst (N := 1) rfl ?_); refine box_event ?hg (N := 1) ?hd (cs := #[.slice A0_0 l0_0.length c0_0]) (t := 29) ?hr ?_; (case hd => rfl); (case hg => rfl); (case hr => first | (go_simp; done) | (go_simp; rfl)); intro gb202 hg w6 hbox hb; have BK202 := Aside0.mk (hbox); have GW202 := Aside0.mk ((by rw [hg]; exact (below_size (by repeat (with_reducible first | exact HB.out | apply zq2 | apply zq0 | apply zq1))) : w.heap.size ≤ gb202)); replace HB := Aside0.mk (zq7 (by repeat (with_reducible first | exact HB.out | apply zq2 | apply zq0 | apply zq1)) hb); have GE202 := GW202; clear hb hbox hg; obtain ⟨hcz7_0, hfz7_0⟩ := cells1 BK202.out) | (go_at_call 73; (with_reducible refine (zq17.calls (l0_0.length : Int) 1 500 true _ A2.out).mono ?_); rintro e w' ⟨rfl, ⟨nd, rfl⟩⟩; (try first | exact ⟨rfl, _, World.drewN_drewN _ _ _⟩ | exact ⟨rfl, _, Eq.trans (World.drewN_drewN _ _ _) (congrArg (World.drewN _) (Nat.add_assoc _ _ _))⟩)) | ((refine gate_dst (N := 19) rfl ?_); refine Kd.R_make Kd.bool _ 4 rfl (N := 19) rfl 89 _ _ rfl (l0_0.length : Int) rfl rfl Try.underlying89 (.bool false) 1 info4 rfl (by decide) (by omega) false (ok := fun _ => True) (okp := fun _ => True) rfl (fun _ hk => hk) trivial (of_decide_eq_true (by assumption)) (Nat.le_trans (Nat.mul_le_mul_right _ (of_decide_eq_true (by assumption) : (l0_0.length : Int).toNat ≤ 281474976710656)) (by omega)) (Below.refl _ _) (Nat.le_refl _) ?_; intro v205 w8 ho9 hb hg_ hnew_; clear hg_ hnew_; (first | rw [← Ny204.out] at ho9 | (simp only [Int.reduceToNat] at ho9; rw [← Ny204.out] at ho9)); have HO206 := Aside0.mk (Kd.R_lower ho9 (below_size (by repeat (with_reducible first | exact HB.out | apply zq2 | apply zq0 | apply zq1 | refine zq3 ?_ GE202.out)))); replace BK202 := Aside0.mk (zq10 (g := gb202) (o := .cells #[.slice A0_0 l0_0.length c0_0] 29 (0, 0)) (by (with_reducible repeat (first | refine zq4 ?_ _ | refine zq6 ?_ | refine zq5 ?_ _)); exact BK202.out) hb); replace HB := Aside0.mk (zq7 (by repeat (with_reducible first | exact HB.out | apply zq2 | apply zq0 | apply zq1 | refine zq3 ?_ GE202.out)) hb); clear hb ho9))
    repeat (go_quiet (first | (go_at_call 73; (with_reducible refine (zq17.calls (l0_0.length : Int) 1 500 true _ A2.out).mono ?_); rintro e w' ⟨rfl, ⟨nd, rfl⟩⟩; (try first | exact ⟨rfl, _, World.drewN_drewN _ _ _⟩ | exact ⟨rfl, _, Eq.trans (World.drewN_drewN _ _ _) (congrArg (World.drewN _) (Nat.add_assoc _ _ _))⟩))); try go_wp2_with (first | (go_at_call 73; (with_reducible refine (zq17.calls (l0_0.length : Int) 1 500 true _ A2.out).mono ?_); rintro e w' ⟨rfl, ⟨nd, rfl⟩⟩; (try first | exact ⟨rfl, _, World.drewN_drewN _ _ _⟩ | exact ⟨rfl, _, Eq.trans (World.drewN_drewN _ _ _) (congrArg (World.drewN _) (Nat.add_assoc _ _ _))⟩))))
    go_loopg [5] k (fun kq v5 w' => ∃ (x4_1 : List Bool) (x5_1 : Int), v5 = .int .i64 x5_1 ∧ Aside0 (zq11.l0 kq (l0_0.length : Int) x4_1 x5_1 l0_0 = some r) ∧ Aside0 (kq ≤ k) ∧ Aside0 (Kd.R Kd.bool 4 w' w.heap.size (fun _ => True) v205 x4_1) ∧ Aside0 (w'.heap[gb202]? = some (.cells #[(.slice A0_0 l0_0.length c0_0)] 29 (0, 0))) ∧ Aside0 (Below w.heap.size w w'))
    case atStart => exact ⟨(y204), (0), (by first | rfl | simp | simp [*]), H', ⟨Nat.le_refl _⟩, ⟨by (with_reducible repeat (first | apply Kd.R_alloc | apply Kd.R_drewN | apply Kd.R_drew)); exact HO206.out⟩, ⟨by (with_reducible repeat (first | refine zq4 ?_ _ | refine zq6 ?_ | refine zq5 ?_ _)); exact BK202.out⟩, ⟨by repeat (first | (with_reducible first | exact HB.out | apply zq2 | apply zq0 | apply zq1 | refine zq3 ?_ GE202.out) | exact HB.out)⟩⟩
    case round =>
     clear H'
     obtain ⟨x4_1, x5_1, rfl, HA, HK1, HO_4, BK202, HB⟩ := hrel
     cases gk with
     | zero => exact absurd HA.out (by simp [zq11.l0])
     | succ k1 =>
      have H := HA.out
      clear HA
      simp only [zq11.l0] at H
      by_cases c10 : x5_1 < (l0_0.length : Int)
      ·rw [if_pos c10] at H
       have c10b0 : decide (x5_1 < (l0_0.length : Int)) = true := decide_eq_true c10
       clear c10
       by_cases c11 : 0 ≤ x5_1
       ·rw [if_pos c11] at H
        have c11b0 : decide (0 ≤ x5_1) = true := decide_eq_true c11
        clear c11
        by_cases c12 : x5_1 < (l0_0.length : Int)
        ·rw [if_pos c12] at H
         have c12b0 : decide (x5_1 < (l0_0.length : Int)) = true := decide_eq_true c12
         clear c12
         have HC13 := Aside0.mk H
         clear H
         obtain ⟨hcz14_0, hfz14_0⟩ := cells1 BK202.out
         have p207 : 0 ≤ (x5_1 : Int) := of_decide_eq_true (by assumption)
         have q207 : x5_1 < (l0_0.length : Int) := of_decide_eq_true (by assumption)
         obtain ⟨ad207, A207_2, c207_2, A207_5, c207_5, e207, hx207_0, hx207_1, hx207_2, hx207_3, hx207_4, hx207_5, hl207_2, hi207_2, hl207_5, hi207_5⟩ := at_T64 HR0_0.out x5_1 p207 q207
         cases e207
         replace hx207_0 := pw_cell_below HB.out hx207_0
         replace hx207_1 := pw_cell_below HB.out hx207_1
         replace hx207_2 := pw_cell_below HB.out hx207_2
         replace hx207_3 := pw_cell_below HB.out hx207_3
         replace hx207_4 := pw_cell_below HB.out hx207_4
         replace hx207_5 := pw_cell_below HB.out hx207_5
         have HR207_2 := Aside0.mk hi207_2
         have HC207_2 := Aside0.mk hl207_2
         clear hi207_2 hl207_2
         have HR207_5 := Aside0.mk hi207_5
         have HC207_5 := Aside0.mk hl207_5
         clear hi207_5 hl207_5
         replace p207 := eq_true p207
         replace q207 := eq_true q207
         go_upto_region 9 with (first | ((refine gate_dst (N := 6) rfl ?_); refine box_event ?hg (N := 6) ?hd (cs := #[.int .i64 0, .string (⟨#[]⟩ : ByteArray), .slice none 0 0, .string (⟨#[]⟩ : ByteArray), .int .i64 0, .slice none 0 0]) (t := 64) ?hr ?_; (case hd => rfl); (case hg => rfl); (case hr => first | (go_simp; done) | (go_simp; rfl)); intro gb208 hg w15 hbox hb; replace HO_4 := Aside0.mk (Kd.R_below (by (with_reducible repeat (first | apply Kd.R_alloc | apply Kd.R_drewN | apply Kd.R_drew)); exact HO_4.out) hb); have BK208 := Aside0.mk (hbox); have GW208 := Aside0.mk ((by rw [hg]; exact (below_size (by repeat (with_reducible first | exact HB.out | apply zq2 | apply zq0 | apply zq1 | refine zq3 ?_ GE202.out))) : w.heap.size ≤ gb208)); replace HB := Aside0.mk (zq7 (by repeat (with_reducible first | exact HB.out | apply zq2 | apply zq0 | apply zq1 | refine zq3 ?_ GE202.out)) hb); have NB202_208 := Aside0.mk ((by rw [hg]; exact Nat.ne_of_lt (blk_lt (g := gb202) (o := .cells #[.slice (some ad207) l0_0.length c0_0] 29 (0, 0)) (by (with_reducible repeat (first | refine zq4 ?_ _ | refine zq6 ?_ | refine zq5 ?_ _)); exact BK202.out)) : gb202 ≠ gb208)); have NB208_202 := Aside0.mk ((by rw [hg]; exact Nat.ne_of_gt (blk_lt (g := gb202) (o := .cells #[.slice (some ad207) l0_0.length c0_0] 29 (0, 0)) (by (with_reducible repeat (first | refine zq4 ?_ _ | refine zq6 ?_ | refine zq5 ?_ _)); exact BK202.out)) : gb208 ≠ gb202)); replace BK202 := Aside0.mk (zq10 (g := gb202) (o := .cells #[.slice (some ad207) l0_0.length c0_0] 29 (0, 0)) (by (with_reducible repeat (first | refine zq4 ?_ _ | refine zq6 ?_ | refine zq5 ?_ _)); exact BK202.out) hb); have GE208 := GW208; clear hb hbox hg; have hnb16 := NB208_202.out; have hnc16 := NB202_208.out; obtain ⟨hcz17_0, hcz17_1, hcz17_2, hcz17_3, hcz17_4, hcz17_5, hfz17_0, hfz17_1, hfz17_2, hfz17_3, hfz17_4, hfz17_5⟩ := cells6 BK208.out))
         repeat (go_quiet (fail); go_upto_region 9 with (first | ((refine gate_dst (N := 6) rfl ?_); refine box_event ?hg (N := 6) ?hd (cs := #[.int .i64 0, .string (⟨#[]⟩ : ByteArray), .slice none 0 0, .string (⟨#[]⟩ : ByteArray), .int .i64 0, .slice none 0 0]) (t := 64) ?hr ?_; (case hd => rfl); (case hg => rfl); (case hr => first | (go_simp; done) | (go_simp; rfl)); intro gb208 hg w15 hbox hb; replace HO_4 := Aside0.mk (Kd.R_below (by (with_reducible repeat (first | apply Kd.R_alloc | apply Kd.R_drewN | apply Kd.R_drew)); exact HO_4.out) hb); have BK208 := Aside0.mk (hbox); have GW208 := Aside0.mk ((by rw [hg]; exact (below_size (by repeat (with_reducible first | exact HB.out | apply zq2 | apply zq0 | apply zq1 | refine zq3 ?_ GE202.out))) : w.heap.size ≤ gb208)); replace HB := Aside0.mk (zq7 (by repeat (with_reducible first | exact HB.out | apply zq2 | apply zq0 | apply zq1 | refine zq3 ?_ GE202.out)) hb); have NB202_208 := Aside0.mk ((by rw [hg]; exact Nat.ne_of_lt (blk_lt (g := gb202) (o := .cells #[.slice (some ad207) l0_0.length c0_0] 29 (0, 0)) (by (with_reducible repeat (first | refine zq4 ?_ _ | refine zq6 ?_ | refine zq5 ?_ _)); exact BK202.out)) : gb202 ≠ gb208)); have NB208_202 := Aside0.mk ((by rw [hg]; exact Nat.ne_of_gt (blk_lt (g := gb202) (o := .cells #[.slice (some ad207) l0_0.length c0_0] 29 (0, 0)) (by (with_reducible repeat (first | refine zq4 ?_ _ | refine zq6 ?_ | refine zq5 ?_ _)); exact BK202.out)) : gb208 ≠ gb202)); replace BK202 := Aside0.mk (zq10 (g := gb202) (o := .cells #[.slice (some ad207) l0_0.length c0_0] 29 (0, 0)) (by (with_reducible repeat (first | refine zq4 ?_ _ | refine zq6 ?_ | refine zq5 ?_ _)); exact BK202.out) hb); have GE208 := GW208; clear hb hbox hg; have hnb16 := NB208_202.out; have hnc16 := NB202_208.out; obtain ⟨hcz17_0, hcz17_1, hcz17_2, hcz17_3, hcz17_4, hcz17_5, hfz17_0, hfz17_1, hfz17_2, hfz17_3, hfz17_4, hfz17_5⟩ := cells6 BK208.out)))
         (try simp only [Act.put, List.setIfInBounds_toArray, List.set_cons_zero, List.set_cons_succ])
         go_cut [57] (fun v57 wc => ∃ (kq : Nat) (x57_12 : Bool), v57 = .bool x57_12 ∧ Aside0 (zq11.j1 kq (l0_0.length : Int) x4_1 x5_1 x57_12 l0_0 ((rd_T64 l0_0 x5_1).f0) ((rd_T64 l0_0 x5_1).f1) ((rd_T64 l0_0 x5_1).f2) ((rd_T64 l0_0 x5_1).f3) ((rd_T64 l0_0 x5_1).f4) ((rd_T64 l0_0 x5_1).f5) = some r) ∧ Aside0 (kq ≤ k1) ∧ Aside0 (Kd.R Kd.bool 4 wc w.heap.size (fun _ => True) v205 x4_1) ∧ Aside0 (wc.heap[gb202]? = some (.cells #[(.slice (some ad207) l0_0.length c0_0)] 29 (0, 0))) ∧ Aside0 (wc.heap[gb208]? = some (.cells #[.int .i64 ((rd_T64 l0_0 x5_1).f0), .string ((rd_T64 l0_0 x5_1).f1), (.slice A207_2 ((rd_T64 l0_0 x5_1).f2).length c207_2), .string ((rd_T64 l0_0 x5_1).f3), .int .i64 ((rd_T64 l0_0 x5_1).f4), (.slice A207_5 ((rd_T64 l0_0 x5_1).f5).length c207_5)] 64 (0, 0))) ∧ Aside0 (Below w.heap.size w wc))
         case first =>
          have H := HC13.out
          clear HC13
          replace H := Option.bind_eq_some_iff.mp H
          obtain ⟨t209, A180, H⟩ := H
          (try dsimp only at H)
          have A18 := Aside0.mk A180
          clear A180
          by_cases c19 : t209 = true
          ·subst c19
           rw [if_pos rfl] at H
           by_cases c20 : ((((rd_T64 l0_0 x5_1).f0) == 1) != (x5_1 == 0)) = true
           ·rw [if_pos c20] at H
            have c20b0 : ((((rd_T64 l0_0 x5_1).f0) == 1) != (x5_1 == 0)) = true := c20
            (try (have c20b1 : decide ((((rd_T64 l0_0 x5_1).f0) == 1) = (x5_1 == 0)) = false := by simpa using c20))
            (try (have c20b2 : ((((rd_T64 l0_0 x5_1).f0) == 1) == (x5_1 == 0)) = false := by simpa using c20))
            (try (have c20b3 : ¬ ((((rd_T64 l0_0 x5_1).f0) == 1) = (x5_1 == 0)) := by simpa using c20))
            clear c20
            (first | rw [c20b0] | (simp only [i64_w, i32_w]; rw [c20b0]) | skip)
            have H' := Aside0.mk H
            clear H
            have hnb21 := NB208_202.out
            have hnc21 := NB202_208.out
            obtain ⟨hcz22_0, hcz22_1, hcz22_2, hcz22_3, hcz22_4, hcz22_5, hfz22_0, hfz22_1, hfz22_2, hfz22_3, hfz22_4, hfz22_5⟩ := cells6 BK208.out
            go_wp2_with (first | (go_at_call 85; (with_reducible refine (zq41.calls k1 ((rd_T64 l0_0 x5_1).f0) ((rd_T64 l0_0 x5_1).f1) _ _ ((rd_T64 l0_0 x5_1).f2) ((rd_T64 l0_0 x5_1).f3) ((rd_T64 l0_0 x5_1).f4) _ _ ((rd_T64 l0_0 x5_1).f5) true _ ?side1 ?side2 ?side3 ?side4 A18.out).mono ?_); (case side1 => exact Kd.C_below HR207_2.out (by repeat (with_reducible first | exact HB.out | apply zq2 | apply zq0 | apply zq1 | refine zq3 ?_ GE202.out | refine zq3 ?_ GE208.out))); (case side2 => exact HC207_2.out); (case side3 => exact Kd.C_below HR207_5.out (by repeat (with_reducible first | exact HB.out | apply zq2 | apply zq0 | apply zq1 | refine zq3 ?_ GE202.out | refine zq3 ?_ GE208.out))); (case side4 => exact HC207_5.out); rintro e w23 ⟨rfl, hb⟩; replace HO_4 := Aside0.mk (Kd.R_below (by (with_reducible repeat (first | apply Kd.R_alloc | apply Kd.R_drewN | apply Kd.R_drew)); exact (Kd.R_mono (Kd.R_far (p := ⟨gb208, 5, none⟩) (Kd.R_far (p := ⟨gb208, 4, none⟩) (Kd.R_far (p := ⟨gb208, 3, none⟩) (Kd.R_far (p := ⟨gb208, 2, none⟩) (Kd.R_far (p := ⟨gb208, 1, none⟩) (Kd.R_far (p := ⟨gb208, 0, none⟩) (Kd.R_types HO_4.out BK208.out (by decide)) (fun _ hk => hk.2) (.int .i64 ((rd_T64 l0_0 x5_1).f0))) (fun _ hk => hk.2) (.string ((rd_T64 l0_0 x5_1).f1))) (fun _ hk => hk.2) (.slice A207_2 ((rd_T64 l0_0 x5_1).f2).length c207_2)) (fun _ hk => hk.2) (.string ((rd_T64 l0_0 x5_1).f3))) (fun _ hk => hk.2) (.int .i64 ((rd_T64 l0_0 x5_1).f4))) (fun _ hk => hk.2) (.slice A207_5 ((rd_T64 l0_0 x5_1).f5).length c207_5)) (fun _ h_ => h_.1))) hb); replace BK202 := Aside0.mk (zq10 (g := gb202) (o := .cells #[.slice (some ad207) l0_0.length c0_0] 29 (0, 0)) (by (with_reducible repeat (first | refine zq4 ?_ _ | refine zq6 ?_ | refine zq5 ?_ _ | refine blk_far ?_ NB202_208.out _)); exact BK202.out) hb); replace BK208 := Aside0.mk (zq10 (g := gb208) (o := .cells #[.int .i64 ((rd_T64 l0_0 x5_1).f0), .string ((rd_T64 l0_0 x5_1).f1), .slice A207_2 ((rd_T64 l0_0 x5_1).f2).length c207_2, .string ((rd_T64 l0_0 x5_1).f3), .int .i64 ((rd_T64 l0_0 x5_1).f4), .slice A207_5 ((rd_T64 l0_0 x5_1).f5).length c207_5] 64 (0, 0)) (by (with_reducible repeat (first | refine zq4 ?_ _ | refine zq6 ?_ | refine zq5 ?_ _)); refine blk_put (cs := #[.int .i64 ((rd_T64 l0_0 x5_1).f0), .string ((rd_T64 l0_0 x5_1).f1), .slice A207_2 ((rd_T64 l0_0 x5_1).f2).length c207_2, .string ((rd_T64 l0_0 x5_1).f3), .int .i64 ((rd_T64 l0_0 x5_1).f4), .slice none 0 0]) ?_ 5 _ rfl; (with_reducible repeat (first | refine zq4 ?_ _ | refine zq6 ?_ | refine zq5 ?_ _)); refine blk_put (cs := #[.int .i64 ((rd_T64 l0_0 x5_1).f0), .string ((rd_T64 l0_0 x5_1).f1), .slice A207_2 ((rd_T64 l0_0 x5_1).f2).length c207_2, .string ((rd_T64 l0_0 x5_1).f3), .int .i64 0, .slice none 0 0]) ?_ 4 _ rfl; (with_reducible repeat (first | refine zq4 ?_ _ | refine zq6 ?_ | refine zq5 ?_ _)); refine blk_put (cs := #[.int .i64 ((rd_T64 l0_0 x5_1).f0), .string ((rd_T64 l0_0 x5_1).f1), .slice A207_2 ((rd_T64 l0_0 x5_1).f2).length c207_2, .string (⟨#[]⟩ : ByteArray), .int .i64 0, .slice none 0 0]) ?_ 3 _ rfl; (with_reducible repeat (first | refine zq4 ?_ _ | refine zq6 ?_ | refine zq5 ?_ _)); refine blk_put (cs := #[.int .i64 ((rd_T64 l0_0 x5_1).f0), .string ((rd_T64 l0_0 x5_1).f1), .slice none 0 0, .string (⟨#[]⟩ : ByteArray), .int .i64 0, .slice none 0 0]) ?_ 2 _ rfl; (with_reducible repeat (first | refine zq4 ?_ _ | refine zq6 ?_ | refine zq5 ?_ _)); refine blk_put (cs := #[.int .i64 ((rd_T64 l0_0 x5_1).f0), .string (⟨#[]⟩ : ByteArray), .slice none 0 0, .string (⟨#[]⟩ : ByteArray), .int .i64 0, .slice none 0 0]) ?_ 1 _ rfl; (with_reducible repeat (first | refine zq4 ?_ _ | refine zq6 ?_ | refine zq5 ?_ _)); refine blk_put (cs := #[.int .i64 0, .string (⟨#[]⟩ : ByteArray), .slice none 0 0, .string (⟨#[]⟩ : ByteArray), .int .i64 0, .slice none 0 0]) ?_ 0 _ rfl; (with_reducible repeat (first | refine zq4 ?_ _ | refine zq6 ?_ | refine zq5 ?_ _)); exact BK208.out) hb); replace HB := Aside0.mk (zq7 (by repeat (with_reducible first | exact HB.out | apply zq2 | apply zq0 | apply zq1 | refine zq3 ?_ GE202.out | refine zq3 ?_ GE208.out)) hb); (try clear hb); obtain ⟨hcz24_0, hcz24_1, hcz24_2, hcz24_3, hcz24_4, hcz24_5, hfz24_0, hfz24_1, hfz24_2, hfz24_3, hfz24_4, hfz24_5⟩ := cells6 BK208.out))
            repeat (go_quiet (fail); try go_wp2_with fail)
            go_meet
            case rel => exact ⟨_, (true), (by first | rfl | simp | simp [*]), H', ⟨by have := HK1.out; first | omega | exact Nat.le_refl _⟩, ⟨by (with_reducible repeat (first | apply Kd.R_alloc | apply Kd.R_drewN | apply Kd.R_drew)); exact HO_4.out⟩, ⟨by (with_reducible repeat (first | refine zq4 ?_ _ | refine zq6 ?_ | refine zq5 ?_ _)); exact BK202.out⟩, ⟨by (with_reducible repeat (first | refine zq4 ?_ _ | refine zq6 ?_ | refine zq5 ?_ _)); exact BK208.out⟩, ⟨by repeat (first | (with_reducible first | exact HB.out | apply zq2 | apply zq0 | apply zq1 | refine zq3 ?_ GE202.out | refine zq3 ?_ GE208.out) | exact HB.out)⟩⟩
           ·rw [if_neg c20] at H
            have c20b0 : ((((rd_T64 l0_0 x5_1).f0) == 1) != (x5_1 == 0)) = false := by simpa using c20
            (try (have c20b1 : decide ((((rd_T64 l0_0 x5_1).f0) == 1) = (x5_1 == 0)) = true := by simpa using c20))
            (try (have c20b2 : ((((rd_T64 l0_0 x5_1).f0) == 1) == (x5_1 == 0)) = true := by simpa using c20))
            clear c20
            (first | rw [c20b0] | (simp only [i64_w, i32_w]; rw [c20b0]) | skip)
            replace H := Option.bind_eq_some_iff.mp H
            obtain ⟨t210, A250, H⟩ := H
            (try dsimp only at H)
            have A25 := Aside0.mk A250
            clear A250
            by_cases c26 : t210 = true
            ·subst c26
             rw [if_pos rfl] at H
             by_cases c27 : x5_1 = 0
             ·rw [if_pos c27] at H
              have c27b0 := beq_iff_eq.mpr c27
              have c27b1 := bne_eq_false_iff_eq.mpr c27
              (try (have c27x0 : (((rd_T64 l0_0 x5_1).f0) == 1) = true := by (have h_ := c20b0; rw [c27b0] at h_; simpa using h_)))
              (try (have c27x1 : (((rd_T64 l0_0 x5_1).f0) == 1) = false := by (have h_ := c20b0; rw [c27b0] at h_; simpa using h_)))
              (try (have c27x2 : (((rd_T64 l0_0 x5_1).f0) == 1) = true := by (have h_ := c20b0; rw [c27b0] at h_; simpa using h_)))
              (try (have c27x3 : (((rd_T64 l0_0 x5_1).f0) == 1) = false := by (have h_ := c20b0; rw [c27b0] at h_; simpa using h_)))
              clear c27
              have H' := Aside0.mk H
              clear H
              have hnb28 := NB208_202.out
              have hnc28 := NB202_208.out
              obtain ⟨hcz29_0, hcz29_1, hcz29_2, hcz29_3, hcz29_4, hcz29_5, hfz29_0, hfz29_1, hfz29_2, hfz29_3, hfz29_4, hfz29_5⟩ := cells6 BK208.out
              go_wp2_with (first | (go_at_call 85; (with_reducible refine (zq41.calls k1 ((rd_T64 l0_0 x5_1).f0) ((rd_T64 l0_0 x5_1).f1) _ _ ((rd_T64 l0_0 x5_1).f2) ((rd_T64 l0_0 x5_1).f3) ((rd_T64 l0_0 x5_1).f4) _ _ ((rd_T64 l0_0 x5_1).f5) true _ ?side1 ?side2 ?side3 ?side4 A18.out).mono ?_); (case side1 => exact Kd.C_below HR207_2.out (by repeat (with_reducible first | exact HB.out | apply zq2 | apply zq0 | apply zq1 | refine zq3 ?_ GE202.out | refine zq3 ?_ GE208.out))); (case side2 => exact HC207_2.out); (case side3 => exact Kd.C_below HR207_5.out (by repeat (with_reducible first | exact HB.out | apply zq2 | apply zq0 | apply zq1 | refine zq3 ?_ GE202.out | refine zq3 ?_ GE208.out))); (case side4 => exact HC207_5.out); rintro e w30 ⟨rfl, hb⟩; replace HO_4 := Aside0.mk (Kd.R_below (by (with_reducible repeat (first | apply Kd.R_alloc | apply Kd.R_drewN | apply Kd.R_drew)); exact (Kd.R_mono (Kd.R_far (p := ⟨gb208, 5, none⟩) (Kd.R_far (p := ⟨gb208, 4, none⟩) (Kd.R_far (p := ⟨gb208, 3, none⟩) (Kd.R_far (p := ⟨gb208, 2, none⟩) (Kd.R_far (p := ⟨gb208, 1, none⟩) (Kd.R_far (p := ⟨gb208, 0, none⟩) (Kd.R_types HO_4.out BK208.out (by decide)) (fun _ hk => hk.2) (.int .i64 ((rd_T64 l0_0 x5_1).f0))) (fun _ hk => hk.2) (.string ((rd_T64 l0_0 x5_1).f1))) (fun _ hk => hk.2) (.slice A207_2 ((rd_T64 l0_0 x5_1).f2).length c207_2)) (fun _ hk => hk.2) (.string ((rd_T64 l0_0 x5_1).f3))) (fun _ hk => hk.2) (.int .i64 ((rd_T64 l0_0 x5_1).f4))) (fun _ hk => hk.2) (.slice A207_5 ((rd_T64 l0_0 x5_1).f5).length c207_5)) (fun _ h_ => h_.1))) hb); replace BK202 := Aside0.mk (zq10 (g := gb202) (o := .cells #[.slice (some ad207) l0_0.length c0_0] 29 (0, 0)) (by (with_reducible repeat (first | refine zq4 ?_ _ | refine zq6 ?_ | refine zq5 ?_ _ | refine blk_far ?_ NB202_208.out _)); exact BK202.out) hb); replace BK208 := Aside0.mk (zq10 (g := gb208) (o := .cells #[.int .i64 ((rd_T64 l0_0 x5_1).f0), .string ((rd_T64 l0_0 x5_1).f1), .slice A207_2 ((rd_T64 l0_0 x5_1).f2).length c207_2, .string ((rd_T64 l0_0 x5_1).f3), .int .i64 ((rd_T64 l0_0 x5_1).f4), .slice A207_5 ((rd_T64 l0_0 x5_1).f5).length c207_5] 64 (0, 0)) (by (with_reducible repeat (first | refine zq4 ?_ _ | refine zq6 ?_ | refine zq5 ?_ _)); refine blk_put (cs := #[.int .i64 ((rd_T64 l0_0 x5_1).f0), .string ((rd_T64 l0_0 x5_1).f1), .slice A207_2 ((rd_T64 l0_0 x5_1).f2).length c207_2, .string ((rd_T64 l0_0 x5_1).f3), .int .i64 ((rd_T64 l0_0 x5_1).f4), .slice none 0 0]) ?_ 5 _ rfl; (with_reducible repeat (first | refine zq4 ?_ _ | refine zq6 ?_ | refine zq5 ?_ _)); refine blk_put (cs := #[.int .i64 ((rd_T64 l0_0 x5_1).f0), .string ((rd_T64 l0_0 x5_1).f1), .slice A207_2 ((rd_T64 l0_0 x5_1).f2).length c207_2, .string ((rd_T64 l0_0 x5_1).f3), .int .i64 0, .slice none 0 0]) ?_ 4 _ rfl; (with_reducible repeat (first | refine zq4 ?_ _ | refine zq6 ?_ | refine zq5 ?_ _)); refine blk_put (cs := #[.int .i64 ((rd_T64 l0_0 x5_1).f0), .string ((rd_T64 l0_0 x5_1).f1), .slice A207_2 ((rd_T64 l0_0 x5_1).f2).length c207_2, .string (⟨#[]⟩ : ByteArray), .int .i64 0, .slice none 0 0]) ?_ 3 _ rfl; (with_reducible repeat (first | refine zq4 ?_ _ | refine zq6 ?_ | refine zq5 ?_ _)); refine blk_put (cs := #[.int .i64 ((rd_T64 l0_0 x5_1).f0), .string ((rd_T64 l0_0 x5_1).f1), .slice none 0 0, .string (⟨#[]⟩ : ByteArray), .int .i64 0, .slice none 0 0]) ?_ 2 _ rfl; (with_reducible repeat (first | refine zq4 ?_ _ | refine zq6 ?_ | refine zq5 ?_ _)); refine blk_put (cs := #[.int .i64 ((rd_T64 l0_0 x5_1).f0), .string (⟨#[]⟩ : ByteArray), .slice none 0 0, .string (⟨#[]⟩ : ByteArray), .int .i64 0, .slice none 0 0]) ?_ 1 _ rfl; (with_reducible repeat (first | refine zq4 ?_ _ | refine zq6 ?_ | refine zq5 ?_ _)); refine blk_put (cs := #[.int .i64 0, .string (⟨#[]⟩ : ByteArray), .slice none 0 0, .string (⟨#[]⟩ : ByteArray), .int .i64 0, .slice none 0 0]) ?_ 0 _ rfl; (with_reducible repeat (first | refine zq4 ?_ _ | refine zq6 ?_ | refine zq5 ?_ _)); exact BK208.out) hb); replace HB := Aside0.mk (zq7 (by repeat (with_reducible first | exact HB.out | apply zq2 | apply zq0 | apply zq1 | refine zq3 ?_ GE202.out | refine zq3 ?_ GE208.out)) hb); (try clear hb); obtain ⟨hcz31_0, hcz31_1, hcz31_2, hcz31_3, hcz31_4, hcz31_5, hfz31_0, hfz31_1, hfz31_2, hfz31_3, hfz31_4, hfz31_5⟩ := cells6 BK208.out) | (go_at_call 73; (with_reducible refine (zq17.calls ((rd_T64 l0_0 x5_1).f4) (-1) (wrap64 ((l0_0.length : Int) - 1)) true _ A25.out).mono ?_); rintro e w' ⟨rfl, ⟨nd, rfl⟩⟩; (try first | exact ⟨rfl, _, World.drewN_drewN _ _ _⟩ | exact ⟨rfl, _, Eq.trans (World.drewN_drewN _ _ _) (congrArg (World.drewN _) (Nat.add_assoc _ _ _))⟩)))
              repeat (go_quiet (first | (go_at_call 73; (with_reducible refine (zq17.calls ((rd_T64 l0_0 x5_1).f4) (-1) (wrap64 ((l0_0.length : Int) - 1)) true _ A25.out).mono ?_); rintro e w' ⟨rfl, ⟨nd, rfl⟩⟩; (try first | exact ⟨rfl, _, World.drewN_drewN _ _ _⟩ | exact ⟨rfl, _, Eq.trans (World.drewN_drewN _ _ _) (congrArg (World.drewN _) (Nat.add_assoc _ _ _))⟩))); try go_wp2_with (first | (go_at_call 73; (with_reducible refine (zq17.calls ((rd_T64 l0_0 x5_1).f4) (-1) (wrap64 ((l0_0.length : Int) - 1)) true _ A25.out).mono ?_); rintro e w' ⟨rfl, ⟨nd, rfl⟩⟩; (try first | exact ⟨rfl, _, World.drewN_drewN _ _ _⟩ | exact ⟨rfl, _, Eq.trans (World.drewN_drewN _ _ _) (congrArg (World.drewN _) (Nat.add_assoc _ _ _))⟩))))
              go_meet
              case rel => exact ⟨_, ((((rd_T64 l0_0 x5_1).f4) != (-1))), (by first | rfl | simp | simp [*]), H', ⟨by have := HK1.out; first | omega | exact Nat.le_refl _⟩, ⟨by (with_reducible repeat (first | apply Kd.R_alloc | apply Kd.R_drewN | apply Kd.R_drew)); exact HO_4.out⟩, ⟨by (with_reducible repeat (first | refine zq4 ?_ _ | refine zq6 ?_ | refine zq5 ?_ _)); exact BK202.out⟩, ⟨by (with_reducible repeat (first | refine zq4 ?_ _ | refine zq6 ?_ | refine zq5 ?_ _)); exact BK208.out⟩, ⟨by repeat (first | (with_reducible first | exact HB.out | apply zq2 | apply zq0 | apply zq1 | refine zq3 ?_ GE202.out | refine zq3 ?_ GE208.out) | exact HB.out)⟩⟩
             ·rw [if_neg c27] at H
              have c27b0 := beq_eq_false_iff_ne.mpr c27
              have c27b1 := bne_iff_ne.mpr c27
              (try (have c27x0 : (((rd_T64 l0_0 x5_1).f0) == 1) = true := by (have h_ := c20b0; rw [c27b0] at h_; simpa using h_)))
              (try (have c27x1 : (((rd_T64 l0_0 x5_1).f0) == 1) = false := by (have h_ := c20b0; rw [c27b0] at h_; simpa using h_)))
              (try (have c27x2 : (((rd_T64 l0_0 x5_1).f0) == 1) = true := by (have h_ := c20b0; rw [c27b0] at h_; simpa using h_)))
              (try (have c27x3 : (((rd_T64 l0_0 x5_1).f0) == 1) = false := by (have h_ := c20b0; rw [c27b0] at h_; simpa using h_)))
              have H' := Aside0.mk H
              clear H
              have hnb32 := NB208_202.out
              have hnc32 := NB202_208.out
              obtain ⟨hcz33_0, hcz33_1, hcz33_2, hcz33_3, hcz33_4, hcz33_5, hfz33_0, hfz33_1, hfz33_2, hfz33_3, hfz33_4, hfz33_5⟩ := cells6 BK208.out
              go_wp2_with (first | (go_at_call 85; (with_reducible refine (zq41.calls k1 ((rd_T64 l0_0 x5_1).f0) ((rd_T64 l0_0 x5_1).f1) _ _ ((rd_T64 l0_0 x5_1).f2) ((rd_T64 l0_0 x5_1).f3) ((rd_T64 l0_0 x5_1).f4) _ _ ((rd_T64 l0_0 x5_1).f5) true _ ?side1 ?side2 ?side3 ?side4 A18.out).mono ?_); (case side1 => exact Kd.C_below HR207_2.out (by repeat (with_reducible first | exact HB.out | apply zq2 | apply zq0 | apply zq1 | refine zq3 ?_ GE202.out | refine zq3 ?_ GE208.out))); (case side2 => exact HC207_2.out); (case side3 => exact Kd.C_below HR207_5.out (by repeat (with_reducible first | exact HB.out | apply zq2 | apply zq0 | apply zq1 | refine zq3 ?_ GE202.out | refine zq3 ?_ GE208.out))); (case side4 => exact HC207_5.out); rintro e w34 ⟨rfl, hb⟩; replace HO_4 := Aside0.mk (Kd.R_below (by (with_reducible repeat (first | apply Kd.R_alloc | apply Kd.R_drewN | apply Kd.R_drew)); exact (Kd.R_mono (Kd.R_far (p := ⟨gb208, 5, none⟩) (Kd.R_far (p := ⟨gb208, 4, none⟩) (Kd.R_far (p := ⟨gb208, 3, none⟩) (Kd.R_far (p := ⟨gb208, 2, none⟩) (Kd.R_far (p := ⟨gb208, 1, none⟩) (Kd.R_far (p := ⟨gb208, 0, none⟩) (Kd.R_types HO_4.out BK208.out (by decide)) (fun _ hk => hk.2) (.int .i64 ((rd_T64 l0_0 x5_1).f0))) (fun _ hk => hk.2) (.string ((rd_T64 l0_0 x5_1).f1))) (fun _ hk => hk.2) (.slice A207_2 ((rd_T64 l0_0 x5_1).f2).length c207_2)) (fun _ hk => hk.2) (.string ((rd_T64 l0_0 x5_1).f3))) (fun _ hk => hk.2) (.int .i64 ((rd_T64 l0_0 x5_1).f4))) (fun _ hk => hk.2) (.slice A207_5 ((rd_T64 l0_0 x5_1).f5).length c207_5)) (fun _ h_ => h_.1))) hb); replace BK202 := Aside0.mk (zq10 (g := gb202) (o := .cells #[.slice (some ad207) l0_0.length c0_0] 29 (0, 0)) (by (with_reducible repeat (first | refine zq4 ?_ _ | refine zq6 ?_ | refine zq5 ?_ _ | refine blk_far ?_ NB202_208.out _)); exact BK202.out) hb); replace BK208 := Aside0.mk (zq10 (g := gb208) (o := .cells #[.int .i64 ((rd_T64 l0_0 x5_1).f0), .string ((rd_T64 l0_0 x5_1).f1), .slice A207_2 ((rd_T64 l0_0 x5_1).f2).length c207_2, .string ((rd_T64 l0_0 x5_1).f3), .int .i64 ((rd_T64 l0_0 x5_1).f4), .slice A207_5 ((rd_T64 l0_0 x5_1).f5).length c207_5] 64 (0, 0)) (by (with_reducible repeat (first | refine zq4 ?_ _ | refine zq6 ?_ | refine zq5 ?_ _)); refine blk_put (cs := #[.int .i64 ((rd_T64 l0_0 x5_1).f0), .string ((rd_T64 l0_0 x5_1).f1), .slice A207_2 ((rd_T64 l0_0 x5_1).f2).length c207_2, .string ((rd_T64 l0_0 x5_1).f3), .int .i64 ((rd_T64 l0_0 x5_1).f4), .slice none 0 0]) ?_ 5 _ rfl; (with_reducible repeat (first | refine zq4 ?_ _ | refine zq6 ?_ | refine zq5 ?_ _)); refine blk_put (cs := #[.int .i64 ((rd_T64 l0_0 x5_1).f0), .string ((rd_T64 l0_0 x5_1).f1), .slice A207_2 ((rd_T64 l0_0 x5_1).f2).length c207_2, .string ((rd_T64 l0_0 x5_1).f3), .int .i64 0, .slice none 0 0]) ?_ 4 _ rfl; (with_reducible repeat (first | refine zq4 ?_ _ | refine zq6 ?_ | refine zq5 ?_ _)); refine blk_put (cs := #[.int .i64 ((rd_T64 l0_0 x5_1).f0), .string ((rd_T64 l0_0 x5_1).f1), .slice A207_2 ((rd_T64 l0_0 x5_1).f2).length c207_2, .string (⟨#[]⟩ : ByteArray), .int .i64 0, .slice none 0 0]) ?_ 3 _ rfl; (with_reducible repeat (first | refine zq4 ?_ _ | refine zq6 ?_ | refine zq5 ?_ _)); refine blk_put (cs := #[.int .i64 ((rd_T64 l0_0 x5_1).f0), .string ((rd_T64 l0_0 x5_1).f1), .slice none 0 0, .string (⟨#[]⟩ : ByteArray), .int .i64 0, .slice none 0 0]) ?_ 2 _ rfl; (with_reducible repeat (first | refine zq4 ?_ _ | refine zq6 ?_ | refine zq5 ?_ _)); refine blk_put (cs := #[.int .i64 ((rd_T64 l0_0 x5_1).f0), .string (⟨#[]⟩ : ByteArray), .slice none 0 0, .string (⟨#[]⟩ : ByteArray), .int .i64 0, .slice none 0 0]) ?_ 1 _ rfl; (with_reducible repeat (first | refine zq4 ?_ _ | refine zq6 ?_ | refine zq5 ?_ _)); refine blk_put (cs := #[.int .i64 0, .string (⟨#[]⟩ : ByteArray), .slice none 0 0, .string (⟨#[]⟩ : ByteArray), .int .i64 0, .slice none 0 0]) ?_ 0 _ rfl; (with_reducible repeat (first | refine zq4 ?_ _ | refine zq6 ?_ | refine zq5 ?_ _)); exact BK208.out) hb); replace HB := Aside0.mk (zq7 (by repeat (with_reducible first | exact HB.out | apply zq2 | apply zq0 | apply zq1 | refine zq3 ?_ GE202.out | refine zq3 ?_ GE208.out)) hb); (try clear hb); obtain ⟨hcz35_0, hcz35_1, hcz35_2, hcz35_3, hcz35_4, hcz35_5, hfz35_0, hfz35_1, hfz35_2, hfz35_3, hfz35_4, hfz35_5⟩ := cells6 BK208.out) | (go_at_call 73; (with_reducible refine (zq17.calls ((rd_T64 l0_0 x5_1).f4) (-1) (wrap64 ((l0_0.length : Int) - 1)) true _ A25.out).mono ?_); rintro e w' ⟨rfl, ⟨nd, rfl⟩⟩; (try first | exact ⟨rfl, _, World.drewN_drewN _ _ _⟩ | exact ⟨rfl, _, Eq.trans (World.drewN_drewN _ _ _) (congrArg (World.drewN _) (Nat.add_assoc _ _ _))⟩)))
              repeat (go_quiet (first | (go_at_call 73; (with_reducible refine (zq17.calls ((rd_T64 l0_0 x5_1).f4) (-1) (wrap64 ((l0_0.length : Int) - 1)) true _ A25.out).mono ?_); rintro e w' ⟨rfl, ⟨nd, rfl⟩⟩; (try first | exact ⟨rfl, _, World.drewN_drewN _ _ _⟩ | exact ⟨rfl, _, Eq.trans (World.drewN_drewN _ _ _) (congrArg (World.drewN _) (Nat.add_assoc _ _ _))⟩))); try go_wp2_with (first | (go_at_call 73; (with_reducible refine (zq17.calls ((rd_T64 l0_0 x5_1).f4) (-1) (wrap64 ((l0_0.length : Int) - 1)) true _ A25.out).mono ?_); rintro e w' ⟨rfl, ⟨nd, rfl⟩⟩; (try first | exact ⟨rfl, _, World.drewN_drewN _ _ _⟩ | exact ⟨rfl, _, Eq.trans (World.drewN_drewN _ _ _) (congrArg (World.drewN _) (Nat.add_assoc _ _ _))⟩))))
              go_meet
              case rel => exact ⟨_, (false), (by first | rfl | simp | simp [*]), H', ⟨by have := HK1.out; first | omega | exact Nat.le_refl _⟩, ⟨by (with_reducible repeat (first | apply Kd.R_alloc | apply Kd.R_drewN | apply Kd.R_drew)); exact HO_4.out⟩, ⟨by (with_reducible repeat (first | refine zq4 ?_ _ | refine zq6 ?_ | refine zq5 ?_ _)); exact BK202.out⟩, ⟨by (with_reducible repeat (first | refine zq4 ?_ _ | refine zq6 ?_ | refine zq5 ?_ _)); exact BK208.out⟩, ⟨by repeat (first | (with_reducible first | exact HB.out | apply zq2 | apply zq0 | apply zq1 | refine zq3 ?_ GE202.out | refine zq3 ?_ GE208.out) | exact HB.out)⟩⟩
            ·replace c26 := Bool.eq_false_iff.mpr c26
             subst c26
             rw [if_neg (show ¬ (false = true) by decide)] at H
             have H' := Aside0.mk H
             clear H
             have hnb36 := NB208_202.out
             have hnc36 := NB202_208.out
             obtain ⟨hcz37_0, hcz37_1, hcz37_2, hcz37_3, hcz37_4, hcz37_5, hfz37_0, hfz37_1, hfz37_2, hfz37_3, hfz37_4, hfz37_5⟩ := cells6 BK208.out
             go_wp2_with (first | (go_at_call 85; (with_reducible refine (zq41.calls k1 ((rd_T64 l0_0 x5_1).f0) ((rd_T64 l0_0 x5_1).f1) _ _ ((rd_T64 l0_0 x5_1).f2) ((rd_T64 l0_0 x5_1).f3) ((rd_T64 l0_0 x5_1).f4) _ _ ((rd_T64 l0_0 x5_1).f5) true _ ?side1 ?side2 ?side3 ?side4 A18.out).mono ?_); (case side1 => exact Kd.C_below HR207_2.out (by repeat (with_reducible first | exact HB.out | apply zq2 | apply zq0 | apply zq1 | refine zq3 ?_ GE202.out | refine zq3 ?_ GE208.out))); (case side2 => exact HC207_2.out); (case side3 => exact Kd.C_below HR207_5.out (by repeat (with_reducible first | exact HB.out | apply zq2 | apply zq0 | apply zq1 | refine zq3 ?_ GE202.out | refine zq3 ?_ GE208.out))); (case side4 => exact HC207_5.out); rintro e w38 ⟨rfl, hb⟩; replace HO_4 := Aside0.mk (Kd.R_below (by (with_reducible repeat (first | apply Kd.R_alloc | apply Kd.R_drewN | apply Kd.R_drew)); exact (Kd.R_mono (Kd.R_far (p := ⟨gb208, 5, none⟩) (Kd.R_far (p := ⟨gb208, 4, none⟩) (Kd.R_far (p := ⟨gb208, 3, none⟩) (Kd.R_far (p := ⟨gb208, 2, none⟩) (Kd.R_far (p := ⟨gb208, 1, none⟩) (Kd.R_far (p := ⟨gb208, 0, none⟩) (Kd.R_types HO_4.out BK208.out (by decide)) (fun _ hk => hk.2) (.int .i64 ((rd_T64 l0_0 x5_1).f0))) (fun _ hk => hk.2) (.string ((rd_T64 l0_0 x5_1).f1))) (fun _ hk => hk.2) (.slice A207_2 ((rd_T64 l0_0 x5_1).f2).length c207_2)) (fun _ hk => hk.2) (.string ((rd_T64 l0_0 x5_1).f3))) (fun _ hk => hk.2) (.int .i64 ((rd_T64 l0_0 x5_1).f4))) (fun _ hk => hk.2) (.slice A207_5 ((rd_T64 l0_0 x5_1).f5).length c207_5)) (fun _ h_ => h_.1))) hb); replace BK202 := Aside0.mk (zq10 (g := gb202) (o := .cells #[.slice (some ad207) l0_0.length c0_0] 29 (0, 0)) (by (with_reducible repeat (first | refine zq4 ?_ _ | refine zq6 ?_ | refine zq5 ?_ _ | refine blk_far ?_ NB202_208.out _)); exact BK202.out) hb); replace BK208 := Aside0.mk (zq10 (g := gb208) (o := .cells #[.int .i64 ((rd_T64 l0_0 x5_1).f0), .string ((rd_T64 l0_0 x5_1).f1), .slice A207_2 ((rd_T64 l0_0 x5_1).f2).length c207_2, .string ((rd_T64 l0_0 x5_1).f3), .int .i64 ((rd_T64 l0_0 x5_1).f4), .slice A207_5 ((rd_T64 l0_0 x5_1).f5).length c207_5] 64 (0, 0)) (by (with_reducible repeat (first | refine zq4 ?_ _ | refine zq6 ?_ | refine zq5 ?_ _)); refine blk_put (cs := #[.int .i64 ((rd_T64 l0_0 x5_1).f0), .string ((rd_T64 l0_0 x5_1).f1), .slice A207_2 ((rd_T64 l0_0 x5_1).f2).length c207_2, .string ((rd_T64 l0_0 x5_1).f3), .int .i64 ((rd_T64 l0_0 x5_1).f4), .slice none 0 0]) ?_ 5 _ rfl; (with_reducible repeat (first | refine zq4 ?_ _ | refine zq6 ?_ | refine zq5 ?_ _)); refine blk_put (cs := #[.int .i64 ((rd_T64 l0_0 x5_1).f0), .string ((rd_T64 l0_0 x5_1).f1), .slice A207_2 ((rd_T64 l0_0 x5_1).f2).length c207_2, .string ((rd_T64 l0_0 x5_1).f3), .int .i64 0, .slice none 0 0]) ?_ 4 _ rfl; (with_reducible repeat (first | refine zq4 ?_ _ | refine zq6 ?_ | refine zq5 ?_ _)); refine blk_put (cs := #[.int .i64 ((rd_T64 l0_0 x5_1).f0), .string ((rd_T64 l0_0 x5_1).f1), .slice A207_2 ((rd_T64 l0_0 x5_1).f2).length c207_2, .string (⟨#[]⟩ : ByteArray), .int .i64 0, .slice none 0 0]) ?_ 3 _ rfl; (with_reducible repeat (first | refine zq4 ?_ _ | refine zq6 ?_ | refine zq5 ?_ _)); refine blk_put (cs := #[.int .i64 ((rd_T64 l0_0 x5_1).f0), .string ((rd_T64 l0_0 x5_1).f1), .slice none 0 0, .string (⟨#[]⟩ : ByteArray), .int .i64 0, .slice none 0 0]) ?_ 2 _ rfl; (with_reducible repeat (first | refine zq4 ?_ _ | refine zq6 ?_ | refine zq5 ?_ _)); refine blk_put (cs := #[.int .i64 ((rd_T64 l0_0 x5_1).f0), .string (⟨#[]⟩ : ByteArray), .slice none 0 0, .string (⟨#[]⟩ : ByteArray), .int .i64 0, .slice none 0 0]) ?_ 1 _ rfl; (with_reducible repeat (first | refine zq4 ?_ _ | refine zq6 ?_ | refine zq5 ?_ _)); refine blk_put (cs := #[.int .i64 0, .string (⟨#[]⟩ : ByteArray), .slice none 0 0, .string (⟨#[]⟩ : ByteArray), .int .i64 0, .slice none 0 0]) ?_ 0 _ rfl; (with_reducible repeat (first | refine zq4 ?_ _ | refine zq6 ?_ | refine zq5 ?_ _)); exact BK208.out) hb); replace HB := Aside0.mk (zq7 (by repeat (with_reducible first | exact HB.out | apply zq2 | apply zq0 | apply zq1 | refine zq3 ?_ GE202.out | refine zq3 ?_ GE208.out)) hb); (try clear hb); obtain ⟨hcz39_0, hcz39_1, hcz39_2, hcz39_3, hcz39_4, hcz39_5, hfz39_0, hfz39_1, hfz39_2, hfz39_3, hfz39_4, hfz39_5⟩ := cells6 BK208.out) | (go_at_call 73; (with_reducible refine (zq17.calls ((rd_T64 l0_0 x5_1).f4) (-1) (wrap64 ((l0_0.length : Int) - 1)) false _ A25.out).mono ?_); rintro e w' ⟨rfl, ⟨nd, rfl⟩⟩; (try first | exact ⟨rfl, _, World.drewN_drewN _ _ _⟩ | exact ⟨rfl, _, Eq.trans (World.drewN_drewN _ _ _) (congrArg (World.drewN _) (Nat.add_assoc _ _ _))⟩)))
             repeat (go_quiet (first | (go_at_call 73; (with_reducible refine (zq17.calls ((rd_T64 l0_0 x5_1).f4) (-1) (wrap64 ((l0_0.length : Int) - 1)) false _ A25.out).mono ?_); rintro e w' ⟨rfl, ⟨nd, rfl⟩⟩; (try first | exact ⟨rfl, _, World.drewN_drewN _ _ _⟩ | exact ⟨rfl, _, Eq.trans (World.drewN_drewN _ _ _) (congrArg (World.drewN _) (Nat.add_assoc _ _ _))⟩))); try go_wp2_with (first | (go_at_call 73; (with_reducible refine (zq17.calls ((rd_T64 l0_0 x5_1).f4) (-1) (wrap64 ((l0_0.length : Int) - 1)) false _ A25.out).mono ?_); rintro e w' ⟨rfl, ⟨nd, rfl⟩⟩; (try first | exact ⟨rfl, _, World.drewN_drewN _ _ _⟩ | exact ⟨rfl, _, Eq.trans (World.drewN_drewN _ _ _) (congrArg (World.drewN _) (Nat.add_assoc _ _ _))⟩))))
             go_meet
             case rel => exact ⟨_, (true), (by first | rfl | simp | simp [*]), H', ⟨by have := HK1.out; first | omega | exact Nat.le_refl _⟩, ⟨by (with_reducible repeat (first | apply Kd.R_alloc | apply Kd.R_drewN | apply Kd.R_drew)); exact HO_4.out⟩, ⟨by (with_reducible repeat (first | refine zq4 ?_ _ | refine zq6 ?_ | refine zq5 ?_ _)); exact BK202.out⟩, ⟨by (with_reducible repeat (first | refine zq4 ?_ _ | refine zq6 ?_ | refine zq5 ?_ _)); exact BK208.out⟩, ⟨by repeat (first | (with_reducible first | exact HB.out | apply zq2 | apply zq0 | apply zq1 | refine zq3 ?_ GE202.out | refine zq3 ?_ GE208.out) | exact HB.out)⟩⟩
          ·replace c19 := Bool.eq_false_iff.mpr c19
           subst c19
           rw [if_neg (show ¬ (false = true) by decide)] at H
           have H' := Aside0.mk H
           clear H
           have hnb40 := NB208_202.out
           have hnc40 := NB202_208.out
           obtain ⟨hcz41_0, hcz41_1, hcz41_2, hcz41_3, hcz41_4, hcz41_5, hfz41_0, hfz41_1, hfz41_2, hfz41_3, hfz41_4, hfz41_5⟩ := cells6 BK208.out
           go_wp2_with (first | (go_at_call 85; (with_reducible refine (zq41.calls k1 ((rd_T64 l0_0 x5_1).f0) ((rd_T64 l0_0 x5_1).f1) _ _ ((rd_T64 l0_0 x5_1).f2) ((rd_T64 l0_0 x5_1).f3) ((rd_T64 l0_0 x5_1).f4) _ _ ((rd_T64 l0_0 x5_1).f5) false _ ?side1 ?side2 ?side3 ?side4 A18.out).mono ?_); (case side1 => exact Kd.C_below HR207_2.out (by repeat (with_reducible first | exact HB.out | apply zq2 | apply zq0 | apply zq1 | refine zq3 ?_ GE202.out | refine zq3 ?_ GE208.out))); (case side2 => exact HC207_2.out); (case side3 => exact Kd.C_below HR207_5.out (by repeat (with_reducible first | exact HB.out | apply zq2 | apply zq0 | apply zq1 | refine zq3 ?_ GE202.out | refine zq3 ?_ GE208.out))); (case side4 => exact HC207_5.out); rintro e w42 ⟨rfl, hb⟩; replace HO_4 := Aside0.mk (Kd.R_below (by (with_reducible repeat (first | apply Kd.R_alloc | apply Kd.R_drewN | apply Kd.R_drew)); exact (Kd.R_mono (Kd.R_far (p := ⟨gb208, 5, none⟩) (Kd.R_far (p := ⟨gb208, 4, none⟩) (Kd.R_far (p := ⟨gb208, 3, none⟩) (Kd.R_far (p := ⟨gb208, 2, none⟩) (Kd.R_far (p := ⟨gb208, 1, none⟩) (Kd.R_far (p := ⟨gb208, 0, none⟩) (Kd.R_types HO_4.out BK208.out (by decide)) (fun _ hk => hk.2) (.int .i64 ((rd_T64 l0_0 x5_1).f0))) (fun _ hk => hk.2) (.string ((rd_T64 l0_0 x5_1).f1))) (fun _ hk => hk.2) (.slice A207_2 ((rd_T64 l0_0 x5_1).f2).length c207_2)) (fun _ hk => hk.2) (.string ((rd_T64 l0_0 x5_1).f3))) (fun _ hk => hk.2) (.int .i64 ((rd_T64 l0_0 x5_1).f4))) (fun _ hk => hk.2) (.slice A207_5 ((rd_T64 l0_0 x5_1).f5).length c207_5)) (fun _ h_ => h_.1))) hb); replace BK202 := Aside0.mk (zq10 (g := gb202) (o := .cells #[.slice (some ad207) l0_0.length c0_0] 29 (0, 0)) (by (with_reducible repeat (first | refine zq4 ?_ _ | refine zq6 ?_ | refine zq5 ?_ _ | refine blk_far ?_ NB202_208.out _)); exact BK202.out) hb); replace BK208 := Aside0.mk (zq10 (g := gb208) (o := .cells #[.int .i64 ((rd_T64 l0_0 x5_1).f0), .string ((rd_T64 l0_0 x5_1).f1), .slice A207_2 ((rd_T64 l0_0 x5_1).f2).length c207_2, .string ((rd_T64 l0_0 x5_1).f3), .int .i64 ((rd_T64 l0_0 x5_1).f4), .slice A207_5 ((rd_T64 l0_0 x5_1).f5).length c207_5] 64 (0, 0)) (by (with_reducible repeat (first | refine zq4 ?_ _ | refine zq6 ?_ | refine zq5 ?_ _)); refine blk_put (cs := #[.int .i64 ((rd_T64 l0_0 x5_1).f0), .string ((rd_T64 l0_0 x5_1).f1), .slice A207_2 ((rd_T64 l0_0 x5_1).f2).length c207_2, .string ((rd_T64 l0_0 x5_1).f3), .int .i64 ((rd_T64 l0_0 x5_1).f4), .slice none 0 0]) ?_ 5 _ rfl; (with_reducible repeat (first | refine zq4 ?_ _ | refine zq6 ?_ | refine zq5 ?_ _)); refine blk_put (cs := #[.int .i64 ((rd_T64 l0_0 x5_1).f0), .string ((rd_T64 l0_0 x5_1).f1), .slice A207_2 ((rd_T64 l0_0 x5_1).f2).length c207_2, .string ((rd_T64 l0_0 x5_1).f3), .int .i64 0, .slice none 0 0]) ?_ 4 _ rfl; (with_reducible repeat (first | refine zq4 ?_ _ | refine zq6 ?_ | refine zq5 ?_ _)); refine blk_put (cs := #[.int .i64 ((rd_T64 l0_0 x5_1).f0), .string ((rd_T64 l0_0 x5_1).f1), .slice A207_2 ((rd_T64 l0_0 x5_1).f2).length c207_2, .string (⟨#[]⟩ : ByteArray), .int .i64 0, .slice none 0 0]) ?_ 3 _ rfl; (with_reducible repeat (first | refine zq4 ?_ _ | refine zq6 ?_ | refine zq5 ?_ _)); refine blk_put (cs := #[.int .i64 ((rd_T64 l0_0 x5_1).f0), .string ((rd_T64 l0_0 x5_1).f1), .slice none 0 0, .string (⟨#[]⟩ : ByteArray), .int .i64 0, .slice none 0 0]) ?_ 2 _ rfl; (with_reducible repeat (first | refine zq4 ?_ _ | refine zq6 ?_ | refine zq5 ?_ _)); refine blk_put (cs := #[.int .i64 ((rd_T64 l0_0 x5_1).f0), .string (⟨#[]⟩ : ByteArray), .slice none 0 0, .string (⟨#[]⟩ : ByteArray), .int .i64 0, .slice none 0 0]) ?_ 1 _ rfl; (with_reducible repeat (first | refine zq4 ?_ _ | refine zq6 ?_ | refine zq5 ?_ _)); refine blk_put (cs := #[.int .i64 0, .string (⟨#[]⟩ : ByteArray), .slice none 0 0, .string (⟨#[]⟩ : ByteArray), .int .i64 0, .slice none 0 0]) ?_ 0 _ rfl; (with_reducible repeat (first | refine zq4 ?_ _ | refine zq6 ?_ | refine zq5 ?_ _)); exact BK208.out) hb); replace HB := Aside0.mk (zq7 (by repeat (with_reducible first | exact HB.out | apply zq2 | apply zq0 | apply zq1 | refine zq3 ?_ GE202.out | refine zq3 ?_ GE208.out)) hb); (try clear hb)))
           repeat (go_quiet (fail); try go_wp2_with fail)
           go_meet
           case rel => exact ⟨_, (true), (by first | rfl | simp | simp [*]), H', ⟨by have := HK1.out; first | omega | exact Nat.le_refl _⟩, ⟨by (with_reducible repeat (first | apply Kd.R_alloc | apply Kd.R_drewN | apply Kd.R_drew)); exact HO_4.out⟩, ⟨by (with_reducible repeat (first | refine zq4 ?_ _ | refine zq6 ?_ | refine zq5 ?_ _)); exact BK202.out⟩, ⟨by (with_reducible repeat (first | refine zq4 ?_ _ | refine zq6 ?_ | refine zq5 ?_ _)); exact BK208.out⟩, ⟨by repeat (first | (with_reducible first | exact HB.out | apply zq2 | apply zq0 | apply zq1 | refine zq3 ?_ GE202.out | refine zq3 ?_ GE208.out) | exact HB.out)⟩⟩
         case rest =>
          clear HC13
          obtain ⟨kq, x57_12, rfl, HA, HJ12, HO_4, BK202, BK208, HB⟩ := hcut
          cases kq with
          | zero => exact absurd HA.out (by simp [zq11.j1])
          | succ kj12 =>
           have H := HA.out
           clear HA
           simp only [zq11.j1] at H
           by_cases c43 : x57_12 = true
           ·subst c43
            rw [if_pos rfl] at H
            obtain rfl := Option.some.inj H
            go_wp2
            repeat (go_quiet (fail); try go_wp2)
            go_ret
            exact ⟨by first | rfl | simp | simp [*], by repeat (first | (with_reducible first | exact HB.out | apply zq2 | apply zq0 | apply zq1 | refine zq3 ?_ GE202.out | refine zq3 ?_ GE208.out) | exact HB.out)⟩
           ·replace c43 := Bool.eq_false_iff.mpr c43
            subst c43
            rw [if_neg (show ¬ (false = true) by decide)] at H
            have H' := Aside0.mk H
            clear H
            go_wp2
            repeat (go_quiet (fail); try go_wp2)
            go_loopg [7] kj12 (fun kq v7 w' => ∃ (x4_3 : List Bool) (x7_3 : Int), v7 = .int .i64 x7_3 ∧ Aside0 (zq11.l1 kq (l0_0.length : Int) x4_3 x5_1 x7_3 l0_0 ((rd_T64 l0_0 x5_1).f0) ((rd_T64 l0_0 x5_1).f1) ((rd_T64 l0_0 x5_1).f2) ((rd_T64 l0_0 x5_1).f3) ((rd_T64 l0_0 x5_1).f4) ((rd_T64 l0_0 x5_1).f5) = some r) ∧ Aside0 (kq ≤ kj12) ∧ Aside0 (Kd.R Kd.bool 4 w' w.heap.size (fun _ => True) v205 x4_3) ∧ Aside0 (w'.heap[gb202]? = some (.cells #[(.slice (some ad207) l0_0.length c0_0)] 29 (0, 0))) ∧ Aside0 (w'.heap[gb208]? = some (.cells #[.int .i64 ((rd_T64 l0_0 x5_1).f0), .string ((rd_T64 l0_0 x5_1).f1), (.slice A207_2 ((rd_T64 l0_0 x5_1).f2).length c207_2), .string ((rd_T64 l0_0 x5_1).f3), .int .i64 ((rd_T64 l0_0 x5_1).f4), (.slice A207_5 ((rd_T64 l0_0 x5_1).f5).length c207_5)] 64 (0, 0))) ∧ Aside0 (Below w.heap.size w w'))
            case atStart => exact ⟨(x4_1), (0), (by first | rfl | simp | simp [*]), H', ⟨Nat.le_refl _⟩, ⟨by (with_reducible repeat (first | apply Kd.R_alloc | apply Kd.R_drewN | apply Kd.R_drew)); exact HO_4.out⟩, ⟨by (with_reducible repeat (first | refine zq4 ?_ _ | refine zq6 ?_ | refine zq5 ?_ _)); exact BK202.out⟩, ⟨by (with_reducible repeat (first | refine zq4 ?_ _ | refine zq6 ?_ | refine zq5 ?_ _)); exact BK208.out⟩, ⟨by repeat (first | (with_reducible first | exact HB.out | apply zq2 | apply zq0 | apply zq1 | refine zq3 ?_ GE202.out | refine zq3 ?_ GE208.out) | exact HB.out)⟩⟩
            case round =>
             clear H'
             obtain ⟨x4_3, x7_3, rfl, HA, HK3, HO_4, BK202, BK208, HB⟩ := hrel
             cases gk with
             | zero => exact absurd HA.out (by simp [zq11.l1])
             | succ k3 =>
              have H := HA.out
              clear HA
              simp only [zq11.l1] at H
              by_cases c44 : x7_3 < (((rd_T64 l0_0 x5_1).f5).length : Int)
              ·rw [if_pos c44] at H
               have c44b0 : decide (x7_3 < (((rd_T64 l0_0 x5_1).f5).length : Int)) = true := decide_eq_true c44
               clear c44
               by_cases c45 : 0 ≤ x7_3
               ·rw [if_pos c45] at H
                have c45b0 : decide (0 ≤ x7_3) = true := decide_eq_true c45
                clear c45
                replace H := Option.bind_eq_some_iff.mp H
                obtain ⟨t212, A460, H⟩ := H
                (try dsimp only at H)
                have A46 := Aside0.mk A460
                clear A460
                by_cases c47 : t212 = true
                ·subst c47
                 rw [if_pos rfl] at H
                 by_cases c48 : 0 ≤ (rd ((rd_T64 l0_0 x5_1).f5) x7_3)
                 ·rw [if_pos c48] at H
                  have c48b0 : decide (0 ≤ (rd ((rd_T64 l0_0 x5_1).f5) x7_3)) = true := decide_eq_true c48
                  clear c48
                  by_cases c49 : (rd ((rd_T64 l0_0 x5_1).f5) x7_3) < (x4_3.length : Int)
                  ·rw [if_pos c49] at H
                   have c49b0 : decide ((rd ((rd_T64 l0_0 x5_1).f5) x7_3) < (x4_3.length : Int)) = true := decide_eq_true c49
                   clear c49
                   obtain ⟨bq50, hbq50⟩ : ∃ b_ : Bool, b_ = (rdOf false x4_3 (rd ((rd_T64 l0_0 x5_1).f5) x7_3)) := ⟨_, rfl⟩
                   replace H : (if bq50 = true then (some false) else (if (rd ((rd_T64 l0_0 x5_1).f5) x7_3) < (l0_0.length : Int) then (if ((rd_T64 l0_0 (rd ((rd_T64 l0_0 x5_1).f5) x7_3)).f4) = x5_1 then (zq11.l1 k3 (l0_0.length : Int) (x4_3.set ((rd ((rd_T64 l0_0 x5_1).f5) x7_3) : Int).toNat true) x5_1 (wrap64 (x7_3 + 1)) l0_0 ((rd_T64 l0_0 x5_1).f0) ((rd_T64 l0_0 x5_1).f1) ((rd_T64 l0_0 x5_1).f2) ((rd_T64 l0_0 x5_1).f3) ((rd_T64 l0_0 x5_1).f4) ((rd_T64 l0_0 x5_1).f5)) else (some false)) else (none))) = some r := by rw [← hbq50] at H; exact H
                   have Nbq50 := Aside0.mk hbq50
                   clear hbq50
                   by_cases c51 : bq50 = true
                   ·subst c51
                    rw [if_pos rfl] at H
                    obtain rfl := Option.some.inj H
                    have hnb52 := NB208_202.out
                    have hnc52 := NB202_208.out
                    obtain ⟨hcz53_0, hcz53_1, hcz53_2, hcz53_3, hcz53_4, hcz53_5, hfz53_0, hfz53_1, hfz53_2, hfz53_3, hfz53_4, hfz53_5⟩ := cells6 BK208.out
                    have p211 : 0 ≤ (x7_3 : Int) := of_decide_eq_true (by assumption)
                    have q211 : x7_3 < (((rd_T64 l0_0 x5_1).f5).length : Int) := of_decide_eq_true (by assumption)
                    obtain ⟨ad211, e211, hx211_0⟩ := Kd.at_int HR207_5.out x7_3 p211 q211
                    cases e211
                    replace hx211_0 := pw_cell_below HB.out hx211_0
                    replace p211 := eq_true p211
                    replace q211 := eq_true q211
                    go_wp2_with (first | (go_at_call 73; (with_reducible refine (zq17.calls (rd ((rd_T64 l0_0 x5_1).f5) x7_3) 1 (wrap64 ((l0_0.length : Int) - 1)) true _ A46.out).mono ?_); rintro e w' ⟨rfl, ⟨nd, rfl⟩⟩; (try first | exact ⟨rfl, _, World.drewN_drewN _ _ _⟩ | exact ⟨rfl, _, Eq.trans (World.drewN_drewN _ _ _) (congrArg (World.drewN _) (Nat.add_assoc _ _ _))⟩); obtain ⟨Ao54, co54, eo54⟩ := Kd.R_slice HO_4.out; subst eo54; have p213 : 0 ≤ ((rd ((rd_T64 l0_0 x5_1).f5) x7_3) : Int) := of_decide_eq_true (by assumption); have q213 : (rd ((rd_T64 l0_0 x5_1).f5) x7_3) < (x4_3.length : Int) := of_decide_eq_true (by assumption); obtain ⟨ad213, e213, hx213_0⟩ := Kd.at_bool (Kd.R_reads' HO_4.out).2.2 (rd ((rd_T64 l0_0 x5_1).f5) x7_3) p213 q213; (try rw [← Nbq50.out] at hx213_0); cases e213; replace p213 := eq_true p213; replace q213 := eq_true q213))
                    repeat (go_quiet (first | (go_at_call 73; (with_reducible refine (zq17.calls (rd ((rd_T64 l0_0 x5_1).f5) x7_3) 1 (wrap64 ((l0_0.length : Int) - 1)) true _ A46.out).mono ?_); rintro e w' ⟨rfl, ⟨nd, rfl⟩⟩; (try first | exact ⟨rfl, _, World.drewN_drewN _ _ _⟩ | exact ⟨rfl, _, Eq.trans (World.drewN_drewN _ _ _) (congrArg (World.drewN _) (Nat.add_assoc _ _ _))⟩); obtain ⟨Ao54, co54, eo54⟩ := Kd.R_slice HO_4.out; subst eo54; have p213 : 0 ≤ ((rd ((rd_T64 l0_0 x5_1).f5) x7_3) : Int) := of_decide_eq_true (by assumption); have q213 : (rd ((rd_T64 l0_0 x5_1).f5) x7_3) < (x4_3.length : Int) := of_decide_eq_true (by assumption); obtain ⟨ad213, e213, hx213_0⟩ := Kd.at_bool (Kd.R_reads' HO_4.out).2.2 (rd ((rd_T64 l0_0 x5_1).f5) x7_3) p213 q213; (try rw [← Nbq50.out] at hx213_0); cases e213; replace p213 := eq_true p213; replace q213 := eq_true q213)); try go_wp2_with (first | (go_at_call 73; (with_reducible refine (zq17.calls (rd ((rd_T64 l0_0 x5_1).f5) x7_3) 1 (wrap64 ((l0_0.length : Int) - 1)) true _ A46.out).mono ?_); rintro e w' ⟨rfl, ⟨nd, rfl⟩⟩; (try first | exact ⟨rfl, _, World.drewN_drewN _ _ _⟩ | exact ⟨rfl, _, Eq.trans (World.drewN_drewN _ _ _) (congrArg (World.drewN _) (Nat.add_assoc _ _ _))⟩); obtain ⟨Ao54, co54, eo54⟩ := Kd.R_slice HO_4.out; subst eo54; have p213 : 0 ≤ ((rd ((rd_T64 l0_0 x5_1).f5) x7_3) : Int) := of_decide_eq_true (by assumption); have q213 : (rd ((rd_T64 l0_0 x5_1).f5) x7_3) < (x4_3.length : Int) := of_decide_eq_true (by assumption); obtain ⟨ad213, e213, hx213_0⟩ := Kd.at_bool (Kd.R_reads' HO_4.out).2.2 (rd ((rd_T64 l0_0 x5_1).f5) x7_3) p213 q213; (try rw [← Nbq50.out] at hx213_0); cases e213; replace p213 := eq_true p213; replace q213 := eq_true q213)))
                    go_ret
                    exact ⟨by first | rfl | simp | simp [*], by repeat (first | (with_reducible first | exact HB.out | apply zq2 | apply zq0 | apply zq1 | refine zq3 ?_ GE202.out | refine zq3 ?_ GE208.out) | exact HB.out)⟩
                   ·replace c51 := Bool.eq_false_iff.mpr c51
                    subst c51
                    rw [if_neg (show ¬ (false = true) by decide)] at H
                    by_cases c55 : (rd ((rd_T64 l0_0 x5_1).f5) x7_3) < (l0_0.length : Int)
                    ·rw [if_pos c55] at H
                     have c55b0 : decide ((rd ((rd_T64 l0_0 x5_1).f5) x7_3) < (l0_0.length : Int)) = true := decide_eq_true c55
                     clear c55
                     by_cases c56 : ((rd_T64 l0_0 (rd ((rd_T64 l0_0 x5_1).f5) x7_3)).f4) = x5_1
                     ·rw [if_pos c56] at H
                      have c56b0 := beq_iff_eq.mpr c56
                      have c56b1 := bne_eq_false_iff_eq.mpr c56
                      clear c56
                      obtain ⟨y215, hy215⟩ : ∃ y_ : List Bool, y_ = (x4_3.set ((rd ((rd_T64 l0_0 x5_1).f5) x7_3) : Int).toNat true) := ⟨_, rfl⟩
                      replace H : (zq11.l1 k3 (l0_0.length : Int) y215 x5_1 (wrap64 (x7_3 + 1)) l0_0 ((rd_T64 l0_0 x5_1).f0) ((rd_T64 l0_0 x5_1).f1) ((rd_T64 l0_0 x5_1).f2) ((rd_T64 l0_0 x5_1).f3) ((rd_T64 l0_0 x5_1).f4) ((rd_T64 l0_0 x5_1).f5)) = some r := by first | (rw [hy215]; with_reducible exact H) | (have H2_ := (Option.bind_some _ _).symm.trans H; rw [hy215]; with_reducible exact H2_) | (have H2_ := (Option.bind_some _ _).symm.trans H; with_reducible exact H2_) | with_reducible exact H | (rw [hy215]; exact H) | exact H
                      have Ny215 := Aside0.mk hy215
                      clear hy215
                      have H' := Aside0.mk H
                      clear H
                      have hnb58 := NB208_202.out
                      have hnc58 := NB202_208.out
                      obtain ⟨hcz59_0, hcz59_1, hcz59_2, hcz59_3, hcz59_4, hcz59_5, hfz59_0, hfz59_1, hfz59_2, hfz59_3, hfz59_4, hfz59_5⟩ := cells6 BK208.out
                      have p211 : 0 ≤ (x7_3 : Int) := of_decide_eq_true (by assumption)
                      have q211 : x7_3 < (((rd_T64 l0_0 x5_1).f5).length : Int) := of_decide_eq_true (by assumption)
                      obtain ⟨ad211, e211, hx211_0⟩ := Kd.at_int HR207_5.out x7_3 p211 q211
                      cases e211
                      replace hx211_0 := pw_cell_below HB.out hx211_0
                      replace p211 := eq_true p211
                      replace q211 := eq_true q211
                      go_wp2_with (first | (go_at_call 73; (with_reducible refine (zq17.calls (rd ((rd_T64 l0_0 x5_1).f5) x7_3) 1 (wrap64 ((l0_0.length : Int) - 1)) true _ A46.out).mono ?_); rintro e w' ⟨rfl, ⟨nd, rfl⟩⟩; (try first | exact ⟨rfl, _, World.drewN_drewN _ _ _⟩ | exact ⟨rfl, _, Eq.trans (World.drewN_drewN _ _ _) (congrArg (World.drewN _) (Nat.add_assoc _ _ _))⟩); obtain ⟨Ao60, co60, eo60⟩ := Kd.R_slice HO_4.out; subst eo60; have p213 : 0 ≤ ((rd ((rd_T64 l0_0 x5_1).f5) x7_3) : Int) := of_decide_eq_true (by assumption); have q213 : (rd ((rd_T64 l0_0 x5_1).f5) x7_3) < (x4_3.length : Int) := of_decide_eq_true (by assumption); obtain ⟨ad213, e213, hx213_0⟩ := Kd.at_bool (Kd.R_reads' HO_4.out).2.2 (rd ((rd_T64 l0_0 x5_1).f5) x7_3) p213 q213; (try rw [← Nbq50.out] at hx213_0); cases e213; replace p213 := eq_true p213; replace q213 := eq_true q213; obtain ⟨hcz61_0, hfz61_0⟩ := cells1 BK202.out; have p214 : 0 ≤ ((rd ((rd_T64 l0_0 x5_1).f5) x7_3) : Int) := of_decide_eq_true (by assumption); have q214 : (rd ((rd_T64 l0_0 x5_1).f5) x7_3) < (l0_0.length : Int) := of_decide_eq_true (by assumption); obtain ⟨ad214, A214_2, c214_2, A214_5, c214_5, e214, hx214_0, hx214_1, hx214_2, hx214_3, hx214_4, hx214_5, hl214_2, hi214_2, hl214_5, hi214_5⟩ := at_T64 HR0_0.out (rd ((rd_T64 l0_0 x5_1).f5) x7_3) p214 q214; obtain rfl : ad207 = ad214 := (by injection e214); replace hx214_0 := pw_cell_below HB.out hx214_0; replace hx214_1 := pw_cell_below HB.out hx214_1; replace hx214_2 := pw_cell_below HB.out hx214_2; replace hx214_3 := pw_cell_below HB.out hx214_3; replace hx214_4 := pw_cell_below HB.out hx214_4; replace hx214_5 := pw_cell_below HB.out hx214_5; have HR214_2 := Aside0.mk hi214_2; have HC214_2 := Aside0.mk hl214_2; clear hi214_2 hl214_2; have HR214_5 := Aside0.mk hi214_5; have HC214_5 := Aside0.mk hl214_5; clear hi214_5 hl214_5; replace p214 := eq_true p214; replace q214 := eq_true q214; have p57 : 0 ≤ ((rd ((rd_T64 l0_0 x5_1).f5) x7_3) : Int) := of_decide_eq_true (by assumption); have q57 : ((rd ((rd_T64 l0_0 x5_1).f5) x7_3) : Int) < ((x4_3.length : Int) : Int) := of_decide_eq_true (by assumption); obtain ⟨go57, co57, eo57, gb57, gl57, cl57, HG57⟩ := Kd.R_form HO_4.out (by omega); (first | cases eo57 | (injection eo57 with ea_ en_ ec_; (first | subst ea_ | (injection ea_ with ea_; subst ea_)); subst ec_; clear en_)); have GB57 := Aside0.mk gb57; have GG57 := Aside0.mk HG57; clear gb57 gl57 HG57; (first | simp only [add_plain] at hx213_0 | skip); obtain ⟨hx57_0, hf57_0⟩ := Kd.R_celln false HO_4.out ((rd ((rd_T64 l0_0 x5_1).f5) x7_3) : Int) p57 q57; replace p57 := eq_true p57; replace q57 := eq_true q57; obtain ⟨hy62_, hz62_⟩ := Kd.R_celln false HO_4.out ((rd ((rd_T64 l0_0 x5_1).f5) x7_3) : Int) (of_decide_eq_true (by assumption)) (of_decide_eq_true (by assumption)); have HP62 := Kd.R_putg HO_4.out ((rd ((rd_T64 l0_0 x5_1).f5) x7_3) : Int) true) | ((refine gate_store (t := 4) (p := 93) rfl ?_); (try (rw [drewN_self wr]; generalize hq_ : World.drewN wr _ = wr; have n0_ := Aside0.mk (Kd.R_at hq_ HO_4.out); have n1_ := Aside0.mk (blk_at hq_ BK202.out); have n2_ := Aside0.mk (blk_at hq_ BK208.out); have n3_ := Aside0.mk (below_at hq_ HB.out); clear hq_ HO_4 BK202 BK208 HB; have HO_4 := n0_; have BK202 := n1_; have BK208 := n2_; have HB := n3_; clear n0_ n1_ n2_ n3_; (try (obtain ⟨hy62_, hz62_⟩ := Kd.R_celln false HO_4.out ((rd ((rd_T64 l0_0 x5_1).f5) x7_3) : Int) (of_decide_eq_true (by assumption)) (of_decide_eq_true (by assumption)))); (try (have HP62 := Kd.R_putg HO_4.out ((rd ((rd_T64 l0_0 x5_1).f5) x7_3) : Int) true)))); refine store_event (t := 4) (p := 93) (v := ?vo_w63) (w1 := (wr.setCell ⟨go57, ((rd ((rd_T64 l0_0 x5_1).f5) x7_3) : Int).toNat, none⟩ (.bool true))) ?hg ?ho ?hn ?hr ?_; (case ho => rfl); (case hg => rfl); (case hn => rfl); (case hr => first | (go_simp; done) | (go_simp; rfl)); intro w63 hw; have hg : wr.grownBy w63 (some go57) := (by rw [hw]; exact HP62.2); have hp_ : Kd.R Kd.bool 4 w63 w.heap.size (fun _ => True) (.slice (some ⟨go57, 0, none⟩) x4_3.length co60) y215 := (by rw [hw, Ny215.out]; exact HP62.1); clear HP62; replace BK202 := Aside0.mk (blk_grown (g := gb202) (o := .cells #[.slice (some ad207) l0_0.length c0_0] 29 (0, 0)) (by (with_reducible repeat (first | refine zq4 ?_ _ | refine zq6 ?_ | refine zq5 ?_ _)); exact BK202.out) hg (Kd.R_ne HO_4.out BK202.out (by decide))); replace BK208 := Aside0.mk (blk_grown (g := gb208) (o := .cells #[.int .i64 ((rd_T64 l0_0 x5_1).f0), .string ((rd_T64 l0_0 x5_1).f1), .slice A207_2 ((rd_T64 l0_0 x5_1).f2).length c207_2, .string ((rd_T64 l0_0 x5_1).f3), .int .i64 ((rd_T64 l0_0 x5_1).f4), .slice (some ad211) ((rd_T64 l0_0 x5_1).f5).length c207_5] 64 (0, 0)) (by (with_reducible repeat (first | refine zq4 ?_ _ | refine zq6 ?_ | refine zq5 ?_ _)); exact BK208.out) hg (Kd.R_ne HO_4.out BK208.out (by decide))); replace HO_4 := Aside0.mk (hp_); replace HB := Aside0.mk ((by rw [hw]; exact zq3 (HB.out) GB57.out : Below w.heap.size w w63)); clear hg hw hp_))
                      repeat (go_quiet (first | (go_at_call 73; (with_reducible refine (zq17.calls (rd ((rd_T64 l0_0 x5_1).f5) x7_3) 1 (wrap64 ((l0_0.length : Int) - 1)) true _ A46.out).mono ?_); rintro e w' ⟨rfl, ⟨nd, rfl⟩⟩; (try first | exact ⟨rfl, _, World.drewN_drewN _ _ _⟩ | exact ⟨rfl, _, Eq.trans (World.drewN_drewN _ _ _) (congrArg (World.drewN _) (Nat.add_assoc _ _ _))⟩); obtain ⟨Ao60, co60, eo60⟩ := Kd.R_slice HO_4.out; subst eo60; have p213 : 0 ≤ ((rd ((rd_T64 l0_0 x5_1).f5) x7_3) : Int) := of_decide_eq_true (by assumption); have q213 : (rd ((rd_T64 l0_0 x5_1).f5) x7_3) < (x4_3.length : Int) := of_decide_eq_true (by assumption); obtain ⟨ad213, e213, hx213_0⟩ := Kd.at_bool (Kd.R_reads' HO_4.out).2.2 (rd ((rd_T64 l0_0 x5_1).f5) x7_3) p213 q213; (try rw [← Nbq50.out] at hx213_0); cases e213; replace p213 := eq_true p213; replace q213 := eq_true q213; obtain ⟨hcz61_0, hfz61_0⟩ := cells1 BK202.out; have p214 : 0 ≤ ((rd ((rd_T64 l0_0 x5_1).f5) x7_3) : Int) := of_decide_eq_true (by assumption); have q214 : (rd ((rd_T64 l0_0 x5_1).f5) x7_3) < (l0_0.length : Int) := of_decide_eq_true (by assumption); obtain ⟨ad214, A214_2, c214_2, A214_5, c214_5, e214, hx214_0, hx214_1, hx214_2, hx214_3, hx214_4, hx214_5, hl214_2, hi214_2, hl214_5, hi214_5⟩ := at_T64 HR0_0.out (rd ((rd_T64 l0_0 x5_1).f5) x7_3) p214 q214; obtain rfl : ad207 = ad214 := (by injection e214); replace hx214_0 := pw_cell_below HB.out hx214_0; replace hx214_1 := pw_cell_below HB.out hx214_1; replace hx214_2 := pw_cell_below HB.out hx214_2; replace hx214_3 := pw_cell_below HB.out hx214_3; replace hx214_4 := pw_cell_below HB.out hx214_4; replace hx214_5 := pw_cell_below HB.out hx214_5; have HR214_2 := Aside0.mk hi214_2; have HC214_2 := Aside0.mk hl214_2; clear hi214_2 hl214_2; have HR214_5 := Aside0.mk hi214_5; have HC214_5 := Aside0.mk hl214_5; clear hi214_5 hl214_5; replace p214 := eq_true p214; replace q214 := eq_true q214; have p57 : 0 ≤ ((rd ((rd_T64 l0_0 x5_1).f5) x7_3) : Int) := of_decide_eq_true (by assumption); have q57 : ((rd ((rd_T64 l0_0 x5_1).f5) x7_3) : Int) < ((x4_3.length : Int) : Int) := of_decide_eq_true (by assumption); obtain ⟨go57, co57, eo57, gb57, gl57, cl57, HG57⟩ := Kd.R_form HO_4.out (by omega); (first | cases eo57 | (injection eo57 with ea_ en_ ec_; (first | subst ea_ | (injection ea_ with ea_; subst ea_)); subst ec_; clear en_)); have GB57 := Aside0.mk gb57; have GG57 := Aside0.mk HG57; clear gb57 gl57 HG57; (first | simp only [add_plain] at hx213_0 | skip); obtain ⟨hx57_0, hf57_0⟩ := Kd.R_celln false HO_4.out ((rd ((rd_T64 l0_0 x5_1).f5) x7_3) : Int) p57 q57; replace p57 := eq_true p57; replace q57 := eq_true q57; obtain ⟨hy62_, hz62_⟩ := Kd.R_celln false HO_4.out ((rd ((rd_T64 l0_0 x5_1).f5) x7_3) : Int) (of_decide_eq_true (by assumption)) (of_decide_eq_true (by assumption)); have HP62 := Kd.R_putg HO_4.out ((rd ((rd_T64 l0_0 x5_1).f5) x7_3) : Int) true)); try go_wp2_with (first | (go_at_call 73; (with_reducible refine (zq17.calls (rd ((rd_T64 l0_0 x5_1).f5) x7_3) 1 (wrap64 ((l0_0.length : Int) - 1)) true _ A46.out).mono ?_); rintro e w' ⟨rfl, ⟨nd, rfl⟩⟩; (try first | exact ⟨rfl, _, World.drewN_drewN _ _ _⟩ | exact ⟨rfl, _, Eq.trans (World.drewN_drewN _ _ _) (congrArg (World.drewN _) (Nat.add_assoc _ _ _))⟩); obtain ⟨Ao60, co60, eo60⟩ := Kd.R_slice HO_4.out; subst eo60; have p213 : 0 ≤ ((rd ((rd_T64 l0_0 x5_1).f5) x7_3) : Int) := of_decide_eq_true (by assumption); have q213 : (rd ((rd_T64 l0_0 x5_1).f5) x7_3) < (x4_3.length : Int) := of_decide_eq_true (by assumption); obtain ⟨ad213, e213, hx213_0⟩ := Kd.at_bool (Kd.R_reads' HO_4.out).2.2 (rd ((rd_T64 l0_0 x5_1).f5) x7_3) p213 q213; (try rw [← Nbq50.out] at hx213_0); cases e213; replace p213 := eq_true p213; replace q213 := eq_true q213; obtain ⟨hcz61_0, hfz61_0⟩ := cells1 BK202.out; have p214 : 0 ≤ ((rd ((rd_T64 l0_0 x5_1).f5) x7_3) : Int) := of_decide_eq_true (by assumption); have q214 : (rd ((rd_T64 l0_0 x5_1).f5) x7_3) < (l0_0.length : Int) := of_decide_eq_true (by assumption); obtain ⟨ad214, A214_2, c214_2, A214_5, c214_5, e214, hx214_0, hx214_1, hx214_2, hx214_3, hx214_4, hx214_5, hl214_2, hi214_2, hl214_5, hi214_5⟩ := at_T64 HR0_0.out (rd ((rd_T64 l0_0 x5_1).f5) x7_3) p214 q214; obtain rfl : ad207 = ad214 := (by injection e214); replace hx214_0 := pw_cell_below HB.out hx214_0; replace hx214_1 := pw_cell_below HB.out hx214_1; replace hx214_2 := pw_cell_below HB.out hx214_2; replace hx214_3 := pw_cell_below HB.out hx214_3; replace hx214_4 := pw_cell_below HB.out hx214_4; replace hx214_5 := pw_cell_below HB.out hx214_5; have HR214_2 := Aside0.mk hi214_2; have HC214_2 := Aside0.mk hl214_2; clear hi214_2 hl214_2; have HR214_5 := Aside0.mk hi214_5; have HC214_5 := Aside0.mk hl214_5; clear hi214_5 hl214_5; replace p214 := eq_true p214; replace q214 := eq_true q214; have p57 : 0 ≤ ((rd ((rd_T64 l0_0 x5_1).f5) x7_3) : Int) := of_decide_eq_true (by assumption); have q57 : ((rd ((rd_T64 l0_0 x5_1).f5) x7_3) : Int) < ((x4_3.length : Int) : Int) := of_decide_eq_true (by assumption); obtain ⟨go57, co57, eo57, gb57, gl57, cl57, HG57⟩ := Kd.R_form HO_4.out (by omega); (first | cases eo57 | (injection eo57 with ea_ en_ ec_; (first | subst ea_ | (injection ea_ with ea_; subst ea_)); subst ec_; clear en_)); have GB57 := Aside0.mk gb57; have GG57 := Aside0.mk HG57; clear gb57 gl57 HG57; (first | simp only [add_plain] at hx213_0 | skip); obtain ⟨hx57_0, hf57_0⟩ := Kd.R_celln false HO_4.out ((rd ((rd_T64 l0_0 x5_1).f5) x7_3) : Int) p57 q57; replace p57 := eq_true p57; replace q57 := eq_true q57; obtain ⟨hy62_, hz62_⟩ := Kd.R_celln false HO_4.out ((rd ((rd_T64 l0_0 x5_1).f5) x7_3) : Int) (of_decide_eq_true (by assumption)) (of_decide_eq_true (by assumption)); have HP62 := Kd.R_putg HO_4.out ((rd ((rd_T64 l0_0 x5_1).f5) x7_3) : Int) true)))
                      go_roundg k3
                      case measure => have := HK1.out; have := HJ12.out; have := HK3.out; omega
                      case rel => exact ⟨(y215), (wrap64 (x7_3 + 1)), (by first | rfl | simp | simp [*]), H', ⟨by have := HK1.out; have := HJ12.out; have := HK3.out; omega⟩, ⟨by (with_reducible repeat (first | apply Kd.R_alloc | apply Kd.R_drewN | apply Kd.R_drew)); exact HO_4.out⟩, ⟨by (with_reducible repeat (first | refine zq4 ?_ _ | refine zq6 ?_ | refine zq5 ?_ _)); exact BK202.out⟩, ⟨by (with_reducible repeat (first | refine zq4 ?_ _ | refine zq6 ?_ | refine zq5 ?_ _)); exact BK208.out⟩, ⟨by repeat (first | (with_reducible first | exact HB.out | apply zq2 | apply zq0 | apply zq1 | refine zq3 ?_ GE202.out | refine zq3 ?_ GE208.out) | exact HB.out)⟩⟩
                     ·rw [if_neg c56] at H
                      have c56b0 := beq_eq_false_iff_ne.mpr c56
                      have c56b1 := bne_iff_ne.mpr c56
                      obtain rfl := Option.some.inj H
                      have hnb64 := NB208_202.out
                      have hnc64 := NB202_208.out
                      obtain ⟨hcz65_0, hcz65_1, hcz65_2, hcz65_3, hcz65_4, hcz65_5, hfz65_0, hfz65_1, hfz65_2, hfz65_3, hfz65_4, hfz65_5⟩ := cells6 BK208.out
                      have p211 : 0 ≤ (x7_3 : Int) := of_decide_eq_true (by assumption)
                      have q211 : x7_3 < (((rd_T64 l0_0 x5_1).f5).length : Int) := of_decide_eq_true (by assumption)
                      obtain ⟨ad211, e211, hx211_0⟩ := Kd.at_int HR207_5.out x7_3 p211 q211
                      cases e211
                      replace hx211_0 := pw_cell_below HB.out hx211_0
                      replace p211 := eq_true p211
                      replace q211 := eq_true q211
                      go_wp2_with (first | (go_at_call 73; (with_reducible refine (zq17.calls (rd ((rd_T64 l0_0 x5_1).f5) x7_3) 1 (wrap64 ((l0_0.length : Int) - 1)) true _ A46.out).mono ?_); rintro e w' ⟨rfl, ⟨nd, rfl⟩⟩; (try first | exact ⟨rfl, _, World.drewN_drewN _ _ _⟩ | exact ⟨rfl, _, Eq.trans (World.drewN_drewN _ _ _) (congrArg (World.drewN _) (Nat.add_assoc _ _ _))⟩); obtain ⟨Ao66, co66, eo66⟩ := Kd.R_slice HO_4.out; subst eo66; have p213 : 0 ≤ ((rd ((rd_T64 l0_0 x5_1).f5) x7_3) : Int) := of_decide_eq_true (by assumption); have q213 : (rd ((rd_T64 l0_0 x5_1).f5) x7_3) < (x4_3.length : Int) := of_decide_eq_true (by assumption); obtain ⟨ad213, e213, hx213_0⟩ := Kd.at_bool (Kd.R_reads' HO_4.out).2.2 (rd ((rd_T64 l0_0 x5_1).f5) x7_3) p213 q213; (try rw [← Nbq50.out] at hx213_0); cases e213; replace p213 := eq_true p213; replace q213 := eq_true q213; obtain ⟨hcz67_0, hfz67_0⟩ := cells1 BK202.out; have p214 : 0 ≤ ((rd ((rd_T64 l0_0 x5_1).f5) x7_3) : Int) := of_decide_eq_true (by assumption); have q214 : (rd ((rd_T64 l0_0 x5_1).f5) x7_3) < (l0_0.length : Int) := of_decide_eq_true (by assumption); obtain ⟨ad214, A214_2, c214_2, A214_5, c214_5, e214, hx214_0, hx214_1, hx214_2, hx214_3, hx214_4, hx214_5, hl214_2, hi214_2, hl214_5, hi214_5⟩ := at_T64 HR0_0.out (rd ((rd_T64 l0_0 x5_1).f5) x7_3) p214 q214; obtain rfl : ad207 = ad214 := (by injection e214); replace hx214_0 := pw_cell_below HB.out hx214_0; replace hx214_1 := pw_cell_below HB.out hx214_1; replace hx214_2 := pw_cell_below HB.out hx214_2; replace hx214_3 := pw_cell_below HB.out hx214_3; replace hx214_4 := pw_cell_below HB.out hx214_4; replace hx214_5 := pw_cell_below HB.out hx214_5; have HR214_2 := Aside0.mk hi214_2; have HC214_2 := Aside0.mk hl214_2; clear hi214_2 hl214_2; have HR214_5 := Aside0.mk hi214_5; have HC214_5 := Aside0.mk hl214_5; clear hi214_5 hl214_5; replace p214 := eq_true p214; replace q214 := eq_true q214))
                      repeat (go_quiet (first | (go_at_call 73; (with_reducible refine (zq17.calls (rd ((rd_T64 l0_0 x5_1).f5) x7_3) 1 (wrap64 ((l0_0.length : Int) - 1)) true _ A46.out).mono ?_); rintro e w' ⟨rfl, ⟨nd, rfl⟩⟩; (try first | exact ⟨rfl, _, World.drewN_drewN _ _ _⟩ | exact ⟨rfl, _, Eq.trans (World.drewN_drewN _ _ _) (congrArg (World.drewN _) (Nat.add_assoc _ _ _))⟩); obtain ⟨Ao66, co66, eo66⟩ := Kd.R_slice HO_4.out; subst eo66; have p213 : 0 ≤ ((rd ((rd_T64 l0_0 x5_1).f5) x7_3) : Int) := of_decide_eq_true (by assumption); have q213 : (rd ((rd_T64 l0_0 x5_1).f5) x7_3) < (x4_3.length : Int) := of_decide_eq_true (by assumption); obtain ⟨ad213, e213, hx213_0⟩ := Kd.at_bool (Kd.R_reads' HO_4.out).2.2 (rd ((rd_T64 l0_0 x5_1).f5) x7_3) p213 q213; (try rw [← Nbq50.out] at hx213_0); cases e213; replace p213 := eq_true p213; replace q213 := eq_true q213; obtain ⟨hcz67_0, hfz67_0⟩ := cells1 BK202.out; have p214 : 0 ≤ ((rd ((rd_T64 l0_0 x5_1).f5) x7_3) : Int) := of_decide_eq_true (by assumption); have q214 : (rd ((rd_T64 l0_0 x5_1).f5) x7_3) < (l0_0.length : Int) := of_decide_eq_true (by assumption); obtain ⟨ad214, A214_2, c214_2, A214_5, c214_5, e214, hx214_0, hx214_1, hx214_2, hx214_3, hx214_4, hx214_5, hl214_2, hi214_2, hl214_5, hi214_5⟩ := at_T64 HR0_0.out (rd ((rd_T64 l0_0 x5_1).f5) x7_3) p214 q214; obtain rfl : ad207 = ad214 := (by injection e214); replace hx214_0 := pw_cell_below HB.out hx214_0; replace hx214_1 := pw_cell_below HB.out hx214_1; replace hx214_2 := pw_cell_below HB.out hx214_2; replace hx214_3 := pw_cell_below HB.out hx214_3; replace hx214_4 := pw_cell_below HB.out hx214_4; replace hx214_5 := pw_cell_below HB.out hx214_5; have HR214_2 := Aside0.mk hi214_2; have HC214_2 := Aside0.mk hl214_2; clear hi214_2 hl214_2; have HR214_5 := Aside0.mk hi214_5; have HC214_5 := Aside0.mk hl214_5; clear hi214_5 hl214_5; replace p214 := eq_true p214; replace q214 := eq_true q214)); try go_wp2_with (first | (go_at_call 73; (with_reducible refine (zq17.calls (rd ((rd_T64 l0_0 x5_1).f5) x7_3) 1 (wrap64 ((l0_0.length : Int) - 1)) true _ A46.out).mono ?_); rintro e w' ⟨rfl, ⟨nd, rfl⟩⟩; (try first | exact ⟨rfl, _, World.drewN_drewN _ _ _⟩ | exact ⟨rfl, _, Eq.trans (World.drewN_drewN _ _ _) (congrArg (World.drewN _) (Nat.add_assoc _ _ _))⟩); obtain ⟨Ao66, co66, eo66⟩ := Kd.R_slice HO_4.out; subst eo66; have p213 : 0 ≤ ((rd ((rd_T64 l0_0 x5_1).f5) x7_3) : Int) := of_decide_eq_true (by assumption); have q213 : (rd ((rd_T64 l0_0 x5_1).f5) x7_3) < (x4_3.length : Int) := of_decide_eq_true (by assumption); obtain ⟨ad213, e213, hx213_0⟩ := Kd.at_bool (Kd.R_reads' HO_4.out).2.2 (rd ((rd_T64 l0_0 x5_1).f5) x7_3) p213 q213; (try rw [← Nbq50.out] at hx213_0); cases e213; replace p213 := eq_true p213; replace q213 := eq_true q213; obtain ⟨hcz67_0, hfz67_0⟩ := cells1 BK202.out; have p214 : 0 ≤ ((rd ((rd_T64 l0_0 x5_1).f5) x7_3) : Int) := of_decide_eq_true (by assumption); have q214 : (rd ((rd_T64 l0_0 x5_1).f5) x7_3) < (l0_0.length : Int) := of_decide_eq_true (by assumption); obtain ⟨ad214, A214_2, c214_2, A214_5, c214_5, e214, hx214_0, hx214_1, hx214_2, hx214_3, hx214_4, hx214_5, hl214_2, hi214_2, hl214_5, hi214_5⟩ := at_T64 HR0_0.out (rd ((rd_T64 l0_0 x5_1).f5) x7_3) p214 q214; obtain rfl : ad207 = ad214 := (by injection e214); replace hx214_0 := pw_cell_below HB.out hx214_0; replace hx214_1 := pw_cell_below HB.out hx214_1; replace hx214_2 := pw_cell_below HB.out hx214_2; replace hx214_3 := pw_cell_below HB.out hx214_3; replace hx214_4 := pw_cell_below HB.out hx214_4; replace hx214_5 := pw_cell_below HB.out hx214_5; have HR214_2 := Aside0.mk hi214_2; have HC214_2 := Aside0.mk hl214_2; clear hi214_2 hl214_2; have HR214_5 := Aside0.mk hi214_5; have HC214_5 := Aside0.mk hl214_5; clear hi214_5 hl214_5; replace p214 := eq_true p214; replace q214 := eq_true q214)))
                      go_ret
                      exact ⟨by first | rfl | simp | simp [*], by repeat (first | (with_reducible first | exact HB.out | apply zq2 | apply zq0 | apply zq1 | refine zq3 ?_ GE202.out | refine zq3 ?_ GE208.out) | exact HB.out)⟩
                    ·rw [if_neg c55] at H
                     exact absurd H (by simp)
                  ·rw [if_neg c49] at H
                   exact absurd H (by simp)
                 ·rw [if_neg c48] at H
                  exact absurd H (by simp)
                ·replace c47 := Bool.eq_false_iff.mpr c47
                 subst c47
                 rw [if_neg (show ¬ (false = true) by decide)] at H
                 obtain rfl := Option.some.inj H
                 have hnb68 := NB208_202.out
                 have hnc68 := NB202_208.out
                 obtain ⟨hcz69_0, hcz69_1, hcz69_2, hcz69_3, hcz69_4, hcz69_5, hfz69_0, hfz69_1, hfz69_2, hfz69_3, hfz69_4, hfz69_5⟩ := cells6 BK208.out
                 have p211 : 0 ≤ (x7_3 : Int) := of_decide_eq_true (by assumption)
                 have q211 : x7_3 < (((rd_T64 l0_0 x5_1).f5).length : Int) := of_decide_eq_true (by assumption)
                 obtain ⟨ad211, e211, hx211_0⟩ := Kd.at_int HR207_5.out x7_3 p211 q211
                 cases e211
                 replace hx211_0 := pw_cell_below HB.out hx211_0
                 replace p211 := eq_true p211
                 replace q211 := eq_true q211
                 go_wp2_with (first | (go_at_call 73; (with_reducible refine (zq17.calls (rd ((rd_T64 l0_0 x5_1).f5) x7_3) 1 (wrap64 ((l0_0.length : Int) - 1)) false _ A46.out).mono ?_); rintro e w' ⟨rfl, ⟨nd, rfl⟩⟩; (try first | exact ⟨rfl, _, World.drewN_drewN _ _ _⟩ | exact ⟨rfl, _, Eq.trans (World.drewN_drewN _ _ _) (congrArg (World.drewN _) (Nat.add_assoc _ _ _))⟩)))
                 repeat (go_quiet (first | (go_at_call 73; (with_reducible refine (zq17.calls (rd ((rd_T64 l0_0 x5_1).f5) x7_3) 1 (wrap64 ((l0_0.length : Int) - 1)) false _ A46.out).mono ?_); rintro e w' ⟨rfl, ⟨nd, rfl⟩⟩; (try first | exact ⟨rfl, _, World.drewN_drewN _ _ _⟩ | exact ⟨rfl, _, Eq.trans (World.drewN_drewN _ _ _) (congrArg (World.drewN _) (Nat.add_assoc _ _ _))⟩))); try go_wp2_with (first | (go_at_call 73; (with_reducible refine (zq17.calls (rd ((rd_T64 l0_0 x5_1).f5) x7_3) 1 (wrap64 ((l0_0.length : Int) - 1)) false _ A46.out).mono ?_); rintro e w' ⟨rfl, ⟨nd, rfl⟩⟩; (try first | exact ⟨rfl, _, World.drewN_drewN _ _ _⟩ | exact ⟨rfl, _, Eq.trans (World.drewN_drewN _ _ _) (congrArg (World.drewN _) (Nat.add_assoc _ _ _))⟩))))
                 go_ret
                 exact ⟨by first | rfl | simp | simp [*], by repeat (first | (with_reducible first | exact HB.out | apply zq2 | apply zq0 | apply zq1 | refine zq3 ?_ GE202.out | refine zq3 ?_ GE208.out) | exact HB.out)⟩
               ·rw [if_neg c45] at H
                exact absurd H (by simp)
              ·rw [if_neg c44] at H
               have c44b0 : decide (x7_3 < (((rd_T64 l0_0 x5_1).f5).length : Int)) = false := decide_eq_false c44
               clear c44
               have H' := Aside0.mk H
               clear H
               have hnb70 := NB208_202.out
               have hnc70 := NB202_208.out
               obtain ⟨hcz71_0, hcz71_1, hcz71_2, hcz71_3, hcz71_4, hcz71_5, hfz71_0, hfz71_1, hfz71_2, hfz71_3, hfz71_4, hfz71_5⟩ := cells6 BK208.out
               go_wp2
               repeat (go_quiet (fail); try go_wp2)
               go_roundg k3
               case measure => have := HK1.out; have := HJ12.out; have := HK3.out; omega
               case rel => exact ⟨(x4_3), (wrap64 (x5_1 + 1)), (by first | rfl | simp | simp [*]), H', ⟨by have := HK1.out; have := HJ12.out; have := HK3.out; omega⟩, ⟨by (with_reducible repeat (first | apply Kd.R_alloc | apply Kd.R_drewN | apply Kd.R_drew)); exact HO_4.out⟩, ⟨by (with_reducible repeat (first | refine zq4 ?_ _ | refine zq6 ?_ | refine zq5 ?_ _)); exact BK202.out⟩, ⟨by repeat (first | (with_reducible first | exact HB.out | apply zq2 | apply zq0 | apply zq1 | refine zq3 ?_ GE202.out | refine zq3 ?_ GE208.out) | exact HB.out)⟩⟩
        ·rw [if_neg c12] at H
         exact absurd H (by simp)
       ·rw [if_neg c11] at H
        exact absurd H (by simp)
      ·rw [if_neg c10] at H
       have c10b0 : decide (x5_1 < (l0_0.length : Int)) = false := decide_eq_false c10
       clear c10
       have H' := Aside0.mk H
       clear H
       go_wp2
       repeat (go_quiet (fail); try go_wp2)
       go_loopg [9] k1 (fun kq v9 w' => ∃ (x9_2 : Int), v9 = .int .i64 x9_2 ∧ Aside0 (zq11.l2 kq (l0_0.length : Int) x4_1 x9_2 l0_0 = some r) ∧ Aside0 (kq ≤ k1) ∧ Aside0 (Kd.R Kd.bool 4 w' w.heap.size (fun _ => True) v205 x4_1) ∧ Aside0 (w'.heap[gb202]? = some (.cells #[(.slice A0_0 l0_0.length c0_0)] 29 (0, 0))) ∧ Aside0 (Below w.heap.size w w'))
       case atStart => exact ⟨(0), (by first | rfl | simp | simp [*]), H', ⟨Nat.le_refl _⟩, ⟨by (with_reducible repeat (first | apply Kd.R_alloc | apply Kd.R_drewN | apply Kd.R_drew)); exact HO_4.out⟩, ⟨by (with_reducible repeat (first | refine zq4 ?_ _ | refine zq6 ?_ | refine zq5 ?_ _)); exact BK202.out⟩, ⟨by repeat (first | (with_reducible first | exact HB.out | apply zq2 | apply zq0 | apply zq1 | refine zq3 ?_ GE202.out) | exact HB.out)⟩⟩
       case round =>
        clear H'
        obtain ⟨x9_2, rfl, HA, HK2, HO_4, BK202, HB⟩ := hrel
        cases gk with
        | zero => exact absurd HA.out (by simp [zq11.l2])
        | succ k2 =>
         have H := HA.out
         clear HA
         simp only [zq11.l2] at H
         by_cases c72 : x9_2 < (l0_0.length : Int)
         ·rw [if_pos c72] at H
          have c72b0 : decide (x9_2 < (l0_0.length : Int)) = true := decide_eq_true c72
          clear c72
          by_cases c73 : 0 ≤ x9_2
          ·rw [if_pos c73] at H
           have c73b0 : decide (0 ≤ x9_2) = true := decide_eq_true c73
           clear c73
           by_cases c74 : x9_2 < (x4_1.length : Int)
           ·rw [if_pos c74] at H
            have c74b0 : decide (x9_2 < (x4_1.length : Int)) = true := decide_eq_true c74
            clear c74
            by_cases c75 : x9_2 < (l0_0.length : Int)
            ·rw [if_pos c75] at H
             have c75b0 : decide (x9_2 < (l0_0.length : Int)) = true := decide_eq_true c75
             clear c75
             by_cases c76 : ((rdOf false x4_1 x9_2) != (decide (((rd_T64 l0_0 x9_2).f4) ≥ 0))) = true
             ·rw [if_pos c76] at H
              have c76b0 : ((rdOf false x4_1 x9_2) != (decide (((rd_T64 l0_0 x9_2).f4) ≥ 0))) = true := c76
              (try (have c76b1 : decide ((rdOf false x4_1 x9_2) = (decide (((rd_T64 l0_0 x9_2).f4) ≥ 0))) = false := by simpa using c76))
              (try (have c76b2 : ((rdOf false x4_1 x9_2) == (decide (((rd_T64 l0_0 x9_2).f4) ≥ 0))) = false := by simpa using c76))
              (try (have c76b3 : ¬ ((rdOf false x4_1 x9_2) = (decide (((rd_T64 l0_0 x9_2).f4) ≥ 0))) := by simpa using c76))
              clear c76
              obtain rfl := Option.some.inj H
              obtain ⟨Ao77, co77, eo77⟩ := Kd.R_slice HO_4.out
              subst eo77
              have p216 : 0 ≤ (x9_2 : Int) := of_decide_eq_true (by assumption)
              have q216 : x9_2 < (x4_1.length : Int) := of_decide_eq_true (by assumption)
              obtain ⟨ad216, e216, hx216_0⟩ := Kd.at_bool (Kd.R_reads' HO_4.out).2.2 x9_2 p216 q216
              cases e216
              replace p216 := eq_true p216
              replace q216 := eq_true q216
              obtain ⟨hcz78_0, hfz78_0⟩ := cells1 BK202.out
              have p217 : 0 ≤ (x9_2 : Int) := of_decide_eq_true (by assumption)
              have q217 : x9_2 < (l0_0.length : Int) := of_decide_eq_true (by assumption)
              obtain ⟨ad217, A217_2, c217_2, A217_5, c217_5, e217, hx217_0, hx217_1, hx217_2, hx217_3, hx217_4, hx217_5, hl217_2, hi217_2, hl217_5, hi217_5⟩ := at_T64 HR0_0.out x9_2 p217 q217
              cases e217
              replace hx217_0 := pw_cell_below HB.out hx217_0
              replace hx217_1 := pw_cell_below HB.out hx217_1
              replace hx217_2 := pw_cell_below HB.out hx217_2
              replace hx217_3 := pw_cell_below HB.out hx217_3
              replace hx217_4 := pw_cell_below HB.out hx217_4
              replace hx217_5 := pw_cell_below HB.out hx217_5
              have HR217_2 := Aside0.mk hi217_2
              have HC217_2 := Aside0.mk hl217_2
              clear hi217_2 hl217_2
              have HR217_5 := Aside0.mk hi217_5
              have HC217_5 := Aside0.mk hl217_5
              clear hi217_5 hl217_5
              replace p217 := eq_true p217
              replace q217 := eq_true q217
              go_wp2
              repeat (go_quiet (fail); try go_wp2)
              go_ret
              exact ⟨by first | rfl | simp | simp [*], by repeat (first | (with_reducible first | exact HB.out | apply zq2 | apply zq0 | apply zq1 | refine zq3 ?_ GE202.out) | exact HB.out)⟩
             ·rw [if_neg c76] at H
              have c76b0 : ((rdOf false x4_1 x9_2) != (decide (((rd_T64 l0_0 x9_2).f4) ≥ 0))) = false := by simpa using c76
              (try (have c76b1 : decide ((rdOf false x4_1 x9_2) = (decide (((rd_T64 l0_0 x9_2).f4) ≥ 0))) = true := by simpa using c76))
              (try (have c76b2 : ((rdOf false x4_1 x9_2) == (decide (((rd_T64 l0_0 x9_2).f4) ≥ 0))) = true := by simpa using c76))
              clear c76
              have H' := Aside0.mk H
              clear H
              obtain ⟨Ao79, co79, eo79⟩ := Kd.R_slice HO_4.out
              subst eo79
              have p216 : 0 ≤ (x9_2 : Int) := of_decide_eq_true (by assumption)
              have q216 : x9_2 < (x4_1.length : Int) := of_decide_eq_true (by assumption)
              obtain ⟨ad216, e216, hx216_0⟩ := Kd.at_bool (Kd.R_reads' HO_4.out).2.2 x9_2 p216 q216
              cases e216
              replace p216 := eq_true p216
              replace q216 := eq_true q216
              obtain ⟨hcz80_0, hfz80_0⟩ := cells1 BK202.out
              have p217 : 0 ≤ (x9_2 : Int) := of_decide_eq_true (by assumption)
              have q217 : x9_2 < (l0_0.length : Int) := of_decide_eq_true (by assumption)
              obtain ⟨ad217, A217_2, c217_2, A217_5, c217_5, e217, hx217_0, hx217_1, hx217_2, hx217_3, hx217_4, hx217_5, hl217_2, hi217_2, hl217_5, hi217_5⟩ := at_T64 HR0_0.out x9_2 p217 q217
              cases e217
              replace hx217_0 := pw_cell_below HB.out hx217_0
              replace hx217_1 := pw_cell_below HB.out hx217_1
              replace hx217_2 := pw_cell_below HB.out hx217_2
              replace hx217_3 := pw_cell_below HB.out hx217_3
              replace hx217_4 := pw_cell_below HB.out hx217_4
              replace hx217_5 := pw_cell_below HB.out hx217_5
              have HR217_2 := Aside0.mk hi217_2
              have HC217_2 := Aside0.mk hl217_2
              clear hi217_2 hl217_2
              have HR217_5 := Aside0.mk hi217_5
              have HC217_5 := Aside0.mk hl217_5
              clear hi217_5 hl217_5
              replace p217 := eq_true p217
              replace q217 := eq_true q217
              go_wp2
              repeat (go_quiet (fail); try go_wp2)
              go_loopg [10, 11] k2 (fun kq v10 v11 w' => ∃ (x10_3 : Int) (x11_3 : Int), v10 = .int .i64 x10_3 ∧ v11 = .int .i64 x11_3 ∧ Aside0 (zq11.l3 kq (l0_0.length : Int) x4_1 x9_2 x10_3 x11_3 l0_0 = some r) ∧ Aside0 (kq ≤ k2) ∧ Aside0 (Kd.R Kd.bool 4 w' w.heap.size (fun _ => True) (.slice (some ad216) x4_1.length co79) x4_1) ∧ Aside0 (w'.heap[gb202]? = some (.cells #[(.slice (some ad217) l0_0.length c0_0)] 29 (0, 0))) ∧ Aside0 (Below w.heap.size w w'))
              case atStart => exact ⟨(x9_2), (0), (by first | rfl | simp | simp [*]), (by first | rfl | simp | simp [*]), H', ⟨Nat.le_refl _⟩, ⟨by (with_reducible repeat (first | apply Kd.R_alloc | apply Kd.R_drewN | apply Kd.R_drew)); exact HO_4.out⟩, ⟨by (with_reducible repeat (first | refine zq4 ?_ _ | refine zq6 ?_ | refine zq5 ?_ _)); exact BK202.out⟩, ⟨by repeat (first | (with_reducible first | exact HB.out | apply zq2 | apply zq0 | apply zq1 | refine zq3 ?_ GE202.out) | exact HB.out)⟩⟩
              case round =>
               clear H'
               obtain ⟨x10_3, x11_3, rfl, rfl, HA, HK3, HO_4, BK202, HB⟩ := hrel
               cases gk with
               | zero => exact absurd HA.out (by simp [zq11.l3])
               | succ k3 =>
                have H := HA.out
                clear HA
                simp only [zq11.l3] at H
                by_cases c81 : x10_3 ≥ 0
                ·rw [if_pos c81] at H
                 have c81b0 : decide (0 ≤ x10_3) = true := decide_eq_true c81
                 clear c81
                 by_cases c82 : x11_3 > (l0_0.length : Int)
                 ·rw [if_pos c82] at H
                  have c82b0 : decide ((l0_0.length : Int) < x11_3) = true := decide_eq_true c82
                  clear c82
                  obtain rfl := Option.some.inj H
                  go_wp2
                  repeat (go_quiet (fail); try go_wp2)
                  go_ret
                  exact ⟨by first | rfl | simp | simp [*], by repeat (first | (with_reducible first | exact HB.out | apply zq2 | apply zq0 | apply zq1 | refine zq3 ?_ GE202.out) | exact HB.out)⟩
                 ·rw [if_neg c82] at H
                  have c82b0 : decide ((l0_0.length : Int) < x11_3) = false := decide_eq_false c82
                  clear c82
                  by_cases c83 : 0 ≤ x10_3
                  ·rw [if_pos c83] at H
                   have c83b0 : decide (0 ≤ x10_3) = true := decide_eq_true c83
                   clear c83
                   by_cases c84 : x10_3 < (l0_0.length : Int)
                   ·rw [if_pos c84] at H
                    have c84b0 : decide (x10_3 < (l0_0.length : Int)) = true := decide_eq_true c84
                    clear c84
                    have H' := Aside0.mk H
                    clear H
                    obtain ⟨hcz85_0, hfz85_0⟩ := cells1 BK202.out
                    have p218 : 0 ≤ (x10_3 : Int) := of_decide_eq_true (by assumption)
                    have q218 : x10_3 < (l0_0.length : Int) := of_decide_eq_true (by assumption)
                    obtain ⟨ad218, A218_2, c218_2, A218_5, c218_5, e218, hx218_0, hx218_1, hx218_2, hx218_3, hx218_4, hx218_5, hl218_2, hi218_2, hl218_5, hi218_5⟩ := at_T64 HR0_0.out x10_3 p218 q218
                    obtain rfl : ad217 = ad218 := (by injection e218)
                    replace hx218_0 := pw_cell_below HB.out hx218_0
                    replace hx218_1 := pw_cell_below HB.out hx218_1
                    replace hx218_2 := pw_cell_below HB.out hx218_2
                    replace hx218_3 := pw_cell_below HB.out hx218_3
                    replace hx218_4 := pw_cell_below HB.out hx218_4
                    replace hx218_5 := pw_cell_below HB.out hx218_5
                    have HR218_2 := Aside0.mk hi218_2
                    have HC218_2 := Aside0.mk hl218_2
                    clear hi218_2 hl218_2
                    have HR218_5 := Aside0.mk hi218_5
                    have HC218_5 := Aside0.mk hl218_5
                    clear hi218_5 hl218_5
                    replace p218 := eq_true p218
                    replace q218 := eq_true q218
                    go_wp2
                    repeat (go_quiet (fail); try go_wp2)
                    go_roundg k3
                    case measure => have := HK1.out; have := HK2.out; have := HK3.out; omega
                    case rel => exact ⟨((rd_T64 l0_0 x10_3).f4), (wrap64 (x11_3 + 1)), (by first | rfl | simp | simp [*]), (by first | rfl | simp | simp [*]), H', ⟨by have := HK1.out; have := HK2.out; have := HK3.out; omega⟩, ⟨by (with_reducible repeat (first | apply Kd.R_alloc | apply Kd.R_drewN | apply Kd.R_drew)); exact HO_4.out⟩, ⟨by (with_reducible repeat (first | refine zq4 ?_ _ | refine zq6 ?_ | refine zq5 ?_ _)); exact BK202.out⟩, ⟨by repeat (first | (with_reducible first | exact HB.out | apply zq2 | apply zq0 | apply zq1 | refine zq3 ?_ GE202.out) | exact HB.out)⟩⟩
                   ·rw [if_neg c84] at H
                    exact absurd H (by simp)
                  ·rw [if_neg c83] at H
                   exact absurd H (by simp)
                ·rw [if_neg c81] at H
                 have c81b0 : decide (0 ≤ x10_3) = false := decide_eq_false c81
                 clear c81
                 have H' := Aside0.mk H
                 clear H
                 go_wp2
                 repeat (go_quiet (fail); try go_wp2)
                 go_roundg k3
                 case measure => have := HK1.out; have := HK2.out; have := HK3.out; omega
                 case rel => exact ⟨(wrap64 (x9_2 + 1)), (by first | rfl | simp | simp [*]), H', ⟨by have := HK1.out; have := HK2.out; have := HK3.out; omega⟩, ⟨by (with_reducible repeat (first | apply Kd.R_alloc | apply Kd.R_drewN | apply Kd.R_drew)); exact HO_4.out⟩, ⟨by (with_reducible repeat (first | refine zq4 ?_ _ | refine zq6 ?_ | refine zq5 ?_ _)); exact BK202.out⟩, ⟨by repeat (first | (with_reducible first | exact HB.out | apply zq2 | apply zq0 | apply zq1 | refine zq3 ?_ GE202.out) | exact HB.out)⟩⟩
            ·rw [if_neg c75] at H
             exact absurd H (by simp)
           ·rw [if_neg c74] at H
            exact absurd H (by simp)
          ·rw [if_neg c73] at H
           exact absurd H (by simp)
         ·rw [if_neg c72] at H
          have c72b0 : decide (x9_2 < (l0_0.length : Int)) = false := decide_eq_false c72
          clear c72
          obtain rfl := Option.some.inj H
          go_wp2
          repeat (go_quiet (fail); try go_wp2)
          go_ret
          exact ⟨by first | rfl | simp | simp [*], by repeat (first | (with_reducible first | exact HB.out | apply zq2 | apply zq0 | apply zq1 | refine zq3 ?_ GE202.out) | exact HB.out)⟩
   ·rw [if_neg c5] at H
    exact absurd H (by simp)
  ·rw [if_neg c4] at H
   exact absurd H (by simp)
 ·replace c3 := Bool.eq_false_iff.mpr c3
  subst c3
  rw [if_neg (show ¬ (false = true) by decide)] at H
  obtain rfl := Option.some.inj H
  go_enter Try.func51, Try.ntmps51
  go_wp2_with (first | ((refine gate_dst (N := 1) rfl ?_); refine box_event ?hg (N := 1) ?hd (cs := #[.slice A0_0 l0_0.length c0_0]) (t := 29) ?hr ?_; (case hd => rfl); (case hg => rfl); (case hr => first | (go_simp; done) | (go_simp; rfl)); intro gb202 hg w86 hbox hb; have BK202 := Aside0.mk (hbox); have GW202 := Aside0.mk ((by rw [hg]; exact (below_size (by repeat (with_reducible first | exact HB.out | apply zq2 | apply zq0 | apply zq1))) : w.heap.size ≤ gb202)); replace HB := Aside0.mk (zq7 (by repeat (with_reducible first | exact HB.out | apply zq2 | apply zq0 | apply zq1)) hb); have GE202 := GW202; clear hb hbox hg; obtain ⟨hcz87_0, hfz87_0⟩ := cells1 BK202.out) | (go_at_call 73; (with_reducible refine (zq17.calls (l0_0.length : Int) 1 500 false _ A2.out).mono ?_); rintro e w' ⟨rfl, ⟨nd, rfl⟩⟩; (try first | exact ⟨rfl, _, World.drewN_drewN _ _ _⟩ | exact ⟨rfl, _, Eq.trans (World.drewN_drewN _ _ _) (congrArg (World.drewN _) (Nat.add_assoc _ _ _))⟩)))
  repeat (go_quiet (first | (go_at_call 73; (with_reducible refine (zq17.calls (l0_0.length : Int) 1 500 false _ A2.out).mono ?_); rintro e w' ⟨rfl, ⟨nd, rfl⟩⟩; (try first | exact ⟨rfl, _, World.drewN_drewN _ _ _⟩ | exact ⟨rfl, _, Eq.trans (World.drewN_drewN _ _ _) (congrArg (World.drewN _) (Nat.add_assoc _ _ _))⟩))); try go_wp2_with (first | (go_at_call 73; (with_reducible refine (zq17.calls (l0_0.length : Int) 1 500 false _ A2.out).mono ?_); rintro e w' ⟨rfl, ⟨nd, rfl⟩⟩; (try first | exact ⟨rfl, _, World.drewN_drewN _ _ _⟩ | exact ⟨rfl, _, Eq.trans (World.drewN_drewN _ _ _) (congrArg (World.drewN _) (Nat.add_assoc _ _ _))⟩))))
  go_ret
  exact ⟨by first | rfl | simp | simp [*], by repeat (first | (with_reducible first | exact HB.out | apply zq2 | apply zq0 | apply zq1 | refine zq3 ?_ GE202.out) | exact HB.out)⟩
/-! ### zq33: function 57 -/
def zq33.f (l0_0 : List (S64)) (a1 : Int) : Option (Bool) := (zq44.f a1 0 (wrap64 ((l0_0.length : Int) - 1))).bind fun t334 => (some t334)
set_option maxHeartbeats 8000000 in
set_option maxRecDepth 100000 in
theorem zq33.calls (g0 : Nat) (A0_0 : Option Addr) (c0_0 : Nat) (l0_0 : List (S64)) (a1 : Int) (r : Bool) (w : World) (hb0 : w.heap[g0]? = some (.cells #[.slice A0_0 l0_0.length c0_0] 29 (0, 0))) (hr0_0 : Kd.C k64 w A0_0 l0_0.length l0_0) (hc0_0 : l0_0.length ≤ c0_0) (h : zq33.f l0_0 a1 = some r) :
  Calls Try.prog 57 #[.pointer (some ⟨g0, 0, none⟩), .int .i64 a1] w fun e w' => e = .returned (.bool r) ∧ Drawn0 w w' := by
 have HR0_0 := Aside0.mk hr0_0
 have HC0_0 := Aside0.mk hc0_0
 clear hr0_0 hc0_0
 have BK0 := Aside0.mk hb0
 clear hb0
 have H : ((zq44.f a1 0 (wrap64 ((l0_0.length : Int) - 1))).bind fun t334 => (some t334)) = some r := h
 clear h
 replace H := Option.bind_eq_some_iff.mp H
 obtain ⟨t334, A30, H⟩ := H
 (try dsimp only at H)
 have A3 := Aside0.mk A30
 clear A30
 obtain rfl := Option.some.inj H
 obtain ⟨hcz4_0, hfz4_0⟩ := cells1 BK0.out
 go_enter Try.func57, Try.ntmps57
 go_wp2_with (first | ((refine gate_callee (f := 75) rfl ?_); refine goesL_ (some 12) rfl rfl Try.func75 (by kernel_rfl) rfl #[.int .i64 a1, .int .i64 0, .int .i64 (wrap64 ((l0_0.length : Int) - 1))] rfl (by (try simp only [List.map_toArray, List.map_cons, List.map_nil]); first | done | rfl) ?_; (with_reducible refine (zq44.calls a1 0 (wrap64 ((l0_0.length : Int) - 1)) t334 _ A3.out).mono ?_); rintro e w' ⟨rfl, ⟨nd, rfl⟩⟩; refine ⟨_, rfl, ?_⟩))
 go_ret
 exact ⟨by first | rfl | simp | simp [*], by repeat (first | exact Drawn0.refl _ | apply Drawn0.step)⟩
/-! ### zq19: function 117 -/
def zq19.l0 : Nat → Int → Int → Int → Int → List (S64) → Option (Bool)
 | 0, _, _, _, _, _ => none
 | k + 1, x1, x2, x11, x12, x1000 => if x12 < x11 then (if x2 = x1 then (some true) else ((zq33.f x1000 x2).bind fun t336 => (if t336 = true then (if 0 ≤ x2 then (if x2 < (x1000.length : Int) then (zq19.l0 k x1 ((rd_T64 x1000 x2).f4) x11 (wrap64 (x12 + 1)) x1000) else (none)) else (none)) else (some false)))) else ((zq33.f x1000 x2).bind fun t335 => (some t335))
def zq19.f (k : Nat) (l0_0 : List (S64)) (a1 : Int) (a2 : Int) : Option (Bool) := zq19.l0 k a1 a2 (l0_0.length : Int) 0 l0_0
theorem zq19.mono_l : ∀ k, (∀ y0 y1 y2 y3 y4, LeO (zq19.l0 k y0 y1 y2 y3 y4) (zq19.l0 (k + 1) y0 y1 y2 y3 y4))
 | 0 => fun _ _ _ _ _ r h => by simp [zq19.l0] at h
 | k + 1 => by
  have ih0 := zq19.mono_l k
  ·intro y0 y1 y2 y3 y4
   unfold zq19.l0
   repeat' first
   | (with_reducible exact ih0 _ _ _ _ _)
   | (with_reducible exact LeO.refl _)
   | (with_reducible exact LeO.none _)
   | (with_reducible refine LeO.ite ?_ ?_)
   | (with_reducible refine LeO.bind ?_ (fun _ => ?_))
theorem zq19.mono : ∀ a0 a1 a2 k, LeO (zq19.f k a0 a1 a2) (zq19.f (k + 1) a0 a1 a2) := by
 intro a0 a1 a2 k
 have ih0 := zq19.mono_l k
 unfold zq19.f
 repeat' first
   | (with_reducible exact ih0 _ _ _ _ _)
   | (with_reducible exact LeO.refl _)
   | (with_reducible exact LeO.none _)
   | (with_reducible refine LeO.ite ?_ ?_)
   | (with_reducible refine LeO.bind ?_ (fun _ => ?_))
set_option maxHeartbeats 8000000 in
set_option maxRecDepth 100000 in
theorem zq19.calls (k : Nat) (g0 : Nat) (A0_0 : Option Addr) (c0_0 : Nat) (l0_0 : List (S64)) (a1 : Int) (a2 : Int) (r : Bool) (w : World) (hb0 : w.heap[g0]? = some (.cells #[.slice A0_0 l0_0.length c0_0] 29 (0, 0))) (hr0_0 : Kd.C k64 w A0_0 l0_0.length l0_0) (hc0_0 : l0_0.length ≤ c0_0) (h : zq19.f k l0_0 a1 a2 = some r) :
  Calls Try.prog 117 #[.pointer (some ⟨g0, 0, none⟩), .int .i64 a1, .int .i64 a2] w fun e w' => e = .returned (.bool r) ∧ Drawn0 w w' := by
 have HR0_0 := Aside0.mk hr0_0
 have HC0_0 := Aside0.mk hc0_0
 clear hr0_0 hc0_0
 have BK0 := Aside0.mk hb0
 clear hb0
 have H : (zq19.l0 k a1 a2 (l0_0.length : Int) 0 l0_0) = some r := h
 clear h
 have H' := Aside0.mk H
 clear H
 obtain ⟨hcz4_0, hfz4_0⟩ := cells1 BK0.out
 go_enter Try.func117, Try.ntmps117
 go_wp2
 go_loopg [2, 12] k (fun kq v2 v12 w' => ∃ (x2_1 : Int) (x12_1 : Int), v2 = .int .i64 x2_1 ∧ v12 = .int .i64 x12_1 ∧ Aside0 (zq19.l0 kq a1 x2_1 (l0_0.length : Int) x12_1 l0_0 = some r) ∧ Aside0 (kq ≤ k) ∧ Aside0 (w'.heap[g0]? = some (.cells #[(.slice A0_0 l0_0.length c0_0)] 29 (0, 0))) ∧ Drawn0 w w')
 case atStart => exact ⟨(a2), (0), (by first | rfl | simp | simp [*]), (by first | rfl | simp | simp [*]), H', ⟨Nat.le_refl _⟩, ⟨by (with_reducible repeat (first | refine zq4 ?_ _ | refine zq6 ?_ | refine zq5 ?_ _)); exact BK0.out⟩, by repeat (first | exact Drawn0.refl _ | apply Drawn0.step)⟩
 case round =>
  clear H'
  obtain ⟨x2_1, x12_1, rfl, rfl, HA, HK1, BK0, ⟨m1, rfl⟩⟩ := hrel
  cases gk with
  | zero => exact absurd HA.out (by simp [zq19.l0])
  | succ k1 =>
   have H := HA.out
   clear HA
   simp only [zq19.l0] at H
   by_cases c5 : x12_1 < (l0_0.length : Int)
   ·rw [if_pos c5] at H
    have c5b0 : decide (x12_1 < (l0_0.length : Int)) = true := decide_eq_true c5
    clear c5
    by_cases c6 : x2_1 = a1
    ·rw [if_pos c6] at H
     have c6b0 := beq_iff_eq.mpr c6
     have c6b1 := bne_eq_false_iff_eq.mpr c6
     clear c6
     obtain rfl := Option.some.inj H
     go_wp2
     go_ret
     exact ⟨by first | rfl | simp | simp [*], by repeat (first | exact Drawn0.refl _ | apply Drawn0.step)⟩
    ·rw [if_neg c6] at H
     have c6b0 := beq_eq_false_iff_ne.mpr c6
     have c6b1 := bne_iff_ne.mpr c6
     replace H := Option.bind_eq_some_iff.mp H
     obtain ⟨t336, A70, H⟩ := H
     (try dsimp only at H)
     have A7 := Aside0.mk A70
     clear A70
     by_cases c8 : t336 = true
     ·subst c8
      rw [if_pos rfl] at H
      by_cases c9 : 0 ≤ x2_1
      ·rw [if_pos c9] at H
       have c9b0 : decide (0 ≤ x2_1) = true := decide_eq_true c9
       clear c9
       by_cases c10 : x2_1 < (l0_0.length : Int)
       ·rw [if_pos c10] at H
        have c10b0 : decide (x2_1 < (l0_0.length : Int)) = true := decide_eq_true c10
        clear c10
        have H' := Aside0.mk H
        clear H
        go_wp2_with (first | ((refine gate_callee (f := 57) rfl ?_); refine goesL_ (some 19) rfl rfl Try.func57 (by kernel_rfl) rfl #[.pointer (some ⟨g0, 0, none⟩), .int .i64 x2_1] rfl (by (try simp only [List.map_toArray, List.map_cons, List.map_nil]); first | done | rfl) ?_; (with_reducible refine (zq33.calls g0 A0_0 c0_0 l0_0 x2_1 true _ ?side1 ?side2 ?side3 A7.out).mono ?_); (case side1 => exact (by (with_reducible repeat (first | refine zq4 ?_ _ | refine zq6 ?_ | refine zq5 ?_ _)); exact BK0.out)); (case side2 => repeat (first | exact HR0_0.out | (with_reducible refine Kd.C_alloc ?_ _) | (with_reducible refine Kd.C_drewN ?_ _) | (with_reducible refine Kd.C_drew ?_))); (case side3 => exact HC0_0.out); rintro e w' ⟨rfl, ⟨nd, rfl⟩⟩; refine ⟨_, rfl, ?_⟩; obtain ⟨hcz11_0, hfz11_0⟩ := cells1 BK0.out; have p337 : 0 ≤ (x2_1 : Int) := of_decide_eq_true (by assumption); have q337 : x2_1 < (l0_0.length : Int) := of_decide_eq_true (by assumption); obtain ⟨ad337, A337_2, c337_2, A337_5, c337_5, e337, hx337_0, hx337_1, hx337_2, hx337_3, hx337_4, hx337_5, hl337_2, hi337_2, hl337_5, hi337_5⟩ := at_T64 HR0_0.out x2_1 p337 q337; cases e337; have HR337_2 := Aside0.mk hi337_2; have HC337_2 := Aside0.mk hl337_2; clear hi337_2 hl337_2; have HR337_5 := Aside0.mk hi337_5; have HC337_5 := Aside0.mk hl337_5; clear hi337_5 hl337_5; replace p337 := eq_true p337; replace q337 := eq_true q337))
        go_roundg k1
        case measure => have := HK1.out; omega
        case rel => exact ⟨((rd_T64 l0_0 x2_1).f4), (wrap64 (x12_1 + 1)), (by first | rfl | simp | simp [*]), (by first | rfl | simp | simp [*]), H', ⟨by have := HK1.out; omega⟩, ⟨by (with_reducible repeat (first | refine zq4 ?_ _ | refine zq6 ?_ | refine zq5 ?_ _)); exact BK0.out⟩, by repeat (first | exact Drawn0.refl _ | apply Drawn0.step)⟩
       ·rw [if_neg c10] at H
        exact absurd H (by simp)
      ·rw [if_neg c9] at H
       exact absurd H (by simp)
     ·replace c8 := Bool.eq_false_iff.mpr c8
      subst c8
      rw [if_neg (show ¬ (false = true) by decide)] at H
      obtain rfl := Option.some.inj H
      go_wp2_with (first | ((refine gate_callee (f := 57) rfl ?_); refine goesL_ (some 19) rfl rfl Try.func57 (by kernel_rfl) rfl #[.pointer (some ⟨g0, 0, none⟩), .int .i64 x2_1] rfl (by (try simp only [List.map_toArray, List.map_cons, List.map_nil]); first | done | rfl) ?_; (with_reducible refine (zq33.calls g0 A0_0 c0_0 l0_0 x2_1 false _ ?side1 ?side2 ?side3 A7.out).mono ?_); (case side1 => exact (by (with_reducible repeat (first | refine zq4 ?_ _ | refine zq6 ?_ | refine zq5 ?_ _)); exact BK0.out)); (case side2 => repeat (first | exact HR0_0.out | (with_reducible refine Kd.C_alloc ?_ _) | (with_reducible refine Kd.C_drewN ?_ _) | (with_reducible refine Kd.C_drew ?_))); (case side3 => exact HC0_0.out); rintro e w' ⟨rfl, ⟨nd, rfl⟩⟩; refine ⟨_, rfl, ?_⟩))
      go_ret
      exact ⟨by first | rfl | simp | simp [*], by repeat (first | exact Drawn0.refl _ | apply Drawn0.step)⟩
   ·rw [if_neg c5] at H
    have c5b0 : decide (x12_1 < (l0_0.length : Int)) = false := decide_eq_false c5
    clear c5
    replace H := Option.bind_eq_some_iff.mp H
    obtain ⟨t335, A120, H⟩ := H
    (try dsimp only at H)
    have A12 := Aside0.mk A120
    clear A120
    obtain rfl := Option.some.inj H
    go_wp2_with (first | ((refine gate_callee (f := 57) rfl ?_); refine goesL_ (some 32) rfl rfl Try.func57 (by kernel_rfl) rfl #[.pointer (some ⟨g0, 0, none⟩), .int .i64 x2_1] rfl (by (try simp only [List.map_toArray, List.map_cons, List.map_nil]); first | done | rfl) ?_; (with_reducible refine (zq33.calls g0 A0_0 c0_0 l0_0 x2_1 t335 _ ?side1 ?side2 ?side3 A12.out).mono ?_); (case side1 => exact (by (with_reducible repeat (first | refine zq4 ?_ _ | refine zq6 ?_ | refine zq5 ?_ _)); exact BK0.out)); (case side2 => repeat (first | exact HR0_0.out | (with_reducible refine Kd.C_alloc ?_ _) | (with_reducible refine Kd.C_drewN ?_ _) | (with_reducible refine Kd.C_drew ?_))); (case side3 => exact HC0_0.out); rintro e w' ⟨rfl, ⟨nd, rfl⟩⟩; refine ⟨_, rfl, ?_⟩))
    go_ret
    exact ⟨by first | rfl | simp | simp [*], by repeat (first | exact Drawn0.refl _ | apply Drawn0.step)⟩
end Go.Proofs.Ytpojadoklfdfiaa.G

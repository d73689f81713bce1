/- What the law FnExactStackOk reaches: for each Go function its Lean twin, and that Go's call comes to just what the twin says; no condition but the twin's own answer. -/
import Derived.Test.YtpojadoklfdfiaaCorea0
import Derived.Test.YtpojadoklfdfiaaCorea1
import Derived.Test.YtpojadoklfdfiaaCorea2
import Derived.Test.YtpojadoklfdfiaaCorea3
import Derived.Test.YtpojadoklfdfiaaCorea4
import Derived.Test.YtpojadoklfdfiaaCoreb0
import Derived.Test.YtpojadoklfdfiaaFnExactStackOka0

namespace Go.Proofs.Ytpojadoklfdfiaa.G
open Go.RowKit Go.Proofs.Ytpojadoklfdfiaa.B Go.Proofs.YtpojadoklfdfiaaW.PrintWords Go.Proofs.YtpojadoklfdfiaaW.PrintLast Go.Proofs.YtpojadoklfdfiaaW.PrintMore
attribute [local go_sem] max2_int min2_int max_two min_two max_three min_three max_four min_four   -- for this text's walks alone
set_option linter.unusedVariables false
set_option linter.unusedSimpArgs false
/-! ### laws_FnExactStackOk: function 4 -/
def laws_FnExactStackOk.f (k : Nat) (l0_0 : List (S88)) (l1 : List Int) : Option (Bool) := if (l1.length : Int) > 1048576 then (some true) else ((zq22.f k l0_0 1048576).bind fun t423 => (if t423 < 0 then (some true) else ((zq14.f k l0_0).bind fun t424 => ((zq13.f k l1).bind fun t427 => ((zq53.f k t424 t427).bind fun t430 => ((zq14.f k l0_0).bind fun t431 => ((zq13.f k l1).bind fun t435 => ((zq23.f k t431 t435).bind fun t438 => (if (t438 != t430) = true then (some false) else ((zq14.f k l0_0).bind fun t439 => ((zq24.f k t431 t439).bind fun t442 => (if t442 = true then ((zq13.f k l1).bind fun t443 => ((zq16.f k t435 t443).bind fun t446 => (if t446 = true then (some true) else (some false)))) else (some false)))))))))))))
theorem laws_FnExactStackOk.mono : ∀ a0 a1 k, LeO (laws_FnExactStackOk.f k a0 a1) (laws_FnExactStackOk.f (k + 1) a0 a1) := by
 intro a0 a1 k
 unfold laws_FnExactStackOk.f
 repeat' first
   | (with_reducible exact zq23.mono _ _ _)
   | (with_reducible exact zq16.mono _ _ _)
   | (with_reducible exact zq24.mono _ _ _)
   | (with_reducible exact zq22.mono _ _ _)
   | (with_reducible exact zq13.mono _ _)
   | (with_reducible exact zq14.mono _ _)
   | (with_reducible exact zq53.mono _ _ _)
   | (with_reducible exact LeO.refl _)
   | (with_reducible exact LeO.none _)
   | (with_reducible refine LeO.ite ?_ ?_)
   | (with_reducible refine LeO.bind ?_ (fun _ => ?_))
set_option maxHeartbeats 8000000 in
set_option maxRecDepth 100000 in
theorem laws_FnExactStackOk.calls (k : Nat) (A0_0 : Option Addr) (c0_0 : Nat) (l0_0 : List (S88)) (A1 : Option Addr) (c1 : Nat) (l1 : List Int) (r : Bool) (w : World) (hr0_0 : Kd.C k88 w A0_0 l0_0.length l0_0) (hc0_0 : l0_0.length ≤ c0_0) (hr1 : Kd.C (Kd.int .i64) w A1 l1.length l1) (hc1 : l1.length ≤ c1) (h : laws_FnExactStackOk.f k l0_0 l1 = some r) :
  Calls Try.prog 4 #[.agg #[.slice A0_0 l0_0.length c0_0], .slice A1 l1.length c1] w fun e w' => e = .returned (.bool r) ∧ Below w.heap.size w w' := by
 have hu24 := Try.underlying24
 have hu29 := Try.underlying29
 have HR0_0 := Aside0.mk hr0_0
 have HC0_0 := Aside0.mk hc0_0
 clear hr0_0 hc0_0
 have HR1 := Aside0.mk hr1
 have HC1 := Aside0.mk hc1
 clear hr1 hc1
 have HB := Aside0.mk (Below.refl w.heap.size w)
 have H : (if (l1.length : Int) > 1048576 then (some true) else ((zq22.f k l0_0 1048576).bind fun t423 => (if t423 < 0 then (some true) else ((zq14.f k l0_0).bind fun t424 => ((zq13.f k l1).bind fun t427 => ((zq53.f k t424 t427).bind fun t430 => ((zq14.f k l0_0).bind fun t431 => ((zq13.f k l1).bind fun t435 => ((zq23.f k t431 t435).bind fun t438 => (if (t438 != t430) = true then (some false) else ((zq14.f k l0_0).bind fun t439 => ((zq24.f k t431 t439).bind fun t442 => (if t442 = true then ((zq13.f k l1).bind fun t443 => ((zq16.f k t435 t443).bind fun t446 => (if t446 = true then (some true) else (some false)))) else (some false)))))))))))))) = some r := h
 clear h
 by_cases c3 : (l1.length : Int) > 1048576
 ·rw [if_pos c3] at H
  have c3b0 : decide (1048576 < (l1.length : Int)) = true := decide_eq_true c3
  have c3b1 : decide (1048576 < l1.length) = true := decide_eq_true (by omega)
  clear c3
  obtain rfl := Option.some.inj H
  go_enter Try.func4, Try.ntmps4
  go_wp2_with (first | ((refine gate_dst (N := 2) rfl ?_); refine box_event ?hg (N := 2) ?hd (cs := #[.slice A0_0 l0_0.length c0_0]) (t := 24) ?hr ?_; (case hd => rfl); (case hg => rfl); (case hr => first | (go_simp; done) | (go_simp; rfl)); intro gb422 hg w4 hbox hb; have BK422 := Aside0.mk (hbox); have GW422 := Aside0.mk ((by rw [hg]; exact (below_size (by repeat (with_reducible first | exact HB.out | apply zq2 | apply zq0 | apply zq1))) : w.heap.size ≤ gb422)); replace HB := Aside0.mk (zq7 (by repeat (with_reducible first | exact HB.out | apply zq2 | apply zq0 | apply zq1)) hb); have GE422 := GW422; clear hb hbox hg))
  go_ret
  exact ⟨by first | rfl | simp | simp [*], by repeat (first | (with_reducible first | exact HB.out | apply zq2 | apply zq0 | apply zq1 | refine zq3 ?_ GE422.out) | exact HB.out)⟩
 ·rw [if_neg c3] at H
  have c3b0 : decide (1048576 < (l1.length : Int)) = false := decide_eq_false c3
  have c3b1 : decide (1048576 < l1.length) = false := decide_eq_false (by omega)
  clear c3
  replace H := Option.bind_eq_some_iff.mp H
  obtain ⟨t423, A50, H⟩ := H
  (try dsimp only at H)
  have A5 := Aside0.mk A50
  clear A50
  by_cases c6 : t423 < 0
  ·rw [if_pos c6] at H
   have c6b0 : decide (t423 < 0) = true := decide_eq_true c6
   clear c6
   obtain rfl := Option.some.inj H
   go_enter Try.func4, Try.ntmps4
   go_wp2_with (first | ((refine gate_dst (N := 2) rfl ?_); refine box_event ?hg (N := 2) ?hd (cs := #[.slice A0_0 l0_0.length c0_0]) (t := 24) ?hr ?_; (case hd => rfl); (case hg => rfl); (case hr => first | (go_simp; done) | (go_simp; rfl)); intro gb422 hg w7 hbox hb; have BK422 := Aside0.mk (hbox); have GW422 := Aside0.mk ((by rw [hg]; exact (below_size (by repeat (with_reducible first | exact HB.out | apply zq2 | apply zq0 | apply zq1))) : w.heap.size ≤ gb422)); replace HB := Aside0.mk (zq7 (by repeat (with_reducible first | exact HB.out | apply zq2 | apply zq0 | apply zq1)) hb); have GE422 := GW422; clear hb hbox hg; obtain ⟨hcz8_0, hfz8_0⟩ := cells1 BK422.out) | ((refine gate_callee (f := 14) rfl ?_); refine goesL_ (some 15) rfl rfl Try.func14 (by kernel_rfl) rfl #[.agg #[.slice A0_0 l0_0.length c0_0], .int .i64 1048576] rfl (by (try simp only [List.map_toArray, List.map_cons, List.map_nil]); first | done | rfl | (simp only [List.length_drop, List.length_take]; rfl)) ?_; (with_reducible refine (zq22.calls k _ _ l0_0 1048576 t423 _ ?side1 ?side2 A5.out).mono ?_); (case side1 => repeat (first | exact (Kd.C_below HR0_0.out HB.out) | (with_reducible refine Kd.C_alloc ?_ _) | (with_reducible refine Kd.C_drewN ?_ _) | (with_reducible refine Kd.C_drew ?_))); (case side2 => exact HC0_0.out); rintro e w9 ⟨rfl, hb⟩; refine ⟨_, rfl, ?_⟩; replace BK422 := Aside0.mk (zq10 (g := gb422) (o := .cells #[.slice A0_0 l0_0.length c0_0] 24 (0, 0)) (by (with_reducible repeat (first | refine zq4 ?_ _ | refine zq6 ?_ | refine zq5 ?_ _)); exact BK422.out) hb); replace HB := Aside0.mk (zq7 (by repeat (with_reducible first | exact HB.out | apply zq2 | apply zq0 | apply zq1 | refine zq3 ?_ GE422.out)) hb); (try clear hb)))
   go_ret
   exact ⟨by first | rfl | simp | simp [*], by repeat (first | (with_reducible first | exact HB.out | apply zq2 | apply zq0 | apply zq1 | refine zq3 ?_ GE422.out) | exact HB.out)⟩
  ·rw [if_neg c6] at H
   have c6b0 : decide (t423 < 0) = false := decide_eq_false c6
   clear c6
   replace H := Option.bind_eq_some_iff.mp H
   obtain ⟨t424, A100, H⟩ := H
   (try dsimp only at H)
   have A10 := Aside0.mk A100
   clear A100
   replace H := Option.bind_eq_some_iff.mp H
   obtain ⟨t427, A110, H⟩ := H
   (try dsimp only at H)
   have A11 := Aside0.mk A110
   clear A110
   replace H := Option.bind_eq_some_iff.mp H
   obtain ⟨t430, A120, H⟩ := H
   (try dsimp only at H)
   have A12 := Aside0.mk A120
   clear A120
   replace H := Option.bind_eq_some_iff.mp H
   obtain ⟨t431, A130, H⟩ := H
   (try dsimp only at H)
   have A13 := Aside0.mk A130
   clear A130
   replace H := Option.bind_eq_some_iff.mp H
   obtain ⟨t435, A140, H⟩ := H
   (try dsimp only at H)
   have A14 := Aside0.mk A140
   clear A140
   replace H := Option.bind_eq_some_iff.mp H
   obtain ⟨t438, A150, H⟩ := H
   (try dsimp only at H)
   have A15 := Aside0.mk A150
   clear A150
   by_cases c16 : (t438 != t430) = true
   ·rw [if_pos c16] at H
    have c16b0 : (t438 != t430) = true := c16
    (try (have c16b1 : decide (t438 = t430) = false := by simpa using c16))
    (try (have c16b2 : (t438 == t430) = false := by simpa using c16))
    (try (have c16b3 : ¬ (t438 = t430) := by simpa using c16))
    clear c16
    obtain rfl := Option.some.inj H
    go_enter Try.func4, Try.ntmps4
    go_wp2_with (first | ((refine gate_dst (N := 2) rfl ?_); refine box_event ?hg (N := 2) ?hd (cs := #[.slice A0_0 l0_0.length c0_0]) (t := 24) ?hr ?_; (case hd => rfl); (case hg => rfl); (case hr => first | (go_simp; done) | (go_simp; rfl)); intro gb422 hg w17 hbox hb; have BK422 := Aside0.mk (hbox); have GW422 := Aside0.mk ((by rw [hg]; exact (below_size (by repeat (with_reducible first | exact HB.out | apply zq2 | apply zq0 | apply zq1))) : w.heap.size ≤ gb422)); replace HB := Aside0.mk (zq7 (by repeat (with_reducible first | exact HB.out | apply zq2 | apply zq0 | apply zq1)) hb); have GE422 := GW422; clear hb hbox hg; obtain ⟨hcz18_0, hfz18_0⟩ := cells1 BK422.out) | ((refine gate_callee (f := 14) rfl ?_); refine goesL_ (some 15) rfl rfl Try.func14 (by kernel_rfl) rfl #[.agg #[.slice A0_0 l0_0.length c0_0], .int .i64 1048576] rfl (by (try simp only [List.map_toArray, List.map_cons, List.map_nil]); first | done | rfl | (simp only [List.length_drop, List.length_take]; rfl)) ?_; (with_reducible refine (zq22.calls k _ _ l0_0 1048576 t423 _ ?side1 ?side2 A5.out).mono ?_); (case side1 => repeat (first | exact (Kd.C_below HR0_0.out HB.out) | (with_reducible refine Kd.C_alloc ?_ _) | (with_reducible refine Kd.C_drewN ?_ _) | (with_reducible refine Kd.C_drew ?_))); (case side2 => exact HC0_0.out); rintro e w19 ⟨rfl, hb⟩; refine ⟨_, rfl, ?_⟩; replace BK422 := Aside0.mk (zq10 (g := gb422) (o := .cells #[.slice A0_0 l0_0.length c0_0] 24 (0, 0)) (by (with_reducible repeat (first | refine zq4 ?_ _ | refine zq6 ?_ | refine zq5 ?_ _)); exact BK422.out) hb); replace HB := Aside0.mk (zq7 (by repeat (with_reducible first | exact HB.out | apply zq2 | apply zq0 | apply zq1 | refine zq3 ?_ GE422.out)) hb); (try clear hb); obtain ⟨hcz20_0, hfz20_0⟩ := cells1 BK422.out) | ((refine gate_callee (f := 16) rfl ?_); refine goesL_ (some 19) rfl rfl Try.func16 (by kernel_rfl) rfl #[.agg #[.slice A0_0 l0_0.length c0_0]] rfl (by (try simp only [List.map_toArray, List.map_cons, List.map_nil]); first | done | rfl | (simp only [List.length_drop, List.length_take]; rfl)) ?_; (with_reducible refine (zq14.calls k _ _ l0_0 t424 _ ?side1 ?side2 A10.out).mono ?_); (case side1 => repeat (first | exact (Kd.C_below HR0_0.out HB.out) | (with_reducible refine Kd.C_alloc ?_ _) | (with_reducible refine Kd.C_drewN ?_ _) | (with_reducible refine Kd.C_drew ?_))); (case side2 => exact HC0_0.out); rintro e w21 ⟨v425, rfl, ho0, hb⟩; refine ⟨_, rfl, ?_⟩; have HO426 := Aside0.mk (Kd.S_lower ho0 (below_size (by repeat (with_reducible first | exact HB.out | apply zq2 | apply zq0 | apply zq1 | refine zq3 ?_ GE422.out)))); replace BK422 := Aside0.mk (zq10 (g := gb422) (o := .cells #[.slice A0_0 l0_0.length c0_0] 24 (0, 0)) (by (with_reducible repeat (first | refine zq4 ?_ _ | refine zq6 ?_ | refine zq5 ?_ _)); exact BK422.out) hb); replace HB := Aside0.mk (zq7 (by repeat (with_reducible first | exact HB.out | apply zq2 | apply zq0 | apply zq1 | refine zq3 ?_ GE422.out)) hb); (try clear hb); (try clear ho0)) | ((refine gate_callee (f := 20) rfl ?_); refine goesL_ (some 21) rfl rfl Try.func20 (by kernel_rfl) rfl #[.slice A1 l1.length c1] rfl (by (try simp only [List.map_toArray, List.map_cons, List.map_nil]); first | done | rfl) ?_; (with_reducible refine (zq13.calls k _ _ l1 t427 _ ?side1 ?side2 A11.out).mono ?_); (case side1 => repeat (first | exact (Kd.C_below HR1.out HB.out) | (with_reducible refine Kd.C_alloc ?_ _) | (with_reducible refine Kd.C_drewN ?_ _) | (with_reducible refine Kd.C_drew ?_))); (case side2 => exact HC1.out); rintro e w22 ⟨v428, rfl, ho0, hb⟩; refine ⟨_, rfl, ?_⟩; replace HO426 := Aside0.mk (Kd.S_elder' (by (with_reducible repeat (first | apply Kd.S_alloc | apply Kd.S_drewN | apply Kd.S_drew)); exact HO426.out) (Kd.R_base ho0) hb); have HO429 := Aside0.mk (Kd.R_lower ho0 (below_size (by repeat (with_reducible first | exact HB.out | apply zq2 | apply zq0 | apply zq1 | refine zq3 ?_ GE422.out)))); replace BK422 := Aside0.mk (zq10 (g := gb422) (o := .cells #[.slice A0_0 l0_0.length c0_0] 24 (0, 0)) (by (with_reducible repeat (first | refine zq4 ?_ _ | refine zq6 ?_ | refine zq5 ?_ _)); exact BK422.out) hb); replace HB := Aside0.mk (zq7 (by repeat (with_reducible first | exact HB.out | apply zq2 | apply zq0 | apply zq1 | refine zq3 ?_ GE422.out)) hb); (try clear hb); (try clear ho0); obtain ⟨Ao23, co23, eo23⟩ := Kd.S_slice HO426.out; subst eo23; obtain ⟨Ao24, co24, eo24⟩ := Kd.R_slice HO429.out; subst eo24) | ((refine gate_callee (f := 19) rfl ?_); refine goesL_ (some 22) rfl rfl Try.func19 (by kernel_rfl) rfl #[.agg #[.slice Ao23 t424.length co23], .slice Ao24 t427.length co24] rfl (by (try simp only [List.map_toArray, List.map_cons, List.map_nil]); first | done | rfl | (simp only [List.length_drop, List.length_take]; rfl)) ?_; (with_reducible refine (zq53.calls k _ _ t424 _ _ t427 t430 _ ?side1 ?side2 ?side3 ?side4 A12.out).mono ?_); (case side1 => repeat (first | exact (Kd.S_reads' HO426.out).2.2 | (with_reducible refine Kd.C_alloc ?_ _) | (with_reducible refine Kd.C_drewN ?_ _) | (with_reducible refine Kd.C_drew ?_))); (case side2 => exact (Kd.S_reads' HO426.out).2.1); (case side3 => repeat (first | exact (Kd.R_reads' HO429.out).2.2 | (with_reducible refine Kd.C_alloc ?_ _) | (with_reducible refine Kd.C_drewN ?_ _) | (with_reducible refine Kd.C_drew ?_))); (case side4 => exact (Kd.R_reads' HO429.out).2.1); rintro e w25 ⟨rfl, hb⟩; refine ⟨_, rfl, ?_⟩; replace HO426 := Aside0.mk (Kd.S_below (by (with_reducible repeat (first | apply Kd.S_alloc | apply Kd.S_drewN | apply Kd.S_drew)); exact HO426.out) hb); replace HO429 := Aside0.mk (Kd.R_below (by (with_reducible repeat (first | apply Kd.R_alloc | apply Kd.R_drewN | apply Kd.R_drew)); exact HO429.out) hb); replace BK422 := Aside0.mk (zq10 (g := gb422) (o := .cells #[.slice A0_0 l0_0.length c0_0] 24 (0, 0)) (by (with_reducible repeat (first | refine zq4 ?_ _ | refine zq6 ?_ | refine zq5 ?_ _)); exact BK422.out) hb); replace HB := Aside0.mk (zq7 (by repeat (with_reducible first | exact HB.out | apply zq2 | apply zq0 | apply zq1 | refine zq3 ?_ GE422.out)) hb); (try clear hb); obtain ⟨hcz26_0, hfz26_0⟩ := cells1 BK422.out) | ((refine gate_callee (f := 16) rfl ?_); refine goesL_ (some 24) rfl rfl Try.func16 (by kernel_rfl) rfl #[.agg #[.slice A0_0 l0_0.length c0_0]] rfl (by (try simp only [List.map_toArray, List.map_cons, List.map_nil]); first | done | rfl | (simp only [List.length_drop, List.length_take]; rfl)) ?_; (with_reducible refine (zq14.calls k _ _ l0_0 t431 _ ?side1 ?side2 A13.out).mono ?_); (case side1 => repeat (first | exact (Kd.C_below HR0_0.out HB.out) | (with_reducible refine Kd.C_alloc ?_ _) | (with_reducible refine Kd.C_drewN ?_ _) | (with_reducible refine Kd.C_drew ?_))); (case side2 => exact HC0_0.out); rintro e w27 ⟨v432, rfl, ho0, hb⟩; refine ⟨_, rfl, ?_⟩; have HO433 := Aside0.mk (Kd.S_lower (Kd.S_new' (Kd.S_new' ho0 (Kd.S_lt (by (with_reducible repeat (first | apply Kd.S_alloc | apply Kd.S_drewN | apply Kd.S_drew)); exact HO426.out))) (Kd.R_lt (by (with_reducible repeat (first | apply Kd.R_alloc | apply Kd.R_drewN | apply Kd.R_drew)); exact HO429.out))) (below_size (by repeat (with_reducible first | exact HB.out | apply zq2 | apply zq0 | apply zq1 | refine zq3 ?_ GE422.out)))); replace HO426 := Aside0.mk (Kd.S_elder' (by (with_reducible repeat (first | apply Kd.S_alloc | apply Kd.S_drewN | apply Kd.S_drew)); exact HO426.out) (Kd.S_base ho0) hb); replace HO429 := Aside0.mk (Kd.R_below (by (with_reducible repeat (first | apply Kd.R_alloc | apply Kd.R_drewN | apply Kd.R_drew)); exact HO429.out) hb); replace BK422 := Aside0.mk (zq10 (g := gb422) (o := .cells #[.slice A0_0 l0_0.length c0_0] 24 (0, 0)) (by (with_reducible repeat (first | refine zq4 ?_ _ | refine zq6 ?_ | refine zq5 ?_ _)); exact BK422.out) hb); replace HB := Aside0.mk (zq7 (by repeat (with_reducible first | exact HB.out | apply zq2 | apply zq0 | apply zq1 | refine zq3 ?_ GE422.out)) hb); (try clear hb); (try clear ho0)) | ((refine gate_dst (N := 7) rfl ?_); refine box_event ?hg (N := 7) ?hd (cs := #[.slice none 0 0]) (t := 29) ?hr ?_; (case hd => rfl); (case hg => rfl); (case hr => first | (go_simp; done) | (go_simp; rfl)); intro gb434 hg w28 hbox hb; replace HO426 := Aside0.mk (Kd.S_below (by (with_reducible repeat (first | apply Kd.S_alloc | apply Kd.S_drewN | apply Kd.S_drew)); exact HO426.out) hb); replace HO429 := Aside0.mk (Kd.R_below (by (with_reducible repeat (first | apply Kd.R_alloc | apply Kd.R_drewN | apply Kd.R_drew)); exact HO429.out) hb); replace HO433 := Aside0.mk (Kd.S_below (by (with_reducible repeat (first | apply Kd.S_alloc | apply Kd.S_drewN | apply Kd.S_drew)); exact HO433.out) hb); have BK434 := Aside0.mk (hbox); have GW434 := Aside0.mk ((by rw [hg]; exact (below_size (by repeat (with_reducible first | exact HB.out | apply zq2 | apply zq0 | apply zq1 | refine zq3 ?_ GE422.out))) : w.heap.size ≤ gb434)); replace HB := Aside0.mk (zq7 (by repeat (with_reducible first | exact HB.out | apply zq2 | apply zq0 | apply zq1 | refine zq3 ?_ GE422.out)) hb); have NB422_434 := Aside0.mk ((by rw [hg]; exact Nat.ne_of_lt (blk_lt (g := gb422) (o := .cells #[.slice A0_0 l0_0.length c0_0] 24 (0, 0)) (by (with_reducible repeat (first | refine zq4 ?_ _ | refine zq6 ?_ | refine zq5 ?_ _)); exact BK422.out)) : gb422 ≠ gb434)); have NB434_422 := Aside0.mk ((by rw [hg]; exact Nat.ne_of_gt (blk_lt (g := gb422) (o := .cells #[.slice A0_0 l0_0.length c0_0] 24 (0, 0)) (by (with_reducible repeat (first | refine zq4 ?_ _ | refine zq6 ?_ | refine zq5 ?_ _)); exact BK422.out)) : gb434 ≠ gb422)); replace BK422 := Aside0.mk (zq10 (g := gb422) (o := .cells #[.slice A0_0 l0_0.length c0_0] 24 (0, 0)) (by (with_reducible repeat (first | refine zq4 ?_ _ | refine zq6 ?_ | refine zq5 ?_ _)); exact BK422.out) hb); have GE434 := GW434; clear hb hbox hg; obtain ⟨Ao29, co29, eo29⟩ := Kd.S_slice HO433.out; subst eo29; have hnb30 := NB434_422.out; have hnc30 := NB422_434.out; obtain ⟨hcz31_0, hfz31_0⟩ := cells1 BK434.out) | ((refine gate_callee (f := 20) rfl ?_); refine goesL_ (some 26) rfl rfl Try.func20 (by kernel_rfl) rfl #[.slice A1 l1.length c1] rfl (by (try simp only [List.map_toArray, List.map_cons, List.map_nil]); first | done | rfl) ?_; (with_reducible refine (zq13.calls k _ _ l1 t435 _ ?side1 ?side2 A14.out).mono ?_); (case side1 => exact Kd.C_below HR1.out (by repeat (with_reducible first | exact HB.out | apply zq2 | apply zq0 | apply zq1 | refine zq3 ?_ GE422.out | refine zq3 ?_ GE434.out))); (case side2 => exact HC1.out); rintro e w32 ⟨v436, rfl, ho0, hb⟩; refine ⟨_, rfl, ?_⟩; replace HO426 := Aside0.mk (Kd.S_elder' (by (with_reducible repeat (first | apply Kd.S_alloc | apply Kd.S_drewN | apply Kd.S_drew)); exact (Kd.S_mono (Kd.S_far (p := ⟨gb434, 0, none⟩) (Kd.S_types HO426.out BK434.out (by decide)) (fun _ hk => hk.2) (.slice Ao29 t431.length co29)) (fun _ h_ => h_.1))) (Kd.R_base ho0) hb); replace HO433 := Aside0.mk (Kd.S_elder' (by (with_reducible repeat (first | apply Kd.S_alloc | apply Kd.S_drewN | apply Kd.S_drew)); exact (Kd.S_mono (Kd.S_far (p := ⟨gb434, 0, none⟩) (Kd.S_types HO433.out BK434.out (by decide)) (fun _ hk => hk.2) (.slice Ao29 t431.length co29)) (fun _ h_ => h_.1))) (Kd.R_base ho0) hb); have HO437 := Aside0.mk (Kd.R_lower (Kd.R_new' ho0 (Kd.R_lt (by (with_reducible repeat (first | apply Kd.R_alloc | apply Kd.R_drewN | apply Kd.R_drew)); exact (Kd.R_mono (Kd.R_far (p := ⟨gb434, 0, none⟩) (Kd.R_types HO429.out BK434.out (by decide)) (fun _ hk => hk.2) (.slice Ao29 t431.length co29)) (fun _ h_ => h_.1))))) (below_size (by repeat (with_reducible first | exact HB.out | apply zq2 | apply zq0 | apply zq1 | refine zq3 ?_ GE422.out | refine zq3 ?_ GE434.out)))); replace HO429 := Aside0.mk (Kd.R_elder' (by (with_reducible repeat (first | apply Kd.R_alloc | apply Kd.R_drewN | apply Kd.R_drew)); exact (Kd.R_mono (Kd.R_far (p := ⟨gb434, 0, none⟩) (Kd.R_types HO429.out BK434.out (by decide)) (fun _ hk => hk.2) (.slice Ao29 t431.length co29)) (fun _ h_ => h_.1))) (Kd.R_base ho0) hb); replace BK422 := Aside0.mk (zq10 (g := gb422) (o := .cells #[.slice A0_0 l0_0.length c0_0] 24 (0, 0)) (by (with_reducible repeat (first | refine zq4 ?_ _ | refine zq6 ?_ | refine zq5 ?_ _ | refine blk_far ?_ NB422_434.out _)); exact BK422.out) hb); replace BK434 := Aside0.mk (zq10 (g := gb434) (o := .cells #[.slice Ao29 t431.length co29] 29 (0, 0)) (by (with_reducible repeat (first | refine zq4 ?_ _ | refine zq6 ?_ | refine zq5 ?_ _)); refine blk_put (cs := #[.slice none 0 0]) ?_ 0 _ rfl; (with_reducible repeat (first | refine zq4 ?_ _ | refine zq6 ?_ | refine zq5 ?_ _)); exact BK434.out) hb); replace HB := Aside0.mk (zq7 (by repeat (with_reducible first | exact HB.out | apply zq2 | apply zq0 | apply zq1 | refine zq3 ?_ GE422.out | refine zq3 ?_ GE434.out)) hb); (try clear hb); (try clear ho0); obtain ⟨hcz33_0, hfz33_0⟩ := cells1 BK434.out; obtain ⟨Ao34, co34, eo34⟩ := Kd.R_slice HO437.out; subst eo34) | ((refine gate_callee (f := 21) rfl ?_); refine goesL_ (some 29) rfl rfl Try.func21 (by kernel_rfl) rfl #[.agg #[.slice Ao29 t431.length co29], .slice Ao34 t435.length co34] rfl (by (try simp only [List.map_toArray, List.map_cons, List.map_nil]); first | done | rfl | (simp only [List.length_drop, List.length_take]; rfl)) ?_; (with_reducible refine (zq23.calls k _ _ t431 _ _ t435 t438 _ ?side1 ?side2 ?side3 ?side4 A15.out).mono ?_); (case side1 => repeat (first | exact (Kd.S_reads' HO433.out).2.2 | (with_reducible refine Kd.C_alloc ?_ _) | (with_reducible refine Kd.C_drewN ?_ _) | (with_reducible refine Kd.C_drew ?_))); (case side2 => exact (Kd.S_reads' HO433.out).2.1); (case side3 => repeat (first | exact (Kd.R_reads' HO437.out).2.2 | (with_reducible refine Kd.C_alloc ?_ _) | (with_reducible refine Kd.C_drewN ?_ _) | (with_reducible refine Kd.C_drew ?_))); (case side4 => exact (Kd.R_reads' HO437.out).2.1); rintro e w35 ⟨rfl, hb⟩; refine ⟨_, rfl, ?_⟩; replace HO426 := Aside0.mk (Kd.S_below (by (with_reducible repeat (first | apply Kd.S_alloc | apply Kd.S_drewN | apply Kd.S_drew)); exact HO426.out) hb); replace HO429 := Aside0.mk (Kd.R_below (by (with_reducible repeat (first | apply Kd.R_alloc | apply Kd.R_drewN | apply Kd.R_drew)); exact HO429.out) hb); replace HO433 := Aside0.mk (Kd.S_below (by (with_reducible repeat (first | apply Kd.S_alloc | apply Kd.S_drewN | apply Kd.S_drew)); exact HO433.out) hb); replace HO437 := Aside0.mk (Kd.R_below (by (with_reducible repeat (first | apply Kd.R_alloc | apply Kd.R_drewN | apply Kd.R_drew)); exact HO437.out) hb); replace BK422 := Aside0.mk (zq10 (g := gb422) (o := .cells #[.slice A0_0 l0_0.length c0_0] 24 (0, 0)) (by (with_reducible repeat (first | refine zq4 ?_ _ | refine zq6 ?_ | refine zq5 ?_ _)); exact BK422.out) hb); replace BK434 := Aside0.mk (zq10 (g := gb434) (o := .cells #[.slice Ao29 t431.length co29] 29 (0, 0)) (by (with_reducible repeat (first | refine zq4 ?_ _ | refine zq6 ?_ | refine zq5 ?_ _)); exact BK434.out) hb); replace HB := Aside0.mk (zq7 (by repeat (with_reducible first | exact HB.out | apply zq2 | apply zq0 | apply zq1 | refine zq3 ?_ GE422.out | refine zq3 ?_ GE434.out)) hb); (try clear hb)))
    go_ret
    exact ⟨by first | rfl | simp | simp [*], by repeat (first | (with_reducible first | exact HB.out | apply zq2 | apply zq0 | apply zq1 | refine zq3 ?_ GE422.out | refine zq3 ?_ GE434.out) | exact HB.out)⟩
   ·rw [if_neg c16] at H
    have c16b0 : (t438 != t430) = false := by simpa using c16
    (try (have c16b1 : decide (t438 = t430) = true := by simpa using c16))
    (try (have c16b2 : (t438 == t430) = true := by simpa using c16))
    clear c16
    replace H := Option.bind_eq_some_iff.mp H
    obtain ⟨t439, A360, H⟩ := H
    (try dsimp only at H)
    have A36 := Aside0.mk A360
    clear A360
    replace H := Option.bind_eq_some_iff.mp H
    obtain ⟨t442, A370, H⟩ := H
    (try dsimp only at H)
    have A37 := Aside0.mk A370
    clear A370
    by_cases c38 : t442 = true
    ·subst c38
     rw [if_pos rfl] at H
     replace H := Option.bind_eq_some_iff.mp H
     obtain ⟨t443, A390, H⟩ := H
     (try dsimp only at H)
     have A39 := Aside0.mk A390
     clear A390
     replace H := Option.bind_eq_some_iff.mp H
     obtain ⟨t446, A400, H⟩ := H
     (try dsimp only at H)
     have A40 := Aside0.mk A400
     clear A400
     by_cases c41 : t446 = true
     ·subst c41
      rw [if_pos rfl] at H
      obtain rfl := Option.some.inj H
      go_enter Try.func4, Try.ntmps4
      try go_wp2_with (first | ((refine gate_dst (N := 2) rfl ?_); refine box_event ?hg (N := 2) ?hd (cs := #[.slice A0_0 l0_0.length c0_0]) (t := 24) ?hr ?_; (case hd => rfl); (case hg => rfl); (case hr => first | (go_simp; done) | (go_simp; rfl)); intro gb422 hg w42 hbox hb; have BK422 := Aside0.mk (hbox); have GW422 := Aside0.mk ((by rw [hg]; exact (below_size (by repeat (with_reducible first | exact HB.out | apply zq2 | apply zq0 | apply zq1))) : w.heap.size ≤ gb422)); replace HB := Aside0.mk (zq7 (by repeat (with_reducible first | exact HB.out | apply zq2 | apply zq0 | apply zq1)) hb); have GE422 := GW422; clear hb hbox hg; obtain ⟨hcz43_0, hfz43_0⟩ := cells1 BK422.out) | ((refine gate_callee (f := 14) rfl ?_); refine goesL_ (some 15) rfl rfl Try.func14 (by kernel_rfl) rfl #[.agg #[.slice A0_0 l0_0.length c0_0], .int .i64 1048576] rfl (by (try simp only [List.map_toArray, List.map_cons, List.map_nil]); first | done | rfl | (simp only [List.length_drop, List.length_take]; rfl)) ?_; (with_reducible refine (zq22.calls k _ _ l0_0 1048576 t423 _ ?side1 ?side2 A5.out).mono ?_); (case side1 => repeat (first | exact (Kd.C_below HR0_0.out HB.out) | (with_reducible refine Kd.C_alloc ?_ _) | (with_reducible refine Kd.C_drewN ?_ _) | (with_reducible refine Kd.C_drew ?_))); (case side2 => exact HC0_0.out); rintro e w44 ⟨rfl, hb⟩; refine ⟨_, rfl, ?_⟩; replace BK422 := Aside0.mk (zq10 (g := gb422) (o := .cells #[.slice A0_0 l0_0.length c0_0] 24 (0, 0)) (by (with_reducible repeat (first | refine zq4 ?_ _ | refine zq6 ?_ | refine zq5 ?_ _)); exact BK422.out) hb); replace HB := Aside0.mk (zq7 (by repeat (with_reducible first | exact HB.out | apply zq2 | apply zq0 | apply zq1 | refine zq3 ?_ GE422.out)) hb); (try clear hb); obtain ⟨hcz45_0, hfz45_0⟩ := cells1 BK422.out) | ((refine gate_callee (f := 16) rfl ?_); refine goesL_ (some 19) rfl rfl Try.func16 (by kernel_rfl) rfl #[.agg #[.slice A0_0 l0_0.length c0_0]] rfl (by (try simp only [List.map_toArray, List.map_cons, List.map_nil]); first | done | rfl | (simp only [List.length_drop, List.length_take]; rfl)) ?_; (with_reducible refine (zq14.calls k _ _ l0_0 t424 _ ?side1 ?side2 A10.out).mono ?_); (case side1 => repeat (first | exact (Kd.C_below HR0_0.out HB.out) | (with_reducible refine Kd.C_alloc ?_ _) | (with_reducible refine Kd.C_drewN ?_ _) | (with_reducible refine Kd.C_drew ?_))); (case side2 => exact HC0_0.out); rintro e w46 ⟨v425, rfl, ho0, hb⟩; refine ⟨_, rfl, ?_⟩; have HO426 := Aside0.mk (Kd.S_lower ho0 (below_size (by repeat (with_reducible first | exact HB.out | apply zq2 | apply zq0 | apply zq1 | refine zq3 ?_ GE422.out)))); replace BK422 := Aside0.mk (zq10 (g := gb422) (o := .cells #[.slice A0_0 l0_0.length c0_0] 24 (0, 0)) (by (with_reducible repeat (first | refine zq4 ?_ _ | refine zq6 ?_ | refine zq5 ?_ _)); exact BK422.out) hb); replace HB := Aside0.mk (zq7 (by repeat (with_reducible first | exact HB.out | apply zq2 | apply zq0 | apply zq1 | refine zq3 ?_ GE422.out)) hb); (try clear hb); (try clear ho0)) | ((refine gate_callee (f := 20) rfl ?_); refine goesL_ (some 21) rfl rfl Try.func20 (by kernel_rfl) rfl #[.slice A1 l1.length c1] rfl (by (try simp only [List.map_toArray, List.map_cons, List.map_nil]); first | done | rfl) ?_; (with_reducible refine (zq13.calls k _ _ l1 t427 _ ?side1 ?side2 A11.out).mono ?_); (case side1 => repeat (first | exact (Kd.C_below HR1.out HB.out) | (with_reducible refine Kd.C_alloc ?_ _) | (with_reducible refine Kd.C_drewN ?_ _) | (with_reducible refine Kd.C_drew ?_))); (case side2 => exact HC1.out); rintro e w47 ⟨v428, rfl, ho0, hb⟩; refine ⟨_, rfl, ?_⟩; replace HO426 := Aside0.mk (Kd.S_elder' (by (with_reducible repeat (first | apply Kd.S_alloc | apply Kd.S_drewN | apply Kd.S_drew)); exact HO426.out) (Kd.R_base ho0) hb); have HO429 := Aside0.mk (Kd.R_lower ho0 (below_size (by repeat (with_reducible first | exact HB.out | apply zq2 | apply zq0 | apply zq1 | refine zq3 ?_ GE422.out)))); replace BK422 := Aside0.mk (zq10 (g := gb422) (o := .cells #[.slice A0_0 l0_0.length c0_0] 24 (0, 0)) (by (with_reducible repeat (first | refine zq4 ?_ _ | refine zq6 ?_ | refine zq5 ?_ _)); exact BK422.out) hb); replace HB := Aside0.mk (zq7 (by repeat (with_reducible first | exact HB.out | apply zq2 | apply zq0 | apply zq1 | refine zq3 ?_ GE422.out)) hb); (try clear hb); (try clear ho0); obtain ⟨Ao48, co48, eo48⟩ := Kd.S_slice HO426.out; subst eo48; obtain ⟨Ao49, co49, eo49⟩ := Kd.R_slice HO429.out; subst eo49) | ((refine gate_callee (f := 19) rfl ?_); refine goesL_ (some 22) rfl rfl Try.func19 (by kernel_rfl) rfl #[.agg #[.slice Ao48 t424.length co48], .slice Ao49 t427.length co49] rfl (by (try simp only [List.map_toArray, List.map_cons, List.map_nil]); first | done | rfl | (simp only [List.length_drop, List.length_take]; rfl)) ?_; (with_reducible refine (zq53.calls k _ _ t424 _ _ t427 t430 _ ?side1 ?side2 ?side3 ?side4 A12.out).mono ?_); (case side1 => repeat (first | exact (Kd.S_reads' HO426.out).2.2 | (with_reducible refine Kd.C_alloc ?_ _) | (with_reducible refine Kd.C_drewN ?_ _) | (with_reducible refine Kd.C_drew ?_))); (case side2 => exact (Kd.S_reads' HO426.out).2.1); (case side3 => repeat (first | exact (Kd.R_reads' HO429.out).2.2 | (with_reducible refine Kd.C_alloc ?_ _) | (with_reducible refine Kd.C_drewN ?_ _) | (with_reducible refine Kd.C_drew ?_))); (case side4 => exact (Kd.R_reads' HO429.out).2.1); rintro e w50 ⟨rfl, hb⟩; refine ⟨_, rfl, ?_⟩; replace HO426 := Aside0.mk (Kd.S_below (by (with_reducible repeat (first | apply Kd.S_alloc | apply Kd.S_drewN | apply Kd.S_drew)); exact HO426.out) hb); replace HO429 := Aside0.mk (Kd.R_below (by (with_reducible repeat (first | apply Kd.R_alloc | apply Kd.R_drewN | apply Kd.R_drew)); exact HO429.out) hb); replace BK422 := Aside0.mk (zq10 (g := gb422) (o := .cells #[.slice A0_0 l0_0.length c0_0] 24 (0, 0)) (by (with_reducible repeat (first | refine zq4 ?_ _ | refine zq6 ?_ | refine zq5 ?_ _)); exact BK422.out) hb); replace HB := Aside0.mk (zq7 (by repeat (with_reducible first | exact HB.out | apply zq2 | apply zq0 | apply zq1 | refine zq3 ?_ GE422.out)) hb); (try clear hb); obtain ⟨hcz51_0, hfz51_0⟩ := cells1 BK422.out) | ((refine gate_callee (f := 16) rfl ?_); refine goesL_ (some 24) rfl rfl Try.func16 (by kernel_rfl) rfl #[.agg #[.slice A0_0 l0_0.length c0_0]] rfl (by (try simp only [List.map_toArray, List.map_cons, List.map_nil]); first | done | rfl | (simp only [List.length_drop, List.length_take]; rfl)) ?_; (with_reducible refine (zq14.calls k _ _ l0_0 t431 _ ?side1 ?side2 A13.out).mono ?_); (case side1 => repeat (first | exact (Kd.C_below HR0_0.out HB.out) | (with_reducible refine Kd.C_alloc ?_ _) | (with_reducible refine Kd.C_drewN ?_ _) | (with_reducible refine Kd.C_drew ?_))); (case side2 => exact HC0_0.out); rintro e w52 ⟨v432, rfl, ho0, hb⟩; refine ⟨_, rfl, ?_⟩; have HO433 := Aside0.mk (Kd.S_lower (Kd.S_new' (Kd.S_new' ho0 (Kd.S_lt (by (with_reducible repeat (first | apply Kd.S_alloc | apply Kd.S_drewN | apply Kd.S_drew)); exact HO426.out))) (Kd.R_lt (by (with_reducible repeat (first | apply Kd.R_alloc | apply Kd.R_drewN | apply Kd.R_drew)); exact HO429.out))) (below_size (by repeat (with_reducible first | exact HB.out | apply zq2 | apply zq0 | apply zq1 | refine zq3 ?_ GE422.out)))); replace HO426 := Aside0.mk (Kd.S_elder' (by (with_reducible repeat (first | apply Kd.S_alloc | apply Kd.S_drewN | apply Kd.S_drew)); exact HO426.out) (Kd.S_base ho0) hb); replace HO429 := Aside0.mk (Kd.R_below (by (with_reducible repeat (first | apply Kd.R_alloc | apply Kd.R_drewN | apply Kd.R_drew)); exact HO429.out) hb); replace BK422 := Aside0.mk (zq10 (g := gb422) (o := .cells #[.slice A0_0 l0_0.length c0_0] 24 (0, 0)) (by (with_reducible repeat (first | refine zq4 ?_ _ | refine zq6 ?_ | refine zq5 ?_ _)); exact BK422.out) hb); replace HB := Aside0.mk (zq7 (by repeat (with_reducible first | exact HB.out | apply zq2 | apply zq0 | apply zq1 | refine zq3 ?_ GE422.out)) hb); (try clear hb); (try clear ho0)) | ((refine gate_dst (N := 7) rfl ?_); refine box_event ?hg (N := 7) ?hd (cs := #[.slice none 0 0]) (t := 29) ?hr ?_; (case hd => rfl); (case hg => rfl); (case hr => first | (go_simp; done) | (go_simp; rfl)); intro gb434 hg w53 hbox hb; replace HO426 := Aside0.mk (Kd.S_below (by (with_reducible repeat (first | apply Kd.S_alloc | apply Kd.S_drewN | apply Kd.S_drew)); exact HO426.out) hb); replace HO429 := Aside0.mk (Kd.R_below (by (with_reducible repeat (first | apply Kd.R_alloc | apply Kd.R_drewN | apply Kd.R_drew)); exact HO429.out) hb); replace HO433 := Aside0.mk (Kd.S_below (by (with_reducible repeat (first | apply Kd.S_alloc | apply Kd.S_drewN | apply Kd.S_drew)); exact HO433.out) hb); have BK434 := Aside0.mk (hbox); have GW434 := Aside0.mk ((by rw [hg]; exact (below_size (by repeat (with_reducible first | exact HB.out | apply zq2 | apply zq0 | apply zq1 | refine zq3 ?_ GE422.out))) : w.heap.size ≤ gb434)); replace HB := Aside0.mk (zq7 (by repeat (with_reducible first | exact HB.out | apply zq2 | apply zq0 | apply zq1 | refine zq3 ?_ GE422.out)) hb); have NB422_434 := Aside0.mk ((by rw [hg]; exact Nat.ne_of_lt (blk_lt (g := gb422) (o := .cells #[.slice A0_0 l0_0.length c0_0] 24 (0, 0)) (by (with_reducible repeat (first | refine zq4 ?_ _ | refine zq6 ?_ | refine zq5 ?_ _)); exact BK422.out)) : gb422 ≠ gb434)); have NB434_422 := Aside0.mk ((by rw [hg]; exact Nat.ne_of_gt (blk_lt (g := gb422) (o := .cells #[.slice A0_0 l0_0.length c0_0] 24 (0, 0)) (by (with_reducible repeat (first | refine zq4 ?_ _ | refine zq6 ?_ | refine zq5 ?_ _)); exact BK422.out)) : gb434 ≠ gb422)); replace BK422 := Aside0.mk (zq10 (g := gb422) (o := .cells #[.slice A0_0 l0_0.length c0_0] 24 (0, 0)) (by (with_reducible repeat (first | refine zq4 ?_ _ | refine zq6 ?_ | refine zq5 ?_ _)); exact BK422.out) hb); have GE434 := GW434; clear hb hbox hg; obtain ⟨Ao54, co54, eo54⟩ := Kd.S_slice HO433.out; subst eo54; have hnb55 := NB434_422.out; have hnc55 := NB422_434.out; obtain ⟨hcz56_0, hfz56_0⟩ := cells1 BK434.out) | ((refine gate_callee (f := 20) rfl ?_); refine goesL_ (some 26) rfl rfl Try.func20 (by kernel_rfl) rfl #[.slice A1 l1.length c1] rfl (by (try simp only [List.map_toArray, List.map_cons, List.map_nil]); first | done | rfl) ?_; (with_reducible refine (zq13.calls k _ _ l1 t435 _ ?side1 ?side2 A14.out).mono ?_); (case side1 => exact Kd.C_below HR1.out (by repeat (with_reducible first | exact HB.out | apply zq2 | apply zq0 | apply zq1 | refine zq3 ?_ GE422.out | refine zq3 ?_ GE434.out))); (case side2 => exact HC1.out); rintro e w57 ⟨v436, rfl, ho0, hb⟩; refine ⟨_, rfl, ?_⟩; replace HO426 := Aside0.mk (Kd.S_elder' (by (with_reducible repeat (first | apply Kd.S_alloc | apply Kd.S_drewN | apply Kd.S_drew)); exact (Kd.S_mono (Kd.S_far (p := ⟨gb434, 0, none⟩) (Kd.S_types HO426.out BK434.out (by decide)) (fun _ hk => hk.2) (.slice Ao54 t431.length co54)) (fun _ h_ => h_.1))) (Kd.R_base ho0) hb); replace HO433 := Aside0.mk (Kd.S_elder' (by (with_reducible repeat (first | apply Kd.S_alloc | apply Kd.S_drewN | apply Kd.S_drew)); exact (Kd.S_mono (Kd.S_far (p := ⟨gb434, 0, none⟩) (Kd.S_types HO433.out BK434.out (by decide)) (fun _ hk => hk.2) (.slice Ao54 t431.length co54)) (fun _ h_ => h_.1))) (Kd.R_base ho0) hb); have HO437 := Aside0.mk (Kd.R_lower (Kd.R_new' ho0 (Kd.R_lt (by (with_reducible repeat (first | apply Kd.R_alloc | apply Kd.R_drewN | apply Kd.R_drew)); exact (Kd.R_mono (Kd.R_far (p := ⟨gb434, 0, none⟩) (Kd.R_types HO429.out BK434.out (by decide)) (fun _ hk => hk.2) (.slice Ao54 t431.length co54)) (fun _ h_ => h_.1))))) (below_size (by repeat (with_reducible first | exact HB.out | apply zq2 | apply zq0 | apply zq1 | refine zq3 ?_ GE422.out | refine zq3 ?_ GE434.out)))); replace HO429 := Aside0.mk (Kd.R_elder' (by (with_reducible repeat (first | apply Kd.R_alloc | apply Kd.R_drewN | apply Kd.R_drew)); exact (Kd.R_mono (Kd.R_far (p := ⟨gb434, 0, none⟩) (Kd.R_types HO429.out BK434.out (by decide)) (fun _ hk => hk.2) (.slice Ao54 t431.length co54)) (fun _ h_ => h_.1))) (Kd.R_base ho0) hb); replace BK422 := Aside0.mk (zq10 (g := gb422) (o := .cells #[.slice A0_0 l0_0.length c0_0] 24 (0, 0)) (by (with_reducible repeat (first | refine zq4 ?_ _ | refine zq6 ?_ | refine zq5 ?_ _ | refine blk_far ?_ NB422_434.out _)); exact BK422.out) hb); replace BK434 := Aside0.mk (zq10 (g := gb434) (o := .cells #[.slice Ao54 t431.length co54] 29 (0, 0)) (by (with_reducible repeat (first | refine zq4 ?_ _ | refine zq6 ?_ | refine zq5 ?_ _)); refine blk_put (cs := #[.slice none 0 0]) ?_ 0 _ rfl; (with_reducible repeat (first | refine zq4 ?_ _ | refine zq6 ?_ | refine zq5 ?_ _)); exact BK434.out) hb); replace HB := Aside0.mk (zq7 (by repeat (with_reducible first | exact HB.out | apply zq2 | apply zq0 | apply zq1 | refine zq3 ?_ GE422.out | refine zq3 ?_ GE434.out)) hb); (try clear hb); (try clear ho0); obtain ⟨hcz58_0, hfz58_0⟩ := cells1 BK434.out; obtain ⟨Ao59, co59, eo59⟩ := Kd.R_slice HO437.out; subst eo59) | ((refine gate_callee (f := 21) rfl ?_); refine goesL_ (some 29) rfl rfl Try.func21 (by kernel_rfl) rfl #[.agg #[.slice Ao54 t431.length co54], .slice Ao59 t435.length co59] rfl (by (try simp only [List.map_toArray, List.map_cons, List.map_nil]); first | done | rfl | (simp only [List.length_drop, List.length_take]; rfl)) ?_; (with_reducible refine (zq23.calls k _ _ t431 _ _ t435 t438 _ ?side1 ?side2 ?side3 ?side4 A15.out).mono ?_); (case side1 => repeat (first | exact (Kd.S_reads' HO433.out).2.2 | (with_reducible refine Kd.C_alloc ?_ _) | (with_reducible refine Kd.C_drewN ?_ _) | (with_reducible refine Kd.C_drew ?_))); (case side2 => exact (Kd.S_reads' HO433.out).2.1); (case side3 => repeat (first | exact (Kd.R_reads' HO437.out).2.2 | (with_reducible refine Kd.C_alloc ?_ _) | (with_reducible refine Kd.C_drewN ?_ _) | (with_reducible refine Kd.C_drew ?_))); (case side4 => exact (Kd.R_reads' HO437.out).2.1); rintro e w60 ⟨rfl, hb⟩; refine ⟨_, rfl, ?_⟩; replace HO426 := Aside0.mk (Kd.S_below (by (with_reducible repeat (first | apply Kd.S_alloc | apply Kd.S_drewN | apply Kd.S_drew)); exact HO426.out) hb); replace HO429 := Aside0.mk (Kd.R_below (by (with_reducible repeat (first | apply Kd.R_alloc | apply Kd.R_drewN | apply Kd.R_drew)); exact HO429.out) hb); replace HO433 := Aside0.mk (Kd.S_below (by (with_reducible repeat (first | apply Kd.S_alloc | apply Kd.S_drewN | apply Kd.S_drew)); exact HO433.out) hb); replace HO437 := Aside0.mk (Kd.R_below (by (with_reducible repeat (first | apply Kd.R_alloc | apply Kd.R_drewN | apply Kd.R_drew)); exact HO437.out) hb); replace BK422 := Aside0.mk (zq10 (g := gb422) (o := .cells #[.slice A0_0 l0_0.length c0_0] 24 (0, 0)) (by (with_reducible repeat (first | refine zq4 ?_ _ | refine zq6 ?_ | refine zq5 ?_ _)); exact BK422.out) hb); replace BK434 := Aside0.mk (zq10 (g := gb434) (o := .cells #[.slice Ao54 t431.length co54] 29 (0, 0)) (by (with_reducible repeat (first | refine zq4 ?_ _ | refine zq6 ?_ | refine zq5 ?_ _)); exact BK434.out) hb); replace HB := Aside0.mk (zq7 (by repeat (with_reducible first | exact HB.out | apply zq2 | apply zq0 | apply zq1 | refine zq3 ?_ GE422.out | refine zq3 ?_ GE434.out)) hb); (try clear hb)))
      have n0_ := Aside0.mk (Kd.S_drew HO426.out)
      have n1_ := Aside0.mk (Kd.R_drew HO429.out)
      have n2_ := Aside0.mk (Kd.S_drew HO433.out)
      have n3_ := Aside0.mk (Kd.R_drew HO437.out)
      have n4_ := Aside0.mk (zq6 BK422.out)
      have n5_ := Aside0.mk (zq6 BK434.out)
      have n6_ := Aside0.mk (zq1 HB.out)
      clear HO426
      clear HO429
      clear HO433
      clear HO437
      clear BK422
      clear BK434
      clear HB
      have HO426 := n0_
      have HO429 := n1_
      have HO433 := n2_
      have HO437 := n3_
      have BK422 := n4_
      have BK434 := n5_
      have HB := n6_
      clear n0_ n1_ n2_ n3_ n4_ n5_ n6_
      refine start_ (n := 5) (S := fun w' => w'.cell? ⟨gb434, 0, none⟩ = some (.slice Ao54 t431.length co54) ∧ w'.cell? ⟨gb422, 0, none⟩ = some (.slice A0_0 l0_0.length c0_0)) (ds := []) #[false, false, false, false, false] (by kernel_rfl) rfl rfl ⟨(blk_cell BK434.out 0).trans rfl, (blk_cell BK422.out 0).trans rfl⟩ (fun hHeld => ?_)
      generalize w60.drew = w61 at HO426 HO429 HO433 HO437 BK422 BK434 HB hHeld ⊢
      refine take_ (i := 0) (N := some 33) (v := ?_) (a' := ?_) #[true, false, false, false, false] rfl rfl (by kernel_rfl) (fun _ _ _ h => h) (Or.inl ⟨by rfl, ?_⟩) hHeld ?_ ?_
      rotate_left
      ·rintro w' ⟨s0, s1⟩
       go_simp
       with_reducible rfl
      rotate_left
      ·simp only [Act.put, List.setIfInBounds_toArray, List.set_cons_zero, List.set_cons_succ, i64_w, i32_w]
       rfl
      refine take_ (i := 1) (N := some 34) (v := ?_) (a' := ?_) #[true, true, false, false, false] rfl rfl (by kernel_rfl) (fun _ _ _ h => h) (Or.inl ⟨by rfl, ?_⟩) hHeld ?_ ?_
      rotate_left
      ·rintro w' ⟨s0, s1⟩
       go_simp
       with_reducible rfl
      rotate_left
      ·simp only [Act.put, List.setIfInBounds_toArray, List.set_cons_zero, List.set_cons_succ, i64_w, i32_w]
       rfl
      refine one_ (i := 2) (N := some 35) #[true, true, true, false, false] rfl rfl (by kernel_rfl) (by decide) (fun K hK => ?_)
      refine goes_ Try.func16 (by kernel_rfl) rfl #[.agg #[.slice A0_0 l0_0.length c0_0]] (by rfl) rfl rfl (by (try simp only [List.map_toArray, List.map_cons, List.map_nil]); first | done | rfl | (simp only [List.length_drop, List.length_take]; rfl)) ?_
      with_reducible refine (zq14.calls k _ _ l0_0 t439 _ ?side1 ?side2 A36.out).mono ?_
      (case side1 => repeat (first | exact (Kd.C_below HR0_0.out HB.out) | (with_reducible refine Kd.C_alloc ?_ _) | (with_reducible refine Kd.C_drewN ?_ _) | (with_reducible refine Kd.C_drew ?_)))
      (case side2 => exact HC0_0.out)
      rintro e w62 ⟨v440, rfl, ho0, hb⟩
      refine ⟨_, rfl, ?_⟩
      have n0_ := Aside0.mk (Kd.S_elder' (by (with_reducible repeat (first | apply Kd.S_alloc | apply Kd.S_drewN | apply Kd.S_drew)); exact HO426.out) (Kd.S_base ho0) hb)
      have n1_ := Aside0.mk (Kd.R_below (by (with_reducible repeat (first | apply Kd.R_alloc | apply Kd.R_drewN | apply Kd.R_drew)); exact HO429.out) hb)
      have n2_ := Aside0.mk (Kd.S_elder' (by (with_reducible repeat (first | apply Kd.S_alloc | apply Kd.S_drewN | apply Kd.S_drew)); exact HO433.out) (Kd.S_base ho0) hb)
      have n3_ := Aside0.mk (Kd.R_below (by (with_reducible repeat (first | apply Kd.R_alloc | apply Kd.R_drewN | apply Kd.R_drew)); exact HO437.out) hb)
      have n4_ := Aside0.mk (Kd.S_lower (Kd.S_new' (Kd.S_new' (Kd.S_new' (Kd.S_new' ho0 (Kd.S_lt (by (with_reducible repeat (first | apply Kd.S_alloc | apply Kd.S_drewN | apply Kd.S_drew)); exact HO426.out))) (Kd.R_lt (by (with_reducible repeat (first | apply Kd.R_alloc | apply Kd.R_drewN | apply Kd.R_drew)); exact HO429.out))) (Kd.S_lt (by (with_reducible repeat (first | apply Kd.S_alloc | apply Kd.S_drewN | apply Kd.S_drew)); exact HO433.out))) (Kd.R_lt (by (with_reducible repeat (first | apply Kd.R_alloc | apply Kd.R_drewN | apply Kd.R_drew)); exact HO437.out))) (below_size (by repeat (with_reducible first | exact HB.out | apply zq2 | apply zq0 | apply zq1 | refine zq3 ?_ GE422.out | refine zq3 ?_ GE434.out))))
      have n5_ := Aside0.mk (zq10 (g := gb422) (o := .cells #[.slice A0_0 l0_0.length c0_0] 24 (0, 0)) (by (with_reducible repeat (first | refine zq4 ?_ _ | refine zq6 ?_ | refine zq5 ?_ _)); exact BK422.out) hb)
      have n6_ := Aside0.mk (zq10 (g := gb434) (o := .cells #[.slice Ao54 t431.length co54] 29 (0, 0)) (by (with_reducible repeat (first | refine zq4 ?_ _ | refine zq6 ?_ | refine zq5 ?_ _)); exact BK434.out) hb)
      have n7_ := Aside0.mk (zq7 (by repeat (with_reducible first | exact HB.out | apply zq2 | apply zq0 | apply zq1 | refine zq3 ?_ GE422.out | refine zq3 ?_ GE434.out)) hb)
      clear HO426
      clear HO429
      clear HO433
      clear HO437
      clear BK422
      clear BK434
      clear HB
      have HO426 := n0_
      have HO429 := n1_
      have HO433 := n2_
      have HO437 := n3_
      have HO441 := n4_
      have BK422 := n5_
      have BK434 := n6_
      have HB := n7_
      clear n0_ n1_ n2_ n3_ n4_ n5_ n6_ n7_
      (try clear hb)
      (try clear hb2)
      (try clear hk)
      (try clear hi)
      (try clear ho0)
      obtain ⟨Ao63, co63, eo63⟩ := Kd.S_slice HO441.out
      (first | subst eo63 | (injection eo63 with f1_ f2_ f3_; have f4_ := f1_.symm; have f5_ := f3_.symm; clear f1_ f2_ f3_; subst f4_; subst f5_))
      refine hK.out _ _ ⟨(blk_cell BK434.out 0).trans rfl, (blk_cell BK422.out 0).trans rfl⟩ (fun hHeld => ?_)
      clear hK K
      refine norm_ (a' := ?_) ?_ ?_
      rotate_left
      ·show Act.put _ (some 35) _ = _
       simp only [Act.put, List.setIfInBounds_toArray, List.set_cons_zero, List.set_cons_succ, i64_w, i32_w]
       rfl
      refine one_ (i := 3) (N := some 36) #[true, true, true, true, false] rfl rfl (by kernel_rfl) (by decide) (fun K hK => ?_)
      refine goes_ Try.func18 (by kernel_rfl) rfl #[.agg #[.slice Ao54 t431.length co54], .agg #[.slice Ao63 t439.length co63]] (by rfl) rfl rfl (by (try simp only [List.map_toArray, List.map_cons, List.map_nil]); first | done | rfl | (simp only [List.length_drop, List.length_take]; rfl)) ?_
      with_reducible refine (zq24.calls k _ _ t431 _ _ t439 true _ ?side1 ?side2 ?side3 ?side4 A37.out).mono ?_
      (case side1 => repeat (first | exact (Kd.S_reads' HO433.out).2.2 | (with_reducible refine Kd.C_alloc ?_ _) | (with_reducible refine Kd.C_drewN ?_ _) | (with_reducible refine Kd.C_drew ?_)))
      (case side2 => exact (Kd.S_reads' HO433.out).2.1)
      (case side3 => repeat (first | exact (Kd.S_reads' HO441.out).2.2 | (with_reducible refine Kd.C_alloc ?_ _) | (with_reducible refine Kd.C_drewN ?_ _) | (with_reducible refine Kd.C_drew ?_)))
      (case side4 => exact (Kd.S_reads' HO441.out).2.1)
      rintro e w64 ⟨rfl, hb⟩
      refine ⟨_, rfl, ?_⟩
      have n0_ := Aside0.mk (Kd.S_below (by (with_reducible repeat (first | apply Kd.S_alloc | apply Kd.S_drewN | apply Kd.S_drew)); exact HO426.out) hb)
      have n1_ := Aside0.mk (Kd.R_below (by (with_reducible repeat (first | apply Kd.R_alloc | apply Kd.R_drewN | apply Kd.R_drew)); exact HO429.out) hb)
      have n2_ := Aside0.mk (Kd.S_below (by (with_reducible repeat (first | apply Kd.S_alloc | apply Kd.S_drewN | apply Kd.S_drew)); exact HO433.out) hb)
      have n3_ := Aside0.mk (Kd.R_below (by (with_reducible repeat (first | apply Kd.R_alloc | apply Kd.R_drewN | apply Kd.R_drew)); exact HO437.out) hb)
      have n4_ := Aside0.mk (Kd.S_below (by (with_reducible repeat (first | apply Kd.S_alloc | apply Kd.S_drewN | apply Kd.S_drew)); exact HO441.out) hb)
      have n5_ := Aside0.mk (zq10 (g := gb422) (o := .cells #[.slice A0_0 l0_0.length c0_0] 24 (0, 0)) (by (with_reducible repeat (first | refine zq4 ?_ _ | refine zq6 ?_ | refine zq5 ?_ _)); exact BK422.out) hb)
      have n6_ := Aside0.mk (zq10 (g := gb434) (o := .cells #[.slice Ao54 t431.length co54] 29 (0, 0)) (by (with_reducible repeat (first | refine zq4 ?_ _ | refine zq6 ?_ | refine zq5 ?_ _)); exact BK434.out) hb)
      have n7_ := Aside0.mk (zq7 (by repeat (with_reducible first | exact HB.out | apply zq2 | apply zq0 | apply zq1 | refine zq3 ?_ GE422.out | refine zq3 ?_ GE434.out)) hb)
      clear HO426
      clear HO429
      clear HO433
      clear HO437
      clear HO441
      clear BK422
      clear BK434
      clear HB
      have HO426 := n0_
      have HO429 := n1_
      have HO433 := n2_
      have HO437 := n3_
      have HO441 := n4_
      have BK422 := n5_
      have BK434 := n6_
      have HB := n7_
      clear n0_ n1_ n2_ n3_ n4_ n5_ n6_ n7_
      (try clear hb)
      (try clear hb2)
      (try clear hk)
      (try clear hi)
      refine hK.out _ _ ⟨(blk_cell BK434.out 0).trans rfl, (blk_cell BK422.out 0).trans rfl⟩ (fun hHeld => ?_)
      clear hK K
      refine norm_ (a' := ?_) ?_ ?_
      rotate_left
      ·show Act.put _ (some 36) _ = _
       simp only [Act.put, List.setIfInBounds_toArray, List.set_cons_zero, List.set_cons_succ, i64_w, i32_w]
       rfl
      refine pure_ (i := 4) (N := some 37) (v := ?_) (a' := ?_) #[true, true, true, true, true] rfl rfl (by kernel_rfl) (fun _ _ _ h => h) (Or.inl ⟨by rfl, ?_⟩) ?_ ?_
      rotate_left
      ·intro w'
       go_simp
       with_reducible rfl
      rotate_left
      ·simp only [Act.put, List.setIfInBounds_toArray, List.set_cons_zero, List.set_cons_succ, i64_w, i32_w]
       rfl
      refine done_ (by kernel_rfl) ?_
      try go_wp2_with (first | ((refine gate_callee (f := 20) rfl ?_); refine goesL_ (some 40) rfl rfl Try.func20 (by kernel_rfl) rfl #[.slice A1 l1.length c1] rfl (by (try simp only [List.map_toArray, List.map_cons, List.map_nil]); first | done | rfl) ?_; (with_reducible refine (zq13.calls k _ _ l1 t443 _ ?side1 ?side2 A39.out).mono ?_); (case side1 => repeat (first | exact (Kd.C_below HR1.out HB.out) | (with_reducible refine Kd.C_alloc ?_ _) | (with_reducible refine Kd.C_drewN ?_ _) | (with_reducible refine Kd.C_drew ?_))); (case side2 => exact HC1.out); rintro e w65 ⟨v444, rfl, ho0, hb⟩; refine ⟨_, rfl, ?_⟩; replace HO426 := Aside0.mk (Kd.S_elder' (by (with_reducible repeat (first | apply Kd.S_alloc | apply Kd.S_drewN | apply Kd.S_drew)); exact HO426.out) (Kd.R_base ho0) hb); replace HO433 := Aside0.mk (Kd.S_elder' (by (with_reducible repeat (first | apply Kd.S_alloc | apply Kd.S_drewN | apply Kd.S_drew)); exact HO433.out) (Kd.R_base ho0) hb); replace HO441 := Aside0.mk (Kd.S_elder' (by (with_reducible repeat (first | apply Kd.S_alloc | apply Kd.S_drewN | apply Kd.S_drew)); exact HO441.out) (Kd.R_base ho0) hb); have HO445 := Aside0.mk (Kd.R_lower (Kd.R_new' (Kd.R_new' ho0 (Kd.R_lt (by (with_reducible repeat (first | apply Kd.R_alloc | apply Kd.R_drewN | apply Kd.R_drew)); exact HO429.out))) (Kd.R_lt (by (with_reducible repeat (first | apply Kd.R_alloc | apply Kd.R_drewN | apply Kd.R_drew)); exact HO437.out))) (below_size (by repeat (with_reducible first | exact HB.out | apply zq2 | apply zq0 | apply zq1 | refine zq3 ?_ GE422.out | refine zq3 ?_ GE434.out)))); replace HO429 := Aside0.mk (Kd.R_elder' (by (with_reducible repeat (first | apply Kd.R_alloc | apply Kd.R_drewN | apply Kd.R_drew)); exact HO429.out) (Kd.R_base ho0) hb); replace HO437 := Aside0.mk (Kd.R_elder' (by (with_reducible repeat (first | apply Kd.R_alloc | apply Kd.R_drewN | apply Kd.R_drew)); exact HO437.out) (Kd.R_base ho0) hb); replace BK422 := Aside0.mk (zq10 (g := gb422) (o := .cells #[.slice A0_0 l0_0.length c0_0] 24 (0, 0)) (by (with_reducible repeat (first | refine zq4 ?_ _ | refine zq6 ?_ | refine zq5 ?_ _)); exact BK422.out) hb); replace BK434 := Aside0.mk (zq10 (g := gb434) (o := .cells #[.slice Ao54 t431.length co54] 29 (0, 0)) (by (with_reducible repeat (first | refine zq4 ?_ _ | refine zq6 ?_ | refine zq5 ?_ _)); exact BK434.out) hb); replace HB := Aside0.mk (zq7 (by repeat (with_reducible first | exact HB.out | apply zq2 | apply zq0 | apply zq1 | refine zq3 ?_ GE422.out | refine zq3 ?_ GE434.out)) hb); (try clear hb); (try clear ho0); obtain ⟨Ao66, co66, eo66⟩ := Kd.R_slice HO445.out; subst eo66) | ((refine gate_callee (f := 22) rfl ?_); refine goesL_ (some 41) rfl rfl Try.func22 (by kernel_rfl) rfl #[.slice Ao59 t435.length co59, .slice Ao66 t443.length co66] rfl (by (try simp only [List.map_toArray, List.map_cons, List.map_nil]); first | done | rfl) ?_; (with_reducible refine (zq16.calls k _ _ t435 _ _ t443 true _ ?side1 ?side2 ?side3 ?side4 A40.out).mono ?_); (case side1 => repeat (first | exact (Kd.R_reads' HO437.out).2.2 | (with_reducible refine Kd.C_alloc ?_ _) | (with_reducible refine Kd.C_drewN ?_ _) | (with_reducible refine Kd.C_drew ?_))); (case side2 => exact (Kd.R_reads' HO437.out).2.1); (case side3 => repeat (first | exact (Kd.R_reads' HO445.out).2.2 | (with_reducible refine Kd.C_alloc ?_ _) | (with_reducible refine Kd.C_drewN ?_ _) | (with_reducible refine Kd.C_drew ?_))); (case side4 => exact (Kd.R_reads' HO445.out).2.1); rintro e w' ⟨rfl, ⟨nd, rfl⟩⟩; refine ⟨_, rfl, ?_⟩))
      go_ret
      exact ⟨by first | rfl | simp | simp [*], by repeat (first | (with_reducible first | exact HB.out | apply zq2 | apply zq0 | apply zq1 | refine zq3 ?_ GE422.out | refine zq3 ?_ GE434.out) | exact HB.out)⟩
     ·replace c41 := Bool.eq_false_iff.mpr c41
      subst c41
      rw [if_neg (show ¬ (false = true) by decide)] at H
      obtain rfl := Option.some.inj H
      go_enter Try.func4, Try.ntmps4
      try go_wp2_with (first | ((refine gate_dst (N := 2) rfl ?_); refine box_event ?hg (N := 2) ?hd (cs := #[.slice A0_0 l0_0.length c0_0]) (t := 24) ?hr ?_; (case hd => rfl); (case hg => rfl); (case hr => first | (go_simp; done) | (go_simp; rfl)); intro gb422 hg w67 hbox hb; have BK422 := Aside0.mk (hbox); have GW422 := Aside0.mk ((by rw [hg]; exact (below_size (by repeat (with_reducible first | exact HB.out | apply zq2 | apply zq0 | apply zq1))) : w.heap.size ≤ gb422)); replace HB := Aside0.mk (zq7 (by repeat (with_reducible first | exact HB.out | apply zq2 | apply zq0 | apply zq1)) hb); have GE422 := GW422; clear hb hbox hg; obtain ⟨hcz68_0, hfz68_0⟩ := cells1 BK422.out) | ((refine gate_callee (f := 14) rfl ?_); refine goesL_ (some 15) rfl rfl Try.func14 (by kernel_rfl) rfl #[.agg #[.slice A0_0 l0_0.length c0_0], .int .i64 1048576] rfl (by (try simp only [List.map_toArray, List.map_cons, List.map_nil]); first | done | rfl | (simp only [List.length_drop, List.length_take]; rfl)) ?_; (with_reducible refine (zq22.calls k _ _ l0_0 1048576 t423 _ ?side1 ?side2 A5.out).mono ?_); (case side1 => repeat (first | exact (Kd.C_below HR0_0.out HB.out) | (with_reducible refine Kd.C_alloc ?_ _) | (with_reducible refine Kd.C_drewN ?_ _) | (with_reducible refine Kd.C_drew ?_))); (case side2 => exact HC0_0.out); rintro e w69 ⟨rfl, hb⟩; refine ⟨_, rfl, ?_⟩; replace BK422 := Aside0.mk (zq10 (g := gb422) (o := .cells #[.slice A0_0 l0_0.length c0_0] 24 (0, 0)) (by (with_reducible repeat (first | refine zq4 ?_ _ | refine zq6 ?_ | refine zq5 ?_ _)); exact BK422.out) hb); replace HB := Aside0.mk (zq7 (by repeat (with_reducible first | exact HB.out | apply zq2 | apply zq0 | apply zq1 | refine zq3 ?_ GE422.out)) hb); (try clear hb); obtain ⟨hcz70_0, hfz70_0⟩ := cells1 BK422.out) | ((refine gate_callee (f := 16) rfl ?_); refine goesL_ (some 19) rfl rfl Try.func16 (by kernel_rfl) rfl #[.agg #[.slice A0_0 l0_0.length c0_0]] rfl (by (try simp only [List.map_toArray, List.map_cons, List.map_nil]); first | done | rfl | (simp only [List.length_drop, List.length_take]; rfl)) ?_; (with_reducible refine (zq14.calls k _ _ l0_0 t424 _ ?side1 ?side2 A10.out).mono ?_); (case side1 => repeat (first | exact (Kd.C_below HR0_0.out HB.out) | (with_reducible refine Kd.C_alloc ?_ _) | (with_reducible refine Kd.C_drewN ?_ _) | (with_reducible refine Kd.C_drew ?_))); (case side2 => exact HC0_0.out); rintro e w71 ⟨v425, rfl, ho0, hb⟩; refine ⟨_, rfl, ?_⟩; have HO426 := Aside0.mk (Kd.S_lower ho0 (below_size (by repeat (with_reducible first | exact HB.out | apply zq2 | apply zq0 | apply zq1 | refine zq3 ?_ GE422.out)))); replace BK422 := Aside0.mk (zq10 (g := gb422) (o := .cells #[.slice A0_0 l0_0.length c0_0] 24 (0, 0)) (by (with_reducible repeat (first | refine zq4 ?_ _ | refine zq6 ?_ | refine zq5 ?_ _)); exact BK422.out) hb); replace HB := Aside0.mk (zq7 (by repeat (with_reducible first | exact HB.out | apply zq2 | apply zq0 | apply zq1 | refine zq3 ?_ GE422.out)) hb); (try clear hb); (try clear ho0)) | ((refine gate_callee (f := 20) rfl ?_); refine goesL_ (some 21) rfl rfl Try.func20 (by kernel_rfl) rfl #[.slice A1 l1.length c1] rfl (by (try simp only [List.map_toArray, List.map_cons, List.map_nil]); first | done | rfl) ?_; (with_reducible refine (zq13.calls k _ _ l1 t427 _ ?side1 ?side2 A11.out).mono ?_); (case side1 => repeat (first | exact (Kd.C_below HR1.out HB.out) | (with_reducible refine Kd.C_alloc ?_ _) | (with_reducible refine Kd.C_drewN ?_ _) | (with_reducible refine Kd.C_drew ?_))); (case side2 => exact HC1.out); rintro e w72 ⟨v428, rfl, ho0, hb⟩; refine ⟨_, rfl, ?_⟩; replace HO426 := Aside0.mk (Kd.S_elder' (by (with_reducible repeat (first | apply Kd.S_alloc | apply Kd.S_drewN | apply Kd.S_drew)); exact HO426.out) (Kd.R_base ho0) hb); have HO429 := Aside0.mk (Kd.R_lower ho0 (below_size (by repeat (with_reducible first | exact HB.out | apply zq2 | apply zq0 | apply zq1 | refine zq3 ?_ GE422.out)))); replace BK422 := Aside0.mk (zq10 (g := gb422) (o := .cells #[.slice A0_0 l0_0.length c0_0] 24 (0, 0)) (by (with_reducible repeat (first | refine zq4 ?_ _ | refine zq6 ?_ | refine zq5 ?_ _)); exact BK422.out) hb); replace HB := Aside0.mk (zq7 (by repeat (with_reducible first | exact HB.out | apply zq2 | apply zq0 | apply zq1 | refine zq3 ?_ GE422.out)) hb); (try clear hb); (try clear ho0); obtain ⟨Ao73, co73, eo73⟩ := Kd.S_slice HO426.out; subst eo73; obtain ⟨Ao74, co74, eo74⟩ := Kd.R_slice HO429.out; subst eo74) | ((refine gate_callee (f := 19) rfl ?_); refine goesL_ (some 22) rfl rfl Try.func19 (by kernel_rfl) rfl #[.agg #[.slice Ao73 t424.length co73], .slice Ao74 t427.length co74] rfl (by (try simp only [List.map_toArray, List.map_cons, List.map_nil]); first | done | rfl | (simp only [List.length_drop, List.length_take]; rfl)) ?_; (with_reducible refine (zq53.calls k _ _ t424 _ _ t427 t430 _ ?side1 ?side2 ?side3 ?side4 A12.out).mono ?_); (case side1 => repeat (first | exact (Kd.S_reads' HO426.out).2.2 | (with_reducible refine Kd.C_alloc ?_ _) | (with_reducible refine Kd.C_drewN ?_ _) | (with_reducible refine Kd.C_drew ?_))); (case side2 => exact (Kd.S_reads' HO426.out).2.1); (case side3 => repeat (first | exact (Kd.R_reads' HO429.out).2.2 | (with_reducible refine Kd.C_alloc ?_ _) | (with_reducible refine Kd.C_drewN ?_ _) | (with_reducible refine Kd.C_drew ?_))); (case side4 => exact (Kd.R_reads' HO429.out).2.1); rintro e w75 ⟨rfl, hb⟩; refine ⟨_, rfl, ?_⟩; replace HO426 := Aside0.mk (Kd.S_below (by (with_reducible repeat (first | apply Kd.S_alloc | apply Kd.S_drewN | apply Kd.S_drew)); exact HO426.out) hb); replace HO429 := Aside0.mk (Kd.R_below (by (with_reducible repeat (first | apply Kd.R_alloc | apply Kd.R_drewN | apply Kd.R_drew)); exact HO429.out) hb); replace BK422 := Aside0.mk (zq10 (g := gb422) (o := .cells #[.slice A0_0 l0_0.length c0_0] 24 (0, 0)) (by (with_reducible repeat (first | refine zq4 ?_ _ | refine zq6 ?_ | refine zq5 ?_ _)); exact BK422.out) hb); replace HB := Aside0.mk (zq7 (by repeat (with_reducible first | exact HB.out | apply zq2 | apply zq0 | apply zq1 | refine zq3 ?_ GE422.out)) hb); (try clear hb); obtain ⟨hcz76_0, hfz76_0⟩ := cells1 BK422.out) | ((refine gate_callee (f := 16) rfl ?_); refine goesL_ (some 24) rfl rfl Try.func16 (by kernel_rfl) rfl #[.agg #[.slice A0_0 l0_0.length c0_0]] rfl (by (try simp only [List.map_toArray, List.map_cons, List.map_nil]); first | done | rfl | (simp only [List.length_drop, List.length_take]; rfl)) ?_; (with_reducible refine (zq14.calls k _ _ l0_0 t431 _ ?side1 ?side2 A13.out).mono ?_); (case side1 => repeat (first | exact (Kd.C_below HR0_0.out HB.out) | (with_reducible refine Kd.C_alloc ?_ _) | (with_reducible refine Kd.C_drewN ?_ _) | (with_reducible refine Kd.C_drew ?_))); (case side2 => exact HC0_0.out); rintro e w77 ⟨v432, rfl, ho0, hb⟩; refine ⟨_, rfl, ?_⟩; have HO433 := Aside0.mk (Kd.S_lower (Kd.S_new' (Kd.S_new' ho0 (Kd.S_lt (by (with_reducible repeat (first | apply Kd.S_alloc | apply Kd.S_drewN | apply Kd.S_drew)); exact HO426.out))) (Kd.R_lt (by (with_reducible repeat (first | apply Kd.R_alloc | apply Kd.R_drewN | apply Kd.R_drew)); exact HO429.out))) (below_size (by repeat (with_reducible first | exact HB.out | apply zq2 | apply zq0 | apply zq1 | refine zq3 ?_ GE422.out)))); replace HO426 := Aside0.mk (Kd.S_elder' (by (with_reducible repeat (first | apply Kd.S_alloc | apply Kd.S_drewN | apply Kd.S_drew)); exact HO426.out) (Kd.S_base ho0) hb); replace HO429 := Aside0.mk (Kd.R_below (by (with_reducible repeat (first | apply Kd.R_alloc | apply Kd.R_drewN | apply Kd.R_drew)); exact HO429.out) hb); replace BK422 := Aside0.mk (zq10 (g := gb422) (o := .cells #[.slice A0_0 l0_0.length c0_0] 24 (0, 0)) (by (with_reducible repeat (first | refine zq4 ?_ _ | refine zq6 ?_ | refine zq5 ?_ _)); exact BK422.out) hb); replace HB := Aside0.mk (zq7 (by repeat (with_reducible first | exact HB.out | apply zq2 | apply zq0 | apply zq1 | refine zq3 ?_ GE422.out)) hb); (try clear hb); (try clear ho0)) | ((refine gate_dst (N := 7) rfl ?_); refine box_event ?hg (N := 7) ?hd (cs := #[.slice none 0 0]) (t := 29) ?hr ?_; (case hd => rfl); (case hg => rfl); (case hr => first | (go_simp; done) | (go_simp; rfl)); intro gb434 hg w78 hbox hb; replace HO426 := Aside0.mk (Kd.S_below (by (with_reducible repeat (first | apply Kd.S_alloc | apply Kd.S_drewN | apply Kd.S_drew)); exact HO426.out) hb); replace HO429 := Aside0.mk (Kd.R_below (by (with_reducible repeat (first | apply Kd.R_alloc | apply Kd.R_drewN | apply Kd.R_drew)); exact HO429.out) hb); replace HO433 := Aside0.mk (Kd.S_below (by (with_reducible repeat (first | apply Kd.S_alloc | apply Kd.S_drewN | apply Kd.S_drew)); exact HO433.out) hb); have BK434 := Aside0.mk (hbox); have GW434 := Aside0.mk ((by rw [hg]; exact (below_size (by repeat (with_reducible first | exact HB.out | apply zq2 | apply zq0 | apply zq1 | refine zq3 ?_ GE422.out))) : w.heap.size ≤ gb434)); replace HB := Aside0.mk (zq7 (by repeat (with_reducible first | exact HB.out | apply zq2 | apply zq0 | apply zq1 | refine zq3 ?_ GE422.out)) hb); have NB422_434 := Aside0.mk ((by rw [hg]; exact Nat.ne_of_lt (blk_lt (g := gb422) (o := .cells #[.slice A0_0 l0_0.length c0_0] 24 (0, 0)) (by (with_reducible repeat (first | refine zq4 ?_ _ | refine zq6 ?_ | refine zq5 ?_ _)); exact BK422.out)) : gb422 ≠ gb434)); have NB434_422 := Aside0.mk ((by rw [hg]; exact Nat.ne_of_gt (blk_lt (g := gb422) (o := .cells #[.slice A0_0 l0_0.length c0_0] 24 (0, 0)) (by (with_reducible repeat (first | refine zq4 ?_ _ | refine zq6 ?_ | refine zq5 ?_ _)); exact BK422.out)) : gb434 ≠ gb422)); replace BK422 := Aside0.mk (zq10 (g := gb422) (o := .cells #[.slice A0_0 l0_0.length c0_0] 24 (0, 0)) (by (with_reducible repeat (first | refine zq4 ?_ _ | refine zq6 ?_ | refine zq5 ?_ _)); exact BK422.out) hb); have GE434 := GW434; clear hb hbox hg; obtain ⟨Ao79, co79, eo79⟩ := Kd.S_slice HO433.out; subst eo79; have hnb80 := NB434_422.out; have hnc80 := NB422_434.out; obtain ⟨hcz81_0, hfz81_0⟩ := cells1 BK434.out) | ((refine gate_callee (f := 20) rfl ?_); refine goesL_ (some 26) rfl rfl Try.func20 (by kernel_rfl) rfl #[.slice A1 l1.length c1] rfl (by (try simp only [List.map_toArray, List.map_cons, List.map_nil]); first | done | rfl) ?_; (with_reducible refine (zq13.calls k _ _ l1 t435 _ ?side1 ?side2 A14.out).mono ?_); (case side1 => exact Kd.C_below HR1.out (by repeat (with_reducible first | exact HB.out | apply zq2 | apply zq0 | apply zq1 | refine zq3 ?_ GE422.out | refine zq3 ?_ GE434.out))); (case side2 => exact HC1.out); rintro e w82 ⟨v436, rfl, ho0, hb⟩; refine ⟨_, rfl, ?_⟩; replace HO426 := Aside0.mk (Kd.S_elder' (by (with_reducible repeat (first | apply Kd.S_alloc | apply Kd.S_drewN | apply Kd.S_drew)); exact (Kd.S_mono (Kd.S_far (p := ⟨gb434, 0, none⟩) (Kd.S_types HO426.out BK434.out (by decide)) (fun _ hk => hk.2) (.slice Ao79 t431.length co79)) (fun _ h_ => h_.1))) (Kd.R_base ho0) hb); replace HO433 := Aside0.mk (Kd.S_elder' (by (with_reducible repeat (first | apply Kd.S_alloc | apply Kd.S_drewN | apply Kd.S_drew)); exact (Kd.S_mono (Kd.S_far (p := ⟨gb434, 0, none⟩) (Kd.S_types HO433.out BK434.out (by decide)) (fun _ hk => hk.2) (.slice Ao79 t431.length co79)) (fun _ h_ => h_.1))) (Kd.R_base ho0) hb); have HO437 := Aside0.mk (Kd.R_lower (Kd.R_new' ho0 (Kd.R_lt (by (with_reducible repeat (first | apply Kd.R_alloc | apply Kd.R_drewN | apply Kd.R_drew)); exact (Kd.R_mono (Kd.R_far (p := ⟨gb434, 0, none⟩) (Kd.R_types HO429.out BK434.out (by decide)) (fun _ hk => hk.2) (.slice Ao79 t431.length co79)) (fun _ h_ => h_.1))))) (below_size (by repeat (with_reducible first | exact HB.out | apply zq2 | apply zq0 | apply zq1 | refine zq3 ?_ GE422.out | refine zq3 ?_ GE434.out)))); replace HO429 := Aside0.mk (Kd.R_elder' (by (with_reducible repeat (first | apply Kd.R_alloc | apply Kd.R_drewN | apply Kd.R_drew)); exact (Kd.R_mono (Kd.R_far (p := ⟨gb434, 0, none⟩) (Kd.R_types HO429.out BK434.out (by decide)) (fun _ hk => hk.2) (.slice Ao79 t431.length co79)) (fun _ h_ => h_.1))) (Kd.R_base ho0) hb); replace BK422 := Aside0.mk (zq10 (g := gb422) (o := .cells #[.slice A0_0 l0_0.length c0_0] 24 (0, 0)) (by (with_reducible repeat (first | refine zq4 ?_ _ | refine zq6 ?_ | refine zq5 ?_ _ | refine blk_far ?_ NB422_434.out _)); exact BK422.out) hb); replace BK434 := Aside0.mk (zq10 (g := gb434) (o := .cells #[.slice Ao79 t431.length co79] 29 (0, 0)) (by (with_reducible repeat (first | refine zq4 ?_ _ | refine zq6 ?_ | refine zq5 ?_ _)); refine blk_put (cs := #[.slice none 0 0]) ?_ 0 _ rfl; (with_reducible repeat (first | refine zq4 ?_ _ | refine zq6 ?_ | refine zq5 ?_ _)); exact BK434.out) hb); replace HB := Aside0.mk (zq7 (by repeat (with_reducible first | exact HB.out | apply zq2 | apply zq0 | apply zq1 | refine zq3 ?_ GE422.out | refine zq3 ?_ GE434.out)) hb); (try clear hb); (try clear ho0); obtain ⟨hcz83_0, hfz83_0⟩ := cells1 BK434.out; obtain ⟨Ao84, co84, eo84⟩ := Kd.R_slice HO437.out; subst eo84) | ((refine gate_callee (f := 21) rfl ?_); refine goesL_ (some 29) rfl rfl Try.func21 (by kernel_rfl) rfl #[.agg #[.slice Ao79 t431.length co79], .slice Ao84 t435.length co84] rfl (by (try simp only [List.map_toArray, List.map_cons, List.map_nil]); first | done | rfl | (simp only [List.length_drop, List.length_take]; rfl)) ?_; (with_reducible refine (zq23.calls k _ _ t431 _ _ t435 t438 _ ?side1 ?side2 ?side3 ?side4 A15.out).mono ?_); (case side1 => repeat (first | exact (Kd.S_reads' HO433.out).2.2 | (with_reducible refine Kd.C_alloc ?_ _) | (with_reducible refine Kd.C_drewN ?_ _) | (with_reducible refine Kd.C_drew ?_))); (case side2 => exact (Kd.S_reads' HO433.out).2.1); (case side3 => repeat (first | exact (Kd.R_reads' HO437.out).2.2 | (with_reducible refine Kd.C_alloc ?_ _) | (with_reducible refine Kd.C_drewN ?_ _) | (with_reducible refine Kd.C_drew ?_))); (case side4 => exact (Kd.R_reads' HO437.out).2.1); rintro e w85 ⟨rfl, hb⟩; refine ⟨_, rfl, ?_⟩; replace HO426 := Aside0.mk (Kd.S_below (by (with_reducible repeat (first | apply Kd.S_alloc | apply Kd.S_drewN | apply Kd.S_drew)); exact HO426.out) hb); replace HO429 := Aside0.mk (Kd.R_below (by (with_reducible repeat (first | apply Kd.R_alloc | apply Kd.R_drewN | apply Kd.R_drew)); exact HO429.out) hb); replace HO433 := Aside0.mk (Kd.S_below (by (with_reducible repeat (first | apply Kd.S_alloc | apply Kd.S_drewN | apply Kd.S_drew)); exact HO433.out) hb); replace HO437 := Aside0.mk (Kd.R_below (by (with_reducible repeat (first | apply Kd.R_alloc | apply Kd.R_drewN | apply Kd.R_drew)); exact HO437.out) hb); replace BK422 := Aside0.mk (zq10 (g := gb422) (o := .cells #[.slice A0_0 l0_0.length c0_0] 24 (0, 0)) (by (with_reducible repeat (first | refine zq4 ?_ _ | refine zq6 ?_ | refine zq5 ?_ _)); exact BK422.out) hb); replace BK434 := Aside0.mk (zq10 (g := gb434) (o := .cells #[.slice Ao79 t431.length co79] 29 (0, 0)) (by (with_reducible repeat (first | refine zq4 ?_ _ | refine zq6 ?_ | refine zq5 ?_ _)); exact BK434.out) hb); replace HB := Aside0.mk (zq7 (by repeat (with_reducible first | exact HB.out | apply zq2 | apply zq0 | apply zq1 | refine zq3 ?_ GE422.out | refine zq3 ?_ GE434.out)) hb); (try clear hb)))
      have n0_ := Aside0.mk (Kd.S_drew HO426.out)
      have n1_ := Aside0.mk (Kd.R_drew HO429.out)
      have n2_ := Aside0.mk (Kd.S_drew HO433.out)
      have n3_ := Aside0.mk (Kd.R_drew HO437.out)
      have n4_ := Aside0.mk (zq6 BK422.out)
      have n5_ := Aside0.mk (zq6 BK434.out)
      have n6_ := Aside0.mk (zq1 HB.out)
      clear HO426
      clear HO429
      clear HO433
      clear HO437
      clear BK422
      clear BK434
      clear HB
      have HO426 := n0_
      have HO429 := n1_
      have HO433 := n2_
      have HO437 := n3_
      have BK422 := n4_
      have BK434 := n5_
      have HB := n6_
      clear n0_ n1_ n2_ n3_ n4_ n5_ n6_
      refine start_ (n := 5) (S := fun w' => w'.cell? ⟨gb434, 0, none⟩ = some (.slice Ao79 t431.length co79) ∧ w'.cell? ⟨gb422, 0, none⟩ = some (.slice A0_0 l0_0.length c0_0)) (ds := []) #[false, false, false, false, false] (by kernel_rfl) rfl rfl ⟨(blk_cell BK434.out 0).trans rfl, (blk_cell BK422.out 0).trans rfl⟩ (fun hHeld => ?_)
      generalize w85.drew = w86 at HO426 HO429 HO433 HO437 BK422 BK434 HB hHeld ⊢
      refine take_ (i := 0) (N := some 33) (v := ?_) (a' := ?_) #[true, false, false, false, false] rfl rfl (by kernel_rfl) (fun _ _ _ h => h) (Or.inl ⟨by rfl, ?_⟩) hHeld ?_ ?_
      rotate_left
      ·rintro w' ⟨s0, s1⟩
       go_simp
       with_reducible rfl
      rotate_left
      ·simp only [Act.put, List.setIfInBounds_toArray, List.set_cons_zero, List.set_cons_succ, i64_w, i32_w]
       rfl
      refine take_ (i := 1) (N := some 34) (v := ?_) (a' := ?_) #[true, true, false, false, false] rfl rfl (by kernel_rfl) (fun _ _ _ h => h) (Or.inl ⟨by rfl, ?_⟩) hHeld ?_ ?_
      rotate_left
      ·rintro w' ⟨s0, s1⟩
       go_simp
       with_reducible rfl
      rotate_left
      ·simp only [Act.put, List.setIfInBounds_toArray, List.set_cons_zero, List.set_cons_succ, i64_w, i32_w]
       rfl
      refine one_ (i := 2) (N := some 35) #[true, true, true, false, false] rfl rfl (by kernel_rfl) (by decide) (fun K hK => ?_)
      refine goes_ Try.func16 (by kernel_rfl) rfl #[.agg #[.slice A0_0 l0_0.length c0_0]] (by rfl) rfl rfl (by (try simp only [List.map_toArray, List.map_cons, List.map_nil]); first | done | rfl | (simp only [List.length_drop, List.length_take]; rfl)) ?_
      with_reducible refine (zq14.calls k _ _ l0_0 t439 _ ?side1 ?side2 A36.out).mono ?_
      (case side1 => repeat (first | exact (Kd.C_below HR0_0.out HB.out) | (with_reducible refine Kd.C_alloc ?_ _) | (with_reducible refine Kd.C_drewN ?_ _) | (with_reducible refine Kd.C_drew ?_)))
      (case side2 => exact HC0_0.out)
      rintro e w87 ⟨v440, rfl, ho0, hb⟩
      refine ⟨_, rfl, ?_⟩
      have n0_ := Aside0.mk (Kd.S_elder' (by (with_reducible repeat (first | apply Kd.S_alloc | apply Kd.S_drewN | apply Kd.S_drew)); exact HO426.out) (Kd.S_base ho0) hb)
      have n1_ := Aside0.mk (Kd.R_below (by (with_reducible repeat (first | apply Kd.R_alloc | apply Kd.R_drewN | apply Kd.R_drew)); exact HO429.out) hb)
      have n2_ := Aside0.mk (Kd.S_elder' (by (with_reducible repeat (first | apply Kd.S_alloc | apply Kd.S_drewN | apply Kd.S_drew)); exact HO433.out) (Kd.S_base ho0) hb)
      have n3_ := Aside0.mk (Kd.R_below (by (with_reducible repeat (first | apply Kd.R_alloc | apply Kd.R_drewN | apply Kd.R_drew)); exact HO437.out) hb)
      have n4_ := Aside0.mk (Kd.S_lower (Kd.S_new' (Kd.S_new' (Kd.S_new' (Kd.S_new' ho0 (Kd.S_lt (by (with_reducible repeat (first | apply Kd.S_alloc | apply Kd.S_drewN | apply Kd.S_drew)); exact HO426.out))) (Kd.R_lt (by (with_reducible repeat (first | apply Kd.R_alloc | apply Kd.R_drewN | apply Kd.R_drew)); exact HO429.out))) (Kd.S_lt (by (with_reducible repeat (first | apply Kd.S_alloc | apply Kd.S_drewN | apply Kd.S_drew)); exact HO433.out))) (Kd.R_lt (by (with_reducible repeat (first | apply Kd.R_alloc | apply Kd.R_drewN | apply Kd.R_drew)); exact HO437.out))) (below_size (by repeat (with_reducible first | exact HB.out | apply zq2 | apply zq0 | apply zq1 | refine zq3 ?_ GE422.out | refine zq3 ?_ GE434.out))))
      have n5_ := Aside0.mk (zq10 (g := gb422) (o := .cells #[.slice A0_0 l0_0.length c0_0] 24 (0, 0)) (by (with_reducible repeat (first | refine zq4 ?_ _ | refine zq6 ?_ | refine zq5 ?_ _)); exact BK422.out) hb)
      have n6_ := Aside0.mk (zq10 (g := gb434) (o := .cells #[.slice Ao79 t431.length co79] 29 (0, 0)) (by (with_reducible repeat (first | refine zq4 ?_ _ | refine zq6 ?_ | refine zq5 ?_ _)); exact BK434.out) hb)
      have n7_ := Aside0.mk (zq7 (by repeat (with_reducible first | exact HB.out | apply zq2 | apply zq0 | apply zq1 | refine zq3 ?_ GE422.out | refine zq3 ?_ GE434.out)) hb)
      clear HO426
      clear HO429
      clear HO433
      clear HO437
      clear BK422
      clear BK434
      clear HB
      have HO426 := n0_
      have HO429 := n1_
      have HO433 := n2_
      have HO437 := n3_
      have HO441 := n4_
      have BK422 := n5_
      have BK434 := n6_
      have HB := n7_
      clear n0_ n1_ n2_ n3_ n4_ n5_ n6_ n7_
      (try clear hb)
      (try clear hb2)
      (try clear hk)
      (try clear hi)
      (try clear ho0)
      obtain ⟨Ao88, co88, eo88⟩ := Kd.S_slice HO441.out
      (first | subst eo88 | (injection eo88 with f1_ f2_ f3_; have f4_ := f1_.symm; have f5_ := f3_.symm; clear f1_ f2_ f3_; subst f4_; subst f5_))
      refine hK.out _ _ ⟨(blk_cell BK434.out 0).trans rfl, (blk_cell BK422.out 0).trans rfl⟩ (fun hHeld => ?_)
      clear hK K
      refine norm_ (a' := ?_) ?_ ?_
      rotate_left
      ·show Act.put _ (some 35) _ = _
       simp only [Act.put, List.setIfInBounds_toArray, List.set_cons_zero, List.set_cons_succ, i64_w, i32_w]
       rfl
      refine one_ (i := 3) (N := some 36) #[true, true, true, true, false] rfl rfl (by kernel_rfl) (by decide) (fun K hK => ?_)
      refine goes_ Try.func18 (by kernel_rfl) rfl #[.agg #[.slice Ao79 t431.length co79], .agg #[.slice Ao88 t439.length co88]] (by rfl) rfl rfl (by (try simp only [List.map_toArray, List.map_cons, List.map_nil]); first | done | rfl | (simp only [List.length_drop, List.length_take]; rfl)) ?_
      with_reducible refine (zq24.calls k _ _ t431 _ _ t439 true _ ?side1 ?side2 ?side3 ?side4 A37.out).mono ?_
      (case side1 => repeat (first | exact (Kd.S_reads' HO433.out).2.2 | (with_reducible refine Kd.C_alloc ?_ _) | (with_reducible refine Kd.C_drewN ?_ _) | (with_reducible refine Kd.C_drew ?_)))
      (case side2 => exact (Kd.S_reads' HO433.out).2.1)
      (case side3 => repeat (first | exact (Kd.S_reads' HO441.out).2.2 | (with_reducible refine Kd.C_alloc ?_ _) | (with_reducible refine Kd.C_drewN ?_ _) | (with_reducible refine Kd.C_drew ?_)))
      (case side4 => exact (Kd.S_reads' HO441.out).2.1)
      rintro e w89 ⟨rfl, hb⟩
      refine ⟨_, rfl, ?_⟩
      have n0_ := Aside0.mk (Kd.S_below (by (with_reducible repeat (first | apply Kd.S_alloc | apply Kd.S_drewN | apply Kd.S_drew)); exact HO426.out) hb)
      have n1_ := Aside0.mk (Kd.R_below (by (with_reducible repeat (first | apply Kd.R_alloc | apply Kd.R_drewN | apply Kd.R_drew)); exact HO429.out) hb)
      have n2_ := Aside0.mk (Kd.S_below (by (with_reducible repeat (first | apply Kd.S_alloc | apply Kd.S_drewN | apply Kd.S_drew)); exact HO433.out) hb)
      have n3_ := Aside0.mk (Kd.R_below (by (with_reducible repeat (first | apply Kd.R_alloc | apply Kd.R_drewN | apply Kd.R_drew)); exact HO437.out) hb)
      have n4_ := Aside0.mk (Kd.S_below (by (with_reducible repeat (first | apply Kd.S_alloc | apply Kd.S_drewN | apply Kd.S_drew)); exact HO441.out) hb)
      have n5_ := Aside0.mk (zq10 (g := gb422) (o := .cells #[.slice A0_0 l0_0.length c0_0] 24 (0, 0)) (by (with_reducible repeat (first | refine zq4 ?_ _ | refine zq6 ?_ | refine zq5 ?_ _)); exact BK422.out) hb)
      have n6_ := Aside0.mk (zq10 (g := gb434) (o := .cells #[.slice Ao79 t431.length co79] 29 (0, 0)) (by (with_reducible repeat (first | refine zq4 ?_ _ | refine zq6 ?_ | refine zq5 ?_ _)); exact BK434.out) hb)
      have n7_ := Aside0.mk (zq7 (by repeat (with_reducible first | exact HB.out | apply zq2 | apply zq0 | apply zq1 | refine zq3 ?_ GE422.out | refine zq3 ?_ GE434.out)) hb)
      clear HO426
      clear HO429
      clear HO433
      clear HO437
      clear HO441
      clear BK422
      clear BK434
      clear HB
      have HO426 := n0_
      have HO429 := n1_
      have HO433 := n2_
      have HO437 := n3_
      have HO441 := n4_
      have BK422 := n5_
      have BK434 := n6_
      have HB := n7_
      clear n0_ n1_ n2_ n3_ n4_ n5_ n6_ n7_
      (try clear hb)
      (try clear hb2)
      (try clear hk)
      (try clear hi)
      refine hK.out _ _ ⟨(blk_cell BK434.out 0).trans rfl, (blk_cell BK422.out 0).trans rfl⟩ (fun hHeld => ?_)
      clear hK K
      refine norm_ (a' := ?_) ?_ ?_
      rotate_left
      ·show Act.put _ (some 36) _ = _
       simp only [Act.put, List.setIfInBounds_toArray, List.set_cons_zero, List.set_cons_succ, i64_w, i32_w]
       rfl
      refine pure_ (i := 4) (N := some 37) (v := ?_) (a' := ?_) #[true, true, true, true, true] rfl rfl (by kernel_rfl) (fun _ _ _ h => h) (Or.inl ⟨by rfl, ?_⟩) ?_ ?_
      rotate_left
      ·intro w'
       go_simp
       with_reducible rfl
      rotate_left
      ·simp only [Act.put, List.setIfInBounds_toArray, List.set_cons_zero, List.set_cons_succ, i64_w, i32_w]
       rfl
      refine done_ (by kernel_rfl) ?_
      try go_wp2_with (first | ((refine gate_callee (f := 20) rfl ?_); refine goesL_ (some 40) rfl rfl Try.func20 (by kernel_rfl) rfl #[.slice A1 l1.length c1] rfl (by (try simp only [List.map_toArray, List.map_cons, List.map_nil]); first | done | rfl) ?_; (with_reducible refine (zq13.calls k _ _ l1 t443 _ ?side1 ?side2 A39.out).mono ?_); (case side1 => repeat (first | exact (Kd.C_below HR1.out HB.out) | (with_reducible refine Kd.C_alloc ?_ _) | (with_reducible refine Kd.C_drewN ?_ _) | (with_reducible refine Kd.C_drew ?_))); (case side2 => exact HC1.out); rintro e w90 ⟨v444, rfl, ho0, hb⟩; refine ⟨_, rfl, ?_⟩; replace HO426 := Aside0.mk (Kd.S_elder' (by (with_reducible repeat (first | apply Kd.S_alloc | apply Kd.S_drewN | apply Kd.S_drew)); exact HO426.out) (Kd.R_base ho0) hb); replace HO433 := Aside0.mk (Kd.S_elder' (by (with_reducible repeat (first | apply Kd.S_alloc | apply Kd.S_drewN | apply Kd.S_drew)); exact HO433.out) (Kd.R_base ho0) hb); replace HO441 := Aside0.mk (Kd.S_elder' (by (with_reducible repeat (first | apply Kd.S_alloc | apply Kd.S_drewN | apply Kd.S_drew)); exact HO441.out) (Kd.R_base ho0) hb); have HO445 := Aside0.mk (Kd.R_lower (Kd.R_new' (Kd.R_new' ho0 (Kd.R_lt (by (with_reducible repeat (first | apply Kd.R_alloc | apply Kd.R_drewN | apply Kd.R_drew)); exact HO429.out))) (Kd.R_lt (by (with_reducible repeat (first | apply Kd.R_alloc | apply Kd.R_drewN | apply Kd.R_drew)); exact HO437.out))) (below_size (by repeat (with_reducible first | exact HB.out | apply zq2 | apply zq0 | apply zq1 | refine zq3 ?_ GE422.out | refine zq3 ?_ GE434.out)))); replace HO429 := Aside0.mk (Kd.R_elder' (by (with_reducible repeat (first | apply Kd.R_alloc | apply Kd.R_drewN | apply Kd.R_drew)); exact HO429.out) (Kd.R_base ho0) hb); replace HO437 := Aside0.mk (Kd.R_elder' (by (with_reducible repeat (first | apply Kd.R_alloc | apply Kd.R_drewN | apply Kd.R_drew)); exact HO437.out) (Kd.R_base ho0) hb); replace BK422 := Aside0.mk (zq10 (g := gb422) (o := .cells #[.slice A0_0 l0_0.length c0_0] 24 (0, 0)) (by (with_reducible repeat (first | refine zq4 ?_ _ | refine zq6 ?_ | refine zq5 ?_ _)); exact BK422.out) hb); replace BK434 := Aside0.mk (zq10 (g := gb434) (o := .cells #[.slice Ao79 t431.length co79] 29 (0, 0)) (by (with_reducible repeat (first | refine zq4 ?_ _ | refine zq6 ?_ | refine zq5 ?_ _)); exact BK434.out) hb); replace HB := Aside0.mk (zq7 (by repeat (with_reducible first | exact HB.out | apply zq2 | apply zq0 | apply zq1 | refine zq3 ?_ GE422.out | refine zq3 ?_ GE434.out)) hb); (try clear hb); (try clear ho0); obtain ⟨Ao91, co91, eo91⟩ := Kd.R_slice HO445.out; subst eo91) | ((refine gate_callee (f := 22) rfl ?_); refine goesL_ (some 41) rfl rfl Try.func22 (by kernel_rfl) rfl #[.slice Ao84 t435.length co84, .slice Ao91 t443.length co91] rfl (by (try simp only [List.map_toArray, List.map_cons, List.map_nil]); first | done | rfl) ?_; (with_reducible refine (zq16.calls k _ _ t435 _ _ t443 false _ ?side1 ?side2 ?side3 ?side4 A40.out).mono ?_); (case side1 => repeat (first | exact (Kd.R_reads' HO437.out).2.2 | (with_reducible refine Kd.C_alloc ?_ _) | (with_reducible refine Kd.C_drewN ?_ _) | (with_reducible refine Kd.C_drew ?_))); (case side2 => exact (Kd.R_reads' HO437.out).2.1); (case side3 => repeat (first | exact (Kd.R_reads' HO445.out).2.2 | (with_reducible refine Kd.C_alloc ?_ _) | (with_reducible refine Kd.C_drewN ?_ _) | (with_reducible refine Kd.C_drew ?_))); (case side4 => exact (Kd.R_reads' HO445.out).2.1); rintro e w' ⟨rfl, ⟨nd, rfl⟩⟩; refine ⟨_, rfl, ?_⟩))
      go_ret
      exact ⟨by first | rfl | simp | simp [*], by repeat (first | (with_reducible first | exact HB.out | apply zq2 | apply zq0 | apply zq1 | refine zq3 ?_ GE422.out | refine zq3 ?_ GE434.out) | exact HB.out)⟩
    ·replace c38 := Bool.eq_false_iff.mpr c38
     subst c38
     rw [if_neg (show ¬ (false = true) by decide)] at H
     obtain rfl := Option.some.inj H
     go_enter Try.func4, Try.ntmps4
     try go_wp2_with (first | ((refine gate_dst (N := 2) rfl ?_); refine box_event ?hg (N := 2) ?hd (cs := #[.slice A0_0 l0_0.length c0_0]) (t := 24) ?hr ?_; (case hd => rfl); (case hg => rfl); (case hr => first | (go_simp; done) | (go_simp; rfl)); intro gb422 hg w92 hbox hb; have BK422 := Aside0.mk (hbox); have GW422 := Aside0.mk ((by rw [hg]; exact (below_size (by repeat (with_reducible first | exact HB.out | apply zq2 | apply zq0 | apply zq1))) : w.heap.size ≤ gb422)); replace HB := Aside0.mk (zq7 (by repeat (with_reducible first | exact HB.out | apply zq2 | apply zq0 | apply zq1)) hb); have GE422 := GW422; clear hb hbox hg; obtain ⟨hcz93_0, hfz93_0⟩ := cells1 BK422.out) | ((refine gate_callee (f := 14) rfl ?_); refine goesL_ (some 15) rfl rfl Try.func14 (by kernel_rfl) rfl #[.agg #[.slice A0_0 l0_0.length c0_0], .int .i64 1048576] rfl (by (try simp only [List.map_toArray, List.map_cons, List.map_nil]); first | done | rfl | (simp only [List.length_drop, List.length_take]; rfl)) ?_; (with_reducible refine (zq22.calls k _ _ l0_0 1048576 t423 _ ?side1 ?side2 A5.out).mono ?_); (case side1 => repeat (first | exact (Kd.C_below HR0_0.out HB.out) | (with_reducible refine Kd.C_alloc ?_ _) | (with_reducible refine Kd.C_drewN ?_ _) | (with_reducible refine Kd.C_drew ?_))); (case side2 => exact HC0_0.out); rintro e w94 ⟨rfl, hb⟩; refine ⟨_, rfl, ?_⟩; replace BK422 := Aside0.mk (zq10 (g := gb422) (o := .cells #[.slice A0_0 l0_0.length c0_0] 24 (0, 0)) (by (with_reducible repeat (first | refine zq4 ?_ _ | refine zq6 ?_ | refine zq5 ?_ _)); exact BK422.out) hb); replace HB := Aside0.mk (zq7 (by repeat (with_reducible first | exact HB.out | apply zq2 | apply zq0 | apply zq1 | refine zq3 ?_ GE422.out)) hb); (try clear hb); obtain ⟨hcz95_0, hfz95_0⟩ := cells1 BK422.out) | ((refine gate_callee (f := 16) rfl ?_); refine goesL_ (some 19) rfl rfl Try.func16 (by kernel_rfl) rfl #[.agg #[.slice A0_0 l0_0.length c0_0]] rfl (by (try simp only [List.map_toArray, List.map_cons, List.map_nil]); first | done | rfl | (simp only [List.length_drop, List.length_take]; rfl)) ?_; (with_reducible refine (zq14.calls k _ _ l0_0 t424 _ ?side1 ?side2 A10.out).mono ?_); (case side1 => repeat (first | exact (Kd.C_below HR0_0.out HB.out) | (with_reducible refine Kd.C_alloc ?_ _) | (with_reducible refine Kd.C_drewN ?_ _) | (with_reducible refine Kd.C_drew ?_))); (case side2 => exact HC0_0.out); rintro e w96 ⟨v425, rfl, ho0, hb⟩; refine ⟨_, rfl, ?_⟩; have HO426 := Aside0.mk (Kd.S_lower ho0 (below_size (by repeat (with_reducible first | exact HB.out | apply zq2 | apply zq0 | apply zq1 | refine zq3 ?_ GE422.out)))); replace BK422 := Aside0.mk (zq10 (g := gb422) (o := .cells #[.slice A0_0 l0_0.length c0_0] 24 (0, 0)) (by (with_reducible repeat (first | refine zq4 ?_ _ | refine zq6 ?_ | refine zq5 ?_ _)); exact BK422.out) hb); replace HB := Aside0.mk (zq7 (by repeat (with_reducible first | exact HB.out | apply zq2 | apply zq0 | apply zq1 | refine zq3 ?_ GE422.out)) hb); (try clear hb); (try clear ho0)) | ((refine gate_callee (f := 20) rfl ?_); refine goesL_ (some 21) rfl rfl Try.func20 (by kernel_rfl) rfl #[.slice A1 l1.length c1] rfl (by (try simp only [List.map_toArray, List.map_cons, List.map_nil]); first | done | rfl) ?_; (with_reducible refine (zq13.calls k _ _ l1 t427 _ ?side1 ?side2 A11.out).mono ?_); (case side1 => repeat (first | exact (Kd.C_below HR1.out HB.out) | (with_reducible refine Kd.C_alloc ?_ _) | (with_reducible refine Kd.C_drewN ?_ _) | (with_reducible refine Kd.C_drew ?_))); (case side2 => exact HC1.out); rintro e w97 ⟨v428, rfl, ho0, hb⟩; refine ⟨_, rfl, ?_⟩; replace HO426 := Aside0.mk (Kd.S_elder' (by (with_reducible repeat (first | apply Kd.S_alloc | apply Kd.S_drewN | apply Kd.S_drew)); exact HO426.out) (Kd.R_base ho0) hb); have HO429 := Aside0.mk (Kd.R_lower ho0 (below_size (by repeat (with_reducible first | exact HB.out | apply zq2 | apply zq0 | apply zq1 | refine zq3 ?_ GE422.out)))); replace BK422 := Aside0.mk (zq10 (g := gb422) (o := .cells #[.slice A0_0 l0_0.length c0_0] 24 (0, 0)) (by (with_reducible repeat (first | refine zq4 ?_ _ | refine zq6 ?_ | refine zq5 ?_ _)); exact BK422.out) hb); replace HB := Aside0.mk (zq7 (by repeat (with_reducible first | exact HB.out | apply zq2 | apply zq0 | apply zq1 | refine zq3 ?_ GE422.out)) hb); (try clear hb); (try clear ho0); obtain ⟨Ao98, co98, eo98⟩ := Kd.S_slice HO426.out; subst eo98; obtain ⟨Ao99, co99, eo99⟩ := Kd.R_slice HO429.out; subst eo99) | ((refine gate_callee (f := 19) rfl ?_); refine goesL_ (some 22) rfl rfl Try.func19 (by kernel_rfl) rfl #[.agg #[.slice Ao98 t424.length co98], .slice Ao99 t427.length co99] rfl (by (try simp only [List.map_toArray, List.map_cons, List.map_nil]); first | done | rfl | (simp only [List.length_drop, List.length_take]; rfl)) ?_; (with_reducible refine (zq53.calls k _ _ t424 _ _ t427 t430 _ ?side1 ?side2 ?side3 ?side4 A12.out).mono ?_); (case side1 => repeat (first | exact (Kd.S_reads' HO426.out).2.2 | (with_reducible refine Kd.C_alloc ?_ _) | (with_reducible refine Kd.C_drewN ?_ _) | (with_reducible refine Kd.C_drew ?_))); (case side2 => exact (Kd.S_reads' HO426.out).2.1); (case side3 => repeat (first | exact (Kd.R_reads' HO429.out).2.2 | (with_reducible refine Kd.C_alloc ?_ _) | (with_reducible refine Kd.C_drewN ?_ _) | (with_reducible refine Kd.C_drew ?_))); (case side4 => exact (Kd.R_reads' HO429.out).2.1); rintro e w100 ⟨rfl, hb⟩; refine ⟨_, rfl, ?_⟩; replace HO426 := Aside0.mk (Kd.S_below (by (with_reducible repeat (first | apply Kd.S_alloc | apply Kd.S_drewN | apply Kd.S_drew)); exact HO426.out) hb); replace HO429 := Aside0.mk (Kd.R_below (by (with_reducible repeat (first | apply Kd.R_alloc | apply Kd.R_drewN | apply Kd.R_drew)); exact HO429.out) hb); replace BK422 := Aside0.mk (zq10 (g := gb422) (o := .cells #[.slice A0_0 l0_0.length c0_0] 24 (0, 0)) (by (with_reducible repeat (first | refine zq4 ?_ _ | refine zq6 ?_ | refine zq5 ?_ _)); exact BK422.out) hb); replace HB := Aside0.mk (zq7 (by repeat (with_reducible first | exact HB.out | apply zq2 | apply zq0 | apply zq1 | refine zq3 ?_ GE422.out)) hb); (try clear hb); obtain ⟨hcz101_0, hfz101_0⟩ := cells1 BK422.out) | ((refine gate_callee (f := 16) rfl ?_); refine goesL_ (some 24) rfl rfl Try.func16 (by kernel_rfl) rfl #[.agg #[.slice A0_0 l0_0.length c0_0]] rfl (by (try simp only [List.map_toArray, List.map_cons, List.map_nil]); first | done | rfl | (simp only [List.length_drop, List.length_take]; rfl)) ?_; (with_reducible refine (zq14.calls k _ _ l0_0 t431 _ ?side1 ?side2 A13.out).mono ?_); (case side1 => repeat (first | exact (Kd.C_below HR0_0.out HB.out) | (with_reducible refine Kd.C_alloc ?_ _) | (with_reducible refine Kd.C_drewN ?_ _) | (with_reducible refine Kd.C_drew ?_))); (case side2 => exact HC0_0.out); rintro e w102 ⟨v432, rfl, ho0, hb⟩; refine ⟨_, rfl, ?_⟩; have HO433 := Aside0.mk (Kd.S_lower (Kd.S_new' (Kd.S_new' ho0 (Kd.S_lt (by (with_reducible repeat (first | apply Kd.S_alloc | apply Kd.S_drewN | apply Kd.S_drew)); exact HO426.out))) (Kd.R_lt (by (with_reducible repeat (first | apply Kd.R_alloc | apply Kd.R_drewN | apply Kd.R_drew)); exact HO429.out))) (below_size (by repeat (with_reducible first | exact HB.out | apply zq2 | apply zq0 | apply zq1 | refine zq3 ?_ GE422.out)))); replace HO426 := Aside0.mk (Kd.S_elder' (by (with_reducible repeat (first | apply Kd.S_alloc | apply Kd.S_drewN | apply Kd.S_drew)); exact HO426.out) (Kd.S_base ho0) hb); replace HO429 := Aside0.mk (Kd.R_below (by (with_reducible repeat (first | apply Kd.R_alloc | apply Kd.R_drewN | apply Kd.R_drew)); exact HO429.out) hb); replace BK422 := Aside0.mk (zq10 (g := gb422) (o := .cells #[.slice A0_0 l0_0.length c0_0] 24 (0, 0)) (by (with_reducible repeat (first | refine zq4 ?_ _ | refine zq6 ?_ | refine zq5 ?_ _)); exact BK422.out) hb); replace HB := Aside0.mk (zq7 (by repeat (with_reducible first | exact HB.out | apply zq2 | apply zq0 | apply zq1 | refine zq3 ?_ GE422.out)) hb); (try clear hb); (try clear ho0)) | ((refine gate_dst (N := 7) rfl ?_); refine box_event ?hg (N := 7) ?hd (cs := #[.slice none 0 0]) (t := 29) ?hr ?_; (case hd => rfl); (case hg => rfl); (case hr => first | (go_simp; done) | (go_simp; rfl)); intro gb434 hg w103 hbox hb; replace HO426 := Aside0.mk (Kd.S_below (by (with_reducible repeat (first | apply Kd.S_alloc | apply Kd.S_drewN | apply Kd.S_drew)); exact HO426.out) hb); replace HO429 := Aside0.mk (Kd.R_below (by (with_reducible repeat (first | apply Kd.R_alloc | apply Kd.R_drewN | apply Kd.R_drew)); exact HO429.out) hb); replace HO433 := Aside0.mk (Kd.S_below (by (with_reducible repeat (first | apply Kd.S_alloc | apply Kd.S_drewN | apply Kd.S_drew)); exact HO433.out) hb); have BK434 := Aside0.mk (hbox); have GW434 := Aside0.mk ((by rw [hg]; exact (below_size (by repeat (with_reducible first | exact HB.out | apply zq2 | apply zq0 | apply zq1 | refine zq3 ?_ GE422.out))) : w.heap.size ≤ gb434)); replace HB := Aside0.mk (zq7 (by repeat (with_reducible first | exact HB.out | apply zq2 | apply zq0 | apply zq1 | refine zq3 ?_ GE422.out)) hb); have NB422_434 := Aside0.mk ((by rw [hg]; exact Nat.ne_of_lt (blk_lt (g := gb422) (o := .cells #[.slice A0_0 l0_0.length c0_0] 24 (0, 0)) (by (with_reducible repeat (first | refine zq4 ?_ _ | refine zq6 ?_ | refine zq5 ?_ _)); exact BK422.out)) : gb422 ≠ gb434)); have NB434_422 := Aside0.mk ((by rw [hg]; exact Nat.ne_of_gt (blk_lt (g := gb422) (o := .cells #[.slice A0_0 l0_0.length c0_0] 24 (0, 0)) (by (with_reducible repeat (first | refine zq4 ?_ _ | refine zq6 ?_ | refine zq5 ?_ _)); exact BK422.out)) : gb434 ≠ gb422)); replace BK422 := Aside0.mk (zq10 (g := gb422) (o := .cells #[.slice A0_0 l0_0.length c0_0] 24 (0, 0)) (by (with_reducible repeat (first | refine zq4 ?_ _ | refine zq6 ?_ | refine zq5 ?_ _)); exact BK422.out) hb); have GE434 := GW434; clear hb hbox hg; obtain ⟨Ao104, co104, eo104⟩ := Kd.S_slice HO433.out; subst eo104; have hnb105 := NB434_422.out; have hnc105 := NB422_434.out; obtain ⟨hcz106_0, hfz106_0⟩ := cells1 BK434.out) | ((refine gate_callee (f := 20) rfl ?_); refine goesL_ (some 26) rfl rfl Try.func20 (by kernel_rfl) rfl #[.slice A1 l1.length c1] rfl (by (try simp only [List.map_toArray, List.map_cons, List.map_nil]); first | done | rfl) ?_; (with_reducible refine (zq13.calls k _ _ l1 t435 _ ?side1 ?side2 A14.out).mono ?_); (case side1 => exact Kd.C_below HR1.out (by repeat (with_reducible first | exact HB.out | apply zq2 | apply zq0 | apply zq1 | refine zq3 ?_ GE422.out | refine zq3 ?_ GE434.out))); (case side2 => exact HC1.out); rintro e w107 ⟨v436, rfl, ho0, hb⟩; refine ⟨_, rfl, ?_⟩; replace HO426 := Aside0.mk (Kd.S_elder' (by (with_reducible repeat (first | apply Kd.S_alloc | apply Kd.S_drewN | apply Kd.S_drew)); exact (Kd.S_mono (Kd.S_far (p := ⟨gb434, 0, none⟩) (Kd.S_types HO426.out BK434.out (by decide)) (fun _ hk => hk.2) (.slice Ao104 t431.length co104)) (fun _ h_ => h_.1))) (Kd.R_base ho0) hb); replace HO433 := Aside0.mk (Kd.S_elder' (by (with_reducible repeat (first | apply Kd.S_alloc | apply Kd.S_drewN | apply Kd.S_drew)); exact (Kd.S_mono (Kd.S_far (p := ⟨gb434, 0, none⟩) (Kd.S_types HO433.out BK434.out (by decide)) (fun _ hk => hk.2) (.slice Ao104 t431.length co104)) (fun _ h_ => h_.1))) (Kd.R_base ho0) hb); have HO437 := Aside0.mk (Kd.R_lower (Kd.R_new' ho0 (Kd.R_lt (by (with_reducible repeat (first | apply Kd.R_alloc | apply Kd.R_drewN | apply Kd.R_drew)); exact (Kd.R_mono (Kd.R_far (p := ⟨gb434, 0, none⟩) (Kd.R_types HO429.out BK434.out (by decide)) (fun _ hk => hk.2) (.slice Ao104 t431.length co104)) (fun _ h_ => h_.1))))) (below_size (by repeat (with_reducible first | exact HB.out | apply zq2 | apply zq0 | apply zq1 | refine zq3 ?_ GE422.out | refine zq3 ?_ GE434.out)))); replace HO429 := Aside0.mk (Kd.R_elder' (by (with_reducible repeat (first | apply Kd.R_alloc | apply Kd.R_drewN | apply Kd.R_drew)); exact (Kd.R_mono (Kd.R_far (p := ⟨gb434, 0, none⟩) (Kd.R_types HO429.out BK434.out (by decide)) (fun _ hk => hk.2) (.slice Ao104 t431.length co104)) (fun _ h_ => h_.1))) (Kd.R_base ho0) hb); replace BK422 := Aside0.mk (zq10 (g := gb422) (o := .cells #[.slice A0_0 l0_0.length c0_0] 24 (0, 0)) (by (with_reducible repeat (first | refine zq4 ?_ _ | refine zq6 ?_ | refine zq5 ?_ _ | refine blk_far ?_ NB422_434.out _)); exact BK422.out) hb); replace BK434 := Aside0.mk (zq10 (g := gb434) (o := .cells #[.slice Ao104 t431.length co104] 29 (0, 0)) (by (with_reducible repeat (first | refine zq4 ?_ _ | refine zq6 ?_ | refine zq5 ?_ _)); refine blk_put (cs := #[.slice none 0 0]) ?_ 0 _ rfl; (with_reducible repeat (first | refine zq4 ?_ _ | refine zq6 ?_ | refine zq5 ?_ _)); exact BK434.out) hb); replace HB := Aside0.mk (zq7 (by repeat (with_reducible first | exact HB.out | apply zq2 | apply zq0 | apply zq1 | refine zq3 ?_ GE422.out | refine zq3 ?_ GE434.out)) hb); (try clear hb); (try clear ho0); obtain ⟨hcz108_0, hfz108_0⟩ := cells1 BK434.out; obtain ⟨Ao109, co109, eo109⟩ := Kd.R_slice HO437.out; subst eo109) | ((refine gate_callee (f := 21) rfl ?_); refine goesL_ (some 29) rfl rfl Try.func21 (by kernel_rfl) rfl #[.agg #[.slice Ao104 t431.length co104], .slice Ao109 t435.length co109] rfl (by (try simp only [List.map_toArray, List.map_cons, List.map_nil]); first | done | rfl | (simp only [List.length_drop, List.length_take]; rfl)) ?_; (with_reducible refine (zq23.calls k _ _ t431 _ _ t435 t438 _ ?side1 ?side2 ?side3 ?side4 A15.out).mono ?_); (case side1 => repeat (first | exact (Kd.S_reads' HO433.out).2.2 | (with_reducible refine Kd.C_alloc ?_ _) | (with_reducible refine Kd.C_drewN ?_ _) | (with_reducible refine Kd.C_drew ?_))); (case side2 => exact (Kd.S_reads' HO433.out).2.1); (case side3 => repeat (first | exact (Kd.R_reads' HO437.out).2.2 | (with_reducible refine Kd.C_alloc ?_ _) | (with_reducible refine Kd.C_drewN ?_ _) | (with_reducible refine Kd.C_drew ?_))); (case side4 => exact (Kd.R_reads' HO437.out).2.1); rintro e w110 ⟨rfl, hb⟩; refine ⟨_, rfl, ?_⟩; replace HO426 := Aside0.mk (Kd.S_below (by (with_reducible repeat (first | apply Kd.S_alloc | apply Kd.S_drewN | apply Kd.S_drew)); exact HO426.out) hb); replace HO429 := Aside0.mk (Kd.R_below (by (with_reducible repeat (first | apply Kd.R_alloc | apply Kd.R_drewN | apply Kd.R_drew)); exact HO429.out) hb); replace HO433 := Aside0.mk (Kd.S_below (by (with_reducible repeat (first | apply Kd.S_alloc | apply Kd.S_drewN | apply Kd.S_drew)); exact HO433.out) hb); replace HO437 := Aside0.mk (Kd.R_below (by (with_reducible repeat (first | apply Kd.R_alloc | apply Kd.R_drewN | apply Kd.R_drew)); exact HO437.out) hb); replace BK422 := Aside0.mk (zq10 (g := gb422) (o := .cells #[.slice A0_0 l0_0.length c0_0] 24 (0, 0)) (by (with_reducible repeat (first | refine zq4 ?_ _ | refine zq6 ?_ | refine zq5 ?_ _)); exact BK422.out) hb); replace BK434 := Aside0.mk (zq10 (g := gb434) (o := .cells #[.slice Ao104 t431.length co104] 29 (0, 0)) (by (with_reducible repeat (first | refine zq4 ?_ _ | refine zq6 ?_ | refine zq5 ?_ _)); exact BK434.out) hb); replace HB := Aside0.mk (zq7 (by repeat (with_reducible first | exact HB.out | apply zq2 | apply zq0 | apply zq1 | refine zq3 ?_ GE422.out | refine zq3 ?_ GE434.out)) hb); (try clear hb)))
     have n0_ := Aside0.mk (Kd.S_drew HO426.out)
     have n1_ := Aside0.mk (Kd.R_drew HO429.out)
     have n2_ := Aside0.mk (Kd.S_drew HO433.out)
     have n3_ := Aside0.mk (Kd.R_drew HO437.out)
     have n4_ := Aside0.mk (zq6 BK422.out)
     have n5_ := Aside0.mk (zq6 BK434.out)
     have n6_ := Aside0.mk (zq1 HB.out)
     clear HO426
     clear HO429
     clear HO433
     clear HO437
     clear BK422
     clear BK434
     clear HB
     have HO426 := n0_
     have HO429 := n1_
     have HO433 := n2_
     have HO437 := n3_
     have BK422 := n4_
     have BK434 := n5_
     have HB := n6_
     clear n0_ n1_ n2_ n3_ n4_ n5_ n6_
     refine start_ (n := 5) (S := fun w' => w'.cell? ⟨gb434, 0, none⟩ = some (.slice Ao104 t431.length co104) ∧ w'.cell? ⟨gb422, 0, none⟩ = some (.slice A0_0 l0_0.length c0_0)) (ds := []) #[false, false, false, false, false] (by kernel_rfl) rfl rfl ⟨(blk_cell BK434.out 0).trans rfl, (blk_cell BK422.out 0).trans rfl⟩ (fun hHeld => ?_)
     generalize w110.drew = w111 at HO426 HO429 HO433 HO437 BK422 BK434 HB hHeld ⊢
     refine take_ (i := 0) (N := some 33) (v := ?_) (a' := ?_) #[true, false, false, false, false] rfl rfl (by kernel_rfl) (fun _ _ _ h => h) (Or.inl ⟨by rfl, ?_⟩) hHeld ?_ ?_
     rotate_left
     ·rintro w' ⟨s0, s1⟩
      go_simp
      with_reducible rfl
     rotate_left
     ·simp only [Act.put, List.setIfInBounds_toArray, List.set_cons_zero, List.set_cons_succ, i64_w, i32_w]
      rfl
     refine take_ (i := 1) (N := some 34) (v := ?_) (a' := ?_) #[true, true, false, false, false] rfl rfl (by kernel_rfl) (fun _ _ _ h => h) (Or.inl ⟨by rfl, ?_⟩) hHeld ?_ ?_
     rotate_left
     ·rintro w' ⟨s0, s1⟩
      go_simp
      with_reducible rfl
     rotate_left
     ·simp only [Act.put, List.setIfInBounds_toArray, List.set_cons_zero, List.set_cons_succ, i64_w, i32_w]
      rfl
     refine one_ (i := 2) (N := some 35) #[true, true, true, false, false] rfl rfl (by kernel_rfl) (by decide) (fun K hK => ?_)
     refine goes_ Try.func16 (by kernel_rfl) rfl #[.agg #[.slice A0_0 l0_0.length c0_0]] (by rfl) rfl rfl (by (try simp only [List.map_toArray, List.map_cons, List.map_nil]); first | done | rfl | (simp only [List.length_drop, List.length_take]; rfl)) ?_
     with_reducible refine (zq14.calls k _ _ l0_0 t439 _ ?side1 ?side2 A36.out).mono ?_
     (case side1 => repeat (first | exact (Kd.C_below HR0_0.out HB.out) | (with_reducible refine Kd.C_alloc ?_ _) | (with_reducible refine Kd.C_drewN ?_ _) | (with_reducible refine Kd.C_drew ?_)))
     (case side2 => exact HC0_0.out)
     rintro e w112 ⟨v440, rfl, ho0, hb⟩
     refine ⟨_, rfl, ?_⟩
     have n0_ := Aside0.mk (Kd.S_elder' (by (with_reducible repeat (first | apply Kd.S_alloc | apply Kd.S_drewN | apply Kd.S_drew)); exact HO426.out) (Kd.S_base ho0) hb)
     have n1_ := Aside0.mk (Kd.R_below (by (with_reducible repeat (first | apply Kd.R_alloc | apply Kd.R_drewN | apply Kd.R_drew)); exact HO429.out) hb)
     have n2_ := Aside0.mk (Kd.S_elder' (by (with_reducible repeat (first | apply Kd.S_alloc | apply Kd.S_drewN | apply Kd.S_drew)); exact HO433.out) (Kd.S_base ho0) hb)
     have n3_ := Aside0.mk (Kd.R_below (by (with_reducible repeat (first | apply Kd.R_alloc | apply Kd.R_drewN | apply Kd.R_drew)); exact HO437.out) hb)
     have n4_ := Aside0.mk (Kd.S_lower (Kd.S_new' (Kd.S_new' (Kd.S_new' (Kd.S_new' ho0 (Kd.S_lt (by (with_reducible repeat (first | apply Kd.S_alloc | apply Kd.S_drewN | apply Kd.S_drew)); exact HO426.out))) (Kd.R_lt (by (with_reducible repeat (first | apply Kd.R_alloc | apply Kd.R_drewN | apply Kd.R_drew)); exact HO429.out))) (Kd.S_lt (by (with_reducible repeat (first | apply Kd.S_alloc | apply Kd.S_drewN | apply Kd.S_drew)); exact HO433.out))) (Kd.R_lt (by (with_reducible repeat (first | apply Kd.R_alloc | apply Kd.R_drewN | apply Kd.R_drew)); exact HO437.out))) (below_size (by repeat (with_reducible first | exact HB.out | apply zq2 | apply zq0 | apply zq1 | refine zq3 ?_ GE422.out | refine zq3 ?_ GE434.out))))
     have n5_ := Aside0.mk (zq10 (g := gb422) (o := .cells #[.slice A0_0 l0_0.length c0_0] 24 (0, 0)) (by (with_reducible repeat (first | refine zq4 ?_ _ | refine zq6 ?_ | refine zq5 ?_ _)); exact BK422.out) hb)
     have n6_ := Aside0.mk (zq10 (g := gb434) (o := .cells #[.slice Ao104 t431.length co104] 29 (0, 0)) (by (with_reducible repeat (first | refine zq4 ?_ _ | refine zq6 ?_ | refine zq5 ?_ _)); exact BK434.out) hb)
     have n7_ := Aside0.mk (zq7 (by repeat (with_reducible first | exact HB.out | apply zq2 | apply zq0 | apply zq1 | refine zq3 ?_ GE422.out | refine zq3 ?_ GE434.out)) hb)
     clear HO426
     clear HO429
     clear HO433
     clear HO437
     clear BK422
     clear BK434
     clear HB
     have HO426 := n0_
     have HO429 := n1_
     have HO433 := n2_
     have HO437 := n3_
     have HO441 := n4_
     have BK422 := n5_
     have BK434 := n6_
     have HB := n7_
     clear n0_ n1_ n2_ n3_ n4_ n5_ n6_ n7_
     (try clear hb)
     (try clear hb2)
     (try clear hk)
     (try clear hi)
     (try clear ho0)
     obtain ⟨Ao113, co113, eo113⟩ := Kd.S_slice HO441.out
     (first | subst eo113 | (injection eo113 with f1_ f2_ f3_; have f4_ := f1_.symm; have f5_ := f3_.symm; clear f1_ f2_ f3_; subst f4_; subst f5_))
     refine hK.out _ _ ⟨(blk_cell BK434.out 0).trans rfl, (blk_cell BK422.out 0).trans rfl⟩ (fun hHeld => ?_)
     clear hK K
     refine norm_ (a' := ?_) ?_ ?_
     rotate_left
     ·show Act.put _ (some 35) _ = _
      simp only [Act.put, List.setIfInBounds_toArray, List.set_cons_zero, List.set_cons_succ, i64_w, i32_w]
      rfl
     refine one_ (i := 3) (N := some 36) #[true, true, true, true, false] rfl rfl (by kernel_rfl) (by decide) (fun K hK => ?_)
     refine goes_ Try.func18 (by kernel_rfl) rfl #[.agg #[.slice Ao104 t431.length co104], .agg #[.slice Ao113 t439.length co113]] (by rfl) rfl rfl (by (try simp only [List.map_toArray, List.map_cons, List.map_nil]); first | done | rfl | (simp only [List.length_drop, List.length_take]; rfl)) ?_
     with_reducible refine (zq24.calls k _ _ t431 _ _ t439 false _ ?side1 ?side2 ?side3 ?side4 A37.out).mono ?_
     (case side1 => repeat (first | exact (Kd.S_reads' HO433.out).2.2 | (with_reducible refine Kd.C_alloc ?_ _) | (with_reducible refine Kd.C_drewN ?_ _) | (with_reducible refine Kd.C_drew ?_)))
     (case side2 => exact (Kd.S_reads' HO433.out).2.1)
     (case side3 => repeat (first | exact (Kd.S_reads' HO441.out).2.2 | (with_reducible refine Kd.C_alloc ?_ _) | (with_reducible refine Kd.C_drewN ?_ _) | (with_reducible refine Kd.C_drew ?_)))
     (case side4 => exact (Kd.S_reads' HO441.out).2.1)
     rintro e w114 ⟨rfl, hb⟩
     refine ⟨_, rfl, ?_⟩
     have n0_ := Aside0.mk (Kd.S_below (by (with_reducible repeat (first | apply Kd.S_alloc | apply Kd.S_drewN | apply Kd.S_drew)); exact HO426.out) hb)
     have n1_ := Aside0.mk (Kd.R_below (by (with_reducible repeat (first | apply Kd.R_alloc | apply Kd.R_drewN | apply Kd.R_drew)); exact HO429.out) hb)
     have n2_ := Aside0.mk (Kd.S_below (by (with_reducible repeat (first | apply Kd.S_alloc | apply Kd.S_drewN | apply Kd.S_drew)); exact HO433.out) hb)
     have n3_ := Aside0.mk (Kd.R_below (by (with_reducible repeat (first | apply Kd.R_alloc | apply Kd.R_drewN | apply Kd.R_drew)); exact HO437.out) hb)
     have n4_ := Aside0.mk (Kd.S_below (by (with_reducible repeat (first | apply Kd.S_alloc | apply Kd.S_drewN | apply Kd.S_drew)); exact HO441.out) hb)
     have n5_ := Aside0.mk (zq10 (g := gb422) (o := .cells #[.slice A0_0 l0_0.length c0_0] 24 (0, 0)) (by (with_reducible repeat (first | refine zq4 ?_ _ | refine zq6 ?_ | refine zq5 ?_ _)); exact BK422.out) hb)
     have n6_ := Aside0.mk (zq10 (g := gb434) (o := .cells #[.slice Ao104 t431.length co104] 29 (0, 0)) (by (with_reducible repeat (first | refine zq4 ?_ _ | refine zq6 ?_ | refine zq5 ?_ _)); exact BK434.out) hb)
     have n7_ := Aside0.mk (zq7 (by repeat (with_reducible first | exact HB.out | apply zq2 | apply zq0 | apply zq1 | refine zq3 ?_ GE422.out | refine zq3 ?_ GE434.out)) hb)
     clear HO426
     clear HO429
     clear HO433
     clear HO437
     clear HO441
     clear BK422
     clear BK434
     clear HB
     have HO426 := n0_
     have HO429 := n1_
     have HO433 := n2_
     have HO437 := n3_
     have HO441 := n4_
     have BK422 := n5_
     have BK434 := n6_
     have HB := n7_
     clear n0_ n1_ n2_ n3_ n4_ n5_ n6_ n7_
     (try clear hb)
     (try clear hb2)
     (try clear hk)
     (try clear hi)
     refine hK.out _ _ ⟨(blk_cell BK434.out 0).trans rfl, (blk_cell BK422.out 0).trans rfl⟩ (fun hHeld => ?_)
     clear hK K
     refine norm_ (a' := ?_) ?_ ?_
     rotate_left
     ·show Act.put _ (some 36) _ = _
      simp only [Act.put, List.setIfInBounds_toArray, List.set_cons_zero, List.set_cons_succ, i64_w, i32_w]
      rfl
     refine pure_ (i := 4) (N := some 37) (v := ?_) (a' := ?_) #[true, true, true, true, true] rfl rfl (by kernel_rfl) (fun _ _ _ h => h) (Or.inl ⟨by rfl, ?_⟩) ?_ ?_
     rotate_left
     ·intro w'
      go_simp
      with_reducible rfl
     rotate_left
     ·simp only [Act.put, List.setIfInBounds_toArray, List.set_cons_zero, List.set_cons_succ, i64_w, i32_w]
      rfl
     refine done_ (by kernel_rfl) ?_
     try go_wp2
     go_ret
     exact ⟨by first | rfl | simp | simp [*], by repeat (first | (with_reducible first | exact HB.out | apply zq2 | apply zq0 | apply zq1 | refine zq3 ?_ GE422.out | refine zq3 ?_ GE434.out) | exact HB.out)⟩

def laws_FnExactStackOk.Pure : Prop := ∀ (l0_0 : List (S88)) (l1 : List Int), (l0_0.length * 96 ≤ 140737488351232 ∧ ∀ x4_ ∈ l0_0, ((Lit.int .i64 x4_.f0).wf = true ∧ x4_.f1.size ≤ 140737488351232 ∧ (x4_.f2.length * 32 ≤ 140737488351232 ∧ ∀ x6_ ∈ x4_.f2, (x6_.f0.size ≤ 140737488351232 ∧ x6_.f1.size ≤ 140737488351232)) ∧ x4_.f3.size ≤ 140737488351232 ∧ (Lit.int .i64 x4_.f4).wf = true ∧ (x4_.f5.length * 8 ≤ 140737488351232 ∧ ∀ x6_ ∈ x4_.f5, (Lit.int .i64 x6_).wf = true))) → (l1.length * 8 ≤ 140737488351232 ∧ ∀ x2_ ∈ l1, (Lit.int .i64 x2_).wf = true) → ∃ k, laws_FnExactStackOk.f k l0_0 l1 = some true
end Go.Proofs.Ytpojadoklfdfiaa.G

/- What several laws reach: for each Go function its Lean twin, and that Go's call comes to just what the twin says; no condition but the twin's own answer. -/
import Derived.Test.YtpojadoklfdfiaaCorea0

namespace Go.Proofs.Ytpojadoklfdfiaa.G
open Go.RowKit Go.Proofs.Ytpojadoklfdfiaa.B Go.Proofs.YtpojadoklfdfiaaW.PrintWords Go.Proofs.YtpojadoklfdfiaaW.PrintLast Go.Proofs.YtpojadoklfdfiaaW.PrintMore
attribute [local go_sem] max2_int min2_int max_two min_two max_three min_three max_four min_four   -- for this text's walks alone
set_option linter.unusedVariables false
set_option linter.unusedSimpArgs false
/-! ### zq64: function 141 -/
def zq64.l0 : Nat → List Int → List Int → Option (List Int)
 | 0, _, _ => none
 | k + 1, x0, x3 => if 0 < x0.length then ((zq42.f k x0).bind fun bt => (if x3.length < 17592186044416 then (if 0 ≤ bt.2 then (if bt.2 ≤ (x0.length : Int) then (zq64.l0 k (x0.drop (bt.2 : Int).toNat) (x3 ++ [bt.1])) else (none)) else (none)) else (none))) else (some x3)
def zq64.f (k : Nat) (l0 : List Int) : Option (List Int) := if 3000 < l0.length then (some ([] : List Int)) else ((bytes_TrimPrefix.f l0 (([239, 187, 191] : List Int))).bind fun t293 => (zq64.l0 k t293 ([] : List Int)))
theorem zq64.mono_l0 : ∀ k a0 a1, LeO (zq64.l0 k a0 a1) (zq64.l0 (k + 1) a0 a1) := by
 intro k
 induction k with
 | zero => intro a0 a1; exact LeO.none _
 | succ k ih =>
  intro a0 a1
  unfold zq64.l0
  refine LeO.ite (LeO.bind (zq42.mono _ _) (fun _ => LeO.ite (LeO.ite (LeO.ite (ih _ _) (LeO.none _)) (LeO.none _)) (LeO.none _))) (LeO.refl _)
theorem zq64.mono : ∀ a0 k, LeO (zq64.f k a0) (zq64.f (k + 1) a0) := by
 intro a0 k
 unfold zq64.f
 exact LeO.ite (LeO.refl _) (LeO.bind (LeO.refl _) (fun _ => zq64.mono_l0 _ _ _))
set_option maxHeartbeats 8000000 in
set_option maxRecDepth 100000 in
theorem zq64.calls (k : Nat) (A0 : Option Addr) (c0 : Nat) (l0 : List Int) (r : List Int) (w : World) (hr0 : Kd.C (Kd.int .u8) w A0 l0.length l0) (hc0 : l0.length ≤ c0) (h : zq64.f k l0 = some r) :
  Calls Try.prog 141 #[.slice A0 l0.length c0] w fun e w' => ∃ v0_ : Value, e = .returned (v0_) ∧ Kd.R (Kd.int .i64) 3 w' w.heap.size (fun _ => True) v0_ r ∧ Below w.heap.size w w' := by
 have HR0 := Aside0.mk hr0
 have HC0 := Aside0.mk hc0
 have HB := Aside0.mk (Below.refl w.heap.size w)
 clear hr0 hc0
 have H := h
 unfold zq64.f at H
 clear h
 by_cases c2 : 3000 < l0.length
 ·rw [if_pos c2] at H
  have c2b0 : decide (3000 < (l0.length : Int)) = true := decide_eq_true (by omega)
  have c2b1 : decide (3000 < l0.length) = true := decide_eq_true (by omega)
  clear c2
  obtain rfl := Option.some.inj H
  go_enter Try.func141, Try.ntmps141
  go_wp2
  go_ret
  exact ⟨_, rfl, Kd.R_nil _ _ _ _ _, Below.refl _ _⟩
 ·rw [if_neg c2] at H
  have c2b0 : decide (3000 < (l0.length : Int)) = false := decide_eq_false (by omega)
  have c2b1 : decide (3000 < l0.length) = false := decide_eq_false (by omega)
  clear c2
  obtain ⟨y290, hy290⟩ : ∃ y_ : List Int, y_ = (([239, 187, 191] : List Int)) := ⟨_, rfl⟩
  rw [← hy290] at H
  have Ny290 := Aside0.mk hy290
  clear hy290
  obtain ⟨t293, A40, H⟩ := Option.bind_eq_some_iff.mp H
  have A4 := Aside0.mk A40
  clear A40
  have H' := Aside0.mk H
  clear H
  go_enter Try.func141, Try.ntmps141
  go_wp2_with (first | ((refine gate_dst (N := 10) rfl ?_); refine Kd.R_lit (Kd.int .u8) _ 5 ?hg (N := 10) ?hd (xs := ([239, 187, 191] : List Int)) (inner := [.int .u8 239, .int .u8 187, .int .u8 191]) (ok := fun _ => True) (okp := fun _ => True) ?hr ?hp (fun _ hk => hk) trivial (Below.refl _ _) (Nat.le_refl _) (by simp) ?_; (case hd => rfl); (case hg => rfl); (case hr => first | (go_simp; done) | (go_simp; rfl)); (case hp => exact (Reps.one (show Kd.M (Kd.int .u8) _ _ _ 239 [.int .u8 239] from rfl) (Reps.one (show Kd.M (Kd.int .u8) _ _ _ 187 [.int .u8 187] from rfl) (Reps.one (show Kd.M (Kd.int .u8) _ _ _ 191 [.int .u8 191] from rfl) (Reps.none _ _))))); intro v291 w6 ho7 hb hg_ hnew_; clear hg_ hnew_; rw [← Ny290.out] at ho7; have HO292 := Aside0.mk ho7; have n1_ := Aside0.mk hb; clear HB; have HB := n1_; clear n1_; clear hb ho7; obtain ⟨Ao8, co8, eo8⟩ := Kd.R_slice HO292.out; subst eo8) | ((refine gate_callee (f := 146) rfl ?_); refine goesL_ (some 11) rfl rfl Try.func146 (by kernel_rfl) rfl #[.slice A0 l0.length c0, .slice Ao8 y290.length co8] rfl (by (try simp only [List.map_toArray, List.map_cons, List.map_nil]); first | done | rfl) ?_; (with_reducible refine (bytes_TrimPrefix.calls _ _ l0 _ _ y290 t293 _ ?side1 HC0.out ?side3 ?side4 A4.out).mono ?_); (case side1 => exact Kd.C_below HR0.out HB.out); (case side3 => exact (Kd.R_reads' HO292.out).2.2); (case side4 => exact (Kd.R_reads' HO292.out).2.1); rintro e w' ⟨A9, c9, rfl, hA9, hc9, ⟨nd, rfl⟩⟩; refine ⟨_, rfl, ?_⟩))
  have hs : ∀ (A : Option Addr) (c : Nat) (x : List Int) (j : Int), 0 ≤ j → j ≤ (x.length : Int) → x.length ≤ c → ∃ A', (∀ W : World, (Instr.slice 96 (.slice A x.length c) (some (.int .i64 j)) none none).run Try.prog W = .ok (.slice A' (x.drop j.toNat).length (c - j.toNat)) W) ∧ (∀ w : World, Kd.C (Kd.int .u8) w A x.length x → Kd.C (Kd.int .u8) w A' (x.drop j.toNat).length (x.drop j.toNat)) ∧ (x.drop j.toNat).length ≤ c - j.toNat := by
   intro A c x j h0 h1 h2
   obtain ⟨i07, hi07, _, hsz7, _⟩ := info_parts info5
   obtain ⟨A', hcut7, hA7, hC7⟩ := print_drop_of (P := Try.prog) (Value.int .u8) 0 96 5 .i64 Try.underlying96 hi07 hsz7 A c x j h0 h1 h2
   exact ⟨A', hcut7, fun w hw => Kd.C_of_reads (h1 := fun _ => rfl) (hA7 _ (Kd.reads_of_C hw)), hC7⟩
  go_loopg [0, 3] k (fun kq v0 v3 w' => ∃ (A : Option Addr) (c : Nat) (x0_1 : List Int) (x3_1 : List Int), v0 = .slice A x0_1.length c ∧ Aside0 (zq64.l0 kq x0_1 x3_1 = some r) ∧ Aside0 (kq ≤ k) ∧ Aside0 (Kd.C (Kd.int .u8) w A x0_1.length x0_1 ∧ x0_1.length ≤ c) ∧ Aside0 (Kd.R (Kd.int .i64) 3 w' w.heap.size (fun _ => True) v3 x3_1) ∧ Aside0 (Below w.heap.size w w'))
  case atStart => exact ⟨A9, c9, t293, [], rfl, H', ⟨Nat.le_refl _⟩, ⟨hA9 _ HR0.out, hc9⟩, ⟨Kd.R_nil _ _ _ _ _⟩, ⟨by repeat (first | (with_reducible first | exact HB.out | apply zq2 | apply zq0 | apply zq1) | exact HB.out)⟩⟩
  case round =>
   clear H'
   obtain ⟨A, c, x0_1, x3_1, rfl, HA, HK1, HO_0, HO_3, HB⟩ := hrel
   cases gk with
   | zero => exact absurd HA.out (by simp [zq64.l0])
   | succ k1 =>
    have H := HA.out
    clear HA
    simp only [zq64.l0] at H
    by_cases c10 : 0 < x0_1.length
    ·rw [if_pos c10] at H
     have c10b0 : decide (0 < (x0_1.length : Int)) = true := decide_eq_true (by omega)
     have c10b1 : decide (0 < x0_1.length) = true := decide_eq_true (by omega)
     clear c10
     obtain ⟨⟨t296, t297⟩, A110, H⟩ := Option.bind_eq_some_iff.mp H
     have A11 := Aside0.mk A110
     clear A110
     by_cases c12 : x3_1.length < 17592186044416
     ·rw [if_pos c12] at H
      have LMc12 := Aside0.mk c12
      clear c12
      by_cases c13 : 0 ≤ t297
      ·rw [if_pos c13] at H
       by_cases c14 : t297 ≤ (x0_1.length : Int)
       ·rw [if_pos c14] at H
        obtain ⟨A', hcut, hCn, hcn⟩ := hs A c x0_1 t297 c13 c14 HO_0.out.2
        have c13b0 := eq_true c13
        clear c13 c14
        obtain ⟨y298, hy298⟩ : ∃ y_ : List Int, y_ = (x3_1 ++ [t296]) := ⟨_, rfl⟩
        obtain ⟨y301, hy301⟩ : ∃ y_ : List Int, y_ = (x0_1.drop (t297 : Int).toNat) := ⟨_, rfl⟩
        simp only [] at H
        rw [← hy298, ← hy301] at H
        rw [← hy301] at hcut hCn hcn
        have Ny298 := Aside0.mk hy298
        have HCn := Aside0.mk hCn
        have Hcn := Aside0.mk hcn
        clear hy298 hy301 hCn hcn
        have H' := Aside0.mk H
        clear H
        go_wp2_with (first | ((refine gate_callee (f := 147) rfl ?_); refine goesL_ (some 17) rfl rfl Try.func147 (by kernel_rfl) rfl #[.slice A x0_1.length c] rfl (by (try simp only [List.map_toArray, List.map_cons, List.map_nil]); first | done | rfl) ?_; (with_reducible refine (zq42.calls k1 _ _ x0_1 t296 t297 _ (Kd.C_below HO_0.out.1 HB.out) HO_0.out.2 A11.out).mono ?_); rintro e w' ⟨rfl, ⟨nd, rfl⟩⟩; refine ⟨_, rfl, ?_⟩) | ((refine gate_builtin (b := .append) (xs := #[.tmp 20, .tmp 22]) rfl ?_); at_builtin; refine Kd.R_append (Kd.int .i64) (w0 := w) w.heap.size rfl (.tmp 20) (.tmp 22) 33 3 (.int .i64 0) 8 rfl Try.underlying33 info3 rfl (by decide) (by omega) u3 x3_1 t296 [.int .i64 t296] (fun _ => True) (fun _ => False) rfl rfl ?aP (fun _ hk => hk.elim) ?aF ?aO ?aB ?aS ?aL ?_; (case aP => exact rfl); (case aB => exact (by repeat (with_reducible first | exact HB.out | apply zq2 | apply zq0 | apply zq1))); (case aF => exact (fun _ _ => trivial)); (case aO => exact (by (with_reducible repeat (first | apply Kd.R_alloc | apply Kd.R_drewN | apply Kd.R_drew)); exact HO_3.out)); (case aS => exact (below_size (by repeat (with_reducible first | exact HB.out | apply zq2 | apply zq0 | apply zq1)))); (case aL => have := LMc12.out; omega); intro v299 w16 ho hb hg hat; rw [← Ny298.out] at ho))
        go_roundg k1
        case measure => have := HK1.out; omega
        case rel => exact ⟨A', _, y301, y298, rfl, H', ⟨by have := HK1.out; omega⟩, ⟨HCn.out _ HO_0.out.1, Hcn.out⟩, ⟨ho⟩, ⟨hb⟩⟩
       ·rw [if_neg c14] at H
        exact absurd H (by simp)
      ·rw [if_neg c13] at H
       exact absurd H (by simp)
     ·rw [if_neg c12] at H
      exact absurd H (by simp)
    ·rw [if_neg c10] at H
     have c10b0 : decide (0 < (x0_1.length : Int)) = false := decide_eq_false (by omega)
     have c10b1 : decide (0 < x0_1.length) = false := decide_eq_false (by omega)
     clear c10
     obtain rfl := Option.some.inj H
     go_wp2
     go_ret
     exact ⟨_, rfl, by (with_reducible repeat (first | apply Kd.R_alloc | apply Kd.R_drewN | apply Kd.R_drew)); exact HO_3.out, by repeat (first | (with_reducible first | exact HB.out | apply zq2 | apply zq0 | apply zq1) | exact HB.out)⟩
/-! ### impl_UtfOk: function 132 -/
def impl_UtfOk.f (k : Nat) (l0 : List Int) : Option (Bool) := if (l0.length : Int) ≤ 3000 then ((zq64.f k l0).bind fun t309 => ((zq51.f k t309).bind fun t312 => ((bytes_Equal.f t312 l0).bind fun t315 => (some t315)))) else (some false)
theorem impl_UtfOk.mono : ∀ a0 k, LeO (impl_UtfOk.f k a0) (impl_UtfOk.f (k + 1) a0) := by
 intro a0 k
 unfold impl_UtfOk.f
 repeat' first
   | (with_reducible exact zq51.mono _ _)
   | (with_reducible exact zq64.mono _ _)
   | (with_reducible exact LeO.refl _)
   | (with_reducible exact LeO.none _)
   | (with_reducible refine LeO.ite ?_ ?_)
   | (with_reducible refine LeO.bind ?_ (fun _ => ?_))
set_option maxHeartbeats 8000000 in
set_option maxRecDepth 100000 in
theorem impl_UtfOk.calls (k : Nat) (A0 : Option Addr) (c0 : Nat) (l0 : List Int) (r : Bool) (w : World) (hr0 : Kd.C (Kd.int .u8) w A0 l0.length l0) (hc0 : l0.length ≤ c0) (h : impl_UtfOk.f k l0 = some r) :
  Calls Try.prog 132 #[.slice A0 l0.length c0] w fun e w' => e = .returned (.bool r) ∧ Below w.heap.size w w' := by
 have HR0 := Aside0.mk hr0
 have HC0 := Aside0.mk hc0
 clear hr0 hc0
 have HB := Aside0.mk (Below.refl w.heap.size w)
 have H : (if (l0.length : Int) ≤ 3000 then ((zq64.f k l0).bind fun t309 => ((zq51.f k t309).bind fun t312 => ((bytes_Equal.f t312 l0).bind fun t315 => (some t315)))) else (some false)) = some r := h
 clear h
 by_cases c2 : (l0.length : Int) ≤ 3000
 ·rw [if_pos c2] at H
  have c2b0 : decide ((l0.length : Int) ≤ 3000) = true := decide_eq_true c2
  have c2b1 : decide (l0.length ≤ 3000) = true := decide_eq_true (by omega)
  clear c2
  replace H := Option.bind_eq_some_iff.mp H
  obtain ⟨t309, A30, H⟩ := H
  (try dsimp only at H)
  have A3 := Aside0.mk A30
  clear A30
  replace H := Option.bind_eq_some_iff.mp H
  obtain ⟨t312, A40, H⟩ := H
  (try dsimp only at H)
  have A4 := Aside0.mk A40
  clear A40
  replace H := Option.bind_eq_some_iff.mp H
  obtain ⟨t315, A50, H⟩ := H
  (try dsimp only at H)
  have A5 := Aside0.mk A50
  clear A50
  obtain rfl := Option.some.inj H
  go_enter Try.func132, Try.ntmps132
  go_wp2_with (first | (go_at_call 141; (with_reducible refine (zq64.calls k _ _ l0 t309 _ ?side1 ?side2 A3.out).mono ?_); (case side1 => repeat (first | exact HR0.out | (with_reducible refine Kd.C_alloc ?_ _) | (with_reducible refine Kd.C_drewN ?_ _) | (with_reducible refine Kd.C_drew ?_))); (case side2 => exact HC0.out); rintro e w6 ⟨v310, rfl, ho0, hb⟩; have HO311 := Aside0.mk (Kd.R_lower ho0 (below_size (by repeat (with_reducible first | exact HB.out | apply zq2 | apply zq0 | apply zq1)))); replace HB := Aside0.mk (zq7 (by repeat (with_reducible first | exact HB.out | apply zq2 | apply zq0 | apply zq1)) hb); (try clear hb); (try clear ho0); obtain ⟨Ao7, co7, eo7⟩ := Kd.R_slice HO311.out; subst eo7) | (go_at_call 140; (with_reducible refine (zq51.calls k _ _ t309 t312 _ ?side1 ?side2 A4.out).mono ?_); (case side1 => repeat (first | exact (Kd.R_reads' HO311.out).2.2 | (with_reducible refine Kd.C_alloc ?_ _) | (with_reducible refine Kd.C_drewN ?_ _) | (with_reducible refine Kd.C_drew ?_))); (case side2 => exact (Kd.R_reads' HO311.out).2.1); rintro e w8 ⟨v313, rfl, ho0, hb⟩; replace HO311 := Aside0.mk (Kd.R_below (by (with_reducible repeat (first | apply Kd.R_alloc | apply Kd.R_drewN | apply Kd.R_drew)); exact HO311.out) hb); have HO314 := Aside0.mk (Kd.R_lower ho0 (below_size (by repeat (with_reducible first | exact HB.out | apply zq2 | apply zq0 | apply zq1)))); replace HB := Aside0.mk (zq7 (by repeat (with_reducible first | exact HB.out | apply zq2 | apply zq0 | apply zq1)) hb); (try clear hb); (try clear ho0); obtain ⟨Ao9, co9, eo9⟩ := Kd.R_slice HO314.out; subst eo9) | (go_at_call 139; (with_reducible refine (bytes_Equal.calls _ _ t312 _ _ l0 t315 _ ?side1 ?side2 ?side3 ?side4 A5.out).mono ?_); (case side1 => repeat (first | exact (Kd.R_reads' HO314.out).2.2 | (with_reducible refine Kd.C_alloc ?_ _) | (with_reducible refine Kd.C_drewN ?_ _) | (with_reducible refine Kd.C_drew ?_))); (case side2 => exact (Kd.R_reads' HO314.out).2.1); (case side3 => repeat (first | exact (Kd.C_below HR0.out HB.out) | (with_reducible refine Kd.C_alloc ?_ _) | (with_reducible refine Kd.C_drewN ?_ _) | (with_reducible refine Kd.C_drew ?_))); (case side4 => exact HC0.out); rintro e w' ⟨rfl, ⟨nd, rfl⟩⟩))
  go_ret
  exact ⟨by first | rfl | simp | simp [*], by repeat (first | (with_reducible first | exact HB.out | apply zq2 | apply zq0 | apply zq1) | exact HB.out)⟩
 ·rw [if_neg c2] at H
  have c2b0 : decide ((l0.length : Int) ≤ 3000) = false := decide_eq_false c2
  have c2b1 : decide (l0.length ≤ 3000) = false := decide_eq_false (by omega)
  clear c2
  obtain rfl := Option.some.inj H
  go_enter Try.func132, Try.ntmps132
  go_wp2
  go_ret
  exact ⟨by first | rfl | simp | simp [*], by repeat (first | (with_reducible first | exact HB.out | apply zq2 | apply zq0 | apply zq1) | exact HB.out)⟩
/-! ### zq45: function 116 -/
def zq45.f (k : Nat) (a0 : ByteArray) : Option Bool := if a0.size ≤ 9223372036854775807 then impl_UtfOk.f k (bytesOf a0) else none
theorem zq45.mono : ∀ a0 k, LeO (zq45.f k a0) (zq45.f (k + 1) a0) := by
 intro a0 k
 unfold zq45.f
 exact LeO.ite (impl_UtfOk.mono _ _) (LeO.refl _)
set_option maxHeartbeats 2000000 in
set_option maxRecDepth 100000 in
theorem zq45.calls (k : Nat) (a0 : ByteArray) (r : Bool) (w : World) (h : zq45.f k a0 = some r) :
  Calls Try.prog 116 #[.string a0] w fun e w' => e = .returned (.bool r) ∧ Below w.heap.size w w' := by
 unfold zq45.f at h
 by_cases c2 : a0.size ≤ 9223372036854775807
 ·rw [if_pos c2] at h
  obtain ⟨A, c, w1, hrun, hC, hc, hb1⟩ := conv_row Try.prog w 9 96 5 a0 c2 Try.underlying9 Try.underlying96 Try.underlying5
  have A1 := Aside0.mk h
  have HR := Aside0.mk hC
  have HC := Aside0.mk hc
  have HB := Aside0.mk hb1
  clear h hC hc hb1 c2
  go_enter Try.func116, Try.ntmps116
  go_wp2_with (go_at_call 132; (with_reducible refine (impl_UtfOk.calls k _ _ _ r _ HR.out HC.out A1.out).mono ?_); rintro e w' ⟨rfl, hb⟩)
  go_ret
  exact ⟨rfl, zq7 HB.out hb⟩
 ·rw [if_neg c2] at h
  exact absurd h (by simp)
/-! ### spec_IsBlank: function 126 -/
def spec_IsBlank.f (a0 : Int) : Option (Bool) := if a0 = 9 then (some true) else (if a0 = 10 then (some true) else (if a0 = 12 then (some true) else (some (a0 == 32))))
set_option maxHeartbeats 8000000 in
set_option maxRecDepth 100000 in
theorem spec_IsBlank.calls (a0 : Int) (r : Bool) (w : World) (h : spec_IsBlank.f a0 = some r) :
  Calls Try.prog 126 #[.int .i64 a0] w fun e w' => e = .returned (.bool r) ∧ Drawn0 w w' := by
 have H : (if a0 = 9 then (some true) else (if a0 = 10 then (some true) else (if a0 = 12 then (some true) else (some (a0 == 32))))) = some r := h
 clear h
 by_cases c2 : a0 = 9
 ·rw [if_pos c2] at H
  have c2b0 := beq_iff_eq.mpr c2
  have c2b1 := bne_eq_false_iff_eq.mpr c2
  clear c2
  obtain rfl := Option.some.inj H
  go_enter Try.func126, Try.ntmps126
  go_wp2
  go_ret
  exact ⟨by first | rfl | simp | simp [*], by repeat (first | exact Drawn0.refl _ | apply Drawn0.step)⟩
 ·rw [if_neg c2] at H
  have c2b0 := beq_eq_false_iff_ne.mpr c2
  have c2b1 := bne_iff_ne.mpr c2
  by_cases c3 : a0 = 10
  ·rw [if_pos c3] at H
   have c3b0 := beq_iff_eq.mpr c3
   have c3b1 := bne_eq_false_iff_eq.mpr c3
   clear c3
   obtain rfl := Option.some.inj H
   go_enter Try.func126, Try.ntmps126
   go_wp2
   go_ret
   exact ⟨by first | rfl | simp | simp [*], by repeat (first | exact Drawn0.refl _ | apply Drawn0.step)⟩
  ·rw [if_neg c3] at H
   have c3b0 := beq_eq_false_iff_ne.mpr c3
   have c3b1 := bne_iff_ne.mpr c3
   by_cases c4 : a0 = 12
   ·rw [if_pos c4] at H
    have c4b0 := beq_iff_eq.mpr c4
    have c4b1 := bne_eq_false_iff_eq.mpr c4
    clear c4
    obtain rfl := Option.some.inj H
    go_enter Try.func126, Try.ntmps126
    go_wp2
    go_ret
    exact ⟨by first | rfl | simp | simp [*], by repeat (first | exact Drawn0.refl _ | apply Drawn0.step)⟩
   ·rw [if_neg c4] at H
    have c4b0 := beq_eq_false_iff_ne.mpr c4
    have c4b1 := bne_iff_ne.mpr c4
    obtain rfl := Option.some.inj H
    go_enter Try.func126, Try.ntmps126
    go_wp2
    go_ret
    exact ⟨by first | rfl | simp | simp [*], by repeat (first | exact Drawn0.refl _ | apply Drawn0.step)⟩
/-! ### zq30: function 108 -/
mutual
def zq30.j0 : Nat → ByteArray → Bool → Option (Bool)
 | 0, _, _ => none
 | k + 1, x0, x22 => if x22 = true then (some false) else (zq30.l0 k x0 0)
def zq30.l0 : Nat → ByteArray → Int → Option (Bool)
 | 0, _, _ => none
 | k + 1, x0, x3 => if x3 < (x0.size : Int) then (if 0 ≤ x3 then ((spec_IsBlank.f (wrap64 (bt x0 x3))).bind fun t187 => (if t187 = true then (some false) else (if (bt x0 x3) = 47 then (some false) else (if (bt x0 x3) = 62 then (some false) else (if (bt x0 x3) = 0 then (some false) else (if (bt x0 x3) ≥ 65 then (if (bt x0 x3) ≤ 90 then (some false) else (zq30.l0 k x0 (wrap64 (x3 + 1)))) else (zq30.l0 k x0 (wrap64 (x3 + 1))))))))) else (none)) else (some true)
end
def zq30.f (k : Nat) (a0 : ByteArray) : Option (Bool) := (zq17.f (a0.size : Int) 1 60).bind fun t185 => (if t185 = true then ((zq59.f k a0).bind fun t186 => (if t186 = true then (if 0 < (a0.size : Int) then (if (bt a0 0) < 97 then (zq30.j0 k a0 true) else (zq30.j0 k a0 (decide ((bt a0 0) > 122)))) else (none)) else (zq30.j0 k a0 true))) else (zq30.j0 k a0 true))
theorem zq30.mono_l : ∀ k, (∀ y0 y1, LeO (zq30.j0 k y0 y1) (zq30.j0 (k + 1) y0 y1)) ∧ (∀ y0 y1, LeO (zq30.l0 k y0 y1) (zq30.l0 (k + 1) y0 y1))
 | 0 => ⟨fun _ _ r h => by simp [zq30.j0] at h, fun _ _ r h => by simp [zq30.l0] at h⟩
 | k + 1 => by
  obtain ⟨ih0, ih1⟩ := zq30.mono_l k
  refine ⟨?_, ?_⟩
  ·intro y0 y1
   unfold zq30.j0
   repeat' first
   | (with_reducible exact ih0 _ _)
   | (with_reducible exact ih1 _ _)
   | (with_reducible exact zq59.mono _ _)
   | (with_reducible exact LeO.refl _)
   | (with_reducible exact LeO.none _)
   | (with_reducible refine LeO.ite ?_ ?_)
   | (with_reducible refine LeO.bind ?_ (fun _ => ?_))
  ·intro y0 y1
   unfold zq30.l0
   repeat' first
   | (with_reducible exact ih0 _ _)
   | (with_reducible exact ih1 _ _)
   | (with_reducible exact zq59.mono _ _)
   | (with_reducible exact LeO.refl _)
   | (with_reducible exact LeO.none _)
   | (with_reducible refine LeO.ite ?_ ?_)
   | (with_reducible refine LeO.bind ?_ (fun _ => ?_))
theorem zq30.mono : ∀ a0 k, LeO (zq30.f k a0) (zq30.f (k + 1) a0) := by
 intro a0 k
 obtain ⟨ih0, ih1⟩ := zq30.mono_l k
 unfold zq30.f
 repeat' first
   | (with_reducible exact ih0 _ _)
   | (with_reducible exact ih1 _ _)
   | (with_reducible exact zq59.mono _ _)
   | (with_reducible exact LeO.refl _)
   | (with_reducible exact LeO.none _)
   | (with_reducible refine LeO.ite ?_ ?_)
   | (with_reducible refine LeO.bind ?_ (fun _ => ?_))
set_option maxHeartbeats 8000000 in
set_option maxRecDepth 100000 in
theorem zq30.calls (k : Nat) (a0 : ByteArray) (r : Bool) (w : World) (h : zq30.f k a0 = some r) :
  Calls Try.prog 108 #[.string a0] w fun e w' => e = .returned (.bool r) ∧ Below w.heap.size w w' := by
 have HB := Aside0.mk (Below.refl w.heap.size w)
 have H : ((zq17.f (a0.size : Int) 1 60).bind fun t185 => (if t185 = true then ((zq59.f k a0).bind fun t186 => (if t186 = true then (if 0 < (a0.size : Int) then (if (bt a0 0) < 97 then (zq30.j0 k a0 true) else (zq30.j0 k a0 (decide ((bt a0 0) > 122)))) else (none)) else (zq30.j0 k a0 true))) else (zq30.j0 k a0 true))) = some r := h
 clear h
 have HC2 := Aside0.mk H
 clear H
 go_enter Try.func108, Try.ntmps108
 go_upto_region 1 with (fail)
 go_cut [22] (fun v22 wc => ∃ (kq : Nat) (x22_1 : Bool), v22 = .bool x22_1 ∧ Aside0 (zq30.j0 kq a0 x22_1 = some r) ∧ Aside0 (kq ≤ k) ∧ Aside0 (Below w.heap.size w wc))
 case first =>
  have H := HC2.out
  clear HC2
  replace H := Option.bind_eq_some_iff.mp H
  obtain ⟨t185, A30, H⟩ := H
  (try dsimp only at H)
  have A3 := Aside0.mk A30
  clear A30
  by_cases c4 : t185 = true
  ·subst c4
   rw [if_pos rfl] at H
   replace H := Option.bind_eq_some_iff.mp H
   obtain ⟨t186, A50, H⟩ := H
   (try dsimp only at H)
   have A5 := Aside0.mk A50
   clear A50
   by_cases c6 : t186 = true
   ·subst c6
    rw [if_pos rfl] at H
    by_cases c7 : 0 < (a0.size : Int)
    ·rw [if_pos c7] at H
     have c7b0 : decide (0 < (a0.size : Int)) = true := decide_eq_true c7
     have c7b1 : decide (0 < a0.size) = true := decide_eq_true (by omega)
     clear c7
     (first | rw [c7b0] | (simp only [i64_w, i32_w]; rw [c7b0]) | skip)
     by_cases c9 : (bt a0 0) < 97
     ·rw [if_pos c9] at H
      have c9b0 : decide ((bt a0 0) < 97) = true := decide_eq_true c9
      clear c9
      have H' := Aside0.mk H
      clear H
      go_wp2_with (first | ((refine gate_callee (f := 73) rfl ?_); refine goesL_ (some 6) rfl rfl Try.func73 (by kernel_rfl) rfl #[.int .i64 (a0.size : Int), .int .i64 1, .int .i64 60] rfl (by (try simp only [List.map_toArray, List.map_cons, List.map_nil]); first | done | rfl) ?_; (with_reducible refine (zq17.calls (a0.size : Int) 1 60 true _ A3.out).mono ?_); rintro e w' ⟨rfl, ⟨nd, rfl⟩⟩; refine ⟨_, rfl, ?_⟩) | (go_at_call 107; (with_reducible refine (zq59.calls k a0 true _ A5.out).mono ?_); rintro e w10 ⟨rfl, hb⟩; replace HB := Aside0.mk (zq7 (by repeat (with_reducible first | exact HB.out | apply zq2 | apply zq0 | apply zq1)) hb); (try clear hb); have p8 : 0 ≤ (0 : Int) := (by omega); have q8 : 0 < a0.size := (by have : (0 : Int) < (a0.size : Int) := of_decide_eq_true (by assumption); omega); have hx8 : ∀ h : 0 < a0.size, ((a0[0]'h).toNat : Int) = bt a0 0 := bt_at a0 0; clear p8; have qi8 : (0 < (a0.size : Int)) = True := eq_true (of_decide_eq_true (by assumption)); replace q8 := eq_true q8))
      go_meet
      case rel => exact ⟨_, (true), (by first | rfl | simp | simp [*]), H', ⟨by first | omega | exact Nat.le_refl _⟩, ⟨by repeat (first | (with_reducible first | exact HB.out | apply zq2 | apply zq0 | apply zq1) | exact HB.out)⟩⟩
     ·rw [if_neg c9] at H
      have c9b0 : decide ((bt a0 0) < 97) = false := decide_eq_false c9
      clear c9
      have H' := Aside0.mk H
      clear H
      go_wp2_with (first | ((refine gate_callee (f := 73) rfl ?_); refine goesL_ (some 6) rfl rfl Try.func73 (by kernel_rfl) rfl #[.int .i64 (a0.size : Int), .int .i64 1, .int .i64 60] rfl (by (try simp only [List.map_toArray, List.map_cons, List.map_nil]); first | done | rfl) ?_; (with_reducible refine (zq17.calls (a0.size : Int) 1 60 true _ A3.out).mono ?_); rintro e w' ⟨rfl, ⟨nd, rfl⟩⟩; refine ⟨_, rfl, ?_⟩) | (go_at_call 107; (with_reducible refine (zq59.calls k a0 true _ A5.out).mono ?_); rintro e w12 ⟨rfl, hb⟩; replace HB := Aside0.mk (zq7 (by repeat (with_reducible first | exact HB.out | apply zq2 | apply zq0 | apply zq1)) hb); (try clear hb); have p8 : 0 ≤ (0 : Int) := (by omega); have q8 : 0 < a0.size := (by have : (0 : Int) < (a0.size : Int) := of_decide_eq_true (by assumption); omega); have hx8 : ∀ h : 0 < a0.size, ((a0[0]'h).toNat : Int) = bt a0 0 := bt_at a0 0; clear p8; have qi8 : (0 < (a0.size : Int)) = True := eq_true (of_decide_eq_true (by assumption)); replace q8 := eq_true q8; have p11 : 0 ≤ (0 : Int) := (by omega); have q11 : 0 < a0.size := (by have : (0 : Int) < (a0.size : Int) := of_decide_eq_true (by assumption); omega); have hx11 : ∀ h : 0 < a0.size, ((a0[0]'h).toNat : Int) = bt a0 0 := bt_at a0 0; clear p11; have qi11 : (0 < (a0.size : Int)) = True := eq_true (of_decide_eq_true (by assumption)); replace q11 := eq_true q11))
      go_meet
      case rel => exact ⟨_, (decide ((bt a0 0) > 122)), (by first | rfl | simp | simp [*]), H', ⟨by first | omega | exact Nat.le_refl _⟩, ⟨by repeat (first | (with_reducible first | exact HB.out | apply zq2 | apply zq0 | apply zq1) | exact HB.out)⟩⟩
    ·rw [if_neg c7] at H
     exact absurd H (by simp)
   ·replace c6 := Bool.eq_false_iff.mpr c6
    subst c6
    rw [if_neg (show ¬ (false = true) by decide)] at H
    have H' := Aside0.mk H
    clear H
    go_wp2_with (first | ((refine gate_callee (f := 73) rfl ?_); refine goesL_ (some 6) rfl rfl Try.func73 (by kernel_rfl) rfl #[.int .i64 (a0.size : Int), .int .i64 1, .int .i64 60] rfl (by (try simp only [List.map_toArray, List.map_cons, List.map_nil]); first | done | rfl) ?_; (with_reducible refine (zq17.calls (a0.size : Int) 1 60 true _ A3.out).mono ?_); rintro e w' ⟨rfl, ⟨nd, rfl⟩⟩; refine ⟨_, rfl, ?_⟩) | (go_at_call 107; (with_reducible refine (zq59.calls k a0 false _ A5.out).mono ?_); rintro e w13 ⟨rfl, hb⟩; replace HB := Aside0.mk (zq7 (by repeat (with_reducible first | exact HB.out | apply zq2 | apply zq0 | apply zq1)) hb); (try clear hb)))
    go_meet
    case rel => exact ⟨_, (true), (by first | rfl | simp | simp [*]), H', ⟨by first | omega | exact Nat.le_refl _⟩, ⟨by repeat (first | (with_reducible first | exact HB.out | apply zq2 | apply zq0 | apply zq1) | exact HB.out)⟩⟩
  ·replace c4 := Bool.eq_false_iff.mpr c4
   subst c4
   rw [if_neg (show ¬ (false = true) by decide)] at H
   have H' := Aside0.mk H
   clear H
   go_wp2_with (first | ((refine gate_callee (f := 73) rfl ?_); refine goesL_ (some 6) rfl rfl Try.func73 (by kernel_rfl) rfl #[.int .i64 (a0.size : Int), .int .i64 1, .int .i64 60] rfl (by (try simp only [List.map_toArray, List.map_cons, List.map_nil]); first | done | rfl) ?_; (with_reducible refine (zq17.calls (a0.size : Int) 1 60 false _ A3.out).mono ?_); rintro e w' ⟨rfl, ⟨nd, rfl⟩⟩; refine ⟨_, rfl, ?_⟩))
   go_meet
   case rel => exact ⟨_, (true), (by first | rfl | simp | simp [*]), H', ⟨by first | omega | exact Nat.le_refl _⟩, ⟨by repeat (first | (with_reducible first | exact HB.out | apply zq2 | apply zq0 | apply zq1) | exact HB.out)⟩⟩
 case rest =>
  clear HC2
  obtain ⟨kq, x22_1, rfl, HA, HJ1, HB⟩ := hcut
  cases kq with
  | zero => exact absurd HA.out (by simp [zq30.j0])
  | succ kj1 =>
   have H := HA.out
   clear HA
   simp only [zq30.j0] at H
   by_cases c14 : x22_1 = true
   ·subst c14
    rw [if_pos rfl] at H
    obtain rfl := Option.some.inj H
    go_wp2
    go_ret
    exact ⟨by first | rfl | simp | simp [*], by repeat (first | (with_reducible first | exact HB.out | apply zq2 | apply zq0 | apply zq1) | exact HB.out)⟩
   ·replace c14 := Bool.eq_false_iff.mpr c14
    subst c14
    rw [if_neg (show ¬ (false = true) by decide)] at H
    have H' := Aside0.mk H
    clear H
    go_wp2
    go_loopg [3] kj1 (fun kq v3 w' => ∃ (x3_2 : Int), v3 = .int .i64 x3_2 ∧ Aside0 (zq30.l0 kq a0 x3_2 = some r) ∧ Aside0 (kq ≤ kj1) ∧ Aside0 (Below w.heap.size w w'))
    case atStart => exact ⟨(0), (by first | rfl | simp | simp [*]), H', ⟨Nat.le_refl _⟩, ⟨by repeat (first | (with_reducible first | exact HB.out | apply zq2 | apply zq0 | apply zq1) | exact HB.out)⟩⟩
    case round =>
     clear H'
     obtain ⟨x3_2, rfl, HA, HK2, HB⟩ := hrel
     cases gk with
     | zero => exact absurd HA.out (by simp [zq30.l0])
     | succ k2 =>
      have H := HA.out
      clear HA
      simp only [zq30.l0] at H
      by_cases c15 : x3_2 < (a0.size : Int)
      ·rw [if_pos c15] at H
       have c15b0 : decide (x3_2 < (a0.size : Int)) = true := decide_eq_true c15
       clear c15
       by_cases c16 : 0 ≤ x3_2
       ·rw [if_pos c16] at H
        have c16b0 : decide (0 ≤ x3_2) = true := decide_eq_true c16
        clear c16
        replace H := Option.bind_eq_some_iff.mp H
        obtain ⟨t187, A180, H⟩ := H
        (try dsimp only at H)
        have A18 := Aside0.mk A180
        clear A180
        by_cases c19 : t187 = true
        ·subst c19
         rw [if_pos rfl] at H
         obtain rfl := Option.some.inj H
         have p17 : 0 ≤ (x3_2 : Int) := of_decide_eq_true (by assumption)
         have q17 : x3_2 < (a0.size : Int) := of_decide_eq_true (by assumption)
         have hx17 := bt_at a0 x3_2
         replace p17 := eq_true p17
         replace q17 := eq_true q17
         go_wp2_with (first | ((refine gate_callee (f := 126) rfl ?_); refine goesL_ (some 33) rfl rfl Try.func126 (by kernel_rfl) rfl #[.int .i64 (wrap64 (bt a0 x3_2))] rfl (by (try simp only [List.map_toArray, List.map_cons, List.map_nil]); first | done | rfl) ?_; (with_reducible refine (spec_IsBlank.calls (wrap64 (bt a0 x3_2)) true _ A18.out).mono ?_); rintro e w' ⟨rfl, ⟨nd, rfl⟩⟩; refine ⟨_, rfl, ?_⟩))
         go_ret
         exact ⟨by first | rfl | simp | simp [*], by repeat (first | (with_reducible first | exact HB.out | apply zq2 | apply zq0 | apply zq1) | exact HB.out)⟩
        ·replace c19 := Bool.eq_false_iff.mpr c19
         subst c19
         rw [if_neg (show ¬ (false = true) by decide)] at H
         by_cases c21 : (bt a0 x3_2) = 47
         ·rw [if_pos c21] at H
          have c21b0 := beq_iff_eq.mpr c21
          have c21b1 := bne_eq_false_iff_eq.mpr c21
          clear c21
          obtain rfl := Option.some.inj H
          have p17 : 0 ≤ (x3_2 : Int) := of_decide_eq_true (by assumption)
          have q17 : x3_2 < (a0.size : Int) := of_decide_eq_true (by assumption)
          have hx17 := bt_at a0 x3_2
          replace p17 := eq_true p17
          replace q17 := eq_true q17
          go_wp2_with (first | ((refine gate_callee (f := 126) rfl ?_); refine goesL_ (some 33) rfl rfl Try.func126 (by kernel_rfl) rfl #[.int .i64 (wrap64 (bt a0 x3_2))] rfl (by (try simp only [List.map_toArray, List.map_cons, List.map_nil]); first | done | rfl) ?_; (with_reducible refine (spec_IsBlank.calls (wrap64 (bt a0 x3_2)) false _ A18.out).mono ?_); rintro e w' ⟨rfl, ⟨nd, rfl⟩⟩; refine ⟨_, rfl, ?_⟩; have p20 : 0 ≤ (x3_2 : Int) := of_decide_eq_true (by assumption); have q20 : x3_2 < (a0.size : Int) := of_decide_eq_true (by assumption); have hx20 := bt_at a0 x3_2; replace p20 := eq_true p20; replace q20 := eq_true q20))
          go_ret
          exact ⟨by first | rfl | simp | simp [*], by repeat (first | (with_reducible first | exact HB.out | apply zq2 | apply zq0 | apply zq1) | exact HB.out)⟩
         ·rw [if_neg c21] at H
          have c21b0 := beq_eq_false_iff_ne.mpr c21
          have c21b1 := bne_iff_ne.mpr c21
          by_cases c23 : (bt a0 x3_2) = 62
          ·rw [if_pos c23] at H
           have c23b0 := beq_iff_eq.mpr c23
           have c23b1 := bne_eq_false_iff_eq.mpr c23
           clear c23
           obtain rfl := Option.some.inj H
           have p17 : 0 ≤ (x3_2 : Int) := of_decide_eq_true (by assumption)
           have q17 : x3_2 < (a0.size : Int) := of_decide_eq_true (by assumption)
           have hx17 := bt_at a0 x3_2
           replace p17 := eq_true p17
           replace q17 := eq_true q17
           go_wp2_with (first | ((refine gate_callee (f := 126) rfl ?_); refine goesL_ (some 33) rfl rfl Try.func126 (by kernel_rfl) rfl #[.int .i64 (wrap64 (bt a0 x3_2))] rfl (by (try simp only [List.map_toArray, List.map_cons, List.map_nil]); first | done | rfl) ?_; (with_reducible refine (spec_IsBlank.calls (wrap64 (bt a0 x3_2)) false _ A18.out).mono ?_); rintro e w' ⟨rfl, ⟨nd, rfl⟩⟩; refine ⟨_, rfl, ?_⟩; have p20 : 0 ≤ (x3_2 : Int) := of_decide_eq_true (by assumption); have q20 : x3_2 < (a0.size : Int) := of_decide_eq_true (by assumption); have hx20 := bt_at a0 x3_2; replace p20 := eq_true p20; replace q20 := eq_true q20; have p22 : 0 ≤ (x3_2 : Int) := of_decide_eq_true (by assumption); have q22 : x3_2 < (a0.size : Int) := of_decide_eq_true (by assumption); have hx22 := bt_at a0 x3_2; replace p22 := eq_true p22; replace q22 := eq_true q22))
           go_ret
           exact ⟨by first | rfl | simp | simp [*], by repeat (first | (with_reducible first | exact HB.out | apply zq2 | apply zq0 | apply zq1) | exact HB.out)⟩
          ·rw [if_neg c23] at H
           have c23b0 := beq_eq_false_iff_ne.mpr c23
           have c23b1 := bne_iff_ne.mpr c23
           by_cases c25 : (bt a0 x3_2) = 0
           ·rw [if_pos c25] at H
            have c25b0 := beq_iff_eq.mpr c25
            have c25b1 := bne_eq_false_iff_eq.mpr c25
            clear c25
            obtain rfl := Option.some.inj H
            have p17 : 0 ≤ (x3_2 : Int) := of_decide_eq_true (by assumption)
            have q17 : x3_2 < (a0.size : Int) := of_decide_eq_true (by assumption)
            have hx17 := bt_at a0 x3_2
            replace p17 := eq_true p17
            replace q17 := eq_true q17
            go_wp2_with (first | ((refine gate_callee (f := 126) rfl ?_); refine goesL_ (some 33) rfl rfl Try.func126 (by kernel_rfl) rfl #[.int .i64 (wrap64 (bt a0 x3_2))] rfl (by (try simp only [List.map_toArray, List.map_cons, List.map_nil]); first | done | rfl) ?_; (with_reducible refine (spec_IsBlank.calls (wrap64 (bt a0 x3_2)) false _ A18.out).mono ?_); rintro e w' ⟨rfl, ⟨nd, rfl⟩⟩; refine ⟨_, rfl, ?_⟩; have p20 : 0 ≤ (x3_2 : Int) := of_decide_eq_true (by assumption); have q20 : x3_2 < (a0.size : Int) := of_decide_eq_true (by assumption); have hx20 := bt_at a0 x3_2; replace p20 := eq_true p20; replace q20 := eq_true q20; have p22 : 0 ≤ (x3_2 : Int) := of_decide_eq_true (by assumption); have q22 : x3_2 < (a0.size : Int) := of_decide_eq_true (by assumption); have hx22 := bt_at a0 x3_2; replace p22 := eq_true p22; replace q22 := eq_true q22; have p24 : 0 ≤ (x3_2 : Int) := of_decide_eq_true (by assumption); have q24 : x3_2 < (a0.size : Int) := of_decide_eq_true (by assumption); have hx24 := bt_at a0 x3_2; replace p24 := eq_true p24; replace q24 := eq_true q24))
            go_ret
            exact ⟨by first | rfl | simp | simp [*], by repeat (first | (with_reducible first | exact HB.out | apply zq2 | apply zq0 | apply zq1) | exact HB.out)⟩
           ·rw [if_neg c25] at H
            have c25b0 := beq_eq_false_iff_ne.mpr c25
            have c25b1 := bne_iff_ne.mpr c25
            by_cases c27 : (bt a0 x3_2) ≥ 65
            ·rw [if_pos c27] at H
             have c27b0 : decide (65 ≤ (bt a0 x3_2)) = true := decide_eq_true c27
             clear c27
             by_cases c29 : (bt a0 x3_2) ≤ 90
             ·rw [if_pos c29] at H
              have c29b0 : decide ((bt a0 x3_2) ≤ 90) = true := decide_eq_true c29
              clear c29
              obtain rfl := Option.some.inj H
              have p17 : 0 ≤ (x3_2 : Int) := of_decide_eq_true (by assumption)
              have q17 : x3_2 < (a0.size : Int) := of_decide_eq_true (by assumption)
              have hx17 := bt_at a0 x3_2
              replace p17 := eq_true p17
              replace q17 := eq_true q17
              go_wp2_with (first | ((refine gate_callee (f := 126) rfl ?_); refine goesL_ (some 33) rfl rfl Try.func126 (by kernel_rfl) rfl #[.int .i64 (wrap64 (bt a0 x3_2))] rfl (by (try simp only [List.map_toArray, List.map_cons, List.map_nil]); first | done | rfl) ?_; (with_reducible refine (spec_IsBlank.calls (wrap64 (bt a0 x3_2)) false _ A18.out).mono ?_); rintro e w' ⟨rfl, ⟨nd, rfl⟩⟩; refine ⟨_, rfl, ?_⟩; have p20 : 0 ≤ (x3_2 : Int) := of_decide_eq_true (by assumption); have q20 : x3_2 < (a0.size : Int) := of_decide_eq_true (by assumption); have hx20 := bt_at a0 x3_2; replace p20 := eq_true p20; replace q20 := eq_true q20; have p22 : 0 ≤ (x3_2 : Int) := of_decide_eq_true (by assumption); have q22 : x3_2 < (a0.size : Int) := of_decide_eq_true (by assumption); have hx22 := bt_at a0 x3_2; replace p22 := eq_true p22; replace q22 := eq_true q22; have p24 : 0 ≤ (x3_2 : Int) := of_decide_eq_true (by assumption); have q24 : x3_2 < (a0.size : Int) := of_decide_eq_true (by assumption); have hx24 := bt_at a0 x3_2; replace p24 := eq_true p24; replace q24 := eq_true q24; have p26 : 0 ≤ (x3_2 : Int) := of_decide_eq_true (by assumption); have q26 : x3_2 < (a0.size : Int) := of_decide_eq_true (by assumption); have hx26 := bt_at a0 x3_2; replace p26 := eq_true p26; replace q26 := eq_true q26; have p28 : 0 ≤ (x3_2 : Int) := of_decide_eq_true (by assumption); have q28 : x3_2 < (a0.size : Int) := of_decide_eq_true (by assumption); have hx28 := bt_at a0 x3_2; replace p28 := eq_true p28; replace q28 := eq_true q28))
              go_ret
              exact ⟨by first | rfl | simp | simp [*], by repeat (first | (with_reducible first | exact HB.out | apply zq2 | apply zq0 | apply zq1) | exact HB.out)⟩
             ·rw [if_neg c29] at H
              have c29b0 : decide ((bt a0 x3_2) ≤ 90) = false := decide_eq_false c29
              clear c29
              have H' := Aside0.mk H
              clear H
              have p17 : 0 ≤ (x3_2 : Int) := of_decide_eq_true (by assumption)
              have q17 : x3_2 < (a0.size : Int) := of_decide_eq_true (by assumption)
              have hx17 := bt_at a0 x3_2
              replace p17 := eq_true p17
              replace q17 := eq_true q17
              go_wp2_with (first | ((refine gate_callee (f := 126) rfl ?_); refine goesL_ (some 33) rfl rfl Try.func126 (by kernel_rfl) rfl #[.int .i64 (wrap64 (bt a0 x3_2))] rfl (by (try simp only [List.map_toArray, List.map_cons, List.map_nil]); first | done | rfl) ?_; (with_reducible refine (spec_IsBlank.calls (wrap64 (bt a0 x3_2)) false _ A18.out).mono ?_); rintro e w' ⟨rfl, ⟨nd, rfl⟩⟩; refine ⟨_, rfl, ?_⟩; have p20 : 0 ≤ (x3_2 : Int) := of_decide_eq_true (by assumption); have q20 : x3_2 < (a0.size : Int) := of_decide_eq_true (by assumption); have hx20 := bt_at a0 x3_2; replace p20 := eq_true p20; replace q20 := eq_true q20; have p22 : 0 ≤ (x3_2 : Int) := of_decide_eq_true (by assumption); have q22 : x3_2 < (a0.size : Int) := of_decide_eq_true (by assumption); have hx22 := bt_at a0 x3_2; replace p22 := eq_true p22; replace q22 := eq_true q22; have p24 : 0 ≤ (x3_2 : Int) := of_decide_eq_true (by assumption); have q24 : x3_2 < (a0.size : Int) := of_decide_eq_true (by assumption); have hx24 := bt_at a0 x3_2; replace p24 := eq_true p24; replace q24 := eq_true q24; have p26 : 0 ≤ (x3_2 : Int) := of_decide_eq_true (by assumption); have q26 : x3_2 < (a0.size : Int) := of_decide_eq_true (by assumption); have hx26 := bt_at a0 x3_2; replace p26 := eq_true p26; replace q26 := eq_true q26; have p28 : 0 ≤ (x3_2 : Int) := of_decide_eq_true (by assumption); have q28 : x3_2 < (a0.size : Int) := of_decide_eq_true (by assumption); have hx28 := bt_at a0 x3_2; replace p28 := eq_true p28; replace q28 := eq_true q28))
              go_roundg k2
              case measure => have := HJ1.out; have := HK2.out; omega
              case rel => exact ⟨(wrap64 (x3_2 + 1)), (by first | rfl | simp | simp [*]), H', ⟨by have := HJ1.out; have := HK2.out; omega⟩, ⟨by repeat (first | (with_reducible first | exact HB.out | apply zq2 | apply zq0 | apply zq1) | exact HB.out)⟩⟩
            ·rw [if_neg c27] at H
             have c27b0 : decide (65 ≤ (bt a0 x3_2)) = false := decide_eq_false c27
             clear c27
             have H' := Aside0.mk H
             clear H
             have p17 : 0 ≤ (x3_2 : Int) := of_decide_eq_true (by assumption)
             have q17 : x3_2 < (a0.size : Int) := of_decide_eq_true (by assumption)
             have hx17 := bt_at a0 x3_2
             replace p17 := eq_true p17
             replace q17 := eq_true q17
             go_wp2_with (first | ((refine gate_callee (f := 126) rfl ?_); refine goesL_ (some 33) rfl rfl Try.func126 (by kernel_rfl) rfl #[.int .i64 (wrap64 (bt a0 x3_2))] rfl (by (try simp only [List.map_toArray, List.map_cons, List.map_nil]); first | done | rfl) ?_; (with_reducible refine (spec_IsBlank.calls (wrap64 (bt a0 x3_2)) false _ A18.out).mono ?_); rintro e w' ⟨rfl, ⟨nd, rfl⟩⟩; refine ⟨_, rfl, ?_⟩; have p20 : 0 ≤ (x3_2 : Int) := of_decide_eq_true (by assumption); have q20 : x3_2 < (a0.size : Int) := of_decide_eq_true (by assumption); have hx20 := bt_at a0 x3_2; replace p20 := eq_true p20; replace q20 := eq_true q20; have p22 : 0 ≤ (x3_2 : Int) := of_decide_eq_true (by assumption); have q22 : x3_2 < (a0.size : Int) := of_decide_eq_true (by assumption); have hx22 := bt_at a0 x3_2; replace p22 := eq_true p22; replace q22 := eq_true q22; have p24 : 0 ≤ (x3_2 : Int) := of_decide_eq_true (by assumption); have q24 : x3_2 < (a0.size : Int) := of_decide_eq_true (by assumption); have hx24 := bt_at a0 x3_2; replace p24 := eq_true p24; replace q24 := eq_true q24; have p26 : 0 ≤ (x3_2 : Int) := of_decide_eq_true (by assumption); have q26 : x3_2 < (a0.size : Int) := of_decide_eq_true (by assumption); have hx26 := bt_at a0 x3_2; replace p26 := eq_true p26; replace q26 := eq_true q26))
             go_roundg k2
             case measure => have := HJ1.out; have := HK2.out; omega
             case rel => exact ⟨(wrap64 (x3_2 + 1)), (by first | rfl | simp | simp [*]), H', ⟨by have := HJ1.out; have := HK2.out; omega⟩, ⟨by repeat (first | (with_reducible first | exact HB.out | apply zq2 | apply zq0 | apply zq1) | exact HB.out)⟩⟩
       ·rw [if_neg c16] at H
        exact absurd H (by simp)
      ·rw [if_neg c15] at H
       have c15b0 : decide (x3_2 < (a0.size : Int)) = false := decide_eq_false c15
       clear c15
       obtain rfl := Option.some.inj H
       go_wp2
       go_ret
       exact ⟨by first | rfl | simp | simp [*], by repeat (first | (with_reducible first | exact HB.out | apply zq2 | apply zq0 | apply zq1) | exact HB.out)⟩
/-! ### spec_l4Attr: function 127 -/
def spec_l4Attr.f (k : Nat) (a0_0 : ByteArray) (a0_1 : ByteArray) : Option (Bool) := (zq17.f (a0_0.size : Int) 1 60).bind fun t189 => (if t189 = true then (if (a0_1.size : Int) ≤ 3000 then ((zq59.f k a0_0).bind fun t190 => (if t190 = true then ((zq59.f k a0_1).bind fun t191 => (some t191)) else (some false))) else (some false)) else (some false))
theorem spec_l4Attr.mono : ∀ a0 a1 k, LeO (spec_l4Attr.f k a0 a1) (spec_l4Attr.f (k + 1) a0 a1) := by
 intro a0 a1 k
 unfold spec_l4Attr.f
 repeat' first
   | (with_reducible exact zq59.mono _ _)
   | (with_reducible exact LeO.refl _)
   | (with_reducible exact LeO.none _)
   | (with_reducible refine LeO.ite ?_ ?_)
   | (with_reducible refine LeO.bind ?_ (fun _ => ?_))
set_option maxHeartbeats 8000000 in
set_option maxRecDepth 100000 in
theorem spec_l4Attr.calls (k : Nat) (a0_0 : ByteArray) (a0_1 : ByteArray) (r : Bool) (w : World) (h : spec_l4Attr.f k a0_0 a0_1 = some r) :
  Calls Try.prog 127 #[.agg #[.string a0_0, .string a0_1]] w fun e w' => e = .returned (.bool r) ∧ Below w.heap.size w w' := by
 have hu106 := Try.underlying106
 have HB := Aside0.mk (Below.refl w.heap.size w)
 have H : ((zq17.f (a0_0.size : Int) 1 60).bind fun t189 => (if t189 = true then (if (a0_1.size : Int) ≤ 3000 then ((zq59.f k a0_0).bind fun t190 => (if t190 = true then ((zq59.f k a0_1).bind fun t191 => (some t191)) else (some false))) else (some false)) else (some false))) = some r := h
 clear h
 replace H := Option.bind_eq_some_iff.mp H
 obtain ⟨t189, A20, H⟩ := H
 (try dsimp only at H)
 have A2 := Aside0.mk A20
 clear A20
 by_cases c3 : t189 = true
 ·subst c3
  rw [if_pos rfl] at H
  by_cases c4 : (a0_1.size : Int) ≤ 3000
  ·rw [if_pos c4] at H
   have c4b0 : decide ((a0_1.size : Int) ≤ 3000) = true := decide_eq_true c4
   have c4b1 : decide (a0_1.size ≤ 3000) = true := decide_eq_true (by omega)
   clear c4
   replace H := Option.bind_eq_some_iff.mp H
   obtain ⟨t190, A50, H⟩ := H
   (try dsimp only at H)
   have A5 := Aside0.mk A50
   clear A50
   by_cases c6 : t190 = true
   ·subst c6
    rw [if_pos rfl] at H
    replace H := Option.bind_eq_some_iff.mp H
    obtain ⟨t191, A70, H⟩ := H
    (try dsimp only at H)
    have A7 := Aside0.mk A70
    clear A70
    obtain rfl := Option.some.inj H
    go_enter Try.func127, Try.ntmps127
    go_wp2_with (first | ((refine gate_dst (N := 1) rfl ?_); (try (refine gate_guard (by rfl) ?_; dsimp only)); refine box_event ?hg (N := 1) ?hd (cs := #[.string a0_0, .string a0_1]) (t := 106) ?hr ?_; (case hd => rfl); (case hg => rfl); (case hr => first | (go_simp; done) | (go_simp; rfl)); intro gb188 hg w8 hbox hb; have BK188 := Aside0.mk (hbox); have GW188 := Aside0.mk ((by rw [hg]; exact (below_size (by repeat (with_reducible first | exact HB.out | apply zq2 | apply zq0 | apply zq1))) : w.heap.size ≤ gb188)); replace HB := Aside0.mk (zq7 (by repeat (with_reducible first | exact HB.out | apply zq2 | apply zq0 | apply zq1)) hb); have GE188 := GW188; clear hb hbox hg; obtain ⟨hcz9_0, hcz9_1, hfz9_0, hfz9_1⟩ := cells2 BK188.out) | ((refine gate_callee (f := 73) rfl ?_); refine goesL_ (some 6) rfl rfl Try.func73 (by kernel_rfl) rfl #[.int .i64 (a0_0.size : Int), .int .i64 1, .int .i64 60] rfl (by (try simp only [List.map_toArray, List.map_cons, List.map_nil]); first | done | rfl) ?_; (with_reducible refine (zq17.calls (a0_0.size : Int) 1 60 true _ A2.out).mono ?_); rintro e w' ⟨rfl, ⟨nd, rfl⟩⟩; refine ⟨_, rfl, ?_⟩) | (go_at_call 107; (with_reducible refine (zq59.calls k a0_0 true _ A5.out).mono ?_); rintro e w10 ⟨rfl, hb⟩; replace BK188 := Aside0.mk (zq10 (g := gb188) (o := .cells #[.string a0_0, .string a0_1] 106 (0, 0)) (by (with_reducible repeat (first | refine zq4 ?_ _ | refine zq6 ?_ | refine zq5 ?_ _)); exact BK188.out) hb); replace HB := Aside0.mk (zq7 (by repeat (with_reducible first | exact HB.out | apply zq2 | apply zq0 | apply zq1 | refine zq3 ?_ GE188.out)) hb); (try clear hb); obtain ⟨hcz11_0, hcz11_1, hfz11_0, hfz11_1⟩ := cells2 BK188.out) | (go_at_call 107; (with_reducible refine (zq59.calls k a0_1 t191 _ A7.out).mono ?_); rintro e w12 ⟨rfl, hb⟩; replace BK188 := Aside0.mk (zq10 (g := gb188) (o := .cells #[.string a0_0, .string a0_1] 106 (0, 0)) (by (with_reducible repeat (first | refine zq4 ?_ _ | refine zq6 ?_ | refine zq5 ?_ _)); exact BK188.out) hb); replace HB := Aside0.mk (zq7 (by repeat (with_reducible first | exact HB.out | apply zq2 | apply zq0 | apply zq1 | refine zq3 ?_ GE188.out)) hb); (try clear hb)))
    go_ret
    exact ⟨by first | rfl | simp | simp [*], by repeat (first | (with_reducible first | exact HB.out | apply zq2 | apply zq0 | apply zq1 | refine zq3 ?_ GE188.out) | exact HB.out)⟩
   ·replace c6 := Bool.eq_false_iff.mpr c6
    subst c6
    rw [if_neg (show ¬ (false = true) by decide)] at H
    obtain rfl := Option.some.inj H
    go_enter Try.func127, Try.ntmps127
    go_wp2_with (first | ((refine gate_dst (N := 1) rfl ?_); (try (refine gate_guard (by rfl) ?_; dsimp only)); refine box_event ?hg (N := 1) ?hd (cs := #[.string a0_0, .string a0_1]) (t := 106) ?hr ?_; (case hd => rfl); (case hg => rfl); (case hr => first | (go_simp; done) | (go_simp; rfl)); intro gb188 hg w13 hbox hb; have BK188 := Aside0.mk (hbox); have GW188 := Aside0.mk ((by rw [hg]; exact (below_size (by repeat (with_reducible first | exact HB.out | apply zq2 | apply zq0 | apply zq1))) : w.heap.size ≤ gb188)); replace HB := Aside0.mk (zq7 (by repeat (with_reducible first | exact HB.out | apply zq2 | apply zq0 | apply zq1)) hb); have GE188 := GW188; clear hb hbox hg; obtain ⟨hcz14_0, hcz14_1, hfz14_0, hfz14_1⟩ := cells2 BK188.out) | ((refine gate_callee (f := 73) rfl ?_); refine goesL_ (some 6) rfl rfl Try.func73 (by kernel_rfl) rfl #[.int .i64 (a0_0.size : Int), .int .i64 1, .int .i64 60] rfl (by (try simp only [List.map_toArray, List.map_cons, List.map_nil]); first | done | rfl) ?_; (with_reducible refine (zq17.calls (a0_0.size : Int) 1 60 true _ A2.out).mono ?_); rintro e w' ⟨rfl, ⟨nd, rfl⟩⟩; refine ⟨_, rfl, ?_⟩) | (go_at_call 107; (with_reducible refine (zq59.calls k a0_0 false _ A5.out).mono ?_); rintro e w15 ⟨rfl, hb⟩; replace BK188 := Aside0.mk (zq10 (g := gb188) (o := .cells #[.string a0_0, .string a0_1] 106 (0, 0)) (by (with_reducible repeat (first | refine zq4 ?_ _ | refine zq6 ?_ | refine zq5 ?_ _)); exact BK188.out) hb); replace HB := Aside0.mk (zq7 (by repeat (with_reducible first | exact HB.out | apply zq2 | apply zq0 | apply zq1 | refine zq3 ?_ GE188.out)) hb); (try clear hb)))
    go_ret
    exact ⟨by first | rfl | simp | simp [*], by repeat (first | (with_reducible first | exact HB.out | apply zq2 | apply zq0 | apply zq1 | refine zq3 ?_ GE188.out) | exact HB.out)⟩
  ·rw [if_neg c4] at H
   have c4b0 : decide ((a0_1.size : Int) ≤ 3000) = false := decide_eq_false c4
   have c4b1 : decide (a0_1.size ≤ 3000) = false := decide_eq_false (by omega)
   clear c4
   obtain rfl := Option.some.inj H
   go_enter Try.func127, Try.ntmps127
   go_wp2_with (first | ((refine gate_dst (N := 1) rfl ?_); (try (refine gate_guard (by rfl) ?_; dsimp only)); refine box_event ?hg (N := 1) ?hd (cs := #[.string a0_0, .string a0_1]) (t := 106) ?hr ?_; (case hd => rfl); (case hg => rfl); (case hr => first | (go_simp; done) | (go_simp; rfl)); intro gb188 hg w16 hbox hb; have BK188 := Aside0.mk (hbox); have GW188 := Aside0.mk ((by rw [hg]; exact (below_size (by repeat (with_reducible first | exact HB.out | apply zq2 | apply zq0 | apply zq1))) : w.heap.size ≤ gb188)); replace HB := Aside0.mk (zq7 (by repeat (with_reducible first | exact HB.out | apply zq2 | apply zq0 | apply zq1)) hb); have GE188 := GW188; clear hb hbox hg; obtain ⟨hcz17_0, hcz17_1, hfz17_0, hfz17_1⟩ := cells2 BK188.out) | ((refine gate_callee (f := 73) rfl ?_); refine goesL_ (some 6) rfl rfl Try.func73 (by kernel_rfl) rfl #[.int .i64 (a0_0.size : Int), .int .i64 1, .int .i64 60] rfl (by (try simp only [List.map_toArray, List.map_cons, List.map_nil]); first | done | rfl) ?_; (with_reducible refine (zq17.calls (a0_0.size : Int) 1 60 true _ A2.out).mono ?_); rintro e w' ⟨rfl, ⟨nd, rfl⟩⟩; refine ⟨_, rfl, ?_⟩))
   go_ret
   exact ⟨by first | rfl | simp | simp [*], by repeat (first | (with_reducible first | exact HB.out | apply zq2 | apply zq0 | apply zq1 | refine zq3 ?_ GE188.out) | exact HB.out)⟩
 ·replace c3 := Bool.eq_false_iff.mpr c3
  subst c3
  rw [if_neg (show ¬ (false = true) by decide)] at H
  obtain rfl := Option.some.inj H
  go_enter Try.func127, Try.ntmps127
  go_wp2_with (first | ((refine gate_dst (N := 1) rfl ?_); (try (refine gate_guard (by rfl) ?_; dsimp only)); refine box_event ?hg (N := 1) ?hd (cs := #[.string a0_0, .string a0_1]) (t := 106) ?hr ?_; (case hd => rfl); (case hg => rfl); (case hr => first | (go_simp; done) | (go_simp; rfl)); intro gb188 hg w18 hbox hb; have BK188 := Aside0.mk (hbox); have GW188 := Aside0.mk ((by rw [hg]; exact (below_size (by repeat (with_reducible first | exact HB.out | apply zq2 | apply zq0 | apply zq1))) : w.heap.size ≤ gb188)); replace HB := Aside0.mk (zq7 (by repeat (with_reducible first | exact HB.out | apply zq2 | apply zq0 | apply zq1)) hb); have GE188 := GW188; clear hb hbox hg; obtain ⟨hcz19_0, hcz19_1, hfz19_0, hfz19_1⟩ := cells2 BK188.out) | ((refine gate_callee (f := 73) rfl ?_); refine goesL_ (some 6) rfl rfl Try.func73 (by kernel_rfl) rfl #[.int .i64 (a0_0.size : Int), .int .i64 1, .int .i64 60] rfl (by (try simp only [List.map_toArray, List.map_cons, List.map_nil]); first | done | rfl) ?_; (with_reducible refine (zq17.calls (a0_0.size : Int) 1 60 false _ A2.out).mono ?_); rintro e w' ⟨rfl, ⟨nd, rfl⟩⟩; refine ⟨_, rfl, ?_⟩))
  go_ret
  exact ⟨by first | rfl | simp | simp [*], by repeat (first | (with_reducible first | exact HB.out | apply zq2 | apply zq0 | apply zq1 | refine zq3 ?_ GE188.out) | exact HB.out)⟩
/-! ### zq32: function 109 -/
mutual
def zq32.l0 : Nat → List (S106) → Int → Option (Bool)
 | 0, _, _ => none
 | k + 1, x0, x3 => if x3 < (x0.length : Int) then (if 0 ≤ x3 then ((spec_l4Attr.f k ((rd_T106 x0 x3).f0) ((rd_T106 x0 x3).f1)).bind fun t193 => (if t193 = true then (zq32.l1 k x0 x3 0) else (some false))) else (none)) else (some true)
def zq32.l1 : Nat → List (S106) → Int → Int → Option (Bool)
 | 0, _, _, _ => none
 | k + 1, x0, x3, x4 => if x4 < x3 then (if 0 ≤ x4 then (if x4 < (x0.length : Int) then (if 0 ≤ x3 then (if x3 < (x0.length : Int) then (if ((rd_T106 x0 x4).f0).toList = ((rd_T106 x0 x3).f0).toList then (some false) else (zq32.l1 k x0 x3 (wrap64 (x4 + 1)))) else (none)) else (none)) else (none)) else (none)) else (zq32.l0 k x0 (wrap64 (x3 + 1)))
end
def zq32.f (k : Nat) (l0 : List (S106)) : Option (Bool) := if (l0.length : Int) > 20 then (some false) else (zq32.l0 k l0 0)
theorem zq32.mono_l : ∀ k, (∀ y0 y1, LeO (zq32.l0 k y0 y1) (zq32.l0 (k + 1) y0 y1)) ∧ (∀ y0 y1 y2, LeO (zq32.l1 k y0 y1 y2) (zq32.l1 (k + 1) y0 y1 y2))
 | 0 => ⟨fun _ _ r h => by simp [zq32.l0] at h, fun _ _ _ r h => by simp [zq32.l1] at h⟩
 | k + 1 => by
  obtain ⟨ih0, ih1⟩ := zq32.mono_l k
  refine ⟨?_, ?_⟩
  ·intro y0 y1
   unfold zq32.l0
   repeat' first
   | (with_reducible exact ih0 _ _)
   | (with_reducible exact ih1 _ _ _)
   | (with_reducible exact spec_l4Attr.mono _ _ _)
   | (with_reducible exact LeO.refl _)
   | (with_reducible exact LeO.none _)
   | (with_reducible refine LeO.ite ?_ ?_)
   | (with_reducible refine LeO.bind ?_ (fun _ => ?_))
  ·intro y0 y1 y2
   unfold zq32.l1
   repeat' first
   | (with_reducible exact ih0 _ _)
   | (with_reducible exact ih1 _ _ _)
   | (with_reducible exact spec_l4Attr.mono _ _ _)
   | (with_reducible exact LeO.refl _)
   | (with_reducible exact LeO.none _)
   | (with_reducible refine LeO.ite ?_ ?_)
   | (with_reducible refine LeO.bind ?_ (fun _ => ?_))
theorem zq32.mono : ∀ a0 k, LeO (zq32.f k a0) (zq32.f (k + 1) a0) := by
 intro a0 k
 obtain ⟨ih0, ih1⟩ := zq32.mono_l k
 unfold zq32.f
 repeat' first
   | (with_reducible exact ih0 _ _)
   | (with_reducible exact ih1 _ _ _)
   | (with_reducible exact spec_l4Attr.mono _ _ _)
   | (with_reducible exact LeO.refl _)
   | (with_reducible exact LeO.none _)
   | (with_reducible refine LeO.ite ?_ ?_)
   | (with_reducible refine LeO.bind ?_ (fun _ => ?_))
set_option maxHeartbeats 8000000 in
set_option maxRecDepth 100000 in
theorem zq32.calls (k : Nat) (A0 : Option Addr) (c0 : Nat) (l0 : List (S106)) (r : Bool) (w : World) (hr0 : Kd.C k106 w A0 l0.length l0) (hc0 : l0.length ≤ c0) (h : zq32.f k l0 = some r) :
  Calls Try.prog 109 #[.slice A0 l0.length c0] w fun e w' => e = .returned (.bool r) ∧ Below w.heap.size w w' := by
 have hu106 := Try.underlying106
 have HR0 := Aside0.mk hr0
 have HC0 := Aside0.mk hc0
 clear hr0 hc0
 have HB := Aside0.mk (Below.refl w.heap.size w)
 have H : (if (l0.length : Int) > 20 then (some false) else (zq32.l0 k l0 0)) = some r := h
 clear h
 by_cases c2 : (l0.length : Int) > 20
 ·rw [if_pos c2] at H
  have c2b0 : decide (20 < (l0.length : Int)) = true := decide_eq_true c2
  have c2b1 : decide (20 < l0.length) = true := decide_eq_true (by omega)
  clear c2
  obtain rfl := Option.some.inj H
  go_enter Try.func109, Try.ntmps109
  go_wp2
  repeat (go_quiet (fail); try go_wp2)
  go_ret
  exact ⟨by first | rfl | simp | simp [*], by repeat (first | (with_reducible first | exact HB.out | apply zq2 | apply zq0 | apply zq1) | exact HB.out)⟩
 ·rw [if_neg c2] at H
  have c2b0 : decide (20 < (l0.length : Int)) = false := decide_eq_false c2
  have c2b1 : decide (20 < l0.length) = false := decide_eq_false (by omega)
  clear c2
  have H' := Aside0.mk H
  clear H
  go_enter Try.func109, Try.ntmps109
  go_wp2
  repeat (go_quiet (fail); try go_wp2)
  go_loopg [3] k (fun kq v3 w' => ∃ (x3_1 : Int), v3 = .int .i64 x3_1 ∧ Aside0 (zq32.l0 kq l0 x3_1 = some r) ∧ Aside0 (kq ≤ k) ∧ Aside0 (Below w.heap.size w w'))
  case atStart => exact ⟨(0), (by first | rfl | simp | simp [*]), H', ⟨Nat.le_refl _⟩, ⟨by repeat (first | (with_reducible first | exact HB.out | apply zq2 | apply zq0 | apply zq1) | exact HB.out)⟩⟩
  case round =>
   clear H'
   obtain ⟨x3_1, rfl, HA, HK1, HB⟩ := hrel
   cases gk with
   | zero => exact absurd HA.out (by simp [zq32.l0])
   | succ k1 =>
    have H := HA.out
    clear HA
    simp only [zq32.l0] at H
    by_cases c3 : x3_1 < (l0.length : Int)
    ·rw [if_pos c3] at H
     have c3b0 : decide (x3_1 < (l0.length : Int)) = true := decide_eq_true c3
     clear c3
     by_cases c4 : 0 ≤ x3_1
     ·rw [if_pos c4] at H
      have c4b0 : decide (0 ≤ x3_1) = true := decide_eq_true c4
      clear c4
      replace H := Option.bind_eq_some_iff.mp H
      obtain ⟨t193, A50, H⟩ := H
      (try dsimp only at H)
      have A5 := Aside0.mk A50
      clear A50
      by_cases c6 : t193 = true
      ·subst c6
       rw [if_pos rfl] at H
       have H' := Aside0.mk H
       clear H
       have p192 : 0 ≤ (x3_1 : Int) := of_decide_eq_true (by assumption)
       have q192 : x3_1 < (l0.length : Int) := of_decide_eq_true (by assumption)
       obtain ⟨ad192, e192, hx192_0, hx192_1⟩ := at_T106 HR0.out x3_1 p192 q192
       cases e192
       replace hx192_0 := pw_cell_below HB.out hx192_0
       replace hx192_1 := pw_cell_below HB.out hx192_1
       replace p192 := eq_true p192
       replace q192 := eq_true q192
       go_wp2_with (first | (go_at_call 127; (with_reducible refine (spec_l4Attr.calls k1 ((rd_T106 l0 x3_1).f0) ((rd_T106 l0 x3_1).f1) true _ A5.out).mono ?_); rintro e w7 ⟨rfl, hb⟩; replace HB := Aside0.mk (zq7 (by repeat (with_reducible first | exact HB.out | apply zq2 | apply zq0 | apply zq1)) hb); (try clear hb)))
       repeat (go_quiet (fail); try go_wp2_with fail)
       go_loopg [4] k1 (fun kq v4 w' => ∃ (x4_2 : Int), v4 = .int .i64 x4_2 ∧ Aside0 (zq32.l1 kq l0 x3_1 x4_2 = some r) ∧ Aside0 (kq ≤ k1) ∧ Aside0 (Below w.heap.size w w'))
       case atStart => exact ⟨(0), (by first | rfl | simp | simp [*]), H', ⟨Nat.le_refl _⟩, ⟨by repeat (first | (with_reducible first | exact HB.out | apply zq2 | apply zq0 | apply zq1) | exact HB.out)⟩⟩
       case round =>
        clear H'
        obtain ⟨x4_2, rfl, HA, HK2, HB⟩ := hrel
        cases gk with
        | zero => exact absurd HA.out (by simp [zq32.l1])
        | succ k2 =>
         have H := HA.out
         clear HA
         simp only [zq32.l1] at H
         by_cases c8 : x4_2 < x3_1
         ·rw [if_pos c8] at H
          have c8b0 : decide (x4_2 < x3_1) = true := decide_eq_true c8
          clear c8
          by_cases c9 : 0 ≤ x4_2
          ·rw [if_pos c9] at H
           have c9b0 : decide (0 ≤ x4_2) = true := decide_eq_true c9
           clear c9
           by_cases c10 : x4_2 < (l0.length : Int)
           ·rw [if_pos c10] at H
            have c10b0 : decide (x4_2 < (l0.length : Int)) = true := decide_eq_true c10
            clear c10
            by_cases c11 : 0 ≤ x3_1
            ·rw [if_pos c11] at H
             have c11b0 : decide (0 ≤ x3_1) = true := decide_eq_true c11
             clear c11
             by_cases c12 : x3_1 < (l0.length : Int)
             ·rw [if_pos c12] at H
              have c12b0 : decide (x3_1 < (l0.length : Int)) = true := decide_eq_true c12
              clear c12
              by_cases c13 : ((rd_T106 l0 x4_2).f0).toList = ((rd_T106 l0 x3_1).f0).toList
              ·rw [if_pos c13] at H
               have c13b0 := beq_iff_eq.mpr c13
               have c13b1 := bne_eq_false_iff_eq.mpr c13
               clear c13
               obtain rfl := Option.some.inj H
               have p194 : 0 ≤ (x4_2 : Int) := of_decide_eq_true (by assumption)
               have q194 : x4_2 < (l0.length : Int) := of_decide_eq_true (by assumption)
               obtain ⟨ad194, e194, hx194_0, hx194_1⟩ := at_T106 HR0.out x4_2 p194 q194
               obtain rfl : ad192 = ad194 := (by injection e194)
               replace hx194_0 := pw_cell_below HB.out hx194_0
               replace hx194_1 := pw_cell_below HB.out hx194_1
               replace p194 := eq_true p194
               replace q194 := eq_true q194
               have p195 : 0 ≤ (x3_1 : Int) := of_decide_eq_true (by assumption)
               have q195 : x3_1 < (l0.length : Int) := of_decide_eq_true (by assumption)
               obtain ⟨ad195, e195, hx195_0, hx195_1⟩ := at_T106 HR0.out x3_1 p195 q195
               obtain rfl : ad192 = ad195 := (by injection e195)
               replace hx195_0 := pw_cell_below HB.out hx195_0
               replace hx195_1 := pw_cell_below HB.out hx195_1
               replace p195 := eq_true p195
               replace q195 := eq_true q195
               go_wp2
               repeat (go_quiet (fail); try go_wp2)
               go_ret
               exact ⟨by first | rfl | simp | simp [*], by repeat (first | (with_reducible first | exact HB.out | apply zq2 | apply zq0 | apply zq1) | exact HB.out)⟩
              ·rw [if_neg c13] at H
               have c13b0 := beq_eq_false_iff_ne.mpr c13
               have c13b1 := bne_iff_ne.mpr c13
               have H' := Aside0.mk H
               clear H
               have p194 : 0 ≤ (x4_2 : Int) := of_decide_eq_true (by assumption)
               have q194 : x4_2 < (l0.length : Int) := of_decide_eq_true (by assumption)
               obtain ⟨ad194, e194, hx194_0, hx194_1⟩ := at_T106 HR0.out x4_2 p194 q194
               obtain rfl : ad192 = ad194 := (by injection e194)
               replace hx194_0 := pw_cell_below HB.out hx194_0
               replace hx194_1 := pw_cell_below HB.out hx194_1
               replace p194 := eq_true p194
               replace q194 := eq_true q194
               have p195 : 0 ≤ (x3_1 : Int) := of_decide_eq_true (by assumption)
               have q195 : x3_1 < (l0.length : Int) := of_decide_eq_true (by assumption)
               obtain ⟨ad195, e195, hx195_0, hx195_1⟩ := at_T106 HR0.out x3_1 p195 q195
               obtain rfl : ad192 = ad195 := (by injection e195)
               replace hx195_0 := pw_cell_below HB.out hx195_0
               replace hx195_1 := pw_cell_below HB.out hx195_1
               replace p195 := eq_true p195
               replace q195 := eq_true q195
               go_wp2
               repeat (go_quiet (fail); try go_wp2)
               go_roundg k2
               case measure => have := HK1.out; have := HK2.out; omega
               case rel => exact ⟨(wrap64 (x4_2 + 1)), (by first | rfl | simp | simp [*]), H', ⟨by have := HK1.out; have := HK2.out; omega⟩, ⟨by repeat (first | (with_reducible first | exact HB.out | apply zq2 | apply zq0 | apply zq1) | exact HB.out)⟩⟩
             ·rw [if_neg c12] at H
              exact absurd H (by simp)
            ·rw [if_neg c11] at H
             exact absurd H (by simp)
           ·rw [if_neg c10] at H
            exact absurd H (by simp)
          ·rw [if_neg c9] at H
           exact absurd H (by simp)
         ·rw [if_neg c8] at H
          have c8b0 : decide (x4_2 < x3_1) = false := decide_eq_false c8
          clear c8
          have H' := Aside0.mk H
          clear H
          go_wp2
          repeat (go_quiet (fail); try go_wp2)
          go_roundg k2
          case measure => have := HK1.out; have := HK2.out; omega
          case rel => exact ⟨(wrap64 (x3_1 + 1)), (by first | rfl | simp | simp [*]), H', ⟨by have := HK1.out; have := HK2.out; omega⟩, ⟨by repeat (first | (with_reducible first | exact HB.out | apply zq2 | apply zq0 | apply zq1) | exact HB.out)⟩⟩
      ·replace c6 := Bool.eq_false_iff.mpr c6
       subst c6
       rw [if_neg (show ¬ (false = true) by decide)] at H
       obtain rfl := Option.some.inj H
       have p192 : 0 ≤ (x3_1 : Int) := of_decide_eq_true (by assumption)
       have q192 : x3_1 < (l0.length : Int) := of_decide_eq_true (by assumption)
       obtain ⟨ad192, e192, hx192_0, hx192_1⟩ := at_T106 HR0.out x3_1 p192 q192
       cases e192
       replace hx192_0 := pw_cell_below HB.out hx192_0
       replace hx192_1 := pw_cell_below HB.out hx192_1
       replace p192 := eq_true p192
       replace q192 := eq_true q192
       go_wp2_with (first | (go_at_call 127; (with_reducible refine (spec_l4Attr.calls k1 ((rd_T106 l0 x3_1).f0) ((rd_T106 l0 x3_1).f1) false _ A5.out).mono ?_); rintro e w14 ⟨rfl, hb⟩; replace HB := Aside0.mk (zq7 (by repeat (with_reducible first | exact HB.out | apply zq2 | apply zq0 | apply zq1)) hb); (try clear hb)))
       repeat (go_quiet (fail); try go_wp2_with fail)
       go_ret
       exact ⟨by first | rfl | simp | simp [*], by repeat (first | (with_reducible first | exact HB.out | apply zq2 | apply zq0 | apply zq1) | exact HB.out)⟩
     ·rw [if_neg c4] at H
      exact absurd H (by simp)
    ·rw [if_neg c3] at H
     have c3b0 : decide (x3_1 < (l0.length : Int)) = false := decide_eq_false c3
     clear c3
     obtain rfl := Option.some.inj H
     go_wp2
     repeat (go_quiet (fail); try go_wp2)
     go_ret
     exact ⟨by first | rfl | simp | simp [*], by repeat (first | (with_reducible first | exact HB.out | apply zq2 | apply zq0 | apply zq1) | exact HB.out)⟩
/-! ### zq41: function 85 -/
def zq41.j0 : Nat → Bool → Int → ByteArray → List (S106) → ByteArray → Int → List Int → Option (Bool)
 | 0, _, _, _, _, _, _, _ => none
 | k + 1, x3, x197000, x197001, x197002, x197003, x197004, x197005 => if x197000 = 1 then (if x3 = true then (some ((x197002.length : Int) == 0)) else (some false)) else (if x197000 = 2 then (if x197003.toList = ([] : List UInt8) then (if (x197002.length : Int) = 0 then (if (x197001.size : Int) ≤ 60 then ((zq59.f k x197001).bind fun t197 => (if t197 = true then (some ((x197005.length : Int) == 0)) else (some false))) else (some false)) else (some false)) else (some false)) else (if x197000 = 3 then (if x197003.toList = ([] : List UInt8) then ((zq30.f k x197001).bind fun t198 => (if t198 = true then ((zq32.f k x197002).bind fun t199 => (some t199)) else (some false))) else (some false)) else (if x197000 = 4 then (if x197001.toList = ([] : List UInt8) then (if (x197002.length : Int) = 0 then (if x197003.toList = ([] : List UInt8) then (some false) else ((zq59.f k x197003).bind fun t200 => (if t200 = true then (some ((x197005.length : Int) == 0)) else (some false)))) else (some false)) else (some false)) else (if x197000 = 5 then (if x197001.toList = ([] : List UInt8) then (if (x197002.length : Int) = 0 then ((zq59.f k x197003).bind fun t201 => (if t201 = true then (some ((x197005.length : Int) == 0)) else (some false))) else (some false)) else (some false)) else (some false)))))
def zq41.f (k : Nat) (a0_0 : Int) (a0_1 : ByteArray) (l0_2 : List (S106)) (a0_3 : ByteArray) (a0_4 : Int) (l0_5 : List Int) : Option (Bool) := if a0_1.toList = ([] : List UInt8) then (zq41.j0 k (a0_3.toList == ([] : List UInt8)) a0_0 a0_1 l0_2 a0_3 a0_4 l0_5) else (zq41.j0 k false a0_0 a0_1 l0_2 a0_3 a0_4 l0_5)
theorem zq41.mono_l : ∀ k, (∀ y0 y1 y2 y3 y4 y5 y6, LeO (zq41.j0 k y0 y1 y2 y3 y4 y5 y6) (zq41.j0 (k + 1) y0 y1 y2 y3 y4 y5 y6))
 | 0 => fun _ _ _ _ _ _ _ r h => by simp [zq41.j0] at h
 | k + 1 => by
  have ih0 := zq41.mono_l k
  ·intro y0 y1 y2 y3 y4 y5 y6
   unfold zq41.j0
   repeat' first
   | (with_reducible exact ih0 _ _ _ _ _ _ _)
   | (with_reducible exact zq32.mono _ _)
   | (with_reducible exact zq30.mono _ _)
   | (with_reducible exact zq59.mono _ _)
   | (with_reducible exact LeO.refl _)
   | (with_reducible exact LeO.none _)
   | (with_reducible refine LeO.ite ?_ ?_)
   | (with_reducible refine LeO.bind ?_ (fun _ => ?_))
theorem zq41.mono : ∀ a0 a1 a2 a3 a4 a5 k, LeO (zq41.f k a0 a1 a2 a3 a4 a5) (zq41.f (k + 1) a0 a1 a2 a3 a4 a5) := by
 intro a0 a1 a2 a3 a4 a5 k
 have ih0 := zq41.mono_l k
 unfold zq41.f
 repeat' first
   | (with_reducible exact ih0 _ _ _ _ _ _ _)
   | (with_reducible exact zq32.mono _ _)
   | (with_reducible exact zq30.mono _ _)
   | (with_reducible exact zq59.mono _ _)
   | (with_reducible exact LeO.refl _)
   | (with_reducible exact LeO.none _)
   | (with_reducible refine LeO.ite ?_ ?_)
   | (with_reducible refine LeO.bind ?_ (fun _ => ?_))
set_option maxHeartbeats 8000000 in
set_option maxRecDepth 100000 in
theorem zq41.calls (k : Nat) (a0_0 : Int) (a0_1 : ByteArray) (A0_2 : Option Addr) (c0_2 : Nat) (l0_2 : List (S106)) (a0_3 : ByteArray) (a0_4 : Int) (A0_5 : Option Addr) (c0_5 : Nat) (l0_5 : List Int) (r : Bool) (w : World) (hr0_2 : Kd.C k106 w A0_2 l0_2.length l0_2) (hc0_2 : l0_2.length ≤ c0_2) (hr0_5 : Kd.C (Kd.int .i64) w A0_5 l0_5.length l0_5) (hc0_5 : l0_5.length ≤ c0_5) (h : zq41.f k a0_0 a0_1 l0_2 a0_3 a0_4 l0_5 = some r) :
  Calls Try.prog 85 #[.agg #[.int .i64 a0_0, .string a0_1, .slice A0_2 l0_2.length c0_2, .string a0_3, .int .i64 a0_4, .slice A0_5 l0_5.length c0_5]] w fun e w' => e = .returned (.bool r) ∧ Below w.heap.size w w' := by
 have hu64 := Try.underlying64
 have HR0_2 := Aside0.mk hr0_2
 have HC0_2 := Aside0.mk hc0_2
 clear hr0_2 hc0_2
 have HR0_5 := Aside0.mk hr0_5
 have HC0_5 := Aside0.mk hc0_5
 clear hr0_5 hc0_5
 have HB := Aside0.mk (Below.refl w.heap.size w)
 have H : (if a0_1.toList = ([] : List UInt8) then (zq41.j0 k (a0_3.toList == ([] : List UInt8)) a0_0 a0_1 l0_2 a0_3 a0_4 l0_5) else (zq41.j0 k false a0_0 a0_1 l0_2 a0_3 a0_4 l0_5)) = some r := h
 clear h
 have HC2 := Aside0.mk H
 clear H
 go_enter Try.func85, Try.ntmps85
 go_upto_region 1 with (first | ((refine gate_dst (N := 1) rfl ?_); (try (refine gate_guard (by rfl) ?_; dsimp only)); refine box_event ?hg (N := 1) ?hd (cs := #[.int .i64 a0_0, .string a0_1, .slice A0_2 l0_2.length c0_2, .string a0_3, .int .i64 a0_4, .slice A0_5 l0_5.length c0_5]) (t := 64) ?hr ?_; (case hd => rfl); (case hg => rfl); (case hr => first | (go_simp; done) | (go_simp; rfl)); intro gb196 hg w3 hbox hb; have BK196 := Aside0.mk (hbox); have GW196 := Aside0.mk ((by rw [hg]; exact (below_size (by repeat (with_reducible first | exact HB.out | apply zq2 | apply zq0 | apply zq1))) : w.heap.size ≤ gb196)); replace HB := Aside0.mk (zq7 (by repeat (with_reducible first | exact HB.out | apply zq2 | apply zq0 | apply zq1)) hb); have GE196 := GW196; clear hb hbox hg))
 (try simp only [Act.put, List.setIfInBounds_toArray, List.set_cons_zero, List.set_cons_succ])
 go_cut [3] (fun v3 wc => ∃ (kq : Nat) (x3_1 : Bool), v3 = .bool x3_1 ∧ Aside0 (zq41.j0 kq x3_1 a0_0 a0_1 l0_2 a0_3 a0_4 l0_5 = some r) ∧ Aside0 (kq ≤ k) ∧ Aside0 (wc.heap[gb196]? = some (.cells #[.int .i64 a0_0, .string a0_1, (.slice A0_2 l0_2.length c0_2), .string a0_3, .int .i64 a0_4, (.slice A0_5 l0_5.length c0_5)] 64 (0, 0))) ∧ Aside0 (Below w.heap.size w wc))
 case first =>
  have H := HC2.out
  clear HC2
  by_cases c4 : a0_1.toList = ([] : List UInt8)
  ·rw [if_pos c4] at H
   have c4b0 := beq_iff_eq.mpr c4
   have c4b1 := bne_eq_false_iff_eq.mpr c4
   clear c4
   (first | rw [c4b0] | (simp only [i64_w, i32_w]; rw [c4b0]) | skip)
   have H' := Aside0.mk H
   clear H
   obtain ⟨hcz5_0, hcz5_1, hcz5_2, hcz5_3, hcz5_4, hcz5_5, hfz5_0, hfz5_1, hfz5_2, hfz5_3, hfz5_4, hfz5_5⟩ := cells6 BK196.out
   go_wp2
   go_meet
   case rel => exact ⟨_, ((a0_3.toList == ([] : List UInt8))), (by first | rfl | simp | simp [*]), H', ⟨by first | omega | exact Nat.le_refl _⟩, ⟨by (with_reducible repeat (first | refine zq4 ?_ _ | refine zq6 ?_ | refine zq5 ?_ _)); exact BK196.out⟩, ⟨by repeat (first | (with_reducible first | exact HB.out | apply zq2 | apply zq0 | apply zq1 | refine zq3 ?_ GE196.out) | exact HB.out)⟩⟩
  ·rw [if_neg c4] at H
   have c4b0 := beq_eq_false_iff_ne.mpr c4
   have c4b1 := bne_iff_ne.mpr c4
   (first | rw [c4b0] | (simp only [i64_w, i32_w]; rw [c4b0]) | skip)
   have H' := Aside0.mk H
   clear H
   obtain ⟨hcz6_0, hcz6_1, hcz6_2, hcz6_3, hcz6_4, hcz6_5, hfz6_0, hfz6_1, hfz6_2, hfz6_3, hfz6_4, hfz6_5⟩ := cells6 BK196.out
   go_wp2
   go_meet
   case rel => exact ⟨_, (false), (by first | rfl | simp | simp [*]), H', ⟨by first | omega | exact Nat.le_refl _⟩, ⟨by (with_reducible repeat (first | refine zq4 ?_ _ | refine zq6 ?_ | refine zq5 ?_ _)); exact BK196.out⟩, ⟨by repeat (first | (with_reducible first | exact HB.out | apply zq2 | apply zq0 | apply zq1 | refine zq3 ?_ GE196.out) | exact HB.out)⟩⟩
 case rest =>
  clear HC2
  obtain ⟨kq, x3_1, rfl, HA, HJ1, BK196, HB⟩ := hcut
  cases kq with
  | zero => exact absurd HA.out (by simp [zq41.j0])
  | succ kj1 =>
   have H := HA.out
   clear HA
   simp only [zq41.j0] at H
   by_cases c7 : a0_0 = 1
   ·rw [if_pos c7] at H
    have c7b0 := beq_iff_eq.mpr c7
    have c7b1 := bne_eq_false_iff_eq.mpr c7
    clear c7
    by_cases c8 : x3_1 = true
    ·subst c8
     rw [if_pos rfl] at H
     obtain rfl := Option.some.inj H
     obtain ⟨hcz9_0, hcz9_1, hcz9_2, hcz9_3, hcz9_4, hcz9_5, hfz9_0, hfz9_1, hfz9_2, hfz9_3, hfz9_4, hfz9_5⟩ := cells6 BK196.out
     go_wp2
     go_ret
     exact ⟨by first | rfl | simp | simp [*], by repeat (first | (with_reducible first | exact HB.out | apply zq2 | apply zq0 | apply zq1 | refine zq3 ?_ GE196.out) | exact HB.out)⟩
    ·replace c8 := Bool.eq_false_iff.mpr c8
     subst c8
     rw [if_neg (show ¬ (false = true) by decide)] at H
     obtain rfl := Option.some.inj H
     obtain ⟨hcz10_0, hcz10_1, hcz10_2, hcz10_3, hcz10_4, hcz10_5, hfz10_0, hfz10_1, hfz10_2, hfz10_3, hfz10_4, hfz10_5⟩ := cells6 BK196.out
     go_wp2
     go_ret
     exact ⟨by first | rfl | simp | simp [*], by repeat (first | (with_reducible first | exact HB.out | apply zq2 | apply zq0 | apply zq1 | refine zq3 ?_ GE196.out) | exact HB.out)⟩
   ·rw [if_neg c7] at H
    have c7b0 := beq_eq_false_iff_ne.mpr c7
    have c7b1 := bne_iff_ne.mpr c7
    by_cases c11 : a0_0 = 2
    ·rw [if_pos c11] at H
     have c11b0 := beq_iff_eq.mpr c11
     have c11b1 := bne_eq_false_iff_eq.mpr c11
     clear c11
     by_cases c12 : a0_3.toList = ([] : List UInt8)
     ·rw [if_pos c12] at H
      have c12b0 := beq_iff_eq.mpr c12
      have c12b1 := bne_eq_false_iff_eq.mpr c12
      clear c12
      by_cases c13 : (l0_2.length : Int) = 0
      ·rw [if_pos c13] at H
       have c13b0 := beq_iff_eq.mpr c13
       have c13b1 := bne_eq_false_iff_eq.mpr c13
       clear c13
       by_cases c14 : (a0_1.size : Int) ≤ 60
       ·rw [if_pos c14] at H
        have c14b0 : decide ((a0_1.size : Int) ≤ 60) = true := decide_eq_true c14
        have c14b1 : decide (a0_1.size ≤ 60) = true := decide_eq_true (by omega)
        clear c14
        replace H := Option.bind_eq_some_iff.mp H
        obtain ⟨t197, A150, H⟩ := H
        (try dsimp only at H)
        have A15 := Aside0.mk A150
        clear A150
        by_cases c16 : t197 = true
        ·subst c16
         rw [if_pos rfl] at H
         obtain rfl := Option.some.inj H
         obtain ⟨hcz17_0, hcz17_1, hcz17_2, hcz17_3, hcz17_4, hcz17_5, hfz17_0, hfz17_1, hfz17_2, hfz17_3, hfz17_4, hfz17_5⟩ := cells6 BK196.out
         go_wp2_with (first | (go_at_call 107; (with_reducible refine (zq59.calls kj1 a0_1 true _ A15.out).mono ?_); rintro e w18 ⟨rfl, hb⟩; replace BK196 := Aside0.mk (zq10 (g := gb196) (o := .cells #[.int .i64 a0_0, .string a0_1, .slice A0_2 l0_2.length c0_2, .string a0_3, .int .i64 a0_4, .slice A0_5 l0_5.length c0_5] 64 (0, 0)) (by (with_reducible repeat (first | refine zq4 ?_ _ | refine zq6 ?_ | refine zq5 ?_ _)); exact BK196.out) hb); replace HB := Aside0.mk (zq7 (by repeat (with_reducible first | exact HB.out | apply zq2 | apply zq0 | apply zq1 | refine zq3 ?_ GE196.out)) hb); (try clear hb); obtain ⟨hcz19_0, hcz19_1, hcz19_2, hcz19_3, hcz19_4, hcz19_5, hfz19_0, hfz19_1, hfz19_2, hfz19_3, hfz19_4, hfz19_5⟩ := cells6 BK196.out))
         go_ret
         exact ⟨by first | rfl | simp | simp [*], by repeat (first | (with_reducible first | exact HB.out | apply zq2 | apply zq0 | apply zq1 | refine zq3 ?_ GE196.out) | exact HB.out)⟩
        ·replace c16 := Bool.eq_false_iff.mpr c16
         subst c16
         rw [if_neg (show ¬ (false = true) by decide)] at H
         obtain rfl := Option.some.inj H
         obtain ⟨hcz20_0, hcz20_1, hcz20_2, hcz20_3, hcz20_4, hcz20_5, hfz20_0, hfz20_1, hfz20_2, hfz20_3, hfz20_4, hfz20_5⟩ := cells6 BK196.out
         go_wp2_with (first | (go_at_call 107; (with_reducible refine (zq59.calls kj1 a0_1 false _ A15.out).mono ?_); rintro e w21 ⟨rfl, hb⟩; replace BK196 := Aside0.mk (zq10 (g := gb196) (o := .cells #[.int .i64 a0_0, .string a0_1, .slice A0_2 l0_2.length c0_2, .string a0_3, .int .i64 a0_4, .slice A0_5 l0_5.length c0_5] 64 (0, 0)) (by (with_reducible repeat (first | refine zq4 ?_ _ | refine zq6 ?_ | refine zq5 ?_ _)); exact BK196.out) hb); replace HB := Aside0.mk (zq7 (by repeat (with_reducible first | exact HB.out | apply zq2 | apply zq0 | apply zq1 | refine zq3 ?_ GE196.out)) hb); (try clear hb)))
         go_ret
         exact ⟨by first | rfl | simp | simp [*], by repeat (first | (with_reducible first | exact HB.out | apply zq2 | apply zq0 | apply zq1 | refine zq3 ?_ GE196.out) | exact HB.out)⟩
       ·rw [if_neg c14] at H
        have c14b0 : decide ((a0_1.size : Int) ≤ 60) = false := decide_eq_false c14
        have c14b1 : decide (a0_1.size ≤ 60) = false := decide_eq_false (by omega)
        clear c14
        obtain rfl := Option.some.inj H
        obtain ⟨hcz22_0, hcz22_1, hcz22_2, hcz22_3, hcz22_4, hcz22_5, hfz22_0, hfz22_1, hfz22_2, hfz22_3, hfz22_4, hfz22_5⟩ := cells6 BK196.out
        go_wp2
        go_ret
        exact ⟨by first | rfl | simp | simp [*], by repeat (first | (with_reducible first | exact HB.out | apply zq2 | apply zq0 | apply zq1 | refine zq3 ?_ GE196.out) | exact HB.out)⟩
      ·rw [if_neg c13] at H
       have c13b0 := beq_eq_false_iff_ne.mpr c13
       have c13b1 := bne_iff_ne.mpr c13
       have c13b2 : ¬ (l0_2 = []) := fun h_ => c13 (by rw [h_]; rfl)
       obtain rfl := Option.some.inj H
       obtain ⟨hcz23_0, hcz23_1, hcz23_2, hcz23_3, hcz23_4, hcz23_5, hfz23_0, hfz23_1, hfz23_2, hfz23_3, hfz23_4, hfz23_5⟩ := cells6 BK196.out
       go_wp2
       go_ret
       exact ⟨by first | rfl | simp | simp [*], by repeat (first | (with_reducible first | exact HB.out | apply zq2 | apply zq0 | apply zq1 | refine zq3 ?_ GE196.out) | exact HB.out)⟩
     ·rw [if_neg c12] at H
      have c12b0 := beq_eq_false_iff_ne.mpr c12
      have c12b1 := bne_iff_ne.mpr c12
      obtain rfl := Option.some.inj H
      obtain ⟨hcz24_0, hcz24_1, hcz24_2, hcz24_3, hcz24_4, hcz24_5, hfz24_0, hfz24_1, hfz24_2, hfz24_3, hfz24_4, hfz24_5⟩ := cells6 BK196.out
      go_wp2
      go_ret
      exact ⟨by first | rfl | simp | simp [*], by repeat (first | (with_reducible first | exact HB.out | apply zq2 | apply zq0 | apply zq1 | refine zq3 ?_ GE196.out) | exact HB.out)⟩
    ·rw [if_neg c11] at H
     have c11b0 := beq_eq_false_iff_ne.mpr c11
     have c11b1 := bne_iff_ne.mpr c11
     by_cases c25 : a0_0 = 3
     ·rw [if_pos c25] at H
      have c25b0 := beq_iff_eq.mpr c25
      have c25b1 := bne_eq_false_iff_eq.mpr c25
      clear c25
      by_cases c26 : a0_3.toList = ([] : List UInt8)
      ·rw [if_pos c26] at H
       have c26b0 := beq_iff_eq.mpr c26
       have c26b1 := bne_eq_false_iff_eq.mpr c26
       clear c26
       replace H := Option.bind_eq_some_iff.mp H
       obtain ⟨t198, A270, H⟩ := H
       (try dsimp only at H)
       have A27 := Aside0.mk A270
       clear A270
       by_cases c28 : t198 = true
       ·subst c28
        rw [if_pos rfl] at H
        replace H := Option.bind_eq_some_iff.mp H
        obtain ⟨t199, A290, H⟩ := H
        (try dsimp only at H)
        have A29 := Aside0.mk A290
        clear A290
        obtain rfl := Option.some.inj H
        obtain ⟨hcz30_0, hcz30_1, hcz30_2, hcz30_3, hcz30_4, hcz30_5, hfz30_0, hfz30_1, hfz30_2, hfz30_3, hfz30_4, hfz30_5⟩ := cells6 BK196.out
        go_wp2_with (first | (go_at_call 108; (with_reducible refine (zq30.calls kj1 a0_1 true _ A27.out).mono ?_); rintro e w31 ⟨rfl, hb⟩; replace BK196 := Aside0.mk (zq10 (g := gb196) (o := .cells #[.int .i64 a0_0, .string a0_1, .slice A0_2 l0_2.length c0_2, .string a0_3, .int .i64 a0_4, .slice A0_5 l0_5.length c0_5] 64 (0, 0)) (by (with_reducible repeat (first | refine zq4 ?_ _ | refine zq6 ?_ | refine zq5 ?_ _)); exact BK196.out) hb); replace HB := Aside0.mk (zq7 (by repeat (with_reducible first | exact HB.out | apply zq2 | apply zq0 | apply zq1 | refine zq3 ?_ GE196.out)) hb); (try clear hb); obtain ⟨hcz32_0, hcz32_1, hcz32_2, hcz32_3, hcz32_4, hcz32_5, hfz32_0, hfz32_1, hfz32_2, hfz32_3, hfz32_4, hfz32_5⟩ := cells6 BK196.out) | (go_at_call 109; (with_reducible refine (zq32.calls kj1 _ _ l0_2 t199 _ ?side1 ?side2 A29.out).mono ?_); (case side1 => repeat (first | exact (Kd.C_below HR0_2.out HB.out) | (with_reducible refine Kd.C_alloc ?_ _) | (with_reducible refine Kd.C_drewN ?_ _) | (with_reducible refine Kd.C_drew ?_))); (case side2 => exact HC0_2.out); rintro e w33 ⟨rfl, hb⟩; replace BK196 := Aside0.mk (zq10 (g := gb196) (o := .cells #[.int .i64 a0_0, .string a0_1, .slice A0_2 l0_2.length c0_2, .string a0_3, .int .i64 a0_4, .slice A0_5 l0_5.length c0_5] 64 (0, 0)) (by (with_reducible repeat (first | refine zq4 ?_ _ | refine zq6 ?_ | refine zq5 ?_ _)); exact BK196.out) hb); replace HB := Aside0.mk (zq7 (by repeat (with_reducible first | exact HB.out | apply zq2 | apply zq0 | apply zq1 | refine zq3 ?_ GE196.out)) hb); (try clear hb)))
        go_ret
        exact ⟨by first | rfl | simp | simp [*], by repeat (first | (with_reducible first | exact HB.out | apply zq2 | apply zq0 | apply zq1 | refine zq3 ?_ GE196.out) | exact HB.out)⟩
       ·replace c28 := Bool.eq_false_iff.mpr c28
        subst c28
        rw [if_neg (show ¬ (false = true) by decide)] at H
        obtain rfl := Option.some.inj H
        obtain ⟨hcz34_0, hcz34_1, hcz34_2, hcz34_3, hcz34_4, hcz34_5, hfz34_0, hfz34_1, hfz34_2, hfz34_3, hfz34_4, hfz34_5⟩ := cells6 BK196.out
        go_wp2_with (first | (go_at_call 108; (with_reducible refine (zq30.calls kj1 a0_1 false _ A27.out).mono ?_); rintro e w35 ⟨rfl, hb⟩; replace BK196 := Aside0.mk (zq10 (g := gb196) (o := .cells #[.int .i64 a0_0, .string a0_1, .slice A0_2 l0_2.length c0_2, .string a0_3, .int .i64 a0_4, .slice A0_5 l0_5.length c0_5] 64 (0, 0)) (by (with_reducible repeat (first | refine zq4 ?_ _ | refine zq6 ?_ | refine zq5 ?_ _)); exact BK196.out) hb); replace HB := Aside0.mk (zq7 (by repeat (with_reducible first | exact HB.out | apply zq2 | apply zq0 | apply zq1 | refine zq3 ?_ GE196.out)) hb); (try clear hb)))
        go_ret
        exact ⟨by first | rfl | simp | simp [*], by repeat (first | (with_reducible first | exact HB.out | apply zq2 | apply zq0 | apply zq1 | refine zq3 ?_ GE196.out) | exact HB.out)⟩
      ·rw [if_neg c26] at H
       have c26b0 := beq_eq_false_iff_ne.mpr c26
       have c26b1 := bne_iff_ne.mpr c26
       obtain rfl := Option.some.inj H
       obtain ⟨hcz36_0, hcz36_1, hcz36_2, hcz36_3, hcz36_4, hcz36_5, hfz36_0, hfz36_1, hfz36_2, hfz36_3, hfz36_4, hfz36_5⟩ := cells6 BK196.out
       go_wp2
       go_ret
       exact ⟨by first | rfl | simp | simp [*], by repeat (first | (with_reducible first | exact HB.out | apply zq2 | apply zq0 | apply zq1 | refine zq3 ?_ GE196.out) | exact HB.out)⟩
     ·rw [if_neg c25] at H
      have c25b0 := beq_eq_false_iff_ne.mpr c25
      have c25b1 := bne_iff_ne.mpr c25
      by_cases c37 : a0_0 = 4
      ·rw [if_pos c37] at H
       have c37b0 := beq_iff_eq.mpr c37
       have c37b1 := bne_eq_false_iff_eq.mpr c37
       clear c37
       by_cases c38 : a0_1.toList = ([] : List UInt8)
       ·rw [if_pos c38] at H
        have c38b0 := beq_iff_eq.mpr c38
        have c38b1 := bne_eq_false_iff_eq.mpr c38
        clear c38
        by_cases c39 : (l0_2.length : Int) = 0
        ·rw [if_pos c39] at H
         have c39b0 := beq_iff_eq.mpr c39
         have c39b1 := bne_eq_false_iff_eq.mpr c39
         clear c39
         by_cases c40 : a0_3.toList = ([] : List UInt8)
         ·rw [if_pos c40] at H
          have c40b0 := beq_iff_eq.mpr c40
          have c40b1 := bne_eq_false_iff_eq.mpr c40
          clear c40
          obtain rfl := Option.some.inj H
          obtain ⟨hcz41_0, hcz41_1, hcz41_2, hcz41_3, hcz41_4, hcz41_5, hfz41_0, hfz41_1, hfz41_2, hfz41_3, hfz41_4, hfz41_5⟩ := cells6 BK196.out
          go_wp2
          go_ret
          exact ⟨by first | rfl | simp | simp [*], by repeat (first | (with_reducible first | exact HB.out | apply zq2 | apply zq0 | apply zq1 | refine zq3 ?_ GE196.out) | exact HB.out)⟩
         ·rw [if_neg c40] at H
          have c40b0 := beq_eq_false_iff_ne.mpr c40
          have c40b1 := bne_iff_ne.mpr c40
          replace H := Option.bind_eq_some_iff.mp H
          obtain ⟨t200, A420, H⟩ := H
          (try dsimp only at H)
          have A42 := Aside0.mk A420
          clear A420
          by_cases c43 : t200 = true
          ·subst c43
           rw [if_pos rfl] at H
           obtain rfl := Option.some.inj H
           obtain ⟨hcz44_0, hcz44_1, hcz44_2, hcz44_3, hcz44_4, hcz44_5, hfz44_0, hfz44_1, hfz44_2, hfz44_3, hfz44_4, hfz44_5⟩ := cells6 BK196.out
           go_wp2_with (first | (go_at_call 107; (with_reducible refine (zq59.calls kj1 a0_3 true _ A42.out).mono ?_); rintro e w45 ⟨rfl, hb⟩; replace BK196 := Aside0.mk (zq10 (g := gb196) (o := .cells #[.int .i64 a0_0, .string a0_1, .slice A0_2 l0_2.length c0_2, .string a0_3, .int .i64 a0_4, .slice A0_5 l0_5.length c0_5] 64 (0, 0)) (by (with_reducible repeat (first | refine zq4 ?_ _ | refine zq6 ?_ | refine zq5 ?_ _)); exact BK196.out) hb); replace HB := Aside0.mk (zq7 (by repeat (with_reducible first | exact HB.out | apply zq2 | apply zq0 | apply zq1 | refine zq3 ?_ GE196.out)) hb); (try clear hb); obtain ⟨hcz46_0, hcz46_1, hcz46_2, hcz46_3, hcz46_4, hcz46_5, hfz46_0, hfz46_1, hfz46_2, hfz46_3, hfz46_4, hfz46_5⟩ := cells6 BK196.out))
           go_ret
           exact ⟨by first | rfl | simp | simp [*], by repeat (first | (with_reducible first | exact HB.out | apply zq2 | apply zq0 | apply zq1 | refine zq3 ?_ GE196.out) | exact HB.out)⟩
          ·replace c43 := Bool.eq_false_iff.mpr c43
           subst c43
           rw [if_neg (show ¬ (false = true) by decide)] at H
           obtain rfl := Option.some.inj H
           obtain ⟨hcz47_0, hcz47_1, hcz47_2, hcz47_3, hcz47_4, hcz47_5, hfz47_0, hfz47_1, hfz47_2, hfz47_3, hfz47_4, hfz47_5⟩ := cells6 BK196.out
           go_wp2_with (first | (go_at_call 107; (with_reducible refine (zq59.calls kj1 a0_3 false _ A42.out).mono ?_); rintro e w48 ⟨rfl, hb⟩; replace BK196 := Aside0.mk (zq10 (g := gb196) (o := .cells #[.int .i64 a0_0, .string a0_1, .slice A0_2 l0_2.length c0_2, .string a0_3, .int .i64 a0_4, .slice A0_5 l0_5.length c0_5] 64 (0, 0)) (by (with_reducible repeat (first | refine zq4 ?_ _ | refine zq6 ?_ | refine zq5 ?_ _)); exact BK196.out) hb); replace HB := Aside0.mk (zq7 (by repeat (with_reducible first | exact HB.out | apply zq2 | apply zq0 | apply zq1 | refine zq3 ?_ GE196.out)) hb); (try clear hb)))
           go_ret
           exact ⟨by first | rfl | simp | simp [*], by repeat (first | (with_reducible first | exact HB.out | apply zq2 | apply zq0 | apply zq1 | refine zq3 ?_ GE196.out) | exact HB.out)⟩
        ·rw [if_neg c39] at H
         have c39b0 := beq_eq_false_iff_ne.mpr c39
         have c39b1 := bne_iff_ne.mpr c39
         have c39b2 : ¬ (l0_2 = []) := fun h_ => c39 (by rw [h_]; rfl)
         obtain rfl := Option.some.inj H
         obtain ⟨hcz49_0, hcz49_1, hcz49_2, hcz49_3, hcz49_4, hcz49_5, hfz49_0, hfz49_1, hfz49_2, hfz49_3, hfz49_4, hfz49_5⟩ := cells6 BK196.out
         go_wp2
         go_ret
         exact ⟨by first | rfl | simp | simp [*], by repeat (first | (with_reducible first | exact HB.out | apply zq2 | apply zq0 | apply zq1 | refine zq3 ?_ GE196.out) | exact HB.out)⟩
       ·rw [if_neg c38] at H
        have c38b0 := beq_eq_false_iff_ne.mpr c38
        have c38b1 := bne_iff_ne.mpr c38
        obtain rfl := Option.some.inj H
        obtain ⟨hcz50_0, hcz50_1, hcz50_2, hcz50_3, hcz50_4, hcz50_5, hfz50_0, hfz50_1, hfz50_2, hfz50_3, hfz50_4, hfz50_5⟩ := cells6 BK196.out
        go_wp2
        go_ret
        exact ⟨by first | rfl | simp | simp [*], by repeat (first | (with_reducible first | exact HB.out | apply zq2 | apply zq0 | apply zq1 | refine zq3 ?_ GE196.out) | exact HB.out)⟩
      ·rw [if_neg c37] at H
       have c37b0 := beq_eq_false_iff_ne.mpr c37
       have c37b1 := bne_iff_ne.mpr c37
       by_cases c51 : a0_0 = 5
       ·rw [if_pos c51] at H
        have c51b0 := beq_iff_eq.mpr c51
        have c51b1 := bne_eq_false_iff_eq.mpr c51
        clear c51
        by_cases c52 : a0_1.toList = ([] : List UInt8)
        ·rw [if_pos c52] at H
         have c52b0 := beq_iff_eq.mpr c52
         have c52b1 := bne_eq_false_iff_eq.mpr c52
         clear c52
         by_cases c53 : (l0_2.length : Int) = 0
         ·rw [if_pos c53] at H
          have c53b0 := beq_iff_eq.mpr c53
          have c53b1 := bne_eq_false_iff_eq.mpr c53
          clear c53
          replace H := Option.bind_eq_some_iff.mp H
          obtain ⟨t201, A540, H⟩ := H
          (try dsimp only at H)
          have A54 := Aside0.mk A540
          clear A540
          by_cases c55 : t201 = true
          ·subst c55
           rw [if_pos rfl] at H
           obtain rfl := Option.some.inj H
           obtain ⟨hcz56_0, hcz56_1, hcz56_2, hcz56_3, hcz56_4, hcz56_5, hfz56_0, hfz56_1, hfz56_2, hfz56_3, hfz56_4, hfz56_5⟩ := cells6 BK196.out
           go_wp2_with (first | (go_at_call 107; (with_reducible refine (zq59.calls kj1 a0_3 true _ A54.out).mono ?_); rintro e w57 ⟨rfl, hb⟩; replace BK196 := Aside0.mk (zq10 (g := gb196) (o := .cells #[.int .i64 a0_0, .string a0_1, .slice A0_2 l0_2.length c0_2, .string a0_3, .int .i64 a0_4, .slice A0_5 l0_5.length c0_5] 64 (0, 0)) (by (with_reducible repeat (first | refine zq4 ?_ _ | refine zq6 ?_ | refine zq5 ?_ _)); exact BK196.out) hb); replace HB := Aside0.mk (zq7 (by repeat (with_reducible first | exact HB.out | apply zq2 | apply zq0 | apply zq1 | refine zq3 ?_ GE196.out)) hb); (try clear hb); obtain ⟨hcz58_0, hcz58_1, hcz58_2, hcz58_3, hcz58_4, hcz58_5, hfz58_0, hfz58_1, hfz58_2, hfz58_3, hfz58_4, hfz58_5⟩ := cells6 BK196.out))
           go_ret
           exact ⟨by first | rfl | simp | simp [*], by repeat (first | (with_reducible first | exact HB.out | apply zq2 | apply zq0 | apply zq1 | refine zq3 ?_ GE196.out) | exact HB.out)⟩
          ·replace c55 := Bool.eq_false_iff.mpr c55
           subst c55
           rw [if_neg (show ¬ (false = true) by decide)] at H
           obtain rfl := Option.some.inj H
           obtain ⟨hcz59_0, hcz59_1, hcz59_2, hcz59_3, hcz59_4, hcz59_5, hfz59_0, hfz59_1, hfz59_2, hfz59_3, hfz59_4, hfz59_5⟩ := cells6 BK196.out
           go_wp2_with (first | (go_at_call 107; (with_reducible refine (zq59.calls kj1 a0_3 false _ A54.out).mono ?_); rintro e w60 ⟨rfl, hb⟩; replace BK196 := Aside0.mk (zq10 (g := gb196) (o := .cells #[.int .i64 a0_0, .string a0_1, .slice A0_2 l0_2.length c0_2, .string a0_3, .int .i64 a0_4, .slice A0_5 l0_5.length c0_5] 64 (0, 0)) (by (with_reducible repeat (first | refine zq4 ?_ _ | refine zq6 ?_ | refine zq5 ?_ _)); exact BK196.out) hb); replace HB := Aside0.mk (zq7 (by repeat (with_reducible first | exact HB.out | apply zq2 | apply zq0 | apply zq1 | refine zq3 ?_ GE196.out)) hb); (try clear hb)))
           go_ret
           exact ⟨by first | rfl | simp | simp [*], by repeat (first | (with_reducible first | exact HB.out | apply zq2 | apply zq0 | apply zq1 | refine zq3 ?_ GE196.out) | exact HB.out)⟩
         ·rw [if_neg c53] at H
          have c53b0 := beq_eq_false_iff_ne.mpr c53
          have c53b1 := bne_iff_ne.mpr c53
          have c53b2 : ¬ (l0_2 = []) := fun h_ => c53 (by rw [h_]; rfl)
          obtain rfl := Option.some.inj H
          obtain ⟨hcz61_0, hcz61_1, hcz61_2, hcz61_3, hcz61_4, hcz61_5, hfz61_0, hfz61_1, hfz61_2, hfz61_3, hfz61_4, hfz61_5⟩ := cells6 BK196.out
          go_wp2
          go_ret
          exact ⟨by first | rfl | simp | simp [*], by repeat (first | (with_reducible first | exact HB.out | apply zq2 | apply zq0 | apply zq1 | refine zq3 ?_ GE196.out) | exact HB.out)⟩
        ·rw [if_neg c52] at H
         have c52b0 := beq_eq_false_iff_ne.mpr c52
         have c52b1 := bne_iff_ne.mpr c52
         obtain rfl := Option.some.inj H
         obtain ⟨hcz62_0, hcz62_1, hcz62_2, hcz62_3, hcz62_4, hcz62_5, hfz62_0, hfz62_1, hfz62_2, hfz62_3, hfz62_4, hfz62_5⟩ := cells6 BK196.out
         go_wp2
         go_ret
         exact ⟨by first | rfl | simp | simp [*], by repeat (first | (with_reducible first | exact HB.out | apply zq2 | apply zq0 | apply zq1 | refine zq3 ?_ GE196.out) | exact HB.out)⟩
       ·rw [if_neg c51] at H
        have c51b0 := beq_eq_false_iff_ne.mpr c51
        have c51b1 := bne_iff_ne.mpr c51
        obtain rfl := Option.some.inj H
        obtain ⟨hcz63_0, hcz63_1, hcz63_2, hcz63_3, hcz63_4, hcz63_5, hfz63_0, hfz63_1, hfz63_2, hfz63_3, hfz63_4, hfz63_5⟩ := cells6 BK196.out
        go_wp2
        go_ret
        exact ⟨by first | rfl | simp | simp [*], by repeat (first | (with_reducible first | exact HB.out | apply zq2 | apply zq0 | apply zq1 | refine zq3 ?_ GE196.out) | exact HB.out)⟩
/-! ### impl_Node_mayHold: function 112 -/
def impl_Node_mayHold.f (a0_0 : Int) (a0_1 : ByteArray) (l0_2 : List (S106)) (a0_3 : ByteArray) (a0_4 : Int) (l0_5 : List Int) : Option (Bool) := if a0_0 = 1 then (some true) else (some (a0_0 == 3))
set_option maxHeartbeats 8000000 in
set_option maxRecDepth 100000 in
theorem impl_Node_mayHold.calls (a0_0 : Int) (a0_1 : ByteArray) (A0_2 : Option Addr) (c0_2 : Nat) (l0_2 : List (S106)) (a0_3 : ByteArray) (a0_4 : Int) (A0_5 : Option Addr) (c0_5 : Nat) (l0_5 : List Int) (r : Bool) (w : World) (hr0_2 : Kd.C k106 w A0_2 l0_2.length l0_2) (hc0_2 : l0_2.length ≤ c0_2) (hr0_5 : Kd.C (Kd.int .i64) w A0_5 l0_5.length l0_5) (hc0_5 : l0_5.length ≤ c0_5) (h : impl_Node_mayHold.f a0_0 a0_1 l0_2 a0_3 a0_4 l0_5 = some r) :
  Calls Try.prog 112 #[.agg #[.int .i64 a0_0, .string a0_1, .slice A0_2 l0_2.length c0_2, .string a0_3, .int .i64 a0_4, .slice A0_5 l0_5.length c0_5]] w fun e w' => e = .returned (.bool r) ∧ Below w.heap.size w w' := by
 have hu64 := Try.underlying64
 have HR0_2 := Aside0.mk hr0_2
 have HC0_2 := Aside0.mk hc0_2
 clear hr0_2 hc0_2
 have HR0_5 := Aside0.mk hr0_5
 have HC0_5 := Aside0.mk hc0_5
 clear hr0_5 hc0_5
 have HB := Aside0.mk (Below.refl w.heap.size w)
 have H : (if a0_0 = 1 then (some true) else (some (a0_0 == 3))) = some r := h
 clear h
 by_cases c2 : a0_0 = 1
 ·rw [if_pos c2] at H
  have c2b0 := beq_iff_eq.mpr c2
  have c2b1 := bne_eq_false_iff_eq.mpr c2
  clear c2
  obtain rfl := Option.some.inj H
  go_enter Try.func112, Try.ntmps112
  go_wp2_with (first | ((refine gate_dst (N := 1) rfl ?_); refine box_event ?hg (N := 1) ?hd (cs := #[.int .i64 a0_0, .string a0_1, .slice A0_2 l0_2.length c0_2, .string a0_3, .int .i64 a0_4, .slice A0_5 l0_5.length c0_5]) (t := 64) ?hr ?_; (case hd => rfl); (case hg => rfl); (case hr => first | (go_simp; done) | (go_simp; rfl)); intro gb268 hg w3 hbox hb; have BK268 := Aside0.mk (hbox); have GW268 := Aside0.mk ((by rw [hg]; exact (below_size (by repeat (with_reducible first | exact HB.out | apply zq2 | apply zq0 | apply zq1))) : w.heap.size ≤ gb268)); replace HB := Aside0.mk (zq7 (by repeat (with_reducible first | exact HB.out | apply zq2 | apply zq0 | apply zq1)) hb); have GE268 := GW268; clear hb hbox hg; obtain ⟨hcz4_0, hcz4_1, hcz4_2, hcz4_3, hcz4_4, hcz4_5, hfz4_0, hfz4_1, hfz4_2, hfz4_3, hfz4_4, hfz4_5⟩ := cells6 BK268.out))
  go_ret
  exact ⟨by first | rfl | simp | simp [*], by repeat (first | (with_reducible first | exact HB.out | apply zq2 | apply zq0 | apply zq1 | refine zq3 ?_ GE268.out) | exact HB.out)⟩
 ·rw [if_neg c2] at H
  have c2b0 := beq_eq_false_iff_ne.mpr c2
  have c2b1 := bne_iff_ne.mpr c2
  obtain rfl := Option.some.inj H
  go_enter Try.func112, Try.ntmps112
  go_wp2_with (first | ((refine gate_dst (N := 1) rfl ?_); refine box_event ?hg (N := 1) ?hd (cs := #[.int .i64 a0_0, .string a0_1, .slice A0_2 l0_2.length c0_2, .string a0_3, .int .i64 a0_4, .slice A0_5 l0_5.length c0_5]) (t := 64) ?hr ?_; (case hd => rfl); (case hg => rfl); (case hr => first | (go_simp; done) | (go_simp; rfl)); intro gb268 hg w5 hbox hb; have BK268 := Aside0.mk (hbox); have GW268 := Aside0.mk ((by rw [hg]; exact (below_size (by repeat (with_reducible first | exact HB.out | apply zq2 | apply zq0 | apply zq1))) : w.heap.size ≤ gb268)); replace HB := Aside0.mk (zq7 (by repeat (with_reducible first | exact HB.out | apply zq2 | apply zq0 | apply zq1)) hb); have GE268 := GW268; clear hb hbox hg; obtain ⟨hcz6_0, hcz6_1, hcz6_2, hcz6_3, hcz6_4, hcz6_5, hfz6_0, hfz6_1, hfz6_2, hfz6_3, hfz6_4, hfz6_5⟩ := cells6 BK268.out))
  go_ret
  exact ⟨by first | rfl | simp | simp [*], by repeat (first | (with_reducible first | exact HB.out | apply zq2 | apply zq0 | apply zq1 | refine zq3 ?_ GE268.out) | exact HB.out)⟩
/-! ### impl_doctypeOk: function 113 -/
def impl_doctypeOk.f (k : Nat) (a0 : ByteArray) : Option (Bool) := if (a0.size : Int) ≤ 60 then ((zq45.f k a0).bind fun t316 => (some t316)) else (some false)
theorem impl_doctypeOk.mono : ∀ a0 k, LeO (impl_doctypeOk.f k a0) (impl_doctypeOk.f (k + 1) a0) := by
 intro a0 k
 unfold impl_doctypeOk.f
 repeat' first
   | (with_reducible exact zq45.mono _ _)
   | (with_reducible exact LeO.refl _)
   | (with_reducible exact LeO.none _)
   | (with_reducible refine LeO.ite ?_ ?_)
   | (with_reducible refine LeO.bind ?_ (fun _ => ?_))
set_option maxHeartbeats 8000000 in
set_option maxRecDepth 100000 in
theorem impl_doctypeOk.calls (k : Nat) (a0 : ByteArray) (r : Bool) (w : World) (h : impl_doctypeOk.f k a0 = some r) :
  Calls Try.prog 113 #[.string a0] w fun e w' => e = .returned (.bool r) ∧ Below w.heap.size w w' := by
 have HB := Aside0.mk (Below.refl w.heap.size w)
 have H : (if (a0.size : Int) ≤ 60 then ((zq45.f k a0).bind fun t316 => (some t316)) else (some false)) = some r := h
 clear h
 by_cases c2 : (a0.size : Int) ≤ 60
 ·rw [if_pos c2] at H
  have c2b0 : decide ((a0.size : Int) ≤ 60) = true := decide_eq_true c2
  have c2b1 : decide (a0.size ≤ 60) = true := decide_eq_true (by omega)
  clear c2
  replace H := Option.bind_eq_some_iff.mp H
  obtain ⟨t316, A30, H⟩ := H
  (try dsimp only at H)
  have A3 := Aside0.mk A30
  clear A30
  obtain rfl := Option.some.inj H
  go_enter Try.func113, Try.ntmps113
  go_wp2_with (first | (go_at_call 116; (with_reducible refine (zq45.calls k a0 t316 _ A3.out).mono ?_); rintro e w4 ⟨rfl, hb⟩; replace HB := Aside0.mk (zq7 (by repeat (with_reducible first | exact HB.out | apply zq2 | apply zq0 | apply zq1)) hb); (try clear hb)))
  go_ret
  exact ⟨by first | rfl | simp | simp [*], by repeat (first | (with_reducible first | exact HB.out | apply zq2 | apply zq0 | apply zq1) | exact HB.out)⟩
 ·rw [if_neg c2] at H
  have c2b0 : decide ((a0.size : Int) ≤ 60) = false := decide_eq_false c2
  have c2b1 : decide (a0.size ≤ 60) = false := decide_eq_false (by omega)
  clear c2
  obtain rfl := Option.some.inj H
  go_enter Try.func113, Try.ntmps113
  go_wp2
  go_ret
  exact ⟨by first | rfl | simp | simp [*], by repeat (first | (with_reducible first | exact HB.out | apply zq2 | apply zq0 | apply zq1) | exact HB.out)⟩
/-! ### impl_IsBlank: function 138 -/
def impl_IsBlank.f (a0 : Int) : Option (Bool) := if a0 = 9 then (some true) else (if a0 = 10 then (some true) else (if a0 = 12 then (some true) else (some (a0 == 32))))
set_option maxHeartbeats 8000000 in
set_option maxRecDepth 100000 in
theorem impl_IsBlank.calls (a0 : Int) (r : Bool) (w : World) (h : impl_IsBlank.f a0 = some r) :
  Calls Try.prog 138 #[.int .i64 a0] w fun e w' => e = .returned (.bool r) ∧ Drawn0 w w' := by
 have H : (if a0 = 9 then (some true) else (if a0 = 10 then (some true) else (if a0 = 12 then (some true) else (some (a0 == 32))))) = some r := h
 clear h
 by_cases c2 : a0 = 9
 ·rw [if_pos c2] at H
  have c2b0 := beq_iff_eq.mpr c2
  have c2b1 := bne_eq_false_iff_eq.mpr c2
  clear c2
  obtain rfl := Option.some.inj H
  go_enter Try.func138, Try.ntmps138
  go_wp2
  go_ret
  exact ⟨by first | rfl | simp | simp [*], by repeat (first | exact Drawn0.refl _ | apply Drawn0.step)⟩
 ·rw [if_neg c2] at H
  have c2b0 := beq_eq_false_iff_ne.mpr c2
  have c2b1 := bne_iff_ne.mpr c2
  by_cases c3 : a0 = 10
  ·rw [if_pos c3] at H
   have c3b0 := beq_iff_eq.mpr c3
   have c3b1 := bne_eq_false_iff_eq.mpr c3
   clear c3
   obtain rfl := Option.some.inj H
   go_enter Try.func138, Try.ntmps138
   go_wp2
   go_ret
   exact ⟨by first | rfl | simp | simp [*], by repeat (first | exact Drawn0.refl _ | apply Drawn0.step)⟩
  ·rw [if_neg c3] at H
   have c3b0 := beq_eq_false_iff_ne.mpr c3
   have c3b1 := bne_iff_ne.mpr c3
   by_cases c4 : a0 = 12
   ·rw [if_pos c4] at H
    have c4b0 := beq_iff_eq.mpr c4
    have c4b1 := bne_eq_false_iff_eq.mpr c4
    clear c4
    obtain rfl := Option.some.inj H
    go_enter Try.func138, Try.ntmps138
    go_wp2
    go_ret
    exact ⟨by first | rfl | simp | simp [*], by repeat (first | exact Drawn0.refl _ | apply Drawn0.step)⟩
   ·rw [if_neg c4] at H
    have c4b0 := beq_eq_false_iff_ne.mpr c4
    have c4b1 := bne_iff_ne.mpr c4
    obtain rfl := Option.some.inj H
    go_enter Try.func138, Try.ntmps138
    go_wp2
    go_ret
    exact ⟨by first | rfl | simp | simp [*], by repeat (first | exact Drawn0.refl _ | apply Drawn0.step)⟩
/-! ### impl_isOuter: function 130 -/
def impl_isOuter.f (a0 : Int) : Option (Bool) := (impl_IsBlank.f a0).bind fun t317 => (if t317 = true then (some true) else (if a0 = 47 then (some true) else (if a0 = 62 then (some true) else (if a0 = 0 then (some true) else ((zq44.f a0 65 90).bind fun t318 => (some t318))))))
set_option maxHeartbeats 8000000 in
set_option maxRecDepth 100000 in
theorem impl_isOuter.calls (a0 : Int) (r : Bool) (w : World) (h : impl_isOuter.f a0 = some r) :
  Calls Try.prog 130 #[.int .i64 a0] w fun e w' => e = .returned (.bool r) ∧ Drawn0 w w' := by
 have H : ((impl_IsBlank.f a0).bind fun t317 => (if t317 = true then (some true) else (if a0 = 47 then (some true) else (if a0 = 62 then (some true) else (if a0 = 0 then (some true) else ((zq44.f a0 65 90).bind fun t318 => (some t318))))))) = some r := h
 clear h
 replace H := Option.bind_eq_some_iff.mp H
 obtain ⟨t317, A20, H⟩ := H
 (try dsimp only at H)
 have A2 := Aside0.mk A20
 clear A20
 by_cases c3 : t317 = true
 ·subst c3
  rw [if_pos rfl] at H
  obtain rfl := Option.some.inj H
  go_enter Try.func130, Try.ntmps130
  go_wp2_with (first | ((refine gate_callee (f := 138) rfl ?_); refine goesL_ (some 4) rfl rfl Try.func138 (by kernel_rfl) rfl #[.int .i64 a0] rfl (by (try simp only [List.map_toArray, List.map_cons, List.map_nil]); first | done | rfl) ?_; (with_reducible refine (impl_IsBlank.calls a0 true _ A2.out).mono ?_); rintro e w' ⟨rfl, ⟨nd, rfl⟩⟩; refine ⟨_, rfl, ?_⟩))
  go_ret
  exact ⟨by first | rfl | simp | simp [*], by repeat (first | exact Drawn0.refl _ | apply Drawn0.step)⟩
 ·replace c3 := Bool.eq_false_iff.mpr c3
  subst c3
  rw [if_neg (show ¬ (false = true) by decide)] at H
  by_cases c4 : a0 = 47
  ·rw [if_pos c4] at H
   have c4b0 := beq_iff_eq.mpr c4
   have c4b1 := bne_eq_false_iff_eq.mpr c4
   clear c4
   obtain rfl := Option.some.inj H
   go_enter Try.func130, Try.ntmps130
   go_wp2_with (first | ((refine gate_callee (f := 138) rfl ?_); refine goesL_ (some 4) rfl rfl Try.func138 (by kernel_rfl) rfl #[.int .i64 a0] rfl (by (try simp only [List.map_toArray, List.map_cons, List.map_nil]); first | done | rfl) ?_; (with_reducible refine (impl_IsBlank.calls a0 false _ A2.out).mono ?_); rintro e w' ⟨rfl, ⟨nd, rfl⟩⟩; refine ⟨_, rfl, ?_⟩))
   go_ret
   exact ⟨by first | rfl | simp | simp [*], by repeat (first | exact Drawn0.refl _ | apply Drawn0.step)⟩
  ·rw [if_neg c4] at H
   have c4b0 := beq_eq_false_iff_ne.mpr c4
   have c4b1 := bne_iff_ne.mpr c4
   by_cases c5 : a0 = 62
   ·rw [if_pos c5] at H
    have c5b0 := beq_iff_eq.mpr c5
    have c5b1 := bne_eq_false_iff_eq.mpr c5
    clear c5
    obtain rfl := Option.some.inj H
    go_enter Try.func130, Try.ntmps130
    go_wp2_with (first | ((refine gate_callee (f := 138) rfl ?_); refine goesL_ (some 4) rfl rfl Try.func138 (by kernel_rfl) rfl #[.int .i64 a0] rfl (by (try simp only [List.map_toArray, List.map_cons, List.map_nil]); first | done | rfl) ?_; (with_reducible refine (impl_IsBlank.calls a0 false _ A2.out).mono ?_); rintro e w' ⟨rfl, ⟨nd, rfl⟩⟩; refine ⟨_, rfl, ?_⟩))
    go_ret
    exact ⟨by first | rfl | simp | simp [*], by repeat (first | exact Drawn0.refl _ | apply Drawn0.step)⟩
   ·rw [if_neg c5] at H
    have c5b0 := beq_eq_false_iff_ne.mpr c5
    have c5b1 := bne_iff_ne.mpr c5
    by_cases c6 : a0 = 0
    ·rw [if_pos c6] at H
     have c6b0 := beq_iff_eq.mpr c6
     have c6b1 := bne_eq_false_iff_eq.mpr c6
     clear c6
     obtain rfl := Option.some.inj H
     go_enter Try.func130, Try.ntmps130
     go_wp2_with (first | ((refine gate_callee (f := 138) rfl ?_); refine goesL_ (some 4) rfl rfl Try.func138 (by kernel_rfl) rfl #[.int .i64 a0] rfl (by (try simp only [List.map_toArray, List.map_cons, List.map_nil]); first | done | rfl) ?_; (with_reducible refine (impl_IsBlank.calls a0 false _ A2.out).mono ?_); rintro e w' ⟨rfl, ⟨nd, rfl⟩⟩; refine ⟨_, rfl, ?_⟩))
     go_ret
     exact ⟨by first | rfl | simp | simp [*], by repeat (first | exact Drawn0.refl _ | apply Drawn0.step)⟩
    ·rw [if_neg c6] at H
     have c6b0 := beq_eq_false_iff_ne.mpr c6
     have c6b1 := bne_iff_ne.mpr c6
     replace H := Option.bind_eq_some_iff.mp H
     obtain ⟨t318, A70, H⟩ := H
     (try dsimp only at H)
     have A7 := Aside0.mk A70
     clear A70
     obtain rfl := Option.some.inj H
     go_enter Try.func130, Try.ntmps130
     go_wp2_with (first | ((refine gate_callee (f := 138) rfl ?_); refine goesL_ (some 4) rfl rfl Try.func138 (by kernel_rfl) rfl #[.int .i64 a0] rfl (by (try simp only [List.map_toArray, List.map_cons, List.map_nil]); first | done | rfl) ?_; (with_reducible refine (impl_IsBlank.calls a0 false _ A2.out).mono ?_); rintro e w' ⟨rfl, ⟨nd, rfl⟩⟩; refine ⟨_, rfl, ?_⟩) | (go_at_call 75; (with_reducible refine (zq44.calls a0 65 90 t318 _ A7.out).mono ?_); rintro e w' ⟨rfl, ⟨nd, rfl⟩⟩))
     go_ret
     exact ⟨by first | rfl | simp | simp [*], by repeat (first | exact Drawn0.refl _ | apply Drawn0.step)⟩
/-! ### zq28: function 114 -/
mutual
def zq28.j0 : Nat → ByteArray → Bool → Option (Bool)
 | 0, _, _ => none
 | k + 1, x0, x23 => if x23 = true then (some false) else (if x0.size ≤ 9223372036854775807 then (zq28.l0 k (bytesOf x0) ((bytesOf x0).length : Int) 0) else none)
def zq28.l0 : Nat → List Int → Int → Int → Option (Bool)
 | 0, _, _, _ => none
 | k + 1, x25, x26, x27 => if x27 < x26 then (if 0 ≤ x27 then (if x27 < (x25.length : Int) then ((impl_isOuter.f (wrap64 (rd x25 x27))).bind fun t325 => (if t325 = true then (some false) else (zq28.l0 k x25 x26 (wrap64 (x27 + 1))))) else (none)) else (none)) else (some true)
end
def zq28.f (k : Nat) (a0 : ByteArray) : Option (Bool) := (zq44.f (a0.size : Int) 1 60).bind fun t319 => (if t319 = true then (if 0 < (a0.size : Int) then (if (bt a0 0) < 97 then (zq28.j0 k a0 true) else (if (bt a0 0) > 122 then (zq28.j0 k a0 true) else ((zq45.f k a0).bind fun t320 => (zq28.j0 k a0 (!t320))))) else (none)) else (zq28.j0 k a0 true))
theorem zq28.mono_l : ∀ k, (∀ y0 y1, LeO (zq28.j0 k y0 y1) (zq28.j0 (k + 1) y0 y1)) ∧ (∀ y0 y1 y2, LeO (zq28.l0 k y0 y1 y2) (zq28.l0 (k + 1) y0 y1 y2))
 | 0 => ⟨fun _ _ r h => by simp [zq28.j0] at h, fun _ _ _ r h => by simp [zq28.l0] at h⟩
 | k + 1 => by
  obtain ⟨ih0, ih1⟩ := zq28.mono_l k
  refine ⟨?_, ?_⟩
  ·intro y0 y1
   unfold zq28.j0
   repeat' first
   | (with_reducible exact ih0 _ _)
   | (with_reducible exact ih1 _ _ _)
   | (with_reducible exact zq45.mono _ _)
   | (with_reducible exact LeO.refl _)
   | (with_reducible exact LeO.none _)
   | (with_reducible refine LeO.ite ?_ ?_)
   | (with_reducible refine LeO.bind ?_ (fun _ => ?_))
  ·intro y0 y1 y2
   unfold zq28.l0
   repeat' first
   | (with_reducible exact ih0 _ _)
   | (with_reducible exact ih1 _ _ _)
   | (with_reducible exact zq45.mono _ _)
   | (with_reducible exact LeO.refl _)
   | (with_reducible exact LeO.none _)
   | (with_reducible refine LeO.ite ?_ ?_)
   | (with_reducible refine LeO.bind ?_ (fun _ => ?_))
theorem zq28.mono : ∀ a0 k, LeO (zq28.f k a0) (zq28.f (k + 1) a0) := by
 intro a0 k
 obtain ⟨ih0, ih1⟩ := zq28.mono_l k
 unfold zq28.f
 repeat' first
   | (with_reducible exact ih0 _ _)
   | (with_reducible exact ih1 _ _ _)
   | (with_reducible exact zq45.mono _ _)
   | (with_reducible exact LeO.refl _)
   | (with_reducible exact LeO.none _)
   | (with_reducible refine LeO.ite ?_ ?_)
   | (with_reducible refine LeO.bind ?_ (fun _ => ?_))
set_option maxHeartbeats 8000000 in
set_option maxRecDepth 100000 in
theorem zq28.calls (k : Nat) (a0 : ByteArray) (r : Bool) (w : World) (h : zq28.f k a0 = some r) :
  Calls Try.prog 114 #[.string a0] w fun e w' => e = .returned (.bool r) ∧ Below w.heap.size w w' := by
 have HB := Aside0.mk (Below.refl w.heap.size w)
 have H : ((zq44.f (a0.size : Int) 1 60).bind fun t319 => (if t319 = true then (if 0 < (a0.size : Int) then (if (bt a0 0) < 97 then (zq28.j0 k a0 true) else (if (bt a0 0) > 122 then (zq28.j0 k a0 true) else ((zq45.f k a0).bind fun t320 => (zq28.j0 k a0 (!t320))))) else (none)) else (zq28.j0 k a0 true))) = some r := h
 clear h
 have HC2 := Aside0.mk H
 clear H
 go_enter Try.func114, Try.ntmps114
 go_upto_region 1 with (fail)
 go_cut [23] (fun v23 wc => ∃ (kq : Nat) (x23_1 : Bool), v23 = .bool x23_1 ∧ Aside0 (zq28.j0 kq a0 x23_1 = some r) ∧ Aside0 (kq ≤ k) ∧ Aside0 (Below w.heap.size w wc))
 case first =>
  have H := HC2.out
  clear HC2
  replace H := Option.bind_eq_some_iff.mp H
  obtain ⟨t319, A30, H⟩ := H
  (try dsimp only at H)
  have A3 := Aside0.mk A30
  clear A30
  by_cases c4 : t319 = true
  ·subst c4
   rw [if_pos rfl] at H
   by_cases c5 : 0 < (a0.size : Int)
   ·rw [if_pos c5] at H
    have c5b0 : decide (0 < (a0.size : Int)) = true := decide_eq_true c5
    have c5b1 : decide (0 < a0.size) = true := decide_eq_true (by omega)
    clear c5
    (first | rw [c5b0] | (simp only [i64_w, i32_w]; rw [c5b0]) | skip)
    by_cases c7 : (bt a0 0) < 97
    ·rw [if_pos c7] at H
     have c7b0 : decide ((bt a0 0) < 97) = true := decide_eq_true c7
     clear c7
     have H' := Aside0.mk H
     clear H
     go_wp2_with (first | ((refine gate_callee (f := 75) rfl ?_); refine goesL_ (some 7) rfl rfl Try.func75 (by kernel_rfl) rfl #[.int .i64 (a0.size : Int), .int .i64 1, .int .i64 60] rfl (by (try simp only [List.map_toArray, List.map_cons, List.map_nil]); first | done | rfl) ?_; (with_reducible refine (zq44.calls (a0.size : Int) 1 60 true _ A3.out).mono ?_); rintro e w' ⟨rfl, ⟨nd, rfl⟩⟩; refine ⟨_, rfl, ?_⟩; have p6 : 0 ≤ (0 : Int) := (by omega); have q6 : 0 < a0.size := (by have : (0 : Int) < (a0.size : Int) := of_decide_eq_true (by assumption); omega); have hx6 : ∀ h : 0 < a0.size, ((a0[0]'h).toNat : Int) = bt a0 0 := bt_at a0 0; clear p6; have qi6 : (0 < (a0.size : Int)) = True := eq_true (of_decide_eq_true (by assumption)); replace q6 := eq_true q6))
     go_meet
     case rel => exact ⟨_, (true), (by first | rfl | simp | simp [*]), H', ⟨by first | omega | exact Nat.le_refl _⟩, ⟨by repeat (first | (with_reducible first | exact HB.out | apply zq2 | apply zq0 | apply zq1) | exact HB.out)⟩⟩
    ·rw [if_neg c7] at H
     have c7b0 : decide ((bt a0 0) < 97) = false := decide_eq_false c7
     clear c7
     by_cases c9 : (bt a0 0) > 122
     ·rw [if_pos c9] at H
      have c9b0 : decide (122 < (bt a0 0)) = true := decide_eq_true c9
      clear c9
      have H' := Aside0.mk H
      clear H
      go_wp2_with (first | ((refine gate_callee (f := 75) rfl ?_); refine goesL_ (some 7) rfl rfl Try.func75 (by kernel_rfl) rfl #[.int .i64 (a0.size : Int), .int .i64 1, .int .i64 60] rfl (by (try simp only [List.map_toArray, List.map_cons, List.map_nil]); first | done | rfl) ?_; (with_reducible refine (zq44.calls (a0.size : Int) 1 60 true _ A3.out).mono ?_); rintro e w' ⟨rfl, ⟨nd, rfl⟩⟩; refine ⟨_, rfl, ?_⟩; have p6 : 0 ≤ (0 : Int) := (by omega); have q6 : 0 < a0.size := (by have : (0 : Int) < (a0.size : Int) := of_decide_eq_true (by assumption); omega); have hx6 : ∀ h : 0 < a0.size, ((a0[0]'h).toNat : Int) = bt a0 0 := bt_at a0 0; clear p6; have qi6 : (0 < (a0.size : Int)) = True := eq_true (of_decide_eq_true (by assumption)); replace q6 := eq_true q6; have p8 : 0 ≤ (0 : Int) := (by omega); have q8 : 0 < a0.size := (by have : (0 : Int) < (a0.size : Int) := of_decide_eq_true (by assumption); omega); have hx8 : ∀ h : 0 < a0.size, ((a0[0]'h).toNat : Int) = bt a0 0 := bt_at a0 0; clear p8; have qi8 : (0 < (a0.size : Int)) = True := eq_true (of_decide_eq_true (by assumption)); replace q8 := eq_true q8))
      go_meet
      case rel => exact ⟨_, (true), (by first | rfl | simp | simp [*]), H', ⟨by first | omega | exact Nat.le_refl _⟩, ⟨by repeat (first | (with_reducible first | exact HB.out | apply zq2 | apply zq0 | apply zq1) | exact HB.out)⟩⟩
     ·rw [if_neg c9] at H
      have c9b0 : decide (122 < (bt a0 0)) = false := decide_eq_false c9
      clear c9
      replace H := Option.bind_eq_some_iff.mp H
      obtain ⟨t320, A100, H⟩ := H
      (try dsimp only at H)
      have A10 := Aside0.mk A100
      clear A100
      have H' := Aside0.mk H
      clear H
      go_wp2_with (first | ((refine gate_callee (f := 75) rfl ?_); refine goesL_ (some 7) rfl rfl Try.func75 (by kernel_rfl) rfl #[.int .i64 (a0.size : Int), .int .i64 1, .int .i64 60] rfl (by (try simp only [List.map_toArray, List.map_cons, List.map_nil]); first | done | rfl) ?_; (with_reducible refine (zq44.calls (a0.size : Int) 1 60 true _ A3.out).mono ?_); rintro e w' ⟨rfl, ⟨nd, rfl⟩⟩; refine ⟨_, rfl, ?_⟩; have p6 : 0 ≤ (0 : Int) := (by omega); have q6 : 0 < a0.size := (by have : (0 : Int) < (a0.size : Int) := of_decide_eq_true (by assumption); omega); have hx6 : ∀ h : 0 < a0.size, ((a0[0]'h).toNat : Int) = bt a0 0 := bt_at a0 0; clear p6; have qi6 : (0 < (a0.size : Int)) = True := eq_true (of_decide_eq_true (by assumption)); replace q6 := eq_true q6; have p8 : 0 ≤ (0 : Int) := (by omega); have q8 : 0 < a0.size := (by have : (0 : Int) < (a0.size : Int) := of_decide_eq_true (by assumption); omega); have hx8 : ∀ h : 0 < a0.size, ((a0[0]'h).toNat : Int) = bt a0 0 := bt_at a0 0; clear p8; have qi8 : (0 < (a0.size : Int)) = True := eq_true (of_decide_eq_true (by assumption)); replace q8 := eq_true q8) | (go_at_call 116; (with_reducible refine (zq45.calls k a0 t320 _ A10.out).mono ?_); rintro e w11 ⟨rfl, hb⟩; replace HB := Aside0.mk (zq7 (by repeat (with_reducible first | exact HB.out | apply zq2 | apply zq0 | apply zq1)) hb); (try clear hb)))
      go_meet
      case rel => exact ⟨_, (!t320), (by first | rfl | simp | simp [*]), H', ⟨by first | omega | exact Nat.le_refl _⟩, ⟨by repeat (first | (with_reducible first | exact HB.out | apply zq2 | apply zq0 | apply zq1) | exact HB.out)⟩⟩
   ·rw [if_neg c5] at H
    exact absurd H (by simp)
  ·replace c4 := Bool.eq_false_iff.mpr c4
   subst c4
   rw [if_neg (show ¬ (false = true) by decide)] at H
   have H' := Aside0.mk H
   clear H
   go_wp2_with (first | ((refine gate_callee (f := 75) rfl ?_); refine goesL_ (some 7) rfl rfl Try.func75 (by kernel_rfl) rfl #[.int .i64 (a0.size : Int), .int .i64 1, .int .i64 60] rfl (by (try simp only [List.map_toArray, List.map_cons, List.map_nil]); first | done | rfl) ?_; (with_reducible refine (zq44.calls (a0.size : Int) 1 60 false _ A3.out).mono ?_); rintro e w' ⟨rfl, ⟨nd, rfl⟩⟩; refine ⟨_, rfl, ?_⟩))
   go_meet
   case rel => exact ⟨_, (true), (by first | rfl | simp | simp [*]), H', ⟨by first | omega | exact Nat.le_refl _⟩, ⟨by repeat (first | (with_reducible first | exact HB.out | apply zq2 | apply zq0 | apply zq1) | exact HB.out)⟩⟩
 case rest =>
  clear HC2
  obtain ⟨kq, x23_1, rfl, HA, HJ1, HB⟩ := hcut
  cases kq with
  | zero => exact absurd HA.out (by simp [zq28.j0])
  | succ kj1 =>
   have H := HA.out
   clear HA
   simp only [zq28.j0] at H
   by_cases c12 : x23_1 = true
   ·subst c12
    rw [if_pos rfl] at H
    obtain rfl := Option.some.inj H
    go_wp2
    go_ret
    exact ⟨by first | rfl | simp | simp [*], by repeat (first | (with_reducible first | exact HB.out | apply zq2 | apply zq0 | apply zq1) | exact HB.out)⟩
   ·replace c12 := Bool.eq_false_iff.mpr c12
    subst c12
    have H1 : (if a0.size ≤ 9223372036854775807 then (zq28.l0 kj1 (bytesOf a0) ((bytesOf a0).length : Int) 0) else none) = some r := by rw [if_neg (show ¬ (false = true) by decide)] at H; exact H
    clear H
    by_cases hz : a0.size ≤ 9223372036854775807
    case neg => rw [if_neg hz] at H1; exact absurd H1 (by simp)
    rw [if_pos hz] at H1
    have HZ := Aside0.mk hz
    clear hz
    have H := H1
    clear H1
    obtain ⟨y321, hy321⟩ : ∃ y_ : List Int, y_ = (bytesOf a0) := ⟨_, rfl⟩
    rw [← hy321] at H
    have Ny321 := Aside0.mk hy321
    clear hy321
    have H' := Aside0.mk H
    clear H
    go_wp2_with ((refine gate_dst (N := 25) rfl ?_); refine conv_event (s := a0) rfl rfl rfl HZ.out Try.underlying9 Try.underlying96 Try.underlying5 ?_; rw [← Ny321.out]; intro Ao15 co15 w13 hC hc hb; have HO323 := Aside0.mk hC; have n1_ := Aside0.mk (zq7 (by repeat (with_reducible first | exact HB.out | apply zq2 | apply zq0 | apply zq1)) hb); clear HB; have HB := n1_; clear n1_ hC hb)
    go_loopg [27] kj1 (fun kq v27 w' => ∃ (x27_2 : Int), v27 = .int .i64 x27_2 ∧ Aside0 (zq28.l0 kq y321 (y321.length : Int) x27_2 = some r) ∧ Aside0 (kq ≤ kj1) ∧ Aside0 (Kd.C (Kd.int .u8) w' Ao15 y321.length y321) ∧ Aside0 (Below w.heap.size w w'))
    case atStart => exact ⟨(0), (by first | rfl | simp | simp [*]), H', ⟨Nat.le_refl _⟩, ⟨HO323.out⟩, ⟨by repeat (first | (with_reducible first | exact HB.out | apply zq2 | apply zq0 | apply zq1) | exact HB.out)⟩⟩
    case round =>
     clear H'
     obtain ⟨x27_2, rfl, HA, HK2, HO_25, HB⟩ := hrel
     cases gk with
     | zero => exact absurd HA.out (by simp [zq28.l0])
     | succ k2 =>
      have H := HA.out
      clear HA
      simp only [zq28.l0] at H
      by_cases c16 : x27_2 < (y321.length : Int)
      ·rw [if_pos c16] at H
       have c16b0 : decide (x27_2 < (y321.length : Int)) = true := decide_eq_true c16
       clear c16
       by_cases c17 : 0 ≤ x27_2
       ·rw [if_pos c17] at H
        have c17b0 : decide (0 ≤ x27_2) = true := decide_eq_true c17
        clear c17
        by_cases c18 : x27_2 < (y321.length : Int)
        ·rw [if_pos c18] at H
         have c18b0 : decide (x27_2 < (y321.length : Int)) = true := decide_eq_true c18
         clear c18
         replace H := Option.bind_eq_some_iff.mp H
         obtain ⟨t325, A190, H⟩ := H
         (try dsimp only at H)
         have A19 := Aside0.mk A190
         clear A190
         by_cases c20 : t325 = true
         ·subst c20
          rw [if_pos rfl] at H
          obtain rfl := Option.some.inj H
          have p324 : 0 ≤ (x27_2 : Int) := of_decide_eq_true (by assumption)
          have q324 : x27_2 < (y321.length : Int) := of_decide_eq_true (by assumption)
          obtain ⟨ad324, e324, hx324_0⟩ := Kd.at_int HO_25.out x27_2 p324 q324
          cases e324
          replace p324 := eq_true p324
          replace q324 := eq_true q324
          go_wp2_with (first | ((refine gate_callee (f := 130) rfl ?_); refine goesL_ (some 33) rfl rfl Try.func130 (by kernel_rfl) rfl #[.int .i64 (wrap64 (rd y321 x27_2))] rfl (by (try simp only [List.map_toArray, List.map_cons, List.map_nil]); first | done | rfl) ?_; (with_reducible refine (impl_isOuter.calls (wrap64 (rd y321 x27_2)) true _ A19.out).mono ?_); rintro e w' ⟨rfl, ⟨nd, rfl⟩⟩; refine ⟨_, rfl, ?_⟩))
          go_ret
          exact ⟨by first | rfl | simp | simp [*], by repeat (first | (with_reducible first | exact HB.out | apply zq2 | apply zq0 | apply zq1) | exact HB.out)⟩
         ·replace c20 := Bool.eq_false_iff.mpr c20
          subst c20
          rw [if_neg (show ¬ (false = true) by decide)] at H
          have H' := Aside0.mk H
          clear H
          have p324 : 0 ≤ (x27_2 : Int) := of_decide_eq_true (by assumption)
          have q324 : x27_2 < (y321.length : Int) := of_decide_eq_true (by assumption)
          obtain ⟨ad324, e324, hx324_0⟩ := Kd.at_int HO_25.out x27_2 p324 q324
          cases e324
          replace p324 := eq_true p324
          replace q324 := eq_true q324
          go_wp2_with (first | ((refine gate_callee (f := 130) rfl ?_); refine goesL_ (some 33) rfl rfl Try.func130 (by kernel_rfl) rfl #[.int .i64 (wrap64 (rd y321 x27_2))] rfl (by (try simp only [List.map_toArray, List.map_cons, List.map_nil]); first | done | rfl) ?_; (with_reducible refine (impl_isOuter.calls (wrap64 (rd y321 x27_2)) false _ A19.out).mono ?_); rintro e w' ⟨rfl, ⟨nd, rfl⟩⟩; refine ⟨_, rfl, ?_⟩))
          go_roundg k2
          case measure => have := HJ1.out; have := HK2.out; omega
          case rel => exact ⟨(wrap64 (x27_2 + 1)), (by first | rfl | simp | simp [*]), H', ⟨by have := HJ1.out; have := HK2.out; omega⟩, ⟨HO_25.out⟩, ⟨by repeat (first | (with_reducible first | exact HB.out | apply zq2 | apply zq0 | apply zq1) | exact HB.out)⟩⟩
        ·rw [if_neg c18] at H
         exact absurd H (by simp)
       ·rw [if_neg c17] at H
        exact absurd H (by simp)
      ·rw [if_neg c16] at H
       have c16b0 : decide (x27_2 < (y321.length : Int)) = false := decide_eq_false c16
       clear c16
       obtain rfl := Option.some.inj H
       go_wp2
       go_ret
       exact ⟨by first | rfl | simp | simp [*], by repeat (first | (with_reducible first | exact HB.out | apply zq2 | apply zq0 | apply zq1) | exact HB.out)⟩
/-! ### impl_attrAt: function 94 -/
/-- The first place, from i on, at which p holds; -1 without one. -/
def idxFrom {α : Type} (p : α → Bool) : List α → Int → Int
 | [], _ => -1
 | x :: xs, i => if p x = true then i else idxFrom p xs (i + 1)
set_option maxHeartbeats 2000000 in
set_option maxRecDepth 100000 in
theorem impl_attrAt_1.calls (g : Nat) (x : S106) (a1 : ByteArray) (w : World) (hb0 : w.heap[g]? = some (.cells #[.string a1] 9 (0, 0))) :
  Calls Try.prog 120 #[.agg #[.string x.f0, .string x.f1], .pointer (some ⟨g, 0, none⟩)] w fun e w' => e = .returned (.bool (x.f0.toList == a1.toList)) ∧ Below w.heap.size w w' := by
 have hgs : g < w.heap.size := by
  rcases Nat.lt_or_ge g w.heap.size with h | h
  ·exact h
  ·rw [Array.getElem?_eq_none h] at hb0; cases hb0
 have hc1 : ∀ o, (w.alloc o).cell? ⟨g, 0, none⟩ = some (.string a1) := fun o => by
  rw [World.cell?_alloc_past _ _ _ hgs]
  unfold World.cell?
  rw [hb0]
  rfl
 have hu := Try.underlying106
 go_enter Try.func120, Try.ntmps120
 go_wp2
 go_ret
 exact ⟨by first | rfl | (simp; done), zq2 (Below.refl _ _) _⟩
set_option maxHeartbeats 8000000 in
set_option maxRecDepth 100000 in
theorem impl_attrAt_index.calls (A0 : Option Addr) (c0 : Nat) (l0 : List S106) (g : Nat) (a1 : ByteArray) (w : World) (hr0 : Kd.C k106 w A0 l0.length l0) (hc0 : l0.length ≤ c0) (hb0 : w.heap[g]? = some (.cells #[.string a1] 9 (0, 0))) :
  Calls Try.prog 119 #[.slice A0 l0.length c0, .func (.func 120) #[] #[.pointer (some ⟨g, 0, none⟩)]] w fun e w' => e = .returned (.int .i64 (idxFrom (fun x => x.f0.toList == a1.toList) l0 0)) ∧ Below w.heap.size w w' := by
 have HR0 := Aside0.mk hr0
 have HC0 := Aside0.mk hc0
 have BK0 := Aside0.mk hb0
 have HB := Aside0.mk (Below.refl w.heap.size w)
 clear hr0 hc0 hb0
 have HN := Aside0.mk HR0.out.2.1
 go_enter Try.func119, Try.ntmps119
 go_wp2
 go_loopg [8] l0.length (fun kq v8 w' => ∃ (i : Int), v8 = .int .i64 i ∧ Aside0 (0 ≤ i ∧ i + kq = l0.length) ∧ Aside0 (idxFrom (fun x => x.f0.toList == a1.toList) (l0.drop i.toNat) i = idxFrom (fun x => x.f0.toList == a1.toList) l0 0) ∧ Aside0 (Below w.heap.size w w'))
 case atStart => exact ⟨0, rfl, ⟨by omega⟩, ⟨rfl⟩, HB⟩
 case round =>
  obtain ⟨i, rfl, HK, HI, HB⟩ := hrel
  cases gk with
  | zero =>
   have c1 : decide (i < (l0.length : Int)) = false := decide_eq_false (by have := HK.out; omega)
   have hr : idxFrom (fun x => x.f0.toList == a1.toList) l0 0 = -1 := by
    rw [← HI.out, List.drop_eq_nil_of_le (by have := HK.out; omega)]; rfl
   go_wp2
   go_ret
   exact ⟨by (try rw [hr]); first | done | rfl, HB.out⟩
  | succ k1 =>
   have hi : i.toNat < l0.length := by have := HK.out; omega
   have c1 : decide (i < (l0.length : Int)) = true := decide_eq_true (by have := HK.out; omega)
   have p1 : 0 ≤ i := HK.out.1
   have q1 : i < (l0.length : Int) := by have := HK.out; omega
   obtain ⟨ad1, e1, hx0, hx1⟩ := at_T106 HR0.out i p1 q1
   cases e1
   replace hx0 := pw_cell_below HB.out hx0
   replace hx1 := pw_cell_below HB.out hx1
   have hdr : l0.drop i.toNat = rd_T106 l0 i :: l0.drop (i + 1).toNat := by
    rw [List.drop_eq_getElem_cons hi, show (i + 1).toNat = i.toNat + 1 from by omega]
    unfold rd_T106; simp [List.getD_eq_getElem?_getD, hi]
   have hw : wrap64 (i + 1) = i + 1 := by have := HK.out; have := HN.out; unfold wrap64; omega
   have HD := Aside0.mk hdr
   have HW := Aside0.mk hw
   clear hdr hi hw
   replace p1 := eq_true p1
   replace q1 := eq_true q1
   by_cases he : ((rd_T106 l0 i).f0.toList == a1.toList) = true
   ·have hr : idxFrom (fun x => x.f0.toList == a1.toList) l0 0 = i := by
     rw [← HI.out, HD.out]; simp only [idxFrom]; rw [if_pos he]
    go_wp2_with (refine goesV_ (by rfl) rfl (by rfl) Try.func120 (by kernel_rfl) rfl #[.agg #[.string (rd_T106 l0 i).f0, .string (rd_T106 l0 i).f1], .pointer (some ⟨g, 0, none⟩)] (by (try simp only [List.map_toArray, List.map_cons, List.map_nil]); first | done | rfl) ?_; (with_reducible refine (impl_attrAt_1.calls g (rd_T106 l0 i) a1 _ ?side1).mono ?_); (case side1 => exact blk_below0 BK0.out HB.out); rintro e w1 ⟨rfl, hb⟩; rw [he]; refine ⟨_, rfl, ?_⟩; have n_ := Aside0.mk (zq7 HB.out hb); clear HB; have HB := n_; clear n_ hb)
    go_ret
    exact ⟨by (try rw [hr]); first | done | rfl, HB.out⟩
   ·have he' := Bool.eq_false_iff.mpr he
    have hr : idxFrom (fun x => x.f0.toList == a1.toList) (l0.drop (i + 1).toNat) (i + 1) = idxFrom (fun x => x.f0.toList == a1.toList) l0 0 := by
     rw [← HI.out, HD.out]; simp only [idxFrom]; rw [if_neg he]
    have HR := Aside0.mk hr
    clear hr
    go_wp2_with (refine goesV_ (by rfl) rfl (by rfl) Try.func120 (by kernel_rfl) rfl #[.agg #[.string (rd_T106 l0 i).f0, .string (rd_T106 l0 i).f1], .pointer (some ⟨g, 0, none⟩)] (by (try simp only [List.map_toArray, List.map_cons, List.map_nil]); first | done | rfl) ?_; (with_reducible refine (impl_attrAt_1.calls g (rd_T106 l0 i) a1 _ ?side1).mono ?_); (case side1 => exact blk_below0 BK0.out HB.out); rintro e w1 ⟨rfl, hb⟩; rw [he']; refine ⟨_, rfl, ?_⟩; have n_ := Aside0.mk (zq7 HB.out hb); clear HB; have HB := n_; clear n_ hb)
    go_roundg k1
    case measure => omega
    case rel => exact ⟨i + 1, by rw [HW.out], ⟨by have := HK.out; omega⟩, HR, HB⟩
def impl_attrAt.f (l0 : List S106) (a1 : ByteArray) : Option Int := some (idxFrom (fun x => x.f0.toList == a1.toList) l0 0)
set_option maxHeartbeats 8000000 in
set_option maxRecDepth 100000 in
theorem impl_attrAt.calls (A0 : Option Addr) (c0 : Nat) (l0 : List S106) (a1 : ByteArray) (r : Int) (w : World) (hr0 : Kd.C k106 w A0 l0.length l0) (hc0 : l0.length ≤ c0) (h : impl_attrAt.f l0 a1 = some r) :
  Calls Try.prog 94 #[.slice A0 l0.length c0, .string a1] w fun e w' => e = .returned (.int .i64 r) ∧ Below w.heap.size w w' := by
 obtain rfl := Option.some.inj h
 have HR0 := Aside0.mk hr0
 have HC0 := Aside0.mk hc0
 clear hr0 hc0 h
 have hmf : ∀ (fn : Fn) (first cap : Array Value) (w : World), (Instr.makeFunc fn first cap).run Try.prog w = .ok (.func fn first cap) w := fun _ _ _ _ => rfl
 have hbk : (w.alloc (.cells #[.string a1] 9)).heap[w.heap.size]? = some (.cells #[.string a1] 9 (0, 0)) := by
  show (w.heap.push _)[w.heap.size]? = _
  simp
 go_enter Try.func94, Try.ntmps94
 go_wp2_with (go_at_call 119; (with_reducible refine (impl_attrAt_index.calls _ _ l0 w.heap.size a1 _ (Kd.C_alloc HR0.out _) HC0.out hbk).mono ?_); rintro e w1 ⟨rfl, hb⟩)
 go_ret
 exact ⟨rfl, (zq2 (Below.refl _ _) _).trans ⟨hb.os, hb.tape, hb.output, hb.size, fun k hk => hb.block k (Nat.lt_trans hk (by show w.heap.size < (w.heap.push _).size; simp))⟩⟩
/-! ### impl_attrOk: function 131 -/
def impl_attrOk.f (k : Nat) (a0_0 : ByteArray) (a0_1 : ByteArray) : Option (Bool) := (zq44.f (a0_0.size : Int) 1 60).bind fun t320 => (if t320 = true then (if (a0_1.size : Int) ≤ 3000 then ((zq45.f k a0_0).bind fun t321 => (if t321 = true then ((zq45.f k a0_1).bind fun t322 => (some t322)) else (some false))) else (some false)) else (some false))
theorem impl_attrOk.mono : ∀ a0 a1 k, LeO (impl_attrOk.f k a0 a1) (impl_attrOk.f (k + 1) a0 a1) := by
 intro a0 a1 k
 unfold impl_attrOk.f
 repeat' first
   | (with_reducible exact zq45.mono _ _)
   | (with_reducible exact LeO.refl _)
   | (with_reducible exact LeO.none _)
   | (with_reducible refine LeO.ite ?_ ?_)
   | (with_reducible refine LeO.bind ?_ (fun _ => ?_))
set_option maxHeartbeats 8000000 in
set_option maxRecDepth 100000 in
theorem impl_attrOk.calls (k : Nat) (a0_0 : ByteArray) (a0_1 : ByteArray) (r : Bool) (w : World) (h : impl_attrOk.f k a0_0 a0_1 = some r) :
  Calls Try.prog 131 #[.agg #[.string a0_0, .string a0_1]] w fun e w' => e = .returned (.bool r) ∧ Below w.heap.size w w' := by
 have hu106 := Try.underlying106
 have HB := Aside0.mk (Below.refl w.heap.size w)
 have H : ((zq44.f (a0_0.size : Int) 1 60).bind fun t320 => (if t320 = true then (if (a0_1.size : Int) ≤ 3000 then ((zq45.f k a0_0).bind fun t321 => (if t321 = true then ((zq45.f k a0_1).bind fun t322 => (some t322)) else (some false))) else (some false)) else (some false))) = some r := h
 clear h
 replace H := Option.bind_eq_some_iff.mp H
 obtain ⟨t320, A20, H⟩ := H
 (try dsimp only at H)
 have A2 := Aside0.mk A20
 clear A20
 by_cases c3 : t320 = true
 ·subst c3
  rw [if_pos rfl] at H
  by_cases c4 : (a0_1.size : Int) ≤ 3000
  ·rw [if_pos c4] at H
   have c4b0 : decide ((a0_1.size : Int) ≤ 3000) = true := decide_eq_true c4
   have c4b1 : decide (a0_1.size ≤ 3000) = true := decide_eq_true (by omega)
   clear c4
   replace H := Option.bind_eq_some_iff.mp H
   obtain ⟨t321, A50, H⟩ := H
   (try dsimp only at H)
   have A5 := Aside0.mk A50
   clear A50
   by_cases c6 : t321 = true
   ·subst c6
    rw [if_pos rfl] at H
    replace H := Option.bind_eq_some_iff.mp H
    obtain ⟨t322, A70, H⟩ := H
    (try dsimp only at H)
    have A7 := Aside0.mk A70
    clear A70
    obtain rfl := Option.some.inj H
    go_enter Try.func131, Try.ntmps131
    go_wp2_with (first | ((refine gate_dst (N := 1) rfl ?_); (try (refine gate_guard (by rfl) ?_; dsimp only)); refine box_event ?hg (N := 1) ?hd (cs := #[.string a0_0, .string a0_1]) (t := 106) ?hr ?_; (case hd => rfl); (case hg => rfl); (case hr => first | (go_simp; done) | (go_simp; rfl)); intro gb319 hg w8 hbox hb; have BK319 := Aside0.mk (hbox); have GW319 := Aside0.mk ((by rw [hg]; exact (below_size (by repeat (with_reducible first | exact HB.out | apply zq2 | apply zq0 | apply zq1))) : w.heap.size ≤ gb319)); replace HB := Aside0.mk (zq7 (by repeat (with_reducible first | exact HB.out | apply zq2 | apply zq0 | apply zq1)) hb); have GE319 := GW319; clear hb hbox hg; obtain ⟨hcz9_0, hcz9_1, hfz9_0, hfz9_1⟩ := cells2 BK319.out) | ((refine gate_callee (f := 75) rfl ?_); refine goesL_ (some 6) rfl rfl Try.func75 (by kernel_rfl) rfl #[.int .i64 (a0_0.size : Int), .int .i64 1, .int .i64 60] rfl (by (try simp only [List.map_toArray, List.map_cons, List.map_nil]); first | done | rfl) ?_; (with_reducible refine (zq44.calls (a0_0.size : Int) 1 60 true _ A2.out).mono ?_); rintro e w' ⟨rfl, ⟨nd, rfl⟩⟩; refine ⟨_, rfl, ?_⟩) | (go_at_call 116; (with_reducible refine (zq45.calls k a0_0 true _ A5.out).mono ?_); rintro e w10 ⟨rfl, hb⟩; replace BK319 := Aside0.mk (zq10 (g := gb319) (o := .cells #[.string a0_0, .string a0_1] 106 (0, 0)) (by (with_reducible repeat (first | refine zq4 ?_ _ | refine zq6 ?_ | refine zq5 ?_ _)); exact BK319.out) hb); replace HB := Aside0.mk (zq7 (by repeat (with_reducible first | exact HB.out | apply zq2 | apply zq0 | apply zq1 | refine zq3 ?_ GE319.out)) hb); (try clear hb); obtain ⟨hcz11_0, hcz11_1, hfz11_0, hfz11_1⟩ := cells2 BK319.out) | (go_at_call 116; (with_reducible refine (zq45.calls k a0_1 t322 _ A7.out).mono ?_); rintro e w12 ⟨rfl, hb⟩; replace BK319 := Aside0.mk (zq10 (g := gb319) (o := .cells #[.string a0_0, .string a0_1] 106 (0, 0)) (by (with_reducible repeat (first | refine zq4 ?_ _ | refine zq6 ?_ | refine zq5 ?_ _)); exact BK319.out) hb); replace HB := Aside0.mk (zq7 (by repeat (with_reducible first | exact HB.out | apply zq2 | apply zq0 | apply zq1 | refine zq3 ?_ GE319.out)) hb); (try clear hb)))
    go_ret
    exact ⟨by first | rfl | simp | simp [*], by repeat (first | (with_reducible first | exact HB.out | apply zq2 | apply zq0 | apply zq1 | refine zq3 ?_ GE319.out) | exact HB.out)⟩
   ·replace c6 := Bool.eq_false_iff.mpr c6
    subst c6
    rw [if_neg (show ¬ (false = true) by decide)] at H
    obtain rfl := Option.some.inj H
    go_enter Try.func131, Try.ntmps131
    go_wp2_with (first | ((refine gate_dst (N := 1) rfl ?_); (try (refine gate_guard (by rfl) ?_; dsimp only)); refine box_event ?hg (N := 1) ?hd (cs := #[.string a0_0, .string a0_1]) (t := 106) ?hr ?_; (case hd => rfl); (case hg => rfl); (case hr => first | (go_simp; done) | (go_simp; rfl)); intro gb319 hg w13 hbox hb; have BK319 := Aside0.mk (hbox); have GW319 := Aside0.mk ((by rw [hg]; exact (below_size (by repeat (with_reducible first | exact HB.out | apply zq2 | apply zq0 | apply zq1))) : w.heap.size ≤ gb319)); replace HB := Aside0.mk (zq7 (by repeat (with_reducible first | exact HB.out | apply zq2 | apply zq0 | apply zq1)) hb); have GE319 := GW319; clear hb hbox hg; obtain ⟨hcz14_0, hcz14_1, hfz14_0, hfz14_1⟩ := cells2 BK319.out) | ((refine gate_callee (f := 75) rfl ?_); refine goesL_ (some 6) rfl rfl Try.func75 (by kernel_rfl) rfl #[.int .i64 (a0_0.size : Int), .int .i64 1, .int .i64 60] rfl (by (try simp only [List.map_toArray, List.map_cons, List.map_nil]); first | done | rfl) ?_; (with_reducible refine (zq44.calls (a0_0.size : Int) 1 60 true _ A2.out).mono ?_); rintro e w' ⟨rfl, ⟨nd, rfl⟩⟩; refine ⟨_, rfl, ?_⟩) | (go_at_call 116; (with_reducible refine (zq45.calls k a0_0 false _ A5.out).mono ?_); rintro e w15 ⟨rfl, hb⟩; replace BK319 := Aside0.mk (zq10 (g := gb319) (o := .cells #[.string a0_0, .string a0_1] 106 (0, 0)) (by (with_reducible repeat (first | refine zq4 ?_ _ | refine zq6 ?_ | refine zq5 ?_ _)); exact BK319.out) hb); replace HB := Aside0.mk (zq7 (by repeat (with_reducible first | exact HB.out | apply zq2 | apply zq0 | apply zq1 | refine zq3 ?_ GE319.out)) hb); (try clear hb)))
    go_ret
    exact ⟨by first | rfl | simp | simp [*], by repeat (first | (with_reducible first | exact HB.out | apply zq2 | apply zq0 | apply zq1 | refine zq3 ?_ GE319.out) | exact HB.out)⟩
  ·rw [if_neg c4] at H
   have c4b0 : decide ((a0_1.size : Int) ≤ 3000) = false := decide_eq_false c4
   have c4b1 : decide (a0_1.size ≤ 3000) = false := decide_eq_false (by omega)
   clear c4
   obtain rfl := Option.some.inj H
   go_enter Try.func131, Try.ntmps131
   go_wp2_with (first | ((refine gate_dst (N := 1) rfl ?_); (try (refine gate_guard (by rfl) ?_; dsimp only)); refine box_event ?hg (N := 1) ?hd (cs := #[.string a0_0, .string a0_1]) (t := 106) ?hr ?_; (case hd => rfl); (case hg => rfl); (case hr => first | (go_simp; done) | (go_simp; rfl)); intro gb319 hg w16 hbox hb; have BK319 := Aside0.mk (hbox); have GW319 := Aside0.mk ((by rw [hg]; exact (below_size (by repeat (with_reducible first | exact HB.out | apply zq2 | apply zq0 | apply zq1))) : w.heap.size ≤ gb319)); replace HB := Aside0.mk (zq7 (by repeat (with_reducible first | exact HB.out | apply zq2 | apply zq0 | apply zq1)) hb); have GE319 := GW319; clear hb hbox hg; obtain ⟨hcz17_0, hcz17_1, hfz17_0, hfz17_1⟩ := cells2 BK319.out) | ((refine gate_callee (f := 75) rfl ?_); refine goesL_ (some 6) rfl rfl Try.func75 (by kernel_rfl) rfl #[.int .i64 (a0_0.size : Int), .int .i64 1, .int .i64 60] rfl (by (try simp only [List.map_toArray, List.map_cons, List.map_nil]); first | done | rfl) ?_; (with_reducible refine (zq44.calls (a0_0.size : Int) 1 60 true _ A2.out).mono ?_); rintro e w' ⟨rfl, ⟨nd, rfl⟩⟩; refine ⟨_, rfl, ?_⟩))
   go_ret
   exact ⟨by first | rfl | simp | simp [*], by repeat (first | (with_reducible first | exact HB.out | apply zq2 | apply zq0 | apply zq1 | refine zq3 ?_ GE319.out) | exact HB.out)⟩
 ·replace c3 := Bool.eq_false_iff.mpr c3
  subst c3
  rw [if_neg (show ¬ (false = true) by decide)] at H
  obtain rfl := Option.some.inj H
  go_enter Try.func131, Try.ntmps131
  go_wp2_with (first | ((refine gate_dst (N := 1) rfl ?_); (try (refine gate_guard (by rfl) ?_; dsimp only)); refine box_event ?hg (N := 1) ?hd (cs := #[.string a0_0, .string a0_1]) (t := 106) ?hr ?_; (case hd => rfl); (case hg => rfl); (case hr => first | (go_simp; done) | (go_simp; rfl)); intro gb319 hg w18 hbox hb; have BK319 := Aside0.mk (hbox); have GW319 := Aside0.mk ((by rw [hg]; exact (below_size (by repeat (with_reducible first | exact HB.out | apply zq2 | apply zq0 | apply zq1))) : w.heap.size ≤ gb319)); replace HB := Aside0.mk (zq7 (by repeat (with_reducible first | exact HB.out | apply zq2 | apply zq0 | apply zq1)) hb); have GE319 := GW319; clear hb hbox hg; obtain ⟨hcz19_0, hcz19_1, hfz19_0, hfz19_1⟩ := cells2 BK319.out) | ((refine gate_callee (f := 75) rfl ?_); refine goesL_ (some 6) rfl rfl Try.func75 (by kernel_rfl) rfl #[.int .i64 (a0_0.size : Int), .int .i64 1, .int .i64 60] rfl (by (try simp only [List.map_toArray, List.map_cons, List.map_nil]); first | done | rfl) ?_; (with_reducible refine (zq44.calls (a0_0.size : Int) 1 60 false _ A2.out).mono ?_); rintro e w' ⟨rfl, ⟨nd, rfl⟩⟩; refine ⟨_, rfl, ?_⟩))
  go_ret
  exact ⟨by first | rfl | simp | simp [*], by repeat (first | (with_reducible first | exact HB.out | apply zq2 | apply zq0 | apply zq1 | refine zq3 ?_ GE319.out) | exact HB.out)⟩
/-! ### zq58: function 115 -/
def zq58.l0 : Nat → List (S106) → List (S106) → Int → Int → Option (Bool)
 | 0, _, _, _, _ => none
 | k + 1, x0, x8, x9, x10 => if x10 < x9 then (if 0 ≤ x10 then (if x10 < (x8.length : Int) then ((impl_attrAt.f x0 ((rd_T106 x8 x10).f0)).bind fun t325 => (if t325 = x10 then ((impl_attrOk.f k ((rd_T106 x8 x10).f0) ((rd_T106 x8 x10).f1)).bind fun t326 => (if t326 = true then (zq58.l0 k x0 x8 x9 (wrap64 (x10 + 1))) else (some false))) else (some false))) else (none)) else (none)) else (some true)
def zq58.f (k : Nat) (l0 : List (S106)) : Option (Bool) := if (l0.length : Int) > 20 then (some false) else (zq58.l0 k l0 l0 (l0.length : Int) 0)
theorem zq58.mono_l : ∀ k, (∀ y0 y1 y2 y3, LeO (zq58.l0 k y0 y1 y2 y3) (zq58.l0 (k + 1) y0 y1 y2 y3))
 | 0 => fun _ _ _ _ r h => by simp [zq58.l0] at h
 | k + 1 => by
  have ih0 := zq58.mono_l k
  ·intro y0 y1 y2 y3
   unfold zq58.l0
   repeat' first
   | (with_reducible exact ih0 _ _ _ _)
   | (with_reducible exact impl_attrOk.mono _ _ _)
   | (with_reducible exact LeO.refl _)
   | (with_reducible exact LeO.none _)
   | (with_reducible refine LeO.ite ?_ ?_)
   | (with_reducible refine LeO.bind ?_ (fun _ => ?_))
theorem zq58.mono : ∀ a0 k, LeO (zq58.f k a0) (zq58.f (k + 1) a0) := by
 intro a0 k
 have ih0 := zq58.mono_l k
 unfold zq58.f
 repeat' first
   | (with_reducible exact ih0 _ _ _ _)
   | (with_reducible exact impl_attrOk.mono _ _ _)
   | (with_reducible exact LeO.refl _)
   | (with_reducible exact LeO.none _)
   | (with_reducible refine LeO.ite ?_ ?_)
   | (with_reducible refine LeO.bind ?_ (fun _ => ?_))
set_option maxHeartbeats 8000000 in
set_option maxRecDepth 100000 in
theorem zq58.calls (k : Nat) (A0 : Option Addr) (c0 : Nat) (l0 : List (S106)) (r : Bool) (w : World) (hr0 : Kd.C k106 w A0 l0.length l0) (hc0 : l0.length ≤ c0) (h : zq58.f k l0 = some r) :
  Calls Try.prog 115 #[.slice A0 l0.length c0] w fun e w' => e = .returned (.bool r) ∧ Below w.heap.size w w' := by
 have hu106 := Try.underlying106
 have HR0 := Aside0.mk hr0
 have HC0 := Aside0.mk hc0
 clear hr0 hc0
 have HB := Aside0.mk (Below.refl w.heap.size w)
 have H : (if (l0.length : Int) > 20 then (some false) else (zq58.l0 k l0 l0 (l0.length : Int) 0)) = some r := h
 clear h
 by_cases c2 : (l0.length : Int) > 20
 ·rw [if_pos c2] at H
  have c2b0 : decide (20 < (l0.length : Int)) = true := decide_eq_true c2
  have c2b1 : decide (20 < l0.length) = true := decide_eq_true (by omega)
  clear c2
  obtain rfl := Option.some.inj H
  go_enter Try.func115, Try.ntmps115
  go_wp2
  go_ret
  exact ⟨by first | rfl | simp | simp [*], by repeat (first | (with_reducible first | exact HB.out | apply zq2 | apply zq0 | apply zq1) | exact HB.out)⟩
 ·rw [if_neg c2] at H
  have c2b0 : decide (20 < (l0.length : Int)) = false := decide_eq_false c2
  have c2b1 : decide (20 < l0.length) = false := decide_eq_false (by omega)
  clear c2
  have H' := Aside0.mk H
  clear H
  go_enter Try.func115, Try.ntmps115
  go_wp2
  go_loopg [10] k (fun kq v10 w' => ∃ (x10_1 : Int), v10 = .int .i64 x10_1 ∧ Aside0 (zq58.l0 kq l0 l0 (l0.length : Int) x10_1 = some r) ∧ Aside0 (kq ≤ k) ∧ Aside0 (Below w.heap.size w w'))
  case atStart => exact ⟨(0), (by first | rfl | simp | simp [*]), H', ⟨Nat.le_refl _⟩, ⟨by repeat (first | (with_reducible first | exact HB.out | apply zq2 | apply zq0 | apply zq1) | exact HB.out)⟩⟩
  case round =>
   clear H'
   obtain ⟨x10_1, rfl, HA, HK1, HB⟩ := hrel
   cases gk with
   | zero => exact absurd HA.out (by simp [zq58.l0])
   | succ k1 =>
    have H := HA.out
    clear HA
    simp only [zq58.l0] at H
    by_cases c3 : x10_1 < (l0.length : Int)
    ·rw [if_pos c3] at H
     have c3b0 : decide (x10_1 < (l0.length : Int)) = true := decide_eq_true c3
     clear c3
     by_cases c4 : 0 ≤ x10_1
     ·rw [if_pos c4] at H
      have c4b0 : decide (0 ≤ x10_1) = true := decide_eq_true c4
      clear c4
      by_cases c5 : x10_1 < (l0.length : Int)
      ·rw [if_pos c5] at H
       have c5b0 : decide (x10_1 < (l0.length : Int)) = true := decide_eq_true c5
       clear c5
       replace H := Option.bind_eq_some_iff.mp H
       obtain ⟨t325, A60, H⟩ := H
       (try dsimp only at H)
       have A6 := Aside0.mk A60
       clear A60
       by_cases c7 : t325 = x10_1
       ·rw [if_pos c7] at H
        have c7b0 := beq_iff_eq.mpr c7
        have c7b1 := bne_eq_false_iff_eq.mpr c7
        clear c7
        replace H := Option.bind_eq_some_iff.mp H
        obtain ⟨t326, A80, H⟩ := H
        (try dsimp only at H)
        have A8 := Aside0.mk A80
        clear A80
        by_cases c9 : t326 = true
        ·subst c9
         rw [if_pos rfl] at H
         have H' := Aside0.mk H
         clear H
         have p323 : 0 ≤ (x10_1 : Int) := of_decide_eq_true (by assumption)
         have q323 : x10_1 < (l0.length : Int) := of_decide_eq_true (by assumption)
         obtain ⟨ad323, e323, hx323_0, hx323_1⟩ := at_T106 HR0.out x10_1 p323 q323
         cases e323
         replace hx323_0 := pw_cell_below HB.out hx323_0
         replace hx323_1 := pw_cell_below HB.out hx323_1
         replace p323 := eq_true p323
         replace q323 := eq_true q323
         go_wp2_with (first | ((refine gate_dst (N := 4) rfl ?_); refine box_event ?hg (N := 4) ?hd (cs := #[.string (⟨#[]⟩ : ByteArray), .string (⟨#[]⟩ : ByteArray)]) (t := 106) ?hr ?_; (case hd => rfl); (case hg => rfl); (case hr => first | (go_simp; done) | (go_simp; rfl)); intro gb324 hg w10 hbox hb; have BK324 := Aside0.mk (hbox); have GW324 := Aside0.mk ((by rw [hg]; exact (below_size (by repeat (with_reducible first | exact HB.out | apply zq2 | apply zq0 | apply zq1))) : w.heap.size ≤ gb324)); replace HB := Aside0.mk (zq7 (by repeat (with_reducible first | exact HB.out | apply zq2 | apply zq0 | apply zq1)) hb); have GE324 := GW324; clear hb hbox hg; obtain ⟨hcz11_0, hcz11_1, hfz11_0, hfz11_1⟩ := cells2 BK324.out) | ((refine gate_callee (f := 94) rfl ?_); refine goesL_ (some 18) rfl rfl Try.func94 (by kernel_rfl) rfl #[.slice (some ad323) l0.length c0, .string ((rd_T106 l0 x10_1).f0)] rfl (by (try simp only [List.map_toArray, List.map_cons, List.map_nil]); first | done | rfl) ?_; (with_reducible refine (impl_attrAt.calls _ _ l0 ((rd_T106 l0 x10_1).f0) t325 _ ?side1 ?side2 A6.out).mono ?_); (case side1 => exact Kd.C_below HR0.out (by repeat (with_reducible first | exact HB.out | apply zq2 | apply zq0 | apply zq1 | refine zq3 ?_ GE324.out))); (case side2 => exact HC0.out); rintro e w12 ⟨rfl, hb⟩; refine ⟨_, rfl, ?_⟩; replace BK324 := Aside0.mk (zq10 (g := gb324) (o := .cells #[.string ((rd_T106 l0 x10_1).f0), .string ((rd_T106 l0 x10_1).f1)] 106 (0, 0)) (by (with_reducible repeat (first | refine zq4 ?_ _ | refine zq6 ?_ | refine zq5 ?_ _)); refine blk_put (cs := #[.string ((rd_T106 l0 x10_1).f0), .string (⟨#[]⟩ : ByteArray)]) ?_ 1 _ rfl; (with_reducible repeat (first | refine zq4 ?_ _ | refine zq6 ?_ | refine zq5 ?_ _)); refine blk_put (cs := #[.string (⟨#[]⟩ : ByteArray), .string (⟨#[]⟩ : ByteArray)]) ?_ 0 _ rfl; (with_reducible repeat (first | refine zq4 ?_ _ | refine zq6 ?_ | refine zq5 ?_ _)); exact BK324.out) hb); replace HB := Aside0.mk (zq7 (by repeat (with_reducible first | exact HB.out | apply zq2 | apply zq0 | apply zq1 | refine zq3 ?_ GE324.out)) hb); (try clear hb); obtain ⟨hcz13_0, hcz13_1, hfz13_0, hfz13_1⟩ := cells2 BK324.out) | (go_at_call 131; (with_reducible refine (impl_attrOk.calls k1 ((rd_T106 l0 x10_1).f0) ((rd_T106 l0 x10_1).f1) true _ A8.out).mono ?_); rintro e w14 ⟨rfl, hb⟩; replace BK324 := Aside0.mk (zq10 (g := gb324) (o := .cells #[.string ((rd_T106 l0 x10_1).f0), .string ((rd_T106 l0 x10_1).f1)] 106 (0, 0)) (by (with_reducible repeat (first | refine zq4 ?_ _ | refine zq6 ?_ | refine zq5 ?_ _)); exact BK324.out) hb); replace HB := Aside0.mk (zq7 (by repeat (with_reducible first | exact HB.out | apply zq2 | apply zq0 | apply zq1 | refine zq3 ?_ GE324.out)) hb); (try clear hb)))
         go_roundg k1
         case measure => have := HK1.out; omega
         case rel => exact ⟨(wrap64 (x10_1 + 1)), (by first | rfl | simp | simp [*]), H', ⟨by have := HK1.out; omega⟩, ⟨by repeat (first | (with_reducible first | exact HB.out | apply zq2 | apply zq0 | apply zq1 | refine zq3 ?_ GE324.out) | exact HB.out)⟩⟩
        ·replace c9 := Bool.eq_false_iff.mpr c9
         subst c9
         rw [if_neg (show ¬ (false = true) by decide)] at H
         obtain rfl := Option.some.inj H
         have p323 : 0 ≤ (x10_1 : Int) := of_decide_eq_true (by assumption)
         have q323 : x10_1 < (l0.length : Int) := of_decide_eq_true (by assumption)
         obtain ⟨ad323, e323, hx323_0, hx323_1⟩ := at_T106 HR0.out x10_1 p323 q323
         cases e323
         replace hx323_0 := pw_cell_below HB.out hx323_0
         replace hx323_1 := pw_cell_below HB.out hx323_1
         replace p323 := eq_true p323
         replace q323 := eq_true q323
         go_wp2_with (first | ((refine gate_dst (N := 4) rfl ?_); refine box_event ?hg (N := 4) ?hd (cs := #[.string (⟨#[]⟩ : ByteArray), .string (⟨#[]⟩ : ByteArray)]) (t := 106) ?hr ?_; (case hd => rfl); (case hg => rfl); (case hr => first | (go_simp; done) | (go_simp; rfl)); intro gb324 hg w15 hbox hb; have BK324 := Aside0.mk (hbox); have GW324 := Aside0.mk ((by rw [hg]; exact (below_size (by repeat (with_reducible first | exact HB.out | apply zq2 | apply zq0 | apply zq1))) : w.heap.size ≤ gb324)); replace HB := Aside0.mk (zq7 (by repeat (with_reducible first | exact HB.out | apply zq2 | apply zq0 | apply zq1)) hb); have GE324 := GW324; clear hb hbox hg; obtain ⟨hcz16_0, hcz16_1, hfz16_0, hfz16_1⟩ := cells2 BK324.out) | ((refine gate_callee (f := 94) rfl ?_); refine goesL_ (some 18) rfl rfl Try.func94 (by kernel_rfl) rfl #[.slice (some ad323) l0.length c0, .string ((rd_T106 l0 x10_1).f0)] rfl (by (try simp only [List.map_toArray, List.map_cons, List.map_nil]); first | done | rfl) ?_; (with_reducible refine (impl_attrAt.calls _ _ l0 ((rd_T106 l0 x10_1).f0) t325 _ ?side1 ?side2 A6.out).mono ?_); (case side1 => exact Kd.C_below HR0.out (by repeat (with_reducible first | exact HB.out | apply zq2 | apply zq0 | apply zq1 | refine zq3 ?_ GE324.out))); (case side2 => exact HC0.out); rintro e w17 ⟨rfl, hb⟩; refine ⟨_, rfl, ?_⟩; replace BK324 := Aside0.mk (zq10 (g := gb324) (o := .cells #[.string ((rd_T106 l0 x10_1).f0), .string ((rd_T106 l0 x10_1).f1)] 106 (0, 0)) (by (with_reducible repeat (first | refine zq4 ?_ _ | refine zq6 ?_ | refine zq5 ?_ _)); refine blk_put (cs := #[.string ((rd_T106 l0 x10_1).f0), .string (⟨#[]⟩ : ByteArray)]) ?_ 1 _ rfl; (with_reducible repeat (first | refine zq4 ?_ _ | refine zq6 ?_ | refine zq5 ?_ _)); refine blk_put (cs := #[.string (⟨#[]⟩ : ByteArray), .string (⟨#[]⟩ : ByteArray)]) ?_ 0 _ rfl; (with_reducible repeat (first | refine zq4 ?_ _ | refine zq6 ?_ | refine zq5 ?_ _)); exact BK324.out) hb); replace HB := Aside0.mk (zq7 (by repeat (with_reducible first | exact HB.out | apply zq2 | apply zq0 | apply zq1 | refine zq3 ?_ GE324.out)) hb); (try clear hb); obtain ⟨hcz18_0, hcz18_1, hfz18_0, hfz18_1⟩ := cells2 BK324.out) | (go_at_call 131; (with_reducible refine (impl_attrOk.calls k1 ((rd_T106 l0 x10_1).f0) ((rd_T106 l0 x10_1).f1) false _ A8.out).mono ?_); rintro e w19 ⟨rfl, hb⟩; replace BK324 := Aside0.mk (zq10 (g := gb324) (o := .cells #[.string ((rd_T106 l0 x10_1).f0), .string ((rd_T106 l0 x10_1).f1)] 106 (0, 0)) (by (with_reducible repeat (first | refine zq4 ?_ _ | refine zq6 ?_ | refine zq5 ?_ _)); exact BK324.out) hb); replace HB := Aside0.mk (zq7 (by repeat (with_reducible first | exact HB.out | apply zq2 | apply zq0 | apply zq1 | refine zq3 ?_ GE324.out)) hb); (try clear hb)))
         go_ret
         exact ⟨by first | rfl | simp | simp [*], by repeat (first | (with_reducible first | exact HB.out | apply zq2 | apply zq0 | apply zq1 | refine zq3 ?_ GE324.out) | exact HB.out)⟩
       ·rw [if_neg c7] at H
        have c7b0 := beq_eq_false_iff_ne.mpr c7
        have c7b1 := bne_iff_ne.mpr c7
        obtain rfl := Option.some.inj H
        have p323 : 0 ≤ (x10_1 : Int) := of_decide_eq_true (by assumption)
        have q323 : x10_1 < (l0.length : Int) := of_decide_eq_true (by assumption)
        obtain ⟨ad323, e323, hx323_0, hx323_1⟩ := at_T106 HR0.out x10_1 p323 q323
        cases e323
        replace hx323_0 := pw_cell_below HB.out hx323_0
        replace hx323_1 := pw_cell_below HB.out hx323_1
        replace p323 := eq_true p323
        replace q323 := eq_true q323
        go_wp2_with (first | ((refine gate_dst (N := 4) rfl ?_); refine box_event ?hg (N := 4) ?hd (cs := #[.string (⟨#[]⟩ : ByteArray), .string (⟨#[]⟩ : ByteArray)]) (t := 106) ?hr ?_; (case hd => rfl); (case hg => rfl); (case hr => first | (go_simp; done) | (go_simp; rfl)); intro gb324 hg w20 hbox hb; have BK324 := Aside0.mk (hbox); have GW324 := Aside0.mk ((by rw [hg]; exact (below_size (by repeat (with_reducible first | exact HB.out | apply zq2 | apply zq0 | apply zq1))) : w.heap.size ≤ gb324)); replace HB := Aside0.mk (zq7 (by repeat (with_reducible first | exact HB.out | apply zq2 | apply zq0 | apply zq1)) hb); have GE324 := GW324; clear hb hbox hg; obtain ⟨hcz21_0, hcz21_1, hfz21_0, hfz21_1⟩ := cells2 BK324.out) | ((refine gate_callee (f := 94) rfl ?_); refine goesL_ (some 18) rfl rfl Try.func94 (by kernel_rfl) rfl #[.slice (some ad323) l0.length c0, .string ((rd_T106 l0 x10_1).f0)] rfl (by (try simp only [List.map_toArray, List.map_cons, List.map_nil]); first | done | rfl) ?_; (with_reducible refine (impl_attrAt.calls _ _ l0 ((rd_T106 l0 x10_1).f0) t325 _ ?side1 ?side2 A6.out).mono ?_); (case side1 => exact Kd.C_below HR0.out (by repeat (with_reducible first | exact HB.out | apply zq2 | apply zq0 | apply zq1 | refine zq3 ?_ GE324.out))); (case side2 => exact HC0.out); rintro e w22 ⟨rfl, hb⟩; refine ⟨_, rfl, ?_⟩; replace BK324 := Aside0.mk (zq10 (g := gb324) (o := .cells #[.string ((rd_T106 l0 x10_1).f0), .string ((rd_T106 l0 x10_1).f1)] 106 (0, 0)) (by (with_reducible repeat (first | refine zq4 ?_ _ | refine zq6 ?_ | refine zq5 ?_ _)); refine blk_put (cs := #[.string ((rd_T106 l0 x10_1).f0), .string (⟨#[]⟩ : ByteArray)]) ?_ 1 _ rfl; (with_reducible repeat (first | refine zq4 ?_ _ | refine zq6 ?_ | refine zq5 ?_ _)); refine blk_put (cs := #[.string (⟨#[]⟩ : ByteArray), .string (⟨#[]⟩ : ByteArray)]) ?_ 0 _ rfl; (with_reducible repeat (first | refine zq4 ?_ _ | refine zq6 ?_ | refine zq5 ?_ _)); exact BK324.out) hb); replace HB := Aside0.mk (zq7 (by repeat (with_reducible first | exact HB.out | apply zq2 | apply zq0 | apply zq1 | refine zq3 ?_ GE324.out)) hb); (try clear hb)))
        go_ret
        exact ⟨by first | rfl | simp | simp [*], by repeat (first | (with_reducible first | exact HB.out | apply zq2 | apply zq0 | apply zq1 | refine zq3 ?_ GE324.out) | exact HB.out)⟩
      ·rw [if_neg c5] at H
       exact absurd H (by simp)
     ·rw [if_neg c4] at H
      exact absurd H (by simp)
    ·rw [if_neg c3] at H
     have c3b0 : decide (x10_1 < (l0.length : Int)) = false := decide_eq_false c3
     clear c3
     obtain rfl := Option.some.inj H
     go_wp2
     go_ret
     exact ⟨by first | rfl | simp | simp [*], by repeat (first | (with_reducible first | exact HB.out | apply zq2 | apply zq0 | apply zq1) | exact HB.out)⟩
end Go.Proofs.Ytpojadoklfdfiaa.G

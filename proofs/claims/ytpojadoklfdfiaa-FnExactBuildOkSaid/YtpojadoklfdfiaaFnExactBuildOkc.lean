/- The given statement of the law FnExactBuildOk: for every input the law returns true, and each argument reads behind the call as it read before; no condition ahead of it. -/
import Derived.Test.YtpojadoklfdfiaaRows
import Derived.WalkKit
import Derived.ProofKit
import Derived.OpenShut
import Derived.ShutString
import Derived.ChangeOld
import Derived.Below
import Derived.SizedLaws
import Derived.HandedShaped
import Derived.Test.YtpojadoklfdfiaaQ2
import Derived.Test.YtpojadoklfdfiaaL0
import Derived.Test.YtpojadoklfdfiaaHS
import Derived.Test.YtpojadoklfdfiaaBo0
import Derived.Test.YtpojadoklfdfiaaBo1
namespace Go.Proofs.Ytpojadoklfdfiaa.fnExactBuildOk
open Go.ChangeShapes Go.WideShapes Go.ChangeAt Go.RowKit
open Go.ChangeMaps (open_string shut_string)
open Go.Proofs.Ytpojadoklfdfiaa.M
set_option linter.unusedVariables false
theorem own : ownKnob Try.prog.godebug = none := by kernel_rfl
theorem laidOut : laidOutB Try.prog = true := by kernel_rfl
set_option maxRecDepth 100000 in
theorem lifted (os : Os) (started : os.Started) (H : Type) (enc : TypeId × Value → H) :
    ReturnsInHanded {} Try.checked os 13 .any (Rows.fnExactBuildOkSpec.pre6 enc Try.prog Try.f13 Rows.fnExactBuildOkRow.domain false) (Rows.fnExactBuildOkSpec.post enc Try.prog Try.f13 false true false false) := by
  refine returnsInHanded_of_change_shaped (C := Try.checked) own started (by kernel_rfl) Try.func13
    (ChangeSpec.witness6 (enc := enc) (C := Try.checked) false ⟨#[], #[(.agg #[(.slice none 0 0), (.slice none 0 0), (.slice none 0 0), (.int .i64 0), (.int .i64 0), (.int .i64 0), (.int .i64 0), (.string ⟨#[]⟩), (.bool false), (.int .i64 0)])], []⟩ 8 (by kernel_rfl) (by kernel_rfl) (by kernel_rfl) (by kernel_rfl)) ?_
  intro W base args ds gs before hval0 hW hcnd hsz0 hsh _
  have hX : ∃ m : Int, W.cell? ⟨0, 0, none⟩ = some (.int .i64 m) := Try.laysM144.s1_3 W hsh
  have hGlob : GlobOk W (oldRo W) := globOk_of hX
  have hsz : (DataW.weightsEach Try.prog (Try.f13.params.toList ++ Rows.fnExactBuildOkSpec.plain.varTypes Try.prog) (ds ++ gs)).all (· ≤ reachBytes) = true := hsz0
  have hval : ∀ (j : Nat) t v, Try.f13.params[j]? = some t → args[j]? = some v → Value.okWide Try.prog W .any base t v := hval0
  have hW' := hW
  obtain ⟨p, q, hA0, hV, rfl, hfz, hnd⟩ := hW
  have hA : DataW.TrodAll enc Try.prog W 0 (fun _ => true) true Try.f13.params.toList args.toList ds p := hA0
  rw [Try.params13] at hA hval hsz
  obtain ⟨v0, vs0, d0, ds0, p0, q0, hargs, rfl, rfl, h0, r0⟩ := trodAll_cons hA
  obtain ⟨rfl, rfl, rfl⟩ := trodAll_nil r0
  obtain rfl : args = #[v0] := by cases args; simp_all
  obtain ⟨rfl, rfl⟩ := trodVars_none hV
  have k0 := h0
  have lt0 : ∀ x ∈ p0, x.block < W.heap.size := by obtain ⟨m, hm⟩ := k0; exact DataW.trod_lt m _ _ _ hm
  obtain ⟨x0, rd0, s0⟩ := opens_arg (opens_struct Try.underlying52 (by kernel_rfl) (opens_next (opens_struct Try.underlying24 (by kernel_rfl) (opens_last (opens_slice (B := 96) Try.underlying22 (by kernel_rfl) (by kernel_rfl) (opens_struct Try.underlying88 (by kernel_rfl) (opens_next (opens_int (k := .i64) Try.underlying3 (by kernel_rfl)) rfl (opens_next (opens_string Try.underlying9 (by kernel_rfl)) rfl (opens_next (opens_slice (B := 32) Try.underlying86 (by kernel_rfl) (by kernel_rfl) (opens_struct Try.underlying124 (by kernel_rfl) (opens_next (opens_string Try.underlying9 (by kernel_rfl)) rfl (opens_last (opens_string Try.underlying9 (by kernel_rfl)) rfl)) id id (fun _ => rfl)) (by decide)) rfl (opens_next (opens_string Try.underlying9 (by kernel_rfl)) rfl (opens_next (opens_int (k := .i64) Try.underlying3 (by kernel_rfl)) rfl (opens_last (opens_slice (B := 8) Try.underlying33 (by kernel_rfl) (by kernel_rfl) (opens_int (k := .i64) Try.underlying3 (by kernel_rfl)) (by decide)) rfl)))))) id id (fun _ => rfl)) (by decide)) rfl) id id (fun _ => rfl)) rfl (opens_next (opens_slice (B := 8) Try.underlying33 (by kernel_rfl) (by kernel_rfl) (opens_int (k := .i64) Try.underlying3 (by kernel_rfl)) (by decide)) rfl (opens_next (opens_slice (B := 8) Try.underlying33 (by kernel_rfl) (by kernel_rfl) (opens_int (k := .i64) Try.underlying3 (by kernel_rfl)) (by decide)) rfl (opens_next (opens_int (k := .i64) Try.underlying3 (by kernel_rfl)) rfl (opens_next (opens_int (k := .i64) Try.underlying3 (by kernel_rfl)) rfl (opens_next (opens_int (k := .i64) Try.underlying3 (by kernel_rfl)) rfl (opens_next (opens_int (k := .i64) Try.underlying3 (by kernel_rfl)) rfl (opens_next (opens_string Try.underlying9 (by kernel_rfl)) rfl (opens_next (opens_bool Try.underlying4 (by kernel_rfl)) rfl (opens_last (opens_int (k := .i64) Try.underlying3 (by kernel_rfl)) rfl)))))))))) id id (fun _ => rfl)) hsz (j := 0) rfl rfl h0
  obtain ⟨us0, rfl, _⟩ := okWide_struct Try.underlying52 (hval 0 52 v0 rfl rfl)
  clear hA0 hval0 hsz0 hsz
  refine (Fn.law (F_l_FnExactBuildOk x0 s0.1 s0.2.1 s0.2.2.1 s0.2.2.2.2.2.2.2.1) hGlob (vrs_list (us := [_]) ⟨rd0.agg _, trivial⟩)).mono fun e W' ⟨he, bel⟩ => ?_
  subst he
  exact ⟨_, rfl, _, _, _, [], _, [], hW', trodAll_mk1 (shut_bool Try.underlying4 _), (trodAll_cons_mk (Below.trod laidOut (by kernel_rfl) (of_decide_eq_true (by kernel_rfl)) k0 bel lt0) trodAll_mk0), rfl, bel.frame _, fun h => by cases h⟩
theorem over : Rows.fnExactBuildOkRow.holds Try.pinned (OpenSpec.ofChange Rows.fnExactBuildOkSpec) :=
  OpenClaim.holds_of_wide 13 Try.f13 rfl rfl rfl rfl rfl rfl rfl ⟨rfl, rfl, rfl, rfl, rfl⟩ rfl rfl rfl rfl rfl (by kernel_rfl) Try.func13 (by kernel_rfl)
    (of_decide_eq_true (by kernel_rfl)) (by unfold Func.isWrapper; first | (rw [if_pos (by decide +kernel)]; kernel_rfl) | (rw [if_neg (by decide +kernel)]; exact ⟨rfl, rfl⟩))
    (fun os started H enc _ => lifted os started H enc)
theorem proved : Rows.FnExactBuildOkSaid := over
#print axioms proved
end Go.Proofs.Ytpojadoklfdfiaa.fnExactBuildOk
namespace Go.Proofs.Ytpojadoklfdfiaa
/-- The row, under a short name, for the claim. -/
theorem fnExactBuildOk_holds : Rows.FnExactBuildOkSaid := fnExactBuildOk.proved
end Go.Proofs.Ytpojadoklfdfiaa

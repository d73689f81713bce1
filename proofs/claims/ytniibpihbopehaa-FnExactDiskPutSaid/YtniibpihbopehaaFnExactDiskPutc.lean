/- The given statement of the law FnExactDiskPut: for every input the law returns true, and each argument reads behind the call as it read before; no condition ahead of it. -/
import Derived.Test.YtniibpihbopehaaRows
import Derived.WalkKit
import Derived.ProofKit
import Derived.OpenShut
import Derived.ShutString
import Derived.ChangeOld
import Derived.Below
import Derived.SizedLaws
import Derived.Test.YtniibpihbopehaaQ2
import Derived.Test.YtniibpihbopehaaL0
import Derived.Test.YtniibpihbopehaaDp0
namespace Go.Proofs.Ytniibpihbopehaa.fnExactDiskPut
open Go.ChangeShapes Go.WideShapes Go.ChangeAt Go.RowKit
open Go.ChangeMaps (open_string shut_string)
open Go.Proofs.Ytniibpihbopehaa.M
set_option linter.unusedVariables false
theorem own : ownKnob Try.prog.godebug = none := by kernel_rfl
theorem laidOut : laidOutB Try.prog = true := by kernel_rfl
set_option maxRecDepth 100000 in
theorem lifted (os : Os) (started : os.Started) (H : Type) (enc : TypeId × Value → H) :
    ReturnsInHanded {} Try.checked os 5 .any (Rows.fnExactDiskPutSpec.pre6 enc Try.prog Try.f5 Rows.fnExactDiskPutRow.domain false) (Rows.fnExactDiskPutSpec.post enc Try.prog Try.f5 false true false false) := by
  refine returnsInHanded_of_change_sized (C := Try.checked) own started (by kernel_rfl) Try.func5
    (ChangeSpec.witness6 (enc := enc) (C := Try.checked) false ⟨#[], #[(.agg #[(.slice none 0 0), (.slice none 0 0)]), (.int .i64 0), (.string ⟨#[]⟩)], []⟩ 8 (by kernel_rfl) (by kernel_rfl) (by kernel_rfl) (by kernel_rfl)) ?_
  intro W base args ds gs before hval0 hW hcnd hsz0 _
  have hGlob : GlobOk W (oldRo W) := fun h => by cases h
  have hsz : (DataW.weightsEach Try.prog (Try.f5.params.toList ++ Rows.fnExactDiskPutSpec.plain.varTypes Try.prog) (ds ++ gs)).all (· ≤ reachBytes) = true := hsz0
  have hval : ∀ (j : Nat) t v, Try.f5.params[j]? = some t → args[j]? = some v → Value.okWide Try.prog W .any base t v := hval0
  have hW' := hW
  obtain ⟨p, q, hA0, hV, rfl, hfz, hnd⟩ := hW
  have hA : DataW.TrodAll enc Try.prog W 0 (fun _ => true) true Try.f5.params.toList args.toList ds p := hA0
  rw [Try.params5] at hA hval hsz
  obtain ⟨v0, vs0, d0, ds0, p0, q0, hargs, rfl, rfl, h0, r0⟩ := trodAll_cons hA
  obtain ⟨v1, vs1, d1, ds1, p1, q1, rfl, rfl, rfl, h1, r1⟩ := trodAll_cons r0
  obtain ⟨v2, vs2, d2, ds2, p2, q2, rfl, rfl, rfl, h2, r2⟩ := trodAll_cons r1
  obtain ⟨rfl, rfl, rfl⟩ := trodAll_nil r2
  obtain rfl : args = #[v0, v1, v2] := by cases args; simp_all
  obtain ⟨rfl, rfl⟩ := trodVars_none hV
  have k0 := h0
  have lt0 : ∀ x ∈ p0, x.block < W.heap.size := by obtain ⟨m, hm⟩ := k0; exact DataW.trod_lt m _ _ _ hm
  obtain ⟨x0, rd0, s0⟩ := opens_arg (opens_struct Try.underlying43 (by kernel_rfl) (opens_next (opens_slice (B := 16) Try.underlying24 (by kernel_rfl) (by kernel_rfl) (opens_string Try.underlying9 (by kernel_rfl)) (by decide)) rfl (opens_last (opens_slice (B := 24) Try.underlying41 (by kernel_rfl) (by kernel_rfl) (opens_struct Try.underlying85 (by kernel_rfl) (opens_next (opens_int (k := .i64) Try.underlying3 (by kernel_rfl)) rfl (opens_last (opens_string Try.underlying9 (by kernel_rfl)) rfl)) id id (fun _ => rfl)) (by decide)) rfl)) id id (fun _ => rfl)) hsz (j := 0) rfl rfl h0
  obtain ⟨us0, rfl, _⟩ := okWide_struct Try.underlying43 (hval 0 43 v0 rfl rfl)
  have k1 := h1
  obtain ⟨x1, rd1, s1⟩ := opens_arg (opens_int (k := .i64) Try.underlying3 (by kernel_rfl)) hsz (j := 1) rfl rfl h1
  obtain ⟨a1, rfl, rfl, rfl, y1⟩ := open_int Try.underlying3 (hval 1 3 v1 rfl rfl) h1
  have k2 := h2
  obtain ⟨x2, rd2, s2⟩ := opens_arg (opens_string Try.underlying9 (by kernel_rfl)) hsz (j := 2) rfl rfl h2
  obtain ⟨a2, rfl, rfl, rfl, y2⟩ := open_string Try.underlying9 (hval 2 9 v2 rfl rfl) h2
  clear hA0 hval0 hsz0 hsz
  refine (Fn.law (F_l_FnExactDiskPut x0 x1 x2 s0) hGlob (vrs_list (us := [_, _, _]) ⟨rd0.agg _, rd1.cell _, rd2.cell _, trivial⟩)).mono fun e W' ⟨he, bel⟩ => ?_
  subst he
  exact ⟨_, rfl, _, _, _, [], _, [], hW', trodAll_mk1 (shut_bool Try.underlying4 _), (trodAll_cons_mk (Below.trod laidOut (by kernel_rfl) (of_decide_eq_true (by kernel_rfl)) k0 bel lt0) (trodAll_cons_mk (shut_int Try.underlying3 y1) (trodAll_cons_mk (shut_string Try.underlying9 y2) trodAll_mk0))), rfl, bel.frame _, fun h => by cases h⟩
theorem over : Rows.fnExactDiskPutRow.holds Try.pinned (OpenSpec.ofChange Rows.fnExactDiskPutSpec) :=
  OpenClaim.holds_of_wide 5 Try.f5 rfl rfl rfl rfl rfl rfl rfl ⟨rfl, rfl, rfl, rfl, rfl⟩ rfl rfl rfl rfl rfl (by kernel_rfl) Try.func5 (by kernel_rfl)
    (of_decide_eq_true (by kernel_rfl)) (by unfold Func.isWrapper; first | (rw [if_pos (by decide +kernel)]; kernel_rfl) | (rw [if_neg (by decide +kernel)]; exact ⟨rfl, rfl⟩))
    (fun os started H enc _ => lifted os started H enc)
theorem proved : Rows.FnExactDiskPutSaid := over
#print axioms proved
end Go.Proofs.Ytniibpihbopehaa.fnExactDiskPut
namespace Go.Proofs.Ytniibpihbopehaa
/-- The row, under a short name, for the claim. -/
theorem fnExactDiskPut_holds : Rows.FnExactDiskPutSaid := fnExactDiskPut.proved
end Go.Proofs.Ytniibpihbopehaa

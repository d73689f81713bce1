/- The given statement of the law FnExactStackOk: for every input the law returns true, and each argument reads behind the call as it read before; no condition ahead of it. -/
import Derived.Test.YtpojadoklfdfiaaV0
import Derived.Test.YtpojadoklfdfiaaRows
import Derived.WalkKit
import Derived.ProofKit
import Derived.OpenShut
import Derived.ShutString
import Derived.ChangeOld
import Derived.Below
import Derived.SizedLaws
import Derived.Test.YtpojadoklfdfiaaCorea0
import Derived.Test.YtpojadoklfdfiaaCorea1
import Derived.Test.YtpojadoklfdfiaaCorea2
import Derived.Test.YtpojadoklfdfiaaCorea3
import Derived.Test.YtpojadoklfdfiaaCorea4
import Derived.Test.YtpojadoklfdfiaaCoreb0
import Derived.Test.YtpojadoklfdfiaaFnExactStackOka0
import Derived.Test.YtpojadoklfdfiaaFnExactStackOka1
import Derived.Test.YtpojadoklfdfiaaFnExactStackOkb0

namespace Go.Proofs.Ytpojadoklfdfiaa.fnExactStackOk
open Go.ChangeShapes Go.WideShapes Go.ChangeAt Go.RowKit Go.Proofs.Ytpojadoklfdfiaa.B Go.Proofs.YtpojadoklfdfiaaW.PrintWords Go.Proofs.Ytpojadoklfdfiaa.G
open Go.ChangeMaps (open_string shut_string)
set_option linter.unusedVariables false
theorem own : ownKnob Try.prog.godebug = none := by kernel_rfl
theorem laidOut : laidOutB Try.prog = true := by kernel_rfl
theorem reads0 {H : Type} {enc : TypeId × Value → H} {w : World} {v : Value} {x : DataW H} {ps : List MemPlace} {ts : List TypeId} {ds : List (DataW H)} {j : Nat}
    (hsz : (DataW.weightsEach Try.prog ts ds).all (· ≤ reachBytes) = true) (ht : ts[j]? = some 24) (hd : ds[j]? = some x) (h : DataW.Trod enc Try.prog w 0 (fun _ => true) true 24 v x ps) (hv : ∃ cs, v = .agg cs ∧ cs.size = Try.prog.cellsOf 24) :
    ∃ (A0_0 : Option Addr) (c0_0 : Nat) (l0_0 : List (S88)), v = .agg #[.slice A0_0 l0_0.length c0_0] ∧ l0_0.length ≤ c0_0 ∧ Kd.C k88 w A0_0 l0_0.length l0_0 ∧ (l0_0.length * 96 ≤ 140737488351232 ∧ ∀ x4_ ∈ l0_0, ((Lit.int .i64 x4_.f0).wf = true ∧ x4_.f1.size ≤ 140737488351232 ∧ (x4_.f2.length * 32 ≤ 140737488351232 ∧ ∀ x6_ ∈ x4_.f2, (x6_.f0.size ≤ 140737488351232 ∧ x6_.f1.size ≤ 140737488351232)) ∧ x4_.f3.size ≤ 140737488351232 ∧ (Lit.int .i64 x4_.f4).wf = true ∧ (x4_.f5.length * 8 ≤ 140737488351232 ∧ ∀ x6_ ∈ x4_.f5, (Lit.int .i64 x6_).wf = true))) := by
  obtain ⟨l0_0, hK, hS⟩ := opens_arg (opens_struct Try.underlying24 (by kernel_rfl) (opens_last (opens_slice (d := k88) (B := 96) Try.underlying22 (by kernel_rfl) (by kernel_rfl) (show Opens Try.prog 88 k88 _ from (opens_struct Try.underlying88 (by kernel_rfl) (opens_next (opens_int Try.underlying3) rfl (by kernel_rfl) (opens_next (opens_string Try.underlying9) rfl (by kernel_rfl) (opens_next (opens_slice (d := k124) (B := 32) Try.underlying86 (by kernel_rfl) (by kernel_rfl) (show Opens Try.prog 124 k124 _ from (opens_struct Try.underlying124 (by kernel_rfl) (opens_next (opens_string Try.underlying9) rfl (by kernel_rfl) (opens_last (opens_string Try.underlying9) rfl (by kernel_rfl))) (fun x : S124 => (x.f0, x.f1)) (fun p => ⟨p.1, p.2⟩) (fun _ => rfl)))) rfl (by kernel_rfl) (opens_next (opens_string Try.underlying9) rfl (by kernel_rfl) (opens_next (opens_int Try.underlying3) rfl (by kernel_rfl) (opens_last (opens_slice (d := (Kd.int .i64)) (B := 8) Try.underlying33 (by kernel_rfl) (by kernel_rfl) (opens_int Try.underlying3)) rfl (by kernel_rfl))))))) (fun x : S88 => (x.f0, x.f1, x.f2, x.f3, x.f4, x.f5)) (fun p => ⟨p.1, p.2.1, p.2.2.1, p.2.2.2.1, p.2.2.2.2.1, p.2.2.2.2.2⟩) (fun _ => rfl)))) rfl (by kernel_rfl)) (fun p => p) (fun p => p) (fun _ => rfl)) hsz ht hd h
  obtain ⟨A0_0, c0_0, hcs, hc0_0, hr0_0⟩ := hK
  obtain ⟨hs0_0⟩ := (⟨hS, trivial⟩ : _ ∧ True)
  obtain ⟨cs, rfl, _⟩ := hv
  have hcs2 : cs = #[.slice A0_0 l0_0.length c0_0] := by
    have h1 : cs.toList = [.slice A0_0 l0_0.length c0_0] := by simpa [Value.cells] using hcs
    exact Array.toList_inj.1 h1
  subst hcs2
  exact ⟨_, _, _, rfl, hc0_0, hr0_0, hs0_0⟩
set_option maxRecDepth 100000 in
theorem lifted (os : Os) (started : os.Started) (H : Type) (enc : TypeId × Value → H) :
    ReturnsInHanded {} Try.checked os 4 .any (Rows.fnExactStackOkSpec.pre6 enc Try.prog Try.f4 Rows.fnExactStackOkRow.domain false) (Rows.fnExactStackOkSpec.post enc Try.prog Try.f4 false true false false) := by
  refine returnsInHanded_of_change_sized (C := Try.checked) own started (by kernel_rfl) Try.func4
    (ChangeSpec.witness6 (enc := enc) (C := Try.checked) false ⟨#[], #[(.agg #[(.slice none 0 0)]), (.slice none 0 0)], []⟩ 8 (by kernel_rfl) (by kernel_rfl) (by kernel_rfl) (by kernel_rfl)) ?_
  intro W base args ds gs before hval0 hW hcnd hsz0 _
  have hsz : (DataW.weightsEach Try.prog (Try.f4.params.toList ++ Rows.fnExactStackOkSpec.plain.varTypes Try.prog) (ds ++ gs)).all (· ≤ reachBytes) = true := hsz0
  have hval : ∀ (j : Nat) t v, Try.f4.params[j]? = some t → args[j]? = some v → Value.okWide Try.prog W .any base t v := hval0
  have hW' := hW
  obtain ⟨p, q, hA0, hV, rfl, hfz, hnd⟩ := hW
  have hA : DataW.TrodAll enc Try.prog W 0 (fun _ => true) true Try.f4.params.toList args.toList ds p := hA0
  rw [Try.params4] at hA hval hsz
  obtain ⟨v0, vs0, d0, ds0, p0, q0, hargs, rfl, rfl, h0, r0⟩ := trodAll_cons hA
  obtain ⟨v1, vs1, d1, ds1, p1, q1, rfl, rfl, rfl, h1, r1⟩ := trodAll_cons r0
  obtain ⟨rfl, rfl, rfl⟩ := trodAll_nil r1
  obtain rfl : args = #[v0, v1] := by cases args; simp_all
  obtain ⟨rfl, rfl⟩ := trodVars_none hV
  have k0 := h0
  have lt0 : ∀ x ∈ p0, x.block < W.heap.size := by obtain ⟨m, hm⟩ := k0; exact DataW.trod_lt m _ _ _ hm
  obtain ⟨A0_0, c0_0, l0_0, rfl, hc0_0, hr0_0, hs0_0⟩ := reads0 hsz (j := 0) rfl rfl h0 (okWide_struct Try.underlying24 (hval 0 24 v0 rfl rfl))
  have k1 := h1
  have lt1 : ∀ x ∈ p1, x.block < W.heap.size := by obtain ⟨m, hm⟩ := k1; exact DataW.trod_lt m _ _ _ hm
  obtain ⟨l1, ⟨A1, c1, hcs1, hc1, hr1⟩, hs1⟩ := opens_arg (opens_slice (d := (Kd.int .i64)) (B := 8) Try.underlying33 (by kernel_rfl) (by kernel_rfl) (opens_int Try.underlying3)) hsz (j := 1) rfl rfl h1
  obtain ⟨a_, b_, c_, rfl⟩ := okWide_slice Try.underlying33 (hval 1 33 v1 rfl rfl)
  simp only [Value.cells, List.cons.injEq, Value.slice.injEq, and_true] at hcs1
  obtain ⟨rfl, rfl, rfl⟩ := hcs1
  clear hA0 hval0 hsz0 hsz
  obtain ⟨k, h⟩ := Pure.FnExactStackOk l0_0 l1 hs0_0 hs1
  refine (laws_FnExactStackOk.calls k _ _ l0_0 _ _ l1 true W hr0_0 hc0_0 hr1 hc1 h).mono fun e W' ⟨he, bel⟩ => ?_
  subst he
  exact ⟨_, rfl, _, _, _, [], _, [], hW', trodAll_mk1 (shut_bool Try.underlying4 _), (trodAll_cons_mk (Below.trod laidOut (by kernel_rfl) (of_decide_eq_true (by kernel_rfl)) k0 bel lt0) (trodAll_cons_mk (Below.trod laidOut (by kernel_rfl) (of_decide_eq_true (by kernel_rfl)) k1 bel lt1) trodAll_mk0)), rfl, bel.frame _, fun h => by cases h⟩
theorem over : Rows.fnExactStackOkRow.holds Try.pinned (OpenSpec.ofChange Rows.fnExactStackOkSpec) :=
  OpenClaim.holds_of_wide 4 Try.f4 rfl rfl rfl rfl rfl rfl rfl ⟨rfl, rfl, rfl, rfl, rfl⟩ rfl rfl rfl rfl rfl (by kernel_rfl) Try.func4 (by kernel_rfl)
    (of_decide_eq_true (by kernel_rfl)) (by unfold Func.isWrapper; first | (rw [if_pos (by decide +kernel)]; kernel_rfl) | (rw [if_neg (by decide +kernel)]; exact ⟨rfl, rfl⟩))
    (fun os started H enc _ => lifted os started H enc)
theorem proved : Rows.FnExactStackOkSaid := over
#print axioms proved
end Go.Proofs.Ytpojadoklfdfiaa.fnExactStackOk
namespace Go.Proofs.Ytpojadoklfdfiaa
/-- The row, under a short name, for the claim. -/
theorem fnExactStackOk_holds : Rows.FnExactStackOkSaid := fnExactStackOk.proved
end Go.Proofs.Ytpojadoklfdfiaa

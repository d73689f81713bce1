/- The given statement of the law FnExactSectorOf: for every input the law returns true, and each argument reads behind the call as it read before; no condition ahead of it. -/
import Derived.Test.YtbmfhhbifmgikaaRows
import Derived.WalkKit
import Derived.ProofKit
import Derived.OpenShut
import Derived.ShutString
import Derived.ChangeOld
import Derived.Below
import Derived.SizedLaws
import Derived.Test.YtbmfhhbifmgikaaFnExactSectorOfa0
import Derived.Test.YtbmfhhbifmgikaaFnExactSectorOfa1
import Derived.Test.YtbmfhhbifmgikaaFnExactSectorOfb0

namespace Go.Proofs.Ytbmfhhbifmgikaa.fnExactSectorOf
open Go.ChangeShapes Go.WideShapes Go.ChangeAt Go.RowKit Go.Proofs.Ytbmfhhbifmgikaa.B Go.Proofs.YtbmfhhbifmgikaaW.PrintWords Go.Proofs.Ytbmfhhbifmgikaa.G
open Go.ChangeMaps (open_string shut_string)
set_option linter.unusedVariables false
theorem own : ownKnob Try.prog.godebug = none := by kernel_rfl
theorem laidOut : laidOutB Try.prog = true := by kernel_rfl
theorem reads0 {H : Type} {enc : TypeId × Value → H} {w : World} {v : Value} {x : DataW H} {ps : List MemPlace} {ts : List TypeId} {ds : List (DataW H)} {j : Nat}
    (hsz : (DataW.weightsEach Try.prog ts ds).all (· ≤ reachBytes) = true) (ht : ts[j]? = some 33) (hd : ds[j]? = some x) (h : DataW.Trod enc Try.prog w 0 (fun _ => true) true 33 v x ps) (hv : ∃ cs, v = .agg cs ∧ cs.size = Try.prog.cellsOf 33) :
    ∃ (A0_0 : Option Addr) (c0_0 : Nat) (l0_0 : List ByteArray) (A0_1 : Option Addr) (c0_1 : Nat) (l0_1 : List (S82)), v = .agg #[.slice A0_0 l0_0.length c0_0, .slice A0_1 l0_1.length c0_1] ∧ l0_0.length ≤ c0_0 ∧ Kd.C Kd.string w A0_0 l0_0.length l0_0 ∧ (l0_0.length * 16 ≤ 140737488351232 ∧ ∀ x4_ ∈ l0_0, x4_.size ≤ 140737488351232) ∧ l0_1.length ≤ c0_1 ∧ Kd.C k82 w A0_1 l0_1.length l0_1 ∧ (l0_1.length * 24 ≤ 140737488351232 ∧ ∀ x4_ ∈ l0_1, ((Lit.int .i64 x4_.f0).wf = true ∧ x4_.f1.size ≤ 140737488351232)) := by
  obtain ⟨⟨l0_0, l0_1⟩, hK, hS⟩ := opens_arg (opens_struct Try.underlying33 (by kernel_rfl) (opens_next (opens_slice (d := Kd.string) (B := 16) Try.underlying30 (by kernel_rfl) (by kernel_rfl) (opens_string Try.underlying9)) rfl (by kernel_rfl) (opens_last (opens_slice (d := k82) (B := 24) Try.underlying31 (by kernel_rfl) (by kernel_rfl) (show Opens Try.prog 82 k82 _ from (opens_struct Try.underlying82 (by kernel_rfl) (opens_next (opens_int Try.underlying3) rfl (by kernel_rfl) (opens_last (opens_string Try.underlying9) rfl (by kernel_rfl))) (fun x : S82 => (x.f0, x.f1)) (fun p => ⟨p.1, p.2⟩) (fun _ => rfl)))) rfl (by kernel_rfl))) (fun p => p) (fun p => p) (fun _ => rfl)) hsz ht hd h
  obtain ⟨_, _, hcs, ⟨A0_0, c0_0, rfl, hc0_0, hr0_0⟩, ⟨A0_1, c0_1, rfl, hc0_1, hr0_1⟩⟩ := hK
  obtain ⟨hs0_0, hs0_1⟩ := hS
  obtain ⟨cs, rfl, _⟩ := hv
  have hcs2 : cs = #[.slice A0_0 l0_0.length c0_0, .slice A0_1 l0_1.length c0_1] := by
    have h1 : cs.toList = [.slice A0_0 l0_0.length c0_0, .slice A0_1 l0_1.length c0_1] := by simpa [Value.cells] using hcs
    exact Array.toList_inj.1 h1
  subst hcs2
  exact ⟨_, _, _, _, _, _, rfl, hc0_0, hr0_0, hs0_0, hc0_1, hr0_1, hs0_1⟩
set_option maxRecDepth 100000 in
theorem lifted (os : Os) (started : os.Started) (H : Type) (enc : TypeId × Value → H) :
    ReturnsInHanded {} Try.checked os 10 .any (Rows.fnExactSectorOfSpec.pre6 enc Try.prog Try.f10 Rows.fnExactSectorOfRow.domain false) (Rows.fnExactSectorOfSpec.post enc Try.prog Try.f10 false true false false) := by
  refine returnsInHanded_of_change_sized (C := Try.checked) own started (by kernel_rfl) Try.func10
    (ChangeSpec.witness6 (enc := enc) (C := Try.checked) false ⟨#[], #[(.agg #[(.slice none 0 0), (.slice none 0 0)]), (.int .i64 0)], []⟩ 8 (by kernel_rfl) (by kernel_rfl) (by kernel_rfl) (by kernel_rfl)) ?_
  intro W base args ds gs before hval0 hW hcnd hsz0 _
  have hsz : (DataW.weightsEach Try.prog (Try.f10.params.toList ++ Rows.fnExactSectorOfSpec.plain.varTypes Try.prog) (ds ++ gs)).all (· ≤ reachBytes) = true := hsz0
  have hval : ∀ (j : Nat) t v, Try.f10.params[j]? = some t → args[j]? = some v → Value.okWide Try.prog W .any base t v := hval0
  have hW' := hW
  obtain ⟨p, q, hA0, hV, rfl, hfz, hnd⟩ := hW
  have hA : DataW.TrodAll enc Try.prog W 0 (fun _ => true) true Try.f10.params.toList args.toList ds p := hA0
  rw [Try.params10] at hA hval hsz
  obtain ⟨v0, vs0, d0, ds0, p0, q0, hargs, rfl, rfl, h0, r0⟩ := trodAll_cons hA
  obtain ⟨v1, vs1, d1, ds1, p1, q1, rfl, rfl, rfl, h1, r1⟩ := trodAll_cons r0
  obtain ⟨rfl, rfl, rfl⟩ := trodAll_nil r1
  obtain rfl : args = #[v0, v1] := by cases args; simp_all
  obtain ⟨rfl, rfl⟩ := trodVars_none hV
  have k0 := h0
  have lt0 : ∀ x ∈ p0, x.block < W.heap.size := by obtain ⟨m, hm⟩ := k0; exact DataW.trod_lt m _ _ _ hm
  obtain ⟨A0_0, c0_0, l0_0, A0_1, c0_1, l0_1, rfl, hc0_0, hr0_0, hs0_0, hc0_1, hr0_1, hs0_1⟩ := reads0 hsz (j := 0) rfl rfl h0 (okWide_struct Try.underlying33 (hval 0 33 v0 rfl rfl))
  obtain ⟨a1, rfl, rfl, rfl, hs1⟩ := open_int Try.underlying3 (hval 1 3 v1 rfl rfl) h1
  clear hA0 hval0 hsz0 hsz
  obtain ⟨k, h⟩ := Pure.FnExactSectorOf l0_0 l0_1 a1 hs0_0 hs0_1 hs1
  refine (laws_FnExactSectorOf.calls k _ _ l0_0 _ _ l0_1 a1 true W hr0_0 hc0_0 hr0_1 hc0_1 h).mono fun e W' ⟨he, bel⟩ => ?_
  subst he
  exact ⟨_, rfl, _, _, _, [], _, [], hW', trodAll_mk1 (shut_bool Try.underlying4 _), (trodAll_cons_mk (Below.trod laidOut (by kernel_rfl) (of_decide_eq_true (by kernel_rfl)) k0 bel lt0) (trodAll_cons_mk (shut_int Try.underlying3 hs1) trodAll_mk0)), rfl, bel.frame _, fun h => by cases h⟩
theorem over : Rows.fnExactSectorOfRow.holds Try.pinned (OpenSpec.ofChange Rows.fnExactSectorOfSpec) :=
  OpenClaim.holds_of_wide 10 Try.f10 rfl rfl rfl rfl rfl rfl rfl ⟨rfl, rfl, rfl, rfl, rfl⟩ rfl rfl rfl rfl rfl (by kernel_rfl) Try.func10 (by kernel_rfl)
    (of_decide_eq_true (by kernel_rfl)) (by unfold Func.isWrapper; first | (rw [if_pos (by decide +kernel)]; kernel_rfl) | (rw [if_neg (by decide +kernel)]; exact ⟨rfl, rfl⟩))
    (fun os started H enc _ => lifted os started H enc)
theorem proved : Rows.FnExactSectorOfSaid := over
#print axioms proved
end Go.Proofs.Ytbmfhhbifmgikaa.fnExactSectorOf
namespace Go.Proofs.Ytbmfhhbifmgikaa
/-- The row, under a short name, for the claim. -/
theorem fnExactSectorOf_holds : Rows.FnExactSectorOfSaid := fnExactSectorOf.proved
end Go.Proofs.Ytbmfhhbifmgikaa

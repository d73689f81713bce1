/-
  No cell of these rows narrows 'for every input' (looked for: loops, veiled, ifaces, maps, wideKeys, modest, calm, conditions, laid).
  DERIVED. THE GIVEN ROWS OF THIS SEAT. 4 by the template 'for every input the law returns true; each argument reads behind the call as it read before'; 0 by the template 'total and deterministic' (their statements: YtpmcmooaokkojaaTotals.lean).
  GIVEN WITH THE SEED: the statements are not yours to turn. If you find one false, say at which input.
  Laid BY PROGRAM, IN A SANDBOX (cutbox-rows.mjs): the forced cells as the released guide's own fill.sh prints them over the translation 7f9db4b164c9fc17… (all of the seat's roots in one cut). By AI agents, Wed Nov 11 2026. No macro, syntax, notation, axiom, sorry.
-/
import Derived.Test.YtpmcmooaokkojaaChecked
import GoSem.Claim
import GoSem.ClaimJoined
import GoSem.ClaimMapViews
import Derived.JoinedTies
import Derived.KernelRfl
namespace Go.Proofs.Ytpmcmooaokkojaa
/- THE CELL 'sum', in the pinned program and in every row, IS THE sha256 OF THE DUMP (.gsa) THAT YtpmcmooaokkojaaProg.lean LOADS. Nothing in Lean hashes anything: it is a label: what it is worth is what the hold of that sum in a sandbox is worth. -/
noncomputable def Try.pinned : Pinned := { name := "ytpmcmooaokkojaa", sum := "7f9db4b164c9fc17486c81e2720a6236f897b1c7c08443b69778527a2a39041b", checked := Try.checked }
namespace Rows
def none {H : Type} : Left H := { results := [], args := [] }

/-- 'laws.FnExactBuildNew': WHATEVER THE INPUT: true; the input reads as it did. -/
def fnExactBuildNewSpec : ChangeSpec := { name := "fnExactBuildNew", fn := fun _ => fun
  | [] => { results := [.lit (.bool true)], args := [] }
  | _ => none }
def fnExactBuildNewRow : OpenClaim := { program := "ytpmcmooaokkojaa", sum := "7f9db4b164c9fc17486c81e2720a6236f897b1c7c08443b69778527a2a39041b", func := "loop.example/g00118/laws.FnExactBuildNew", spec := "fnExactBuildNew", apart := false }
def FnExactBuildNewSaid : Prop := fnExactBuildNewRow.holds Try.pinned (OpenSpec.ofChange fnExactBuildNewSpec)

/-- ITS FALSE NEIGHBOUR: 'it returns false'. Refute it at one input. -/
def fnExactBuildNewWrong : ChangeSpec := { name := "fnExactBuildNew", fn := fun _ => fun
  | [] => { results := [.lit (.bool false)], args := [] }
  | _ => none }
def FnExactBuildNewWrongFalsely : Prop := fnExactBuildNewRow.holds Try.pinned (OpenSpec.ofChange fnExactBuildNewWrong)

/-- 'laws.FnExactTreeTake': WHATEVER THE INPUT: true; the input reads as it did. -/
def fnExactTreeTakeSpec : ChangeSpec := { name := "fnExactTreeTake", fn := fun _ => fun
  | [d1, d2] => { results := [.lit (.bool true)], args := [d1, d2] }
  | _ => none }
def fnExactTreeTakeRow : OpenClaim := { program := "ytpmcmooaokkojaa", sum := "7f9db4b164c9fc17486c81e2720a6236f897b1c7c08443b69778527a2a39041b", func := "loop.example/g00118/laws.FnExactTreeTake", spec := "fnExactTreeTake", unfollowed := true, recurses := true, apart := false }
def FnExactTreeTakeSaid : Prop := fnExactTreeTakeRow.holds Try.pinned (OpenSpec.ofChange fnExactTreeTakeSpec)

/-- ITS FALSE NEIGHBOUR: 'it returns false'. Refute it at one input. -/
def fnExactTreeTakeWrong : ChangeSpec := { name := "fnExactTreeTake", fn := fun _ => fun
  | [d1, d2] => { results := [.lit (.bool false)], args := [d1, d2] }
  | _ => none }
def FnExactTreeTakeWrongFalsely : Prop := fnExactTreeTakeRow.holds Try.pinned (OpenSpec.ofChange fnExactTreeTakeWrong)

/-- 'laws.FnExactTreeHang': WHATEVER THE INPUT: true; the input reads as it did. -/
def fnExactTreeHangSpec : ChangeSpec := { name := "fnExactTreeHang", fn := fun _ => fun
  | [d1, d2, d3] => { results := [.lit (.bool true)], args := [d1, d2, d3] }
  | _ => none }
def fnExactTreeHangRow : OpenClaim := { program := "ytpmcmooaokkojaa", sum := "7f9db4b164c9fc17486c81e2720a6236f897b1c7c08443b69778527a2a39041b", func := "loop.example/g00118/laws.FnExactTreeHang", spec := "fnExactTreeHang", unfollowed := true, recurses := true, apart := false }
def FnExactTreeHangSaid : Prop := fnExactTreeHangRow.holds Try.pinned (OpenSpec.ofChange fnExactTreeHangSpec)

/-- ITS FALSE NEIGHBOUR: 'it returns false'. Refute it at one input. -/
def fnExactTreeHangWrong : ChangeSpec := { name := "fnExactTreeHang", fn := fun _ => fun
  | [d1, d2, d3] => { results := [.lit (.bool false)], args := [d1, d2, d3] }
  | _ => none }
def FnExactTreeHangWrongFalsely : Prop := fnExactTreeHangRow.holds Try.pinned (OpenSpec.ofChange fnExactTreeHangWrong)

/-- 'laws.FnExactTreeWrite': WHATEVER THE INPUT: true; the input reads as it did. -/
def fnExactTreeWriteSpec : ChangeSpec := { name := "fnExactTreeWrite", fn := fun _ => fun
  | [d1, d2, d3] => { results := [.lit (.bool true)], args := [d1, d2, d3] }
  | _ => none }
def fnExactTreeWriteRow : OpenClaim := { program := "ytpmcmooaokkojaa", sum := "7f9db4b164c9fc17486c81e2720a6236f897b1c7c08443b69778527a2a39041b", func := "loop.example/g00118/laws.FnExactTreeWrite", spec := "fnExactTreeWrite", unfollowed := true, recurses := true, apart := false }
def FnExactTreeWriteSaid : Prop := fnExactTreeWriteRow.holds Try.pinned (OpenSpec.ofChange fnExactTreeWriteSpec)

/-- ITS FALSE NEIGHBOUR: 'it returns false'. Refute it at one input. -/
def fnExactTreeWriteWrong : ChangeSpec := { name := "fnExactTreeWrite", fn := fun _ => fun
  | [d1, d2, d3] => { results := [.lit (.bool false)], args := [d1, d2, d3] }
  | _ => none }
def FnExactTreeWriteWrongFalsely : Prop := fnExactTreeWriteRow.holds Try.pinned (OpenSpec.ofChange fnExactTreeWriteWrong)

/- THE SECOND FORM. 'bulk': how many values and letters a reading holds, each counted each time it is reached (what is shared counts as often as it is met; a slice's spare places count too). A statement '..UptoSaid' is the law's where the arguments, and the package variables that the reading takes, are together of bulk at most 1048576: NARROWER than '..Said'. Prove '..Said' where nothing that the law and all that it calls make is longer than what came in: it says more and counts as full. Else prove '..UptoSaid'. A law counts once. -/
mutual
def uptoBulk {H : Type} : DataW H → Nat
  | .lit (.string bytes) => bytes.length + 1
  | .lit _ => 1
  | .nil => 1
  | .ptr d => uptoBulk d + 1
  | .slice elems spare => uptoBulkAll elems + uptoBulkAll spare + 1
  | .agg parts => uptoBulkAll parts + 1
  | .iface _ d => uptoBulk d + 1
  | .map entries => uptoBulkEntries entries + 1
  | .held _ => 1
def uptoBulkAll {H : Type} : List (DataW H) → Nat
  | [] => 0
  | d :: r => uptoBulk d + uptoBulkAll r
def uptoBulkEntries {H : Type} : List (Lit × DataW H) → Nat
  | [] => 0
  | x :: r => uptoBulkEntry x + uptoBulkEntries r
def uptoBulkEntry {H : Type} : Lit × DataW H → Nat
  | (.string bytes, d) => bytes.length + uptoBulk d + 1
  | (_, d) => uptoBulk d + 1
 end
def uptoSmall : (H : Type) → List (DataW H) → Bool := fun _ ds => decide (uptoBulkAll ds ≤ 1048576)
def OpenSpec.upto (s : _root_.Go.ChangeSpec) : _root_.Go.OpenSpec := { _root_.Go.OpenSpec.ofChange s with cond := some uptoSmall }

/-- 'laws.FnExactBuildNew', WHERE WHAT IT READS IS OF BULK AT MOST 1048576: true; the input reads as it did. -/
def fnExactBuildNewUptoRow : OpenClaim := { program := "ytpmcmooaokkojaa", sum := "7f9db4b164c9fc17486c81e2720a6236f897b1c7c08443b69778527a2a39041b", func := "loop.example/g00118/laws.FnExactBuildNew", spec := "fnExactBuildNew", apart := false, narrowed := true }
def FnExactBuildNewUptoSaid : Prop := fnExactBuildNewUptoRow.holds Try.pinned (OpenSpec.upto fnExactBuildNewSpec)

/-- 'laws.FnExactTreeTake', WHERE WHAT IT READS IS OF BULK AT MOST 1048576: true; the input reads as it did. -/
def fnExactTreeTakeUptoRow : OpenClaim := { program := "ytpmcmooaokkojaa", sum := "7f9db4b164c9fc17486c81e2720a6236f897b1c7c08443b69778527a2a39041b", func := "loop.example/g00118/laws.FnExactTreeTake", spec := "fnExactTreeTake", unfollowed := true, recurses := true, apart := false, narrowed := true }
def FnExactTreeTakeUptoSaid : Prop := fnExactTreeTakeUptoRow.holds Try.pinned (OpenSpec.upto fnExactTreeTakeSpec)

/-- 'laws.FnExactTreeHang', WHERE WHAT IT READS IS OF BULK AT MOST 1048576: true; the input reads as it did. -/
def fnExactTreeHangUptoRow : OpenClaim := { program := "ytpmcmooaokkojaa", sum := "7f9db4b164c9fc17486c81e2720a6236f897b1c7c08443b69778527a2a39041b", func := "loop.example/g00118/laws.FnExactTreeHang", spec := "fnExactTreeHang", unfollowed := true, recurses := true, apart := false, narrowed := true }
def FnExactTreeHangUptoSaid : Prop := fnExactTreeHangUptoRow.holds Try.pinned (OpenSpec.upto fnExactTreeHangSpec)

/-- 'laws.FnExactTreeWrite', WHERE WHAT IT READS IS OF BULK AT MOST 1048576: true; the input reads as it did. -/
def fnExactTreeWriteUptoRow : OpenClaim := { program := "ytpmcmooaokkojaa", sum := "7f9db4b164c9fc17486c81e2720a6236f897b1c7c08443b69778527a2a39041b", func := "loop.example/g00118/laws.FnExactTreeWrite", spec := "fnExactTreeWrite", unfollowed := true, recurses := true, apart := false, narrowed := true }
def FnExactTreeWriteUptoSaid : Prop := fnExactTreeWriteUptoRow.holds Try.pinned (OpenSpec.upto fnExactTreeWriteSpec)

end Rows
end Go.Proofs.Ytpmcmooaokkojaa

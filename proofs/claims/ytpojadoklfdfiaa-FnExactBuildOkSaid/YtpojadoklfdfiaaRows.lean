/-
  No cell of these rows narrows 'for every input' (looked for: loops, veiled, ifaces, maps, wideKeys, modest, calm, conditions, laid).
  DERIVED. THE GIVEN ROWS OF THIS SEAT. 11 by the template 'for every input the law returns true; each argument reads behind the call as it read before'; 0 by the template 'total and deterministic' (their statements: YtpojadoklfdfiaaTotals.lean).
  GIVEN WITH THE SEED: the statements are not yours to turn. If you find one false, say at which input.
  Laid BY PROGRAM, IN A SANDBOX (cutbox-rows.mjs): the forced cells as the released guide's own fill.sh prints them over the translation 840c0a8b83c6c682… (all of the seat's roots in one cut). By AI agents, Wed Nov 11 2026. No macro, syntax, notation, axiom, sorry.
-/
import Derived.Test.YtpojadoklfdfiaaChecked
import GoSem.Claim
import GoSem.ClaimJoined
import GoSem.ClaimMapViews
import Derived.JoinedTies
import Derived.KernelRfl
namespace Go.Proofs.Ytpojadoklfdfiaa
/- THE CELL 'sum', in the pinned program and in every row, IS THE sha256 OF THE DUMP (.gsa) THAT YtpojadoklfdfiaaProg.lean LOADS. Nothing in Lean hashes anything: it is a label: what it is worth is what the hold of that sum in a sandbox is worth. -/
noncomputable def Try.pinned : Pinned := { name := "ytpojadoklfdfiaa", sum := "840c0a8b83c6c6821ce67589190a74bcc7042608b8432f7358e158332f9c73e0", checked := Try.checked }
namespace Rows
def none {H : Type} : Left H := { results := [], args := [] }

/-- 'laws.FnExactPageCount': WHATEVER THE INPUT: true; the input reads as it did. -/
def fnExactPageCountSpec : ChangeSpec := { name := "fnExactPageCount", fn := fun _ => fun
  | [d1, d2] => { results := [.lit (.bool true)], args := [d1, d2] }
  | _ => none }
def fnExactPageCountRow : OpenClaim := { program := "ytpojadoklfdfiaa", sum := "840c0a8b83c6c6821ce67589190a74bcc7042608b8432f7358e158332f9c73e0", func := "loop.example/g00118/laws.FnExactPageCount", spec := "fnExactPageCount", unfollowed := true, recurses := true, apart := false }
def FnExactPageCountSaid : Prop := fnExactPageCountRow.holds Try.pinned (OpenSpec.ofChange fnExactPageCountSpec)

/-- ITS FALSE NEIGHBOUR: 'it returns false'. Refute it at one input. -/
def fnExactPageCountWrong : ChangeSpec := { name := "fnExactPageCount", fn := fun _ => fun
  | [d1, d2] => { results := [.lit (.bool false)], args := [d1, d2] }
  | _ => none }
def FnExactPageCountWrongFalsely : Prop := fnExactPageCountRow.holds Try.pinned (OpenSpec.ofChange fnExactPageCountWrong)

/-- 'laws.FnExactStackOk': WHATEVER THE INPUT: true; the input reads as it did. -/
def fnExactStackOkSpec : ChangeSpec := { name := "fnExactStackOk", fn := fun _ => fun
  | [d1, d2] => { results := [.lit (.bool true)], args := [d1, d2] }
  | _ => none }
def fnExactStackOkRow : OpenClaim := { program := "ytpojadoklfdfiaa", sum := "840c0a8b83c6c6821ce67589190a74bcc7042608b8432f7358e158332f9c73e0", func := "loop.example/g00118/laws.FnExactStackOk", spec := "fnExactStackOk", unfollowed := true, recurses := true, apart := false }
def FnExactStackOkSaid : Prop := fnExactStackOkRow.holds Try.pinned (OpenSpec.ofChange fnExactStackOkSpec)

/-- ITS FALSE NEIGHBOUR: 'it returns false'. Refute it at one input. -/
def fnExactStackOkWrong : ChangeSpec := { name := "fnExactStackOk", fn := fun _ => fun
  | [d1, d2] => { results := [.lit (.bool false)], args := [d1, d2] }
  | _ => none }
def FnExactStackOkWrongFalsely : Prop := fnExactStackOkRow.holds Try.pinned (OpenSpec.ofChange fnExactStackOkWrong)

/-- 'laws.FnExactOpenAt': WHATEVER THE INPUT: true; the input reads as it did. -/
def fnExactOpenAtSpec : ChangeSpec := { name := "fnExactOpenAt", fn := fun _ => fun
  | [d1, d2, d3] => { results := [.lit (.bool true)], args := [d1, d2, d3] }
  | _ => none }
def fnExactOpenAtRow : OpenClaim := { program := "ytpojadoklfdfiaa", sum := "840c0a8b83c6c6821ce67589190a74bcc7042608b8432f7358e158332f9c73e0", func := "loop.example/g00118/laws.FnExactOpenAt", spec := "fnExactOpenAt", unfollowed := true, recurses := true, apart := false }
def FnExactOpenAtSaid : Prop := fnExactOpenAtRow.holds Try.pinned (OpenSpec.ofChange fnExactOpenAtSpec)

/-- ITS FALSE NEIGHBOUR: 'it returns false'. Refute it at one input. -/
def fnExactOpenAtWrong : ChangeSpec := { name := "fnExactOpenAt", fn := fun _ => fun
  | [d1, d2, d3] => { results := [.lit (.bool false)], args := [d1, d2, d3] }
  | _ => none }
def FnExactOpenAtWrongFalsely : Prop := fnExactOpenAtRow.holds Try.pinned (OpenSpec.ofChange fnExactOpenAtWrong)

/-- 'laws.FnExactPageTitle': WHATEVER THE INPUT: true; the input reads as it did. -/
def fnExactPageTitleSpec : ChangeSpec := { name := "fnExactPageTitle", fn := fun _ => fun
  | [d] => { results := [.lit (.bool true)], args := [d] }
  | _ => none }
def fnExactPageTitleRow : OpenClaim := { program := "ytpojadoklfdfiaa", sum := "840c0a8b83c6c6821ce67589190a74bcc7042608b8432f7358e158332f9c73e0", func := "loop.example/g00118/laws.FnExactPageTitle", spec := "fnExactPageTitle", inPlace := ["internal/abi.NoEscape"], unfollowed := true, recurses := true, apart := false }
def FnExactPageTitleSaid : Prop := fnExactPageTitleRow.holds Try.pinned (OpenSpec.ofChange fnExactPageTitleSpec)

/-- ITS FALSE NEIGHBOUR: 'it returns false'. Refute it at one input. -/
def fnExactPageTitleWrong : ChangeSpec := { name := "fnExactPageTitle", fn := fun _ => fun
  | [d] => { results := [.lit (.bool false)], args := [d] }
  | _ => none }
def FnExactPageTitleWrongFalsely : Prop := fnExactPageTitleRow.holds Try.pinned (OpenSpec.ofChange fnExactPageTitleWrong)

/-- 'laws.FnExactPageLinks': WHATEVER THE INPUT: true; the input reads as it did. -/
def fnExactPageLinksSpec : ChangeSpec := { name := "fnExactPageLinks", fn := fun _ => fun
  | [d] => { results := [.lit (.bool true)], args := [d] }
  | _ => none }
def fnExactPageLinksRow : OpenClaim := { program := "ytpojadoklfdfiaa", sum := "840c0a8b83c6c6821ce67589190a74bcc7042608b8432f7358e158332f9c73e0", func := "loop.example/g00118/laws.FnExactPageLinks", spec := "fnExactPageLinks", unfollowed := true, recurses := true, apart := false }
def FnExactPageLinksSaid : Prop := fnExactPageLinksRow.holds Try.pinned (OpenSpec.ofChange fnExactPageLinksSpec)

/-- ITS FALSE NEIGHBOUR: 'it returns false'. Refute it at one input. -/
def fnExactPageLinksWrong : ChangeSpec := { name := "fnExactPageLinks", fn := fun _ => fun
  | [d] => { results := [.lit (.bool false)], args := [d] }
  | _ => none }
def FnExactPageLinksWrongFalsely : Prop := fnExactPageLinksRow.holds Try.pinned (OpenSpec.ofChange fnExactPageLinksWrong)

/-- 'laws.FnExactPopTo': WHATEVER THE INPUT: true; the input reads as it did. -/
def fnExactPopToSpec : ChangeSpec := { name := "fnExactPopTo", fn := fun _ => fun
  | [d1, d2, d3] => { results := [.lit (.bool true)], args := [d1, d2, d3] }
  | _ => none }
def fnExactPopToRow : OpenClaim := { program := "ytpojadoklfdfiaa", sum := "840c0a8b83c6c6821ce67589190a74bcc7042608b8432f7358e158332f9c73e0", func := "loop.example/g00118/laws.FnExactPopTo", spec := "fnExactPopTo", unfollowed := true, recurses := true, apart := false }
def FnExactPopToSaid : Prop := fnExactPopToRow.holds Try.pinned (OpenSpec.ofChange fnExactPopToSpec)

/-- ITS FALSE NEIGHBOUR: 'it returns false'. Refute it at one input. -/
def fnExactPopToWrong : ChangeSpec := { name := "fnExactPopTo", fn := fun _ => fun
  | [d1, d2, d3] => { results := [.lit (.bool false)], args := [d1, d2, d3] }
  | _ => none }
def FnExactPopToWrongFalsely : Prop := fnExactPopToRow.holds Try.pinned (OpenSpec.ofChange fnExactPopToWrong)

/-- 'laws.FnExactFmtsOk': WHATEVER THE INPUT: true; the input reads as it did. -/
def fnExactFmtsOkSpec : ChangeSpec := { name := "fnExactFmtsOk", fn := fun _ => fun
  | [d1, d2] => { results := [.lit (.bool true)], args := [d1, d2] }
  | _ => none }
def fnExactFmtsOkRow : OpenClaim := { program := "ytpojadoklfdfiaa", sum := "840c0a8b83c6c6821ce67589190a74bcc7042608b8432f7358e158332f9c73e0", func := "loop.example/g00118/laws.FnExactFmtsOk", spec := "fnExactFmtsOk", inPlace := ["internal/bytealg.IndexByteString", "internal/bytealg.IndexString"], unfollowed := true, recurses := true, named := ["internal/bytealg.MaxLen"], apart := false }
def FnExactFmtsOkSaid : Prop := fnExactFmtsOkRow.holds Try.pinned (OpenSpec.ofChange fnExactFmtsOkSpec)

/-- ITS FALSE NEIGHBOUR: 'it returns false'. Refute it at one input. -/
def fnExactFmtsOkWrong : ChangeSpec := { name := "fnExactFmtsOk", fn := fun _ => fun
  | [d1, d2] => { results := [.lit (.bool false)], args := [d1, d2] }
  | _ => none }
def FnExactFmtsOkWrongFalsely : Prop := fnExactFmtsOkRow.holds Try.pinned (OpenSpec.ofChange fnExactFmtsOkWrong)

/-- 'laws.FnExactInScope': WHATEVER THE INPUT: true; the input reads as it did. -/
def fnExactInScopeSpec : ChangeSpec := { name := "fnExactInScope", fn := fun _ => fun
  | [d1, d2, d3, d4] => { results := [.lit (.bool true)], args := [d1, d2, d3, d4] }
  | _ => none }
def fnExactInScopeRow : OpenClaim := { program := "ytpojadoklfdfiaa", sum := "840c0a8b83c6c6821ce67589190a74bcc7042608b8432f7358e158332f9c73e0", func := "loop.example/g00118/laws.FnExactInScope", spec := "fnExactInScope", inPlace := ["internal/bytealg.IndexByteString", "internal/bytealg.IndexString"], unfollowed := true, recurses := true, named := ["internal/bytealg.MaxLen"], apart := false }
def FnExactInScopeSaid : Prop := fnExactInScopeRow.holds Try.pinned (OpenSpec.ofChange fnExactInScopeSpec)

/-- ITS FALSE NEIGHBOUR: 'it returns false'. Refute it at one input. -/
def fnExactInScopeWrong : ChangeSpec := { name := "fnExactInScope", fn := fun _ => fun
  | [d1, d2, d3, d4] => { results := [.lit (.bool false)], args := [d1, d2, d3, d4] }
  | _ => none }
def FnExactInScopeWrongFalsely : Prop := fnExactInScopeRow.holds Try.pinned (OpenSpec.ofChange fnExactInScopeWrong)

/-- 'laws.FnExactFmtFind': WHATEVER THE INPUT: true; the input reads as it did. -/
def fnExactFmtFindSpec : ChangeSpec := { name := "fnExactFmtFind", fn := fun _ => fun
  | [d1, d2, d3] => { results := [.lit (.bool true)], args := [d1, d2, d3] }
  | _ => none }
def fnExactFmtFindRow : OpenClaim := { program := "ytpojadoklfdfiaa", sum := "840c0a8b83c6c6821ce67589190a74bcc7042608b8432f7358e158332f9c73e0", func := "loop.example/g00118/laws.FnExactFmtFind", spec := "fnExactFmtFind", inPlace := ["internal/bytealg.IndexByteString", "internal/bytealg.IndexString"], unfollowed := true, recurses := true, named := ["internal/bytealg.MaxLen"], apart := false }
def FnExactFmtFindSaid : Prop := fnExactFmtFindRow.holds Try.pinned (OpenSpec.ofChange fnExactFmtFindSpec)

/-- ITS FALSE NEIGHBOUR: 'it returns false'. Refute it at one input. -/
def fnExactFmtFindWrong : ChangeSpec := { name := "fnExactFmtFind", fn := fun _ => fun
  | [d1, d2, d3] => { results := [.lit (.bool false)], args := [d1, d2, d3] }
  | _ => none }
def FnExactFmtFindWrongFalsely : Prop := fnExactFmtFindRow.holds Try.pinned (OpenSpec.ofChange fnExactFmtFindWrong)

/-- 'laws.FnExactPopImplied': WHATEVER THE INPUT: true; the input reads as it did. -/
def fnExactPopImpliedSpec : ChangeSpec := { name := "fnExactPopImplied", fn := fun _ => fun
  | [d1, d2, d3] => { results := [.lit (.bool true)], args := [d1, d2, d3] }
  | _ => none }
def fnExactPopImpliedRow : OpenClaim := { program := "ytpojadoklfdfiaa", sum := "840c0a8b83c6c6821ce67589190a74bcc7042608b8432f7358e158332f9c73e0", func := "loop.example/g00118/laws.FnExactPopImplied", spec := "fnExactPopImplied", inPlace := ["internal/bytealg.IndexByteString", "internal/bytealg.IndexString"], unfollowed := true, recurses := true, named := ["internal/bytealg.MaxLen"], apart := false }
def FnExactPopImpliedSaid : Prop := fnExactPopImpliedRow.holds Try.pinned (OpenSpec.ofChange fnExactPopImpliedSpec)

/-- ITS FALSE NEIGHBOUR: 'it returns false'. Refute it at one input. -/
def fnExactPopImpliedWrong : ChangeSpec := { name := "fnExactPopImplied", fn := fun _ => fun
  | [d1, d2, d3] => { results := [.lit (.bool false)], args := [d1, d2, d3] }
  | _ => none }
def FnExactPopImpliedWrongFalsely : Prop := fnExactPopImpliedRow.holds Try.pinned (OpenSpec.ofChange fnExactPopImpliedWrong)

/-- 'laws.FnExactBuildOk': WHATEVER THE INPUT: true; the input reads as it did. -/
def fnExactBuildOkSpec : ChangeSpec := { name := "fnExactBuildOk", fn := fun _ => fun
  | [d] => { results := [.lit (.bool true)], args := [d] }
  | _ => none }
def fnExactBuildOkRow : OpenClaim := { program := "ytpojadoklfdfiaa", sum := "840c0a8b83c6c6821ce67589190a74bcc7042608b8432f7358e158332f9c73e0", func := "loop.example/g00118/laws.FnExactBuildOk", spec := "fnExactBuildOk", inPlace := ["internal/bytealg.IndexByteString", "internal/bytealg.IndexString"], unfollowed := true, recurses := true, named := ["internal/bytealg.MaxLen"], apart := false }
def FnExactBuildOkSaid : Prop := fnExactBuildOkRow.holds Try.pinned (OpenSpec.ofChange fnExactBuildOkSpec)

/-- ITS FALSE NEIGHBOUR: 'it returns false'. Refute it at one input. -/
def fnExactBuildOkWrong : ChangeSpec := { name := "fnExactBuildOk", fn := fun _ => fun
  | [d] => { results := [.lit (.bool false)], args := [d] }
  | _ => none }
def FnExactBuildOkWrongFalsely : Prop := fnExactBuildOkRow.holds Try.pinned (OpenSpec.ofChange fnExactBuildOkWrong)

/- THE SECOND FORM. 'bulk': how many values and letters a reading holds, each counted each time it is reached (what is shared counts as often as it is met; a slice's spare places count too). A statement '..UptoSaid' is the law's where the arguments, and the package variables that the reading takes, are together of bulk at most 1048576: NARROWER than '..Said'. Prove '..Said' where nothing that the law and all that it calls make is longer than what came in: it says more and counts as full. Else prove '..UptoSaid'. A law counts once. -/
mutual
def uptoBulk {H : Type} : DataW H → Nat
  | .lit (.string bytes) => bytes.length + 1
  | .lit _ => 1
  | .nil => 1
  | .ptr d => uptoBulk d + 1
  | .slice elems spare => uptoBulkAll elems + uptoBulkAll spare + 1
  | .agg parts => uptoBulkAll parts + 1
  | .iface _ d => uptoBulk d + 1
  | .map entries => uptoBulkEntries entries + 1
  | .held _ => 1
def uptoBulkAll {H : Type} : List (DataW H) → Nat
  | [] => 0
  | d :: r => uptoBulk d + uptoBulkAll r
def uptoBulkEntries {H : Type} : List (Lit × DataW H) → Nat
  | [] => 0
  | x :: r => uptoBulkEntry x + uptoBulkEntries r
def uptoBulkEntry {H : Type} : Lit × DataW H → Nat
  | (.string bytes, d) => bytes.length + uptoBulk d + 1
  | (_, d) => uptoBulk d + 1
 end
def uptoSmall : (H : Type) → List (DataW H) → Bool := fun _ ds => decide (uptoBulkAll ds ≤ 1048576)
def OpenSpec.upto (s : _root_.Go.ChangeSpec) : _root_.Go.OpenSpec := { _root_.Go.OpenSpec.ofChange s with cond := some uptoSmall }

/-- 'laws.FnExactPageCount', WHERE WHAT IT READS IS OF BULK AT MOST 1048576: true; the input reads as it did. -/
def fnExactPageCountUptoRow : OpenClaim := { program := "ytpojadoklfdfiaa", sum := "840c0a8b83c6c6821ce67589190a74bcc7042608b8432f7358e158332f9c73e0", func := "loop.example/g00118/laws.FnExactPageCount", spec := "fnExactPageCount", unfollowed := true, recurses := true, apart := false, narrowed := true }
def FnExactPageCountUptoSaid : Prop := fnExactPageCountUptoRow.holds Try.pinned (OpenSpec.upto fnExactPageCountSpec)

/-- 'laws.FnExactStackOk', WHERE WHAT IT READS IS OF BULK AT MOST 1048576: true; the input reads as it did. -/
def fnExactStackOkUptoRow : OpenClaim := { program := "ytpojadoklfdfiaa", sum := "840c0a8b83c6c6821ce67589190a74bcc7042608b8432f7358e158332f9c73e0", func := "loop.example/g00118/laws.FnExactStackOk", spec := "fnExactStackOk", unfollowed := true, recurses := true, apart := false, narrowed := true }
def FnExactStackOkUptoSaid : Prop := fnExactStackOkUptoRow.holds Try.pinned (OpenSpec.upto fnExactStackOkSpec)

/-- 'laws.FnExactOpenAt', WHERE WHAT IT READS IS OF BULK AT MOST 1048576: true; the input reads as it did. -/
def fnExactOpenAtUptoRow : OpenClaim := { program := "ytpojadoklfdfiaa", sum := "840c0a8b83c6c6821ce67589190a74bcc7042608b8432f7358e158332f9c73e0", func := "loop.example/g00118/laws.FnExactOpenAt", spec := "fnExactOpenAt", unfollowed := true, recurses := true, apart := false, narrowed := true }
def FnExactOpenAtUptoSaid : Prop := fnExactOpenAtUptoRow.holds Try.pinned (OpenSpec.upto fnExactOpenAtSpec)

/-- 'laws.FnExactPageTitle', WHERE WHAT IT READS IS OF BULK AT MOST 1048576: true; the input reads as it did. -/
def fnExactPageTitleUptoRow : OpenClaim := { program := "ytpojadoklfdfiaa", sum := "840c0a8b83c6c6821ce67589190a74bcc7042608b8432f7358e158332f9c73e0", func := "loop.example/g00118/laws.FnExactPageTitle", spec := "fnExactPageTitle", inPlace := ["internal/abi.NoEscape"], unfollowed := true, recurses := true, apart := false, narrowed := true }
def FnExactPageTitleUptoSaid : Prop := fnExactPageTitleUptoRow.holds Try.pinned (OpenSpec.upto fnExactPageTitleSpec)

/-- 'laws.FnExactPageLinks', WHERE WHAT IT READS IS OF BULK AT MOST 1048576: true; the input reads as it did. -/
def fnExactPageLinksUptoRow : OpenClaim := { program := "ytpojadoklfdfiaa", sum := "840c0a8b83c6c6821ce67589190a74bcc7042608b8432f7358e158332f9c73e0", func := "loop.example/g00118/laws.FnExactPageLinks", spec := "fnExactPageLinks", unfollowed := true, recurses := true, apart := false, narrowed := true }
def FnExactPageLinksUptoSaid : Prop := fnExactPageLinksUptoRow.holds Try.pinned (OpenSpec.upto fnExactPageLinksSpec)

/-- 'laws.FnExactPopTo', WHERE WHAT IT READS IS OF BULK AT MOST 1048576: true; the input reads as it did. -/
def fnExactPopToUptoRow : OpenClaim := { program := "ytpojadoklfdfiaa", sum := "840c0a8b83c6c6821ce67589190a74bcc7042608b8432f7358e158332f9c73e0", func := "loop.example/g00118/laws.FnExactPopTo", spec := "fnExactPopTo", unfollowed := true, recurses := true, apart := false, narrowed := true }
def FnExactPopToUptoSaid : Prop := fnExactPopToUptoRow.holds Try.pinned (OpenSpec.upto fnExactPopToSpec)

/-- 'laws.FnExactFmtsOk', WHERE WHAT IT READS IS OF BULK AT MOST 1048576: true; the input reads as it did. -/
def fnExactFmtsOkUptoRow : OpenClaim := { program := "ytpojadoklfdfiaa", sum := "840c0a8b83c6c6821ce67589190a74bcc7042608b8432f7358e158332f9c73e0", func := "loop.example/g00118/laws.FnExactFmtsOk", spec := "fnExactFmtsOk", inPlace := ["internal/bytealg.IndexByteString", "internal/bytealg.IndexString"], unfollowed := true, recurses := true, named := ["internal/bytealg.MaxLen"], apart := false, narrowed := true }
def FnExactFmtsOkUptoSaid : Prop := fnExactFmtsOkUptoRow.holds Try.pinned (OpenSpec.upto fnExactFmtsOkSpec)

/-- 'laws.FnExactInScope', WHERE WHAT IT READS IS OF BULK AT MOST 1048576: true; the input reads as it did. -/
def fnExactInScopeUptoRow : OpenClaim := { program := "ytpojadoklfdfiaa", sum := "840c0a8b83c6c6821ce67589190a74bcc7042608b8432f7358e158332f9c73e0", func := "loop.example/g00118/laws.FnExactInScope", spec := "fnExactInScope", inPlace := ["internal/bytealg.IndexByteString", "internal/bytealg.IndexString"], unfollowed := true, recurses := true, named := ["internal/bytealg.MaxLen"], apart := false, narrowed := true }
def FnExactInScopeUptoSaid : Prop := fnExactInScopeUptoRow.holds Try.pinned (OpenSpec.upto fnExactInScopeSpec)

/-- 'laws.FnExactFmtFind', WHERE WHAT IT READS IS OF BULK AT MOST 1048576: true; the input reads as it did. -/
def fnExactFmtFindUptoRow : OpenClaim := { program := "ytpojadoklfdfiaa", sum := "840c0a8b83c6c6821ce67589190a74bcc7042608b8432f7358e158332f9c73e0", func := "loop.example/g00118/laws.FnExactFmtFind", spec := "fnExactFmtFind", inPlace := ["internal/bytealg.IndexByteString", "internal/bytealg.IndexString"], unfollowed := true, recurses := true, named := ["internal/bytealg.MaxLen"], apart := false, narrowed := true }
def FnExactFmtFindUptoSaid : Prop := fnExactFmtFindUptoRow.holds Try.pinned (OpenSpec.upto fnExactFmtFindSpec)

/-- 'laws.FnExactPopImplied', WHERE WHAT IT READS IS OF BULK AT MOST 1048576: true; the input reads as it did. -/
def fnExactPopImpliedUptoRow : OpenClaim := { program := "ytpojadoklfdfiaa", sum := "840c0a8b83c6c6821ce67589190a74bcc7042608b8432f7358e158332f9c73e0", func := "loop.example/g00118/laws.FnExactPopImplied", spec := "fnExactPopImplied", inPlace := ["internal/bytealg.IndexByteString", "internal/bytealg.IndexString"], unfollowed := true, recurses := true, named := ["internal/bytealg.MaxLen"], apart := false, narrowed := true }
def FnExactPopImpliedUptoSaid : Prop := fnExactPopImpliedUptoRow.holds Try.pinned (OpenSpec.upto fnExactPopImpliedSpec)

/-- 'laws.FnExactBuildOk', WHERE WHAT IT READS IS OF BULK AT MOST 1048576: true; the input reads as it did. -/
def fnExactBuildOkUptoRow : OpenClaim := { program := "ytpojadoklfdfiaa", sum := "840c0a8b83c6c6821ce67589190a74bcc7042608b8432f7358e158332f9c73e0", func := "loop.example/g00118/laws.FnExactBuildOk", spec := "fnExactBuildOk", inPlace := ["internal/bytealg.IndexByteString", "internal/bytealg.IndexString"], unfollowed := true, recurses := true, named := ["internal/bytealg.MaxLen"], apart := false, narrowed := true }
def FnExactBuildOkUptoSaid : Prop := fnExactBuildOkUptoRow.holds Try.pinned (OpenSpec.upto fnExactBuildOkSpec)

end Rows
end Go.Proofs.Ytpojadoklfdfiaa

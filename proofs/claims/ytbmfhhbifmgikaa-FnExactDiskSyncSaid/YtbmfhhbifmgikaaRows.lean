/-
  No cell of these rows narrows 'for every input' (looked for: loops, veiled, ifaces, maps, wideKeys, modest, calm, conditions, laid).
  DERIVED. THE GIVEN ROWS OF THIS SEAT. 12 by the template 'for every input the law returns true; each argument reads behind the call as it read before'; 0 by the template 'total and deterministic' (their statements: YtbmfhhbifmgikaaTotals.lean).
  GIVEN WITH THE SEED: the statements are not yours to turn. If you find one false, say at which input.
  Laid BY PROGRAM, IN A SANDBOX (cutbox-rows.mjs): the forced cells as the released guide's own fill.sh prints them over the translation ac055fc618c2c5f3… (all of the seat's roots in one cut). By AI agents, Wed Nov 11 2026. No macro, syntax, notation, axiom, sorry.
-/
import Derived.Test.YtbmfhhbifmgikaaChecked
import GoSem.Claim
import GoSem.ClaimJoined
import GoSem.ClaimMapViews
import Derived.JoinedTies
import Derived.KernelRfl
namespace Go.Proofs.Ytbmfhhbifmgikaa
/- THE CELL 'sum', in the pinned program and in every row, IS THE sha256 OF THE DUMP (.gsa) THAT YtbmfhhbifmgikaaProg.lean LOADS. Nothing in Lean hashes anything: it is a label: what it is worth is what the hold of that sum in a sandbox is worth. -/
noncomputable def Try.pinned : Pinned := { name := "ytbmfhhbifmgikaa", sum := "ac055fc618c2c5f35065efa7aebd6e13fb3a80d3e7ca4082b476993e2a7fc59e", checked := Try.checked }
namespace Rows
def none {H : Type} : Left H := { results := [], args := [] }

/-- 'laws.FnExactFmtClear': WHATEVER THE INPUT: true; the input reads as it did. -/
def fnExactFmtClearSpec : ChangeSpec := { name := "fnExactFmtClear", fn := fun _ => fun
  | [d] => { results := [.lit (.bool true)], args := [d] }
  | _ => none }
def fnExactFmtClearRow : OpenClaim := { program := "ytbmfhhbifmgikaa", sum := "ac055fc618c2c5f35065efa7aebd6e13fb3a80d3e7ca4082b476993e2a7fc59e", func := "loop.example/g00118/laws.FnExactFmtClear", spec := "fnExactFmtClear", apart := false }
def FnExactFmtClearSaid : Prop := fnExactFmtClearRow.holds Try.pinned (OpenSpec.ofChange fnExactFmtClearSpec)

/-- ITS FALSE NEIGHBOUR: 'it returns false'. Refute it at one input. -/
def fnExactFmtClearWrong : ChangeSpec := { name := "fnExactFmtClear", fn := fun _ => fun
  | [d] => { results := [.lit (.bool false)], args := [d] }
  | _ => none }
def FnExactFmtClearWrongFalsely : Prop := fnExactFmtClearRow.holds Try.pinned (OpenSpec.ofChange fnExactFmtClearWrong)

/-- 'laws.FnExactFmtLess': WHATEVER THE INPUT: true; the input reads as it did. -/
def fnExactFmtLessSpec : ChangeSpec := { name := "fnExactFmtLess", fn := fun _ => fun
  | [d1, d2] => { results := [.lit (.bool true)], args := [d1, d2] }
  | _ => none }
def fnExactFmtLessRow : OpenClaim := { program := "ytbmfhhbifmgikaa", sum := "ac055fc618c2c5f35065efa7aebd6e13fb3a80d3e7ca4082b476993e2a7fc59e", func := "loop.example/g00118/laws.FnExactFmtLess", spec := "fnExactFmtLess", unfollowed := true, recurses := true, apart := false }
def FnExactFmtLessSaid : Prop := fnExactFmtLessRow.holds Try.pinned (OpenSpec.ofChange fnExactFmtLessSpec)

/-- ITS FALSE NEIGHBOUR: 'it returns false'. Refute it at one input. -/
def fnExactFmtLessWrong : ChangeSpec := { name := "fnExactFmtLess", fn := fun _ => fun
  | [d1, d2] => { results := [.lit (.bool false)], args := [d1, d2] }
  | _ => none }
def FnExactFmtLessWrongFalsely : Prop := fnExactFmtLessRow.holds Try.pinned (OpenSpec.ofChange fnExactFmtLessWrong)

/-- 'laws.FnExactIsHead': WHATEVER THE INPUT: true; the input reads as it did. -/
def fnExactIsHeadSpec : ChangeSpec := { name := "fnExactIsHead", fn := fun _ => fun
  | [d] => { results := [.lit (.bool true)], args := [d] }
  | _ => none }
def fnExactIsHeadRow : OpenClaim := { program := "ytbmfhhbifmgikaa", sum := "ac055fc618c2c5f35065efa7aebd6e13fb3a80d3e7ca4082b476993e2a7fc59e", func := "loop.example/g00118/laws.FnExactIsHead", spec := "fnExactIsHead", inPlace := ["internal/bytealg.IndexByteString", "internal/bytealg.IndexString"], named := ["internal/bytealg.MaxLen"], apart := false }
def FnExactIsHeadSaid : Prop := fnExactIsHeadRow.holds Try.pinned (OpenSpec.ofChange fnExactIsHeadSpec)

/-- ITS FALSE NEIGHBOUR: 'it returns false'. Refute it at one input. -/
def fnExactIsHeadWrong : ChangeSpec := { name := "fnExactIsHead", fn := fun _ => fun
  | [d] => { results := [.lit (.bool false)], args := [d] }
  | _ => none }
def FnExactIsHeadWrongFalsely : Prop := fnExactIsHeadRow.holds Try.pinned (OpenSpec.ofChange fnExactIsHeadWrong)

/-- 'laws.FnExactIsHeading': WHATEVER THE INPUT: true; the input reads as it did. -/
def fnExactIsHeadingSpec : ChangeSpec := { name := "fnExactIsHeading", fn := fun _ => fun
  | [d] => { results := [.lit (.bool true)], args := [d] }
  | _ => none }
def fnExactIsHeadingRow : OpenClaim := { program := "ytbmfhhbifmgikaa", sum := "ac055fc618c2c5f35065efa7aebd6e13fb3a80d3e7ca4082b476993e2a7fc59e", func := "loop.example/g00118/laws.FnExactIsHeading", spec := "fnExactIsHeading", inPlace := ["internal/bytealg.IndexByteString", "internal/bytealg.IndexString"], named := ["internal/bytealg.MaxLen"], apart := false }
def FnExactIsHeadingSaid : Prop := fnExactIsHeadingRow.holds Try.pinned (OpenSpec.ofChange fnExactIsHeadingSpec)

/-- ITS FALSE NEIGHBOUR: 'it returns false'. Refute it at one input. -/
def fnExactIsHeadingWrong : ChangeSpec := { name := "fnExactIsHeading", fn := fun _ => fun
  | [d] => { results := [.lit (.bool false)], args := [d] }
  | _ => none }
def FnExactIsHeadingWrongFalsely : Prop := fnExactIsHeadingRow.holds Try.pinned (OpenSpec.ofChange fnExactIsHeadingWrong)

/-- 'laws.FnExactIsImplied': WHATEVER THE INPUT: true; the input reads as it did. -/
def fnExactIsImpliedSpec : ChangeSpec := { name := "fnExactIsImplied", fn := fun _ => fun
  | [d] => { results := [.lit (.bool true)], args := [d] }
  | _ => none }
def fnExactIsImpliedRow : OpenClaim := { program := "ytbmfhhbifmgikaa", sum := "ac055fc618c2c5f35065efa7aebd6e13fb3a80d3e7ca4082b476993e2a7fc59e", func := "loop.example/g00118/laws.FnExactIsImplied", spec := "fnExactIsImplied", inPlace := ["internal/bytealg.IndexByteString", "internal/bytealg.IndexString"], named := ["internal/bytealg.MaxLen"], apart := false }
def FnExactIsImpliedSaid : Prop := fnExactIsImpliedRow.holds Try.pinned (OpenSpec.ofChange fnExactIsImpliedSpec)

/-- ITS FALSE NEIGHBOUR: 'it returns false'. Refute it at one input. -/
def fnExactIsImpliedWrong : ChangeSpec := { name := "fnExactIsImplied", fn := fun _ => fun
  | [d] => { results := [.lit (.bool false)], args := [d] }
  | _ => none }
def FnExactIsImpliedWrongFalsely : Prop := fnExactIsImpliedRow.holds Try.pinned (OpenSpec.ofChange fnExactIsImpliedWrong)

/-- 'laws.FnExactDiskOk': WHATEVER THE INPUT: true; the input reads as it did. -/
def fnExactDiskOkSpec : ChangeSpec := { name := "fnExactDiskOk", fn := fun _ => fun
  | [d] => { results := [.lit (.bool true)], args := [d] }
  | _ => none }
def fnExactDiskOkRow : OpenClaim := { program := "ytbmfhhbifmgikaa", sum := "ac055fc618c2c5f35065efa7aebd6e13fb3a80d3e7ca4082b476993e2a7fc59e", func := "loop.example/g00118/laws.FnExactDiskOk", spec := "fnExactDiskOk", apart := false }
def FnExactDiskOkSaid : Prop := fnExactDiskOkRow.holds Try.pinned (OpenSpec.ofChange fnExactDiskOkSpec)

/-- ITS FALSE NEIGHBOUR: 'it returns false'. Refute it at one input. -/
def fnExactDiskOkWrong : ChangeSpec := { name := "fnExactDiskOk", fn := fun _ => fun
  | [d] => { results := [.lit (.bool false)], args := [d] }
  | _ => none }
def FnExactDiskOkWrongFalsely : Prop := fnExactDiskOkRow.holds Try.pinned (OpenSpec.ofChange fnExactDiskOkWrong)

/-- 'laws.FnExactIsSpecial': WHATEVER THE INPUT: true; the input reads as it did. -/
def fnExactIsSpecialSpec : ChangeSpec := { name := "fnExactIsSpecial", fn := fun _ => fun
  | [d] => { results := [.lit (.bool true)], args := [d] }
  | _ => none }
def fnExactIsSpecialRow : OpenClaim := { program := "ytbmfhhbifmgikaa", sum := "ac055fc618c2c5f35065efa7aebd6e13fb3a80d3e7ca4082b476993e2a7fc59e", func := "loop.example/g00118/laws.FnExactIsSpecial", spec := "fnExactIsSpecial", inPlace := ["internal/bytealg.IndexByteString", "internal/bytealg.IndexString"], named := ["internal/bytealg.MaxLen"], apart := false }
def FnExactIsSpecialSaid : Prop := fnExactIsSpecialRow.holds Try.pinned (OpenSpec.ofChange fnExactIsSpecialSpec)

/-- ITS FALSE NEIGHBOUR: 'it returns false'. Refute it at one input. -/
def fnExactIsSpecialWrong : ChangeSpec := { name := "fnExactIsSpecial", fn := fun _ => fun
  | [d] => { results := [.lit (.bool false)], args := [d] }
  | _ => none }
def FnExactIsSpecialWrongFalsely : Prop := fnExactIsSpecialRow.holds Try.pinned (OpenSpec.ofChange fnExactIsSpecialWrong)

/-- 'laws.FnExactSectorOf': WHATEVER THE INPUT: true; the input reads as it did. -/
def fnExactSectorOfSpec : ChangeSpec := { name := "fnExactSectorOf", fn := fun _ => fun
  | [d1, d2] => { results := [.lit (.bool true)], args := [d1, d2] }
  | _ => none }
def fnExactSectorOfRow : OpenClaim := { program := "ytbmfhhbifmgikaa", sum := "ac055fc618c2c5f35065efa7aebd6e13fb3a80d3e7ca4082b476993e2a7fc59e", func := "loop.example/g00118/laws.FnExactSectorOf", spec := "fnExactSectorOf", apart := false }
def FnExactSectorOfSaid : Prop := fnExactSectorOfRow.holds Try.pinned (OpenSpec.ofChange fnExactSectorOfSpec)

/-- ITS FALSE NEIGHBOUR: 'it returns false'. Refute it at one input. -/
def fnExactSectorOfWrong : ChangeSpec := { name := "fnExactSectorOf", fn := fun _ => fun
  | [d1, d2] => { results := [.lit (.bool false)], args := [d1, d2] }
  | _ => none }
def FnExactSectorOfWrongFalsely : Prop := fnExactSectorOfRow.holds Try.pinned (OpenSpec.ofChange fnExactSectorOfWrong)

/-- 'laws.FnKinds': WHATEVER THE INPUT: true; the input reads as it did. -/
def fnKindsSpec : ChangeSpec := { name := "fnKinds", fn := fun _ => fun
  | [d] => { results := [.lit (.bool true)], args := [d] }
  | _ => none }
def fnKindsRow : OpenClaim := { program := "ytbmfhhbifmgikaa", sum := "ac055fc618c2c5f35065efa7aebd6e13fb3a80d3e7ca4082b476993e2a7fc59e", func := "loop.example/g00118/laws.FnKinds", spec := "fnKinds", inPlace := ["internal/bytealg.IndexByteString", "internal/bytealg.IndexString"], named := ["internal/bytealg.MaxLen"], apart := false }
def FnKindsSaid : Prop := fnKindsRow.holds Try.pinned (OpenSpec.ofChange fnKindsSpec)

/-- ITS FALSE NEIGHBOUR: 'it returns false'. Refute it at one input. -/
def fnKindsWrong : ChangeSpec := { name := "fnKinds", fn := fun _ => fun
  | [d] => { results := [.lit (.bool false)], args := [d] }
  | _ => none }
def FnKindsWrongFalsely : Prop := fnKindsRow.holds Try.pinned (OpenSpec.ofChange fnKindsWrong)

/-- 'laws.FnExactDiskNew': WHATEVER THE INPUT: true; the input reads as it did. -/
def fnExactDiskNewSpec : ChangeSpec := { name := "fnExactDiskNew", fn := fun _ => fun
  | [] => { results := [.lit (.bool true)], args := [] }
  | _ => none }
def fnExactDiskNewRow : OpenClaim := { program := "ytbmfhhbifmgikaa", sum := "ac055fc618c2c5f35065efa7aebd6e13fb3a80d3e7ca4082b476993e2a7fc59e", func := "loop.example/g00118/laws.FnExactDiskNew", spec := "fnExactDiskNew", inPlace := ["internal/abi.NoEscape", "internal/bytealg.MakeNoZero"], apart := false }
def FnExactDiskNewSaid : Prop := fnExactDiskNewRow.holds Try.pinned (OpenSpec.ofChange fnExactDiskNewSpec)

/-- ITS FALSE NEIGHBOUR: 'it returns false'. Refute it at one input. -/
def fnExactDiskNewWrong : ChangeSpec := { name := "fnExactDiskNew", fn := fun _ => fun
  | [] => { results := [.lit (.bool false)], args := [] }
  | _ => none }
def FnExactDiskNewWrongFalsely : Prop := fnExactDiskNewRow.holds Try.pinned (OpenSpec.ofChange fnExactDiskNewWrong)

/-- 'laws.FnExactDiskPut': WHATEVER THE INPUT: true; the input reads as it did. -/
def fnExactDiskPutSpec : ChangeSpec := { name := "fnExactDiskPut", fn := fun _ => fun
  | [d1, d2, d3] => { results := [.lit (.bool true)], args := [d1, d2, d3] }
  | _ => none }
def fnExactDiskPutRow : OpenClaim := { program := "ytbmfhhbifmgikaa", sum := "ac055fc618c2c5f35065efa7aebd6e13fb3a80d3e7ca4082b476993e2a7fc59e", func := "loop.example/g00118/laws.FnExactDiskPut", spec := "fnExactDiskPut", apart := false }
def FnExactDiskPutSaid : Prop := fnExactDiskPutRow.holds Try.pinned (OpenSpec.ofChange fnExactDiskPutSpec)

/-- ITS FALSE NEIGHBOUR: 'it returns false'. Refute it at one input. -/
def fnExactDiskPutWrong : ChangeSpec := { name := "fnExactDiskPut", fn := fun _ => fun
  | [d1, d2, d3] => { results := [.lit (.bool false)], args := [d1, d2, d3] }
  | _ => none }
def FnExactDiskPutWrongFalsely : Prop := fnExactDiskPutRow.holds Try.pinned (OpenSpec.ofChange fnExactDiskPutWrong)

/-- 'laws.FnExactDiskSync': WHATEVER THE INPUT: true; the input reads as it did. -/
def fnExactDiskSyncSpec : ChangeSpec := { name := "fnExactDiskSync", fn := fun _ => fun
  | [d] => { results := [.lit (.bool true)], args := [d] }
  | _ => none }
def fnExactDiskSyncRow : OpenClaim := { program := "ytbmfhhbifmgikaa", sum := "ac055fc618c2c5f35065efa7aebd6e13fb3a80d3e7ca4082b476993e2a7fc59e", func := "loop.example/g00118/laws.FnExactDiskSync", spec := "fnExactDiskSync", unfollowed := true, recurses := true, apart := false }
def FnExactDiskSyncSaid : Prop := fnExactDiskSyncRow.holds Try.pinned (OpenSpec.ofChange fnExactDiskSyncSpec)

/-- ITS FALSE NEIGHBOUR: 'it returns false'. Refute it at one input. -/
def fnExactDiskSyncWrong : ChangeSpec := { name := "fnExactDiskSync", fn := fun _ => fun
  | [d] => { results := [.lit (.bool false)], args := [d] }
  | _ => none }
def FnExactDiskSyncWrongFalsely : Prop := fnExactDiskSyncRow.holds Try.pinned (OpenSpec.ofChange fnExactDiskSyncWrong)

/- THE SECOND FORM. 'bulk': how many values and letters a reading holds, each counted each time it is reached (what is shared counts as often as it is met; a slice's spare places count too). A statement '..UptoSaid' is the law's where the arguments, and the package variables that the reading takes, are together of bulk at most 1048576: NARROWER than '..Said'. Prove '..Said' where nothing that the law and all that it calls make is longer than what came in: it says more and counts as full. Else prove '..UptoSaid'. A law counts once. -/
mutual
def uptoBulk {H : Type} : DataW H → Nat
  | .lit (.string bytes) => bytes.length + 1
  | .lit _ => 1
  | .nil => 1
  | .ptr d => uptoBulk d + 1
  | .slice elems spare => uptoBulkAll elems + uptoBulkAll spare + 1
  | .agg parts => uptoBulkAll parts + 1
  | .iface _ d => uptoBulk d + 1
  | .map entries => uptoBulkEntries entries + 1
  | .held _ => 1
def uptoBulkAll {H : Type} : List (DataW H) → Nat
  | [] => 0
  | d :: r => uptoBulk d + uptoBulkAll r
def uptoBulkEntries {H : Type} : List (Lit × DataW H) → Nat
  | [] => 0
  | x :: r => uptoBulkEntry x + uptoBulkEntries r
def uptoBulkEntry {H : Type} : Lit × DataW H → Nat
  | (.string bytes, d) => bytes.length + uptoBulk d + 1
  | (_, d) => uptoBulk d + 1
 end
def uptoSmall : (H : Type) → List (DataW H) → Bool := fun _ ds => decide (uptoBulkAll ds ≤ 1048576)
def OpenSpec.upto (s : _root_.Go.ChangeSpec) : _root_.Go.OpenSpec := { _root_.Go.OpenSpec.ofChange s with cond := some uptoSmall }

/-- 'laws.FnExactFmtClear', WHERE WHAT IT READS IS OF BULK AT MOST 1048576: true; the input reads as it did. -/
def fnExactFmtClearUptoRow : OpenClaim := { program := "ytbmfhhbifmgikaa", sum := "ac055fc618c2c5f35065efa7aebd6e13fb3a80d3e7ca4082b476993e2a7fc59e", func := "loop.example/g00118/laws.FnExactFmtClear", spec := "fnExactFmtClear", apart := false, narrowed := true }
def FnExactFmtClearUptoSaid : Prop := fnExactFmtClearUptoRow.holds Try.pinned (OpenSpec.upto fnExactFmtClearSpec)

/-- 'laws.FnExactFmtLess', WHERE WHAT IT READS IS OF BULK AT MOST 1048576: true; the input reads as it did. -/
def fnExactFmtLessUptoRow : OpenClaim := { program := "ytbmfhhbifmgikaa", sum := "ac055fc618c2c5f35065efa7aebd6e13fb3a80d3e7ca4082b476993e2a7fc59e", func := "loop.example/g00118/laws.FnExactFmtLess", spec := "fnExactFmtLess", unfollowed := true, recurses := true, apart := false, narrowed := true }
def FnExactFmtLessUptoSaid : Prop := fnExactFmtLessUptoRow.holds Try.pinned (OpenSpec.upto fnExactFmtLessSpec)

/-- 'laws.FnExactIsHead', WHERE WHAT IT READS IS OF BULK AT MOST 1048576: true; the input reads as it did. -/
def fnExactIsHeadUptoRow : OpenClaim := { program := "ytbmfhhbifmgikaa", sum := "ac055fc618c2c5f35065efa7aebd6e13fb3a80d3e7ca4082b476993e2a7fc59e", func := "loop.example/g00118/laws.FnExactIsHead", spec := "fnExactIsHead", inPlace := ["internal/bytealg.IndexByteString", "internal/bytealg.IndexString"], named := ["internal/bytealg.MaxLen"], apart := false, narrowed := true }
def FnExactIsHeadUptoSaid : Prop := fnExactIsHeadUptoRow.holds Try.pinned (OpenSpec.upto fnExactIsHeadSpec)

/-- 'laws.FnExactIsHeading', WHERE WHAT IT READS IS OF BULK AT MOST 1048576: true; the input reads as it did. -/
def fnExactIsHeadingUptoRow : OpenClaim := { program := "ytbmfhhbifmgikaa", sum := "ac055fc618c2c5f35065efa7aebd6e13fb3a80d3e7ca4082b476993e2a7fc59e", func := "loop.example/g00118/laws.FnExactIsHeading", spec := "fnExactIsHeading", inPlace := ["internal/bytealg.IndexByteString", "internal/bytealg.IndexString"], named := ["internal/bytealg.MaxLen"], apart := false, narrowed := true }
def FnExactIsHeadingUptoSaid : Prop := fnExactIsHeadingUptoRow.holds Try.pinned (OpenSpec.upto fnExactIsHeadingSpec)

/-- 'laws.FnExactIsImplied', WHERE WHAT IT READS IS OF BULK AT MOST 1048576: true; the input reads as it did. -/
def fnExactIsImpliedUptoRow : OpenClaim := { program := "ytbmfhhbifmgikaa", sum := "ac055fc618c2c5f35065efa7aebd6e13fb3a80d3e7ca4082b476993e2a7fc59e", func := "loop.example/g00118/laws.FnExactIsImplied", spec := "fnExactIsImplied", inPlace := ["internal/bytealg.IndexByteString", "internal/bytealg.IndexString"], named := ["internal/bytealg.MaxLen"], apart := false, narrowed := true }
def FnExactIsImpliedUptoSaid : Prop := fnExactIsImpliedUptoRow.holds Try.pinned (OpenSpec.upto fnExactIsImpliedSpec)

/-- 'laws.FnExactDiskOk', WHERE WHAT IT READS IS OF BULK AT MOST 1048576: true; the input reads as it did. -/
def fnExactDiskOkUptoRow : OpenClaim := { program := "ytbmfhhbifmgikaa", sum := "ac055fc618c2c5f35065efa7aebd6e13fb3a80d3e7ca4082b476993e2a7fc59e", func := "loop.example/g00118/laws.FnExactDiskOk", spec := "fnExactDiskOk", apart := false, narrowed := true }
def FnExactDiskOkUptoSaid : Prop := fnExactDiskOkUptoRow.holds Try.pinned (OpenSpec.upto fnExactDiskOkSpec)

/-- 'laws.FnExactIsSpecial', WHERE WHAT IT READS IS OF BULK AT MOST 1048576: true; the input reads as it did. -/
def fnExactIsSpecialUptoRow : OpenClaim := { program := "ytbmfhhbifmgikaa", sum := "ac055fc618c2c5f35065efa7aebd6e13fb3a80d3e7ca4082b476993e2a7fc59e", func := "loop.example/g00118/laws.FnExactIsSpecial", spec := "fnExactIsSpecial", inPlace := ["internal/bytealg.IndexByteString", "internal/bytealg.IndexString"], named := ["internal/bytealg.MaxLen"], apart := false, narrowed := true }
def FnExactIsSpecialUptoSaid : Prop := fnExactIsSpecialUptoRow.holds Try.pinned (OpenSpec.upto fnExactIsSpecialSpec)

/-- 'laws.FnExactSectorOf', WHERE WHAT IT READS IS OF BULK AT MOST 1048576: true; the input reads as it did. -/
def fnExactSectorOfUptoRow : OpenClaim := { program := "ytbmfhhbifmgikaa", sum := "ac055fc618c2c5f35065efa7aebd6e13fb3a80d3e7ca4082b476993e2a7fc59e", func := "loop.example/g00118/laws.FnExactSectorOf", spec := "fnExactSectorOf", apart := false, narrowed := true }
def FnExactSectorOfUptoSaid : Prop := fnExactSectorOfUptoRow.holds Try.pinned (OpenSpec.upto fnExactSectorOfSpec)

/-- 'laws.FnKinds', WHERE WHAT IT READS IS OF BULK AT MOST 1048576: true; the input reads as it did. -/
def fnKindsUptoRow : OpenClaim := { program := "ytbmfhhbifmgikaa", sum := "ac055fc618c2c5f35065efa7aebd6e13fb3a80d3e7ca4082b476993e2a7fc59e", func := "loop.example/g00118/laws.FnKinds", spec := "fnKinds", inPlace := ["internal/bytealg.IndexByteString", "internal/bytealg.IndexString"], named := ["internal/bytealg.MaxLen"], apart := false, narrowed := true }
def FnKindsUptoSaid : Prop := fnKindsUptoRow.holds Try.pinned (OpenSpec.upto fnKindsSpec)

/-- 'laws.FnExactDiskNew', WHERE WHAT IT READS IS OF BULK AT MOST 1048576: true; the input reads as it did. -/
def fnExactDiskNewUptoRow : OpenClaim := { program := "ytbmfhhbifmgikaa", sum := "ac055fc618c2c5f35065efa7aebd6e13fb3a80d3e7ca4082b476993e2a7fc59e", func := "loop.example/g00118/laws.FnExactDiskNew", spec := "fnExactDiskNew", inPlace := ["internal/abi.NoEscape", "internal/bytealg.MakeNoZero"], apart := false, narrowed := true }
def FnExactDiskNewUptoSaid : Prop := fnExactDiskNewUptoRow.holds Try.pinned (OpenSpec.upto fnExactDiskNewSpec)

/-- 'laws.FnExactDiskPut', WHERE WHAT IT READS IS OF BULK AT MOST 1048576: true; the input reads as it did. -/
def fnExactDiskPutUptoRow : OpenClaim := { program := "ytbmfhhbifmgikaa", sum := "ac055fc618c2c5f35065efa7aebd6e13fb3a80d3e7ca4082b476993e2a7fc59e", func := "loop.example/g00118/laws.FnExactDiskPut", spec := "fnExactDiskPut", apart := false, narrowed := true }
def FnExactDiskPutUptoSaid : Prop := fnExactDiskPutUptoRow.holds Try.pinned (OpenSpec.upto fnExactDiskPutSpec)

/-- 'laws.FnExactDiskSync', WHERE WHAT IT READS IS OF BULK AT MOST 1048576: true; the input reads as it did. -/
def fnExactDiskSyncUptoRow : OpenClaim := { program := "ytbmfhhbifmgikaa", sum := "ac055fc618c2c5f35065efa7aebd6e13fb3a80d3e7ca4082b476993e2a7fc59e", func := "loop.example/g00118/laws.FnExactDiskSync", spec := "fnExactDiskSync", unfollowed := true, recurses := true, apart := false, narrowed := true }
def FnExactDiskSyncUptoSaid : Prop := fnExactDiskSyncUptoRow.holds Try.pinned (OpenSpec.upto fnExactDiskSyncSpec)

end Rows
end Go.Proofs.Ytbmfhhbifmgikaa

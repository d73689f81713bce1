/-
  No cell of these rows narrows 'for every input' (looked for: loops, veiled, ifaces, maps, wideKeys, modest, calm, conditions, laid).
  DERIVED. THE GIVEN ROWS OF THIS SEAT. 4 by the template 'for every input the law returns true; each argument reads behind the call as it read before'; 0 by the template 'total and deterministic' (their statements: YtniibpihbopehaaTotals.lean).
  GIVEN WITH THE SEED: the statements are not yours to turn. If you find one false, say at which input.
  Laid BY PROGRAM, IN A SANDBOX (cutbox-rows.mjs): the forced cells as the released guide's own fill.sh prints them over the translation 0f285933de26faf8… (all of the seat's roots in one cut). By AI agents, Wed Nov 11 2026. No macro, syntax, notation, axiom, sorry.
-/
import Derived.Test.YtniibpihbopehaaChecked
import GoSem.Claim
import GoSem.ClaimJoined
import GoSem.ClaimMapViews
import Derived.JoinedTies
import Derived.KernelRfl
namespace Go.Proofs.Ytniibpihbopehaa
/- THE CELL 'sum', in the pinned program and in every row, IS THE sha256 OF THE DUMP (.gsa) THAT YtniibpihbopehaaProg.lean LOADS. Nothing in Lean hashes anything: it is a label: what it is worth is what the hold of that sum in a sandbox is worth. -/
noncomputable def Try.pinned : Pinned := { name := "ytniibpihbopehaa", sum := "0f285933de26faf8c8df6e29ee95e70cdbd39ea3797f3f9239e30d5129baabae", checked := Try.checked }
namespace Rows
def none {H : Type} : Left H := { results := [], args := [] }

/-- 'laws.FnPut': WHATEVER THE INPUT: true; the input reads as it did. -/
def fnPutSpec : ChangeSpec := { name := "fnPut", fn := fun _ => fun
  | [d] => { results := [.lit (.bool true)], args := [d] }
  | _ => none }
def fnPutRow : OpenClaim := { program := "ytniibpihbopehaa", sum := "0f285933de26faf8c8df6e29ee95e70cdbd39ea3797f3f9239e30d5129baabae", func := "loop.example/g00118/laws.FnPut", spec := "fnPut", apart := false }
def FnPutSaid : Prop := fnPutRow.holds Try.pinned (OpenSpec.ofChange fnPutSpec)

/-- ITS FALSE NEIGHBOUR: 'it returns false'. Refute it at one input. -/
def fnPutWrong : ChangeSpec := { name := "fnPut", fn := fun _ => fun
  | [d] => { results := [.lit (.bool false)], args := [d] }
  | _ => none }
def FnPutWrongFalsely : Prop := fnPutRow.holds Try.pinned (OpenSpec.ofChange fnPutWrong)

/-- 'laws.FnSectors': WHATEVER THE INPUT: true; the input reads as it did. -/
def fnSectorsSpec : ChangeSpec := { name := "fnSectors", fn := fun _ => fun
  | [d] => { results := [.lit (.bool true)], args := [d] }
  | _ => none }
def fnSectorsRow : OpenClaim := { program := "ytniibpihbopehaa", sum := "0f285933de26faf8c8df6e29ee95e70cdbd39ea3797f3f9239e30d5129baabae", func := "loop.example/g00118/laws.FnSectors", spec := "fnSectors", unfollowed := true, recurses := true, apart := false }
def FnSectorsSaid : Prop := fnSectorsRow.holds Try.pinned (OpenSpec.ofChange fnSectorsSpec)

/-- ITS FALSE NEIGHBOUR: 'it returns false'. Refute it at one input. -/
def fnSectorsWrong : ChangeSpec := { name := "fnSectors", fn := fun _ => fun
  | [d] => { results := [.lit (.bool false)], args := [d] }
  | _ => none }
def FnSectorsWrongFalsely : Prop := fnSectorsRow.holds Try.pinned (OpenSpec.ofChange fnSectorsWrong)

/-- 'laws.FnExactDiskPut': WHATEVER THE INPUT: true; the input reads as it did. -/
def fnExactDiskPutSpec : ChangeSpec := { name := "fnExactDiskPut", fn := fun _ => fun
  | [d1, d2, d3] => { results := [.lit (.bool true)], args := [d1, d2, d3] }
  | _ => none }
def fnExactDiskPutRow : OpenClaim := { program := "ytniibpihbopehaa", sum := "0f285933de26faf8c8df6e29ee95e70cdbd39ea3797f3f9239e30d5129baabae", func := "loop.example/g00118/laws.FnExactDiskPut", spec := "fnExactDiskPut", apart := false }
def FnExactDiskPutSaid : Prop := fnExactDiskPutRow.holds Try.pinned (OpenSpec.ofChange fnExactDiskPutSpec)

/-- ITS FALSE NEIGHBOUR: 'it returns false'. Refute it at one input. -/
def fnExactDiskPutWrong : ChangeSpec := { name := "fnExactDiskPut", fn := fun _ => fun
  | [d1, d2, d3] => { results := [.lit (.bool false)], args := [d1, d2, d3] }
  | _ => none }
def FnExactDiskPutWrongFalsely : Prop := fnExactDiskPutRow.holds Try.pinned (OpenSpec.ofChange fnExactDiskPutWrong)

/-- 'laws.FnExactDiskNew': WHATEVER THE INPUT: true; the input reads as it did. -/
def fnExactDiskNewSpec : ChangeSpec := { name := "fnExactDiskNew", fn := fun _ => fun
  | [] => { results := [.lit (.bool true)], args := [] }
  | _ => none }
def fnExactDiskNewRow : OpenClaim := { program := "ytniibpihbopehaa", sum := "0f285933de26faf8c8df6e29ee95e70cdbd39ea3797f3f9239e30d5129baabae", func := "loop.example/g00118/laws.FnExactDiskNew", spec := "fnExactDiskNew", inPlace := ["internal/abi.NoEscape", "internal/bytealg.MakeNoZero"], apart := false }
def FnExactDiskNewSaid : Prop := fnExactDiskNewRow.holds Try.pinned (OpenSpec.ofChange fnExactDiskNewSpec)

/-- ITS FALSE NEIGHBOUR: 'it returns false'. Refute it at one input. -/
def fnExactDiskNewWrong : ChangeSpec := { name := "fnExactDiskNew", fn := fun _ => fun
  | [] => { results := [.lit (.bool false)], args := [] }
  | _ => none }
def FnExactDiskNewWrongFalsely : Prop := fnExactDiskNewRow.holds Try.pinned (OpenSpec.ofChange fnExactDiskNewWrong)

/- THE SECOND FORM. 'bulk': how many values and letters a reading holds, each counted each time it is reached (what is shared counts as often as it is met; a slice's spare places count too). A statement '..UptoSaid' is the law's where the arguments, and the package variables that the reading takes, are together of bulk at most 1048576: NARROWER than '..Said'. Prove '..Said' where nothing that the law and all that it calls make is longer than what came in: it says more and counts as full. Else prove '..UptoSaid'. A law counts once. -/
mutual
def uptoBulk {H : Type} : DataW H → Nat
  | .lit (.string bytes) => bytes.length + 1
  | .lit _ => 1
  | .nil => 1
  | .ptr d => uptoBulk d + 1
  | .slice elems spare => uptoBulkAll elems + uptoBulkAll spare + 1
  | .agg parts => uptoBulkAll parts + 1
  | .iface _ d => uptoBulk d + 1
  | .map entries => uptoBulkEntries entries + 1
  | .held _ => 1
def uptoBulkAll {H : Type} : List (DataW H) → Nat
  | [] => 0
  | d :: r => uptoBulk d + uptoBulkAll r
def uptoBulkEntries {H : Type} : List (Lit × DataW H) → Nat
  | [] => 0
  | x :: r => uptoBulkEntry x + uptoBulkEntries r
def uptoBulkEntry {H : Type} : Lit × DataW H → Nat
  | (.string bytes, d) => bytes.length + uptoBulk d + 1
  | (_, d) => uptoBulk d + 1
 end
def uptoSmall : (H : Type) → List (DataW H) → Bool := fun _ ds => decide (uptoBulkAll ds ≤ 1048576)
def OpenSpec.upto (s : _root_.Go.ChangeSpec) : _root_.Go.OpenSpec := { _root_.Go.OpenSpec.ofChange s with cond := some uptoSmall }

/-- 'laws.FnPut', WHERE WHAT IT READS IS OF BULK AT MOST 1048576: true; the input reads as it did. -/
def fnPutUptoRow : OpenClaim := { program := "ytniibpihbopehaa", sum := "0f285933de26faf8c8df6e29ee95e70cdbd39ea3797f3f9239e30d5129baabae", func := "loop.example/g00118/laws.FnPut", spec := "fnPut", apart := false, narrowed := true }
def FnPutUptoSaid : Prop := fnPutUptoRow.holds Try.pinned (OpenSpec.upto fnPutSpec)

/-- 'laws.FnSectors', WHERE WHAT IT READS IS OF BULK AT MOST 1048576: true; the input reads as it did. -/
def fnSectorsUptoRow : OpenClaim := { program := "ytniibpihbopehaa", sum := "0f285933de26faf8c8df6e29ee95e70cdbd39ea3797f3f9239e30d5129baabae", func := "loop.example/g00118/laws.FnSectors", spec := "fnSectors", unfollowed := true, recurses := true, apart := false, narrowed := true }
def FnSectorsUptoSaid : Prop := fnSectorsUptoRow.holds Try.pinned (OpenSpec.upto fnSectorsSpec)

/-- 'laws.FnExactDiskPut', WHERE WHAT IT READS IS OF BULK AT MOST 1048576: true; the input reads as it did. -/
def fnExactDiskPutUptoRow : OpenClaim := { program := "ytniibpihbopehaa", sum := "0f285933de26faf8c8df6e29ee95e70cdbd39ea3797f3f9239e30d5129baabae", func := "loop.example/g00118/laws.FnExactDiskPut", spec := "fnExactDiskPut", apart := false, narrowed := true }
def FnExactDiskPutUptoSaid : Prop := fnExactDiskPutUptoRow.holds Try.pinned (OpenSpec.upto fnExactDiskPutSpec)

/-- 'laws.FnExactDiskNew', WHERE WHAT IT READS IS OF BULK AT MOST 1048576: true; the input reads as it did. -/
def fnExactDiskNewUptoRow : OpenClaim := { program := "ytniibpihbopehaa", sum := "0f285933de26faf8c8df6e29ee95e70cdbd39ea3797f3f9239e30d5129baabae", func := "loop.example/g00118/laws.FnExactDiskNew", spec := "fnExactDiskNew", inPlace := ["internal/abi.NoEscape", "internal/bytealg.MakeNoZero"], apart := false, narrowed := true }
def FnExactDiskNewUptoSaid : Prop := fnExactDiskNewUptoRow.holds Try.pinned (OpenSpec.upto fnExactDiskNewSpec)

end Rows
end Go.Proofs.Ytniibpihbopehaa

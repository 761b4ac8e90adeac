/-
  No cell of these rows narrows 'for every input' (looked for: loops, veiled, ifaces, maps, wideKeys, modest, calm, conditions, laid).
  DERIVED. THE GIVEN ROWS OF THIS SEAT. 11 by the template 'for every input the law returns true; each argument reads behind the call as it read before'; 0 by the template 'total and deterministic' (their statements: YtmbikamebhoelaaTotals.lean).
  GIVEN WITH THE SEED: the statements are not yours to turn. If you find one false, say at which input.
  Laid BY PROGRAM, IN A SANDBOX (cutbox-rows.mjs): the forced cells as the released guide's own fill.sh prints them over the translation b0fde0dc9c08671c… (all of the seat's roots in one cut). By AI agents, Wed Nov 11 2026. No macro, syntax, notation, axiom, sorry.
-/
import Derived.Test.YtmbikamebhoelaaChecked
import GoSem.Claim
import GoSem.ClaimJoined
import GoSem.ClaimMapViews
import Derived.JoinedTies
import Derived.KernelRfl
namespace Go.Proofs.Ytmbikamebhoelaa
/- THE CELL 'sum', in the pinned program and in every row, IS THE sha256 OF THE DUMP (.gsa) THAT YtmbikamebhoelaaProg.lean LOADS. Nothing in Lean hashes anything: it is a label: what it is worth is what the hold of that sum in a sandbox is worth. -/
noncomputable def Try.pinned : Pinned := { name := "ytmbikamebhoelaa", sum := "b0fde0dc9c08671c5ae2daaa809f572f94873a41b1fd91ae3d1cf8b4d827f7c1", checked := Try.checked }
namespace Rows
def none {H : Type} : Left H := { results := [], args := [] }

/-- 'laws.FnExactShopOpen': WHATEVER THE INPUT: true; the input reads as it did. -/
def fnExactShopOpenSpec : ChangeSpec := { name := "fnExactShopOpen", fn := fun _ => fun
  | [] => { results := [.lit (.bool true)], args := [] }
  | _ => none }
def fnExactShopOpenRow : OpenClaim := { program := "ytmbikamebhoelaa", sum := "b0fde0dc9c08671c5ae2daaa809f572f94873a41b1fd91ae3d1cf8b4d827f7c1", func := "loop.example/shieling/laws.FnExactShopOpen", spec := "fnExactShopOpen", apart := false }
def FnExactShopOpenSaid : Prop := fnExactShopOpenRow.holds Try.pinned (OpenSpec.ofChange fnExactShopOpenSpec)

/-- ITS FALSE NEIGHBOUR: 'it returns false'. Refute it at one input. -/
def fnExactShopOpenWrong : ChangeSpec := { name := "fnExactShopOpen", fn := fun _ => fun
  | [] => { results := [.lit (.bool false)], args := [] }
  | _ => none }
def FnExactShopOpenWrongFalsely : Prop := fnExactShopOpenRow.holds Try.pinned (OpenSpec.ofChange fnExactShopOpenWrong)

/-- 'laws.FnExactShopSame': WHATEVER THE INPUT: true; the input reads as it did. -/
def fnExactShopSameSpec : ChangeSpec := { name := "fnExactShopSame", fn := fun _ => fun
  | [d1, d2] => { results := [.lit (.bool true)], args := [d1, d2] }
  | _ => none }
def fnExactShopSameRow : OpenClaim := { program := "ytmbikamebhoelaa", sum := "b0fde0dc9c08671c5ae2daaa809f572f94873a41b1fd91ae3d1cf8b4d827f7c1", func := "loop.example/shieling/laws.FnExactShopSame", spec := "fnExactShopSame", apart := false }
def FnExactShopSameSaid : Prop := fnExactShopSameRow.holds Try.pinned (OpenSpec.ofChange fnExactShopSameSpec)

/-- ITS FALSE NEIGHBOUR: 'it returns false'. Refute it at one input. -/
def fnExactShopSameWrong : ChangeSpec := { name := "fnExactShopSame", fn := fun _ => fun
  | [d1, d2] => { results := [.lit (.bool false)], args := [d1, d2] }
  | _ => none }
def FnExactShopSameWrongFalsely : Prop := fnExactShopSameRow.holds Try.pinned (OpenSpec.ofChange fnExactShopSameWrong)

/-- 'laws.FnExactKeepOpen': WHATEVER THE INPUT: true; the input reads as it did. -/
def fnExactKeepOpenSpec : ChangeSpec := { name := "fnExactKeepOpen", fn := fun _ => fun
  | [d] => { results := [.lit (.bool true)], args := [d] }
  | _ => none }
def fnExactKeepOpenRow : OpenClaim := { program := "ytmbikamebhoelaa", sum := "b0fde0dc9c08671c5ae2daaa809f572f94873a41b1fd91ae3d1cf8b4d827f7c1", func := "loop.example/shieling/laws.FnExactKeepOpen", spec := "fnExactKeepOpen", apart := false }
def FnExactKeepOpenSaid : Prop := fnExactKeepOpenRow.holds Try.pinned (OpenSpec.ofChange fnExactKeepOpenSpec)

/-- ITS FALSE NEIGHBOUR: 'it returns false'. Refute it at one input. -/
def fnExactKeepOpenWrong : ChangeSpec := { name := "fnExactKeepOpen", fn := fun _ => fun
  | [d] => { results := [.lit (.bool false)], args := [d] }
  | _ => none }
def FnExactKeepOpenWrongFalsely : Prop := fnExactKeepOpenRow.holds Try.pinned (OpenSpec.ofChange fnExactKeepOpenWrong)

/-- 'laws.FnExactShopOk': WHATEVER THE INPUT: true; the input reads as it did. -/
def fnExactShopOkSpec : ChangeSpec := { name := "fnExactShopOk", fn := fun _ => fun
  | [d] => { results := [.lit (.bool true)], args := [d] }
  | _ => none }
def fnExactShopOkRow : OpenClaim := { program := "ytmbikamebhoelaa", sum := "b0fde0dc9c08671c5ae2daaa809f572f94873a41b1fd91ae3d1cf8b4d827f7c1", func := "loop.example/shieling/laws.FnExactShopOk", spec := "fnExactShopOk", recurses := true, apart := false }
def FnExactShopOkSaid : Prop := fnExactShopOkRow.holds Try.pinned (OpenSpec.ofChange fnExactShopOkSpec)

/-- ITS FALSE NEIGHBOUR: 'it returns false'. Refute it at one input. -/
def fnExactShopOkWrong : ChangeSpec := { name := "fnExactShopOk", fn := fun _ => fun
  | [d] => { results := [.lit (.bool false)], args := [d] }
  | _ => none }
def FnExactShopOkWrongFalsely : Prop := fnExactShopOkRow.holds Try.pinned (OpenSpec.ofChange fnExactShopOkWrong)

/-- 'laws.FnLogIds': WHATEVER THE INPUT: true; the input reads as it did. -/
def fnLogIdsSpec : ChangeSpec := { name := "fnLogIds", fn := fun _ => fun
  | [d1, d2] => { results := [.lit (.bool true)], args := [d1, d2] }
  | _ => none }
def fnLogIdsRow : OpenClaim := { program := "ytmbikamebhoelaa", sum := "b0fde0dc9c08671c5ae2daaa809f572f94873a41b1fd91ae3d1cf8b4d827f7c1", func := "loop.example/shieling/laws.FnLogIds", spec := "fnLogIds", apart := false }
def FnLogIdsSaid : Prop := fnLogIdsRow.holds Try.pinned (OpenSpec.ofChange fnLogIdsSpec)

/-- ITS FALSE NEIGHBOUR: 'it returns false'. Refute it at one input. -/
def fnLogIdsWrong : ChangeSpec := { name := "fnLogIds", fn := fun _ => fun
  | [d1, d2] => { results := [.lit (.bool false)], args := [d1, d2] }
  | _ => none }
def FnLogIdsWrongFalsely : Prop := fnLogIdsRow.holds Try.pinned (OpenSpec.ofChange fnLogIdsWrong)

/-- 'laws.FnExactMsgSame': WHATEVER THE INPUT: true; the input reads as it did. -/
def fnExactMsgSameSpec : ChangeSpec := { name := "fnExactMsgSame", fn := fun _ => fun
  | [d1, d2] => { results := [.lit (.bool true)], args := [d1, d2] }
  | _ => none }
def fnExactMsgSameRow : OpenClaim := { program := "ytmbikamebhoelaa", sum := "b0fde0dc9c08671c5ae2daaa809f572f94873a41b1fd91ae3d1cf8b4d827f7c1", func := "loop.example/shieling/laws.FnExactMsgSame", spec := "fnExactMsgSame", apart := false }
def FnExactMsgSameSaid : Prop := fnExactMsgSameRow.holds Try.pinned (OpenSpec.ofChange fnExactMsgSameSpec)

/-- ITS FALSE NEIGHBOUR: 'it returns false'. Refute it at one input. -/
def fnExactMsgSameWrong : ChangeSpec := { name := "fnExactMsgSame", fn := fun _ => fun
  | [d1, d2] => { results := [.lit (.bool false)], args := [d1, d2] }
  | _ => none }
def FnExactMsgSameWrongFalsely : Prop := fnExactMsgSameRow.holds Try.pinned (OpenSpec.ofChange fnExactMsgSameWrong)

/-- 'laws.FnLogSame': WHATEVER THE INPUT: true; the input reads as it did. -/
def fnLogSameSpec : ChangeSpec := { name := "fnLogSame", fn := fun _ => fun
  | [d] => { results := [.lit (.bool true)], args := [d] }
  | _ => none }
def fnLogSameRow : OpenClaim := { program := "ytmbikamebhoelaa", sum := "b0fde0dc9c08671c5ae2daaa809f572f94873a41b1fd91ae3d1cf8b4d827f7c1", func := "loop.example/shieling/laws.FnLogSame", spec := "fnLogSame", apart := false }
def FnLogSameSaid : Prop := fnLogSameRow.holds Try.pinned (OpenSpec.ofChange fnLogSameSpec)

/-- ITS FALSE NEIGHBOUR: 'it returns false'. Refute it at one input. -/
def fnLogSameWrong : ChangeSpec := { name := "fnLogSame", fn := fun _ => fun
  | [d] => { results := [.lit (.bool false)], args := [d] }
  | _ => none }
def FnLogSameWrongFalsely : Prop := fnLogSameRow.holds Try.pinned (OpenSpec.ofChange fnLogSameWrong)

/-- 'laws.FnLogFits': WHATEVER THE INPUT: true; the input reads as it did. -/
def fnLogFitsSpec : ChangeSpec := { name := "fnLogFits", fn := fun _ => fun
  | [d] => { results := [.lit (.bool true)], args := [d] }
  | _ => none }
def fnLogFitsRow : OpenClaim := { program := "ytmbikamebhoelaa", sum := "b0fde0dc9c08671c5ae2daaa809f572f94873a41b1fd91ae3d1cf8b4d827f7c1", func := "loop.example/shieling/laws.FnLogFits", spec := "fnLogFits", recurses := true, apart := false }
def FnLogFitsSaid : Prop := fnLogFitsRow.holds Try.pinned (OpenSpec.ofChange fnLogFitsSpec)

/-- ITS FALSE NEIGHBOUR: 'it returns false'. Refute it at one input. -/
def fnLogFitsWrong : ChangeSpec := { name := "fnLogFits", fn := fun _ => fun
  | [d] => { results := [.lit (.bool false)], args := [d] }
  | _ => none }
def FnLogFitsWrongFalsely : Prop := fnLogFitsRow.holds Try.pinned (OpenSpec.ofChange fnLogFitsWrong)

/-- 'laws.FnExactLogFits': WHATEVER THE INPUT: true; the input reads as it did. -/
def fnExactLogFitsSpec : ChangeSpec := { name := "fnExactLogFits", fn := fun _ => fun
  | [d1, d2] => { results := [.lit (.bool true)], args := [d1, d2] }
  | _ => none }
def fnExactLogFitsRow : OpenClaim := { program := "ytmbikamebhoelaa", sum := "b0fde0dc9c08671c5ae2daaa809f572f94873a41b1fd91ae3d1cf8b4d827f7c1", func := "loop.example/shieling/laws.FnExactLogFits", spec := "fnExactLogFits", recurses := true, apart := false }
def FnExactLogFitsSaid : Prop := fnExactLogFitsRow.holds Try.pinned (OpenSpec.ofChange fnExactLogFitsSpec)

/-- ITS FALSE NEIGHBOUR: 'it returns false'. Refute it at one input. -/
def fnExactLogFitsWrong : ChangeSpec := { name := "fnExactLogFits", fn := fun _ => fun
  | [d1, d2] => { results := [.lit (.bool false)], args := [d1, d2] }
  | _ => none }
def FnExactLogFitsWrongFalsely : Prop := fnExactLogFitsRow.holds Try.pinned (OpenSpec.ofChange fnExactLogFitsWrong)

/-- 'laws.FnExactLogMake': WHATEVER THE INPUT: true; the input reads as it did. -/
def fnExactLogMakeSpec : ChangeSpec := { name := "fnExactLogMake", fn := fun _ => fun
  | [d1, d2, d3, d4] => { results := [.lit (.bool true)], args := [d1, d2, d3, d4] }
  | _ => none }
def fnExactLogMakeRow : OpenClaim := { program := "ytmbikamebhoelaa", sum := "b0fde0dc9c08671c5ae2daaa809f572f94873a41b1fd91ae3d1cf8b4d827f7c1", func := "loop.example/shieling/laws.FnExactLogMake", spec := "fnExactLogMake", recurses := true, apart := false }
def FnExactLogMakeSaid : Prop := fnExactLogMakeRow.holds Try.pinned (OpenSpec.ofChange fnExactLogMakeSpec)

/-- ITS FALSE NEIGHBOUR: 'it returns false'. Refute it at one input. -/
def fnExactLogMakeWrong : ChangeSpec := { name := "fnExactLogMake", fn := fun _ => fun
  | [d1, d2, d3, d4] => { results := [.lit (.bool false)], args := [d1, d2, d3, d4] }
  | _ => none }
def FnExactLogMakeWrongFalsely : Prop := fnExactLogMakeRow.holds Try.pinned (OpenSpec.ofChange fnExactLogMakeWrong)

/-- 'laws.FnExactMsgOk': WHATEVER THE INPUT: true; the input reads as it did. -/
def fnExactMsgOkSpec : ChangeSpec := { name := "fnExactMsgOk", fn := fun _ => fun
  | [d] => { results := [.lit (.bool true)], args := [d] }
  | _ => none }
def fnExactMsgOkRow : OpenClaim := { program := "ytmbikamebhoelaa", sum := "b0fde0dc9c08671c5ae2daaa809f572f94873a41b1fd91ae3d1cf8b4d827f7c1", func := "loop.example/shieling/laws.FnExactMsgOk", spec := "fnExactMsgOk", recurses := true, apart := false }
def FnExactMsgOkSaid : Prop := fnExactMsgOkRow.holds Try.pinned (OpenSpec.ofChange fnExactMsgOkSpec)

/-- ITS FALSE NEIGHBOUR: 'it returns false'. Refute it at one input. -/
def fnExactMsgOkWrong : ChangeSpec := { name := "fnExactMsgOk", fn := fun _ => fun
  | [d] => { results := [.lit (.bool false)], args := [d] }
  | _ => none }
def FnExactMsgOkWrongFalsely : Prop := fnExactMsgOkRow.holds Try.pinned (OpenSpec.ofChange fnExactMsgOkWrong)

/- THE SECOND FORM. 'bulk': how many values and letters a reading holds, each counted each time it is reached (what is shared counts as often as it is met; a slice's spare places count too). A statement '..UptoSaid' is the law's where the arguments, and the package variables that the reading takes, are together of bulk at most 1048576: NARROWER than '..Said'. Prove '..Said' where nothing that the law and all that it calls make is longer than what came in: it says more and counts as full. Else prove '..UptoSaid'. A law counts once. -/
mutual
def uptoBulk {H : Type} : DataW H → Nat
  | .lit (.string bytes) => bytes.length + 1
  | .lit _ => 1
  | .nil => 1
  | .ptr d => uptoBulk d + 1
  | .slice elems spare => uptoBulkAll elems + uptoBulkAll spare + 1
  | .agg parts => uptoBulkAll parts + 1
  | .iface _ d => uptoBulk d + 1
  | .map entries => uptoBulkEntries entries + 1
  | .held _ => 1
def uptoBulkAll {H : Type} : List (DataW H) → Nat
  | [] => 0
  | d :: r => uptoBulk d + uptoBulkAll r
def uptoBulkEntries {H : Type} : List (Lit × DataW H) → Nat
  | [] => 0
  | x :: r => uptoBulkEntry x + uptoBulkEntries r
def uptoBulkEntry {H : Type} : Lit × DataW H → Nat
  | (.string bytes, d) => bytes.length + uptoBulk d + 1
  | (_, d) => uptoBulk d + 1
 end
def uptoSmall : (H : Type) → List (DataW H) → Bool := fun _ ds => decide (uptoBulkAll ds ≤ 1048576)
def OpenSpec.upto (s : _root_.Go.ChangeSpec) : _root_.Go.OpenSpec := { _root_.Go.OpenSpec.ofChange s with cond := some uptoSmall }

/-- 'laws.FnExactShopOpen', WHERE WHAT IT READS IS OF BULK AT MOST 1048576: true; the input reads as it did. -/
def fnExactShopOpenUptoRow : OpenClaim := { program := "ytmbikamebhoelaa", sum := "b0fde0dc9c08671c5ae2daaa809f572f94873a41b1fd91ae3d1cf8b4d827f7c1", func := "loop.example/shieling/laws.FnExactShopOpen", spec := "fnExactShopOpen", apart := false, narrowed := true }
def FnExactShopOpenUptoSaid : Prop := fnExactShopOpenUptoRow.holds Try.pinned (OpenSpec.upto fnExactShopOpenSpec)

/-- 'laws.FnExactShopSame', WHERE WHAT IT READS IS OF BULK AT MOST 1048576: true; the input reads as it did. -/
def fnExactShopSameUptoRow : OpenClaim := { program := "ytmbikamebhoelaa", sum := "b0fde0dc9c08671c5ae2daaa809f572f94873a41b1fd91ae3d1cf8b4d827f7c1", func := "loop.example/shieling/laws.FnExactShopSame", spec := "fnExactShopSame", apart := false, narrowed := true }
def FnExactShopSameUptoSaid : Prop := fnExactShopSameUptoRow.holds Try.pinned (OpenSpec.upto fnExactShopSameSpec)

/-- 'laws.FnExactKeepOpen', WHERE WHAT IT READS IS OF BULK AT MOST 1048576: true; the input reads as it did. -/
def fnExactKeepOpenUptoRow : OpenClaim := { program := "ytmbikamebhoelaa", sum := "b0fde0dc9c08671c5ae2daaa809f572f94873a41b1fd91ae3d1cf8b4d827f7c1", func := "loop.example/shieling/laws.FnExactKeepOpen", spec := "fnExactKeepOpen", apart := false, narrowed := true }
def FnExactKeepOpenUptoSaid : Prop := fnExactKeepOpenUptoRow.holds Try.pinned (OpenSpec.upto fnExactKeepOpenSpec)

/-- 'laws.FnExactShopOk', WHERE WHAT IT READS IS OF BULK AT MOST 1048576: true; the input reads as it did. -/
def fnExactShopOkUptoRow : OpenClaim := { program := "ytmbikamebhoelaa", sum := "b0fde0dc9c08671c5ae2daaa809f572f94873a41b1fd91ae3d1cf8b4d827f7c1", func := "loop.example/shieling/laws.FnExactShopOk", spec := "fnExactShopOk", recurses := true, apart := false, narrowed := true }
def FnExactShopOkUptoSaid : Prop := fnExactShopOkUptoRow.holds Try.pinned (OpenSpec.upto fnExactShopOkSpec)

/-- 'laws.FnLogIds', WHERE WHAT IT READS IS OF BULK AT MOST 1048576: true; the input reads as it did. -/
def fnLogIdsUptoRow : OpenClaim := { program := "ytmbikamebhoelaa", sum := "b0fde0dc9c08671c5ae2daaa809f572f94873a41b1fd91ae3d1cf8b4d827f7c1", func := "loop.example/shieling/laws.FnLogIds", spec := "fnLogIds", apart := false, narrowed := true }
def FnLogIdsUptoSaid : Prop := fnLogIdsUptoRow.holds Try.pinned (OpenSpec.upto fnLogIdsSpec)

/-- 'laws.FnExactMsgSame', WHERE WHAT IT READS IS OF BULK AT MOST 1048576: true; the input reads as it did. -/
def fnExactMsgSameUptoRow : OpenClaim := { program := "ytmbikamebhoelaa", sum := "b0fde0dc9c08671c5ae2daaa809f572f94873a41b1fd91ae3d1cf8b4d827f7c1", func := "loop.example/shieling/laws.FnExactMsgSame", spec := "fnExactMsgSame", apart := false, narrowed := true }
def FnExactMsgSameUptoSaid : Prop := fnExactMsgSameUptoRow.holds Try.pinned (OpenSpec.upto fnExactMsgSameSpec)

/-- 'laws.FnLogSame', WHERE WHAT IT READS IS OF BULK AT MOST 1048576: true; the input reads as it did. -/
def fnLogSameUptoRow : OpenClaim := { program := "ytmbikamebhoelaa", sum := "b0fde0dc9c08671c5ae2daaa809f572f94873a41b1fd91ae3d1cf8b4d827f7c1", func := "loop.example/shieling/laws.FnLogSame", spec := "fnLogSame", apart := false, narrowed := true }
def FnLogSameUptoSaid : Prop := fnLogSameUptoRow.holds Try.pinned (OpenSpec.upto fnLogSameSpec)

/-- 'laws.FnLogFits', WHERE WHAT IT READS IS OF BULK AT MOST 1048576: true; the input reads as it did. -/
def fnLogFitsUptoRow : OpenClaim := { program := "ytmbikamebhoelaa", sum := "b0fde0dc9c08671c5ae2daaa809f572f94873a41b1fd91ae3d1cf8b4d827f7c1", func := "loop.example/shieling/laws.FnLogFits", spec := "fnLogFits", recurses := true, apart := false, narrowed := true }
def FnLogFitsUptoSaid : Prop := fnLogFitsUptoRow.holds Try.pinned (OpenSpec.upto fnLogFitsSpec)

/-- 'laws.FnExactLogFits', WHERE WHAT IT READS IS OF BULK AT MOST 1048576: true; the input reads as it did. -/
def fnExactLogFitsUptoRow : OpenClaim := { program := "ytmbikamebhoelaa", sum := "b0fde0dc9c08671c5ae2daaa809f572f94873a41b1fd91ae3d1cf8b4d827f7c1", func := "loop.example/shieling/laws.FnExactLogFits", spec := "fnExactLogFits", recurses := true, apart := false, narrowed := true }
def FnExactLogFitsUptoSaid : Prop := fnExactLogFitsUptoRow.holds Try.pinned (OpenSpec.upto fnExactLogFitsSpec)

/-- 'laws.FnExactLogMake', WHERE WHAT IT READS IS OF BULK AT MOST 1048576: true; the input reads as it did. -/
def fnExactLogMakeUptoRow : OpenClaim := { program := "ytmbikamebhoelaa", sum := "b0fde0dc9c08671c5ae2daaa809f572f94873a41b1fd91ae3d1cf8b4d827f7c1", func := "loop.example/shieling/laws.FnExactLogMake", spec := "fnExactLogMake", recurses := true, apart := false, narrowed := true }
def FnExactLogMakeUptoSaid : Prop := fnExactLogMakeUptoRow.holds Try.pinned (OpenSpec.upto fnExactLogMakeSpec)

/-- 'laws.FnExactMsgOk', WHERE WHAT IT READS IS OF BULK AT MOST 1048576: true; the input reads as it did. -/
def fnExactMsgOkUptoRow : OpenClaim := { program := "ytmbikamebhoelaa", sum := "b0fde0dc9c08671c5ae2daaa809f572f94873a41b1fd91ae3d1cf8b4d827f7c1", func := "loop.example/shieling/laws.FnExactMsgOk", spec := "fnExactMsgOk", recurses := true, apart := false, narrowed := true }
def FnExactMsgOkUptoSaid : Prop := fnExactMsgOkUptoRow.holds Try.pinned (OpenSpec.upto fnExactMsgOkSpec)

end Rows
end Go.Proofs.Ytmbikamebhoelaa

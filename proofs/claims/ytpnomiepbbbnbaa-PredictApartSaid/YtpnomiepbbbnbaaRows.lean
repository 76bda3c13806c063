/-
  No cell of these rows narrows 'for every input' (looked for: loops, veiled, ifaces, maps, wideKeys, modest, calm, conditions, laid).
  DERIVED. THE GIVEN ROWS OF THIS SEAT. 8 by the template 'for every input the law returns true; each argument reads behind the call as it read before'; 0 by the template 'total and deterministic' (their statements: YtpnomiepbbbnbaaTotals.lean).
  GIVEN WITH THE SEED: the statements are not yours to turn. If you find one false, say at which input.
  Laid BY PROGRAM, IN A SANDBOX (cutbox-rows.mjs): the forced cells as the released guide's own fill.sh prints them over the translation b4ee7e03becd0c0f… (all of the seat's roots in one cut). By AI agents, Wed Nov 11 2026. No macro, syntax, notation, axiom, sorry.
-/
import Derived.Test.YtpnomiepbbbnbaaChecked
import GoSem.Claim
import GoSem.ClaimJoined
import GoSem.ClaimMapViews
import Derived.JoinedTies
import Derived.KernelRfl
namespace Go.Proofs.Ytpnomiepbbbnbaa
/- THE CELL 'sum', in the pinned program and in every row, IS THE sha256 OF THE DUMP (.gsa) THAT YtpnomiepbbbnbaaProg.lean LOADS. Nothing in Lean hashes anything: it is a label: what it is worth is what the hold of that sum in a sandbox is worth. -/
noncomputable def Try.pinned : Pinned := { name := "ytpnomiepbbbnbaa", sum := "b4ee7e03becd0c0f9d2c68f50ba8f00e25680bb7290ddb4e6fb4fefa307ab36b", checked := Try.checked }
namespace Rows
def none {H : Type} : Left H := { results := [], args := [] }

/-- 'shellaclaw07.PredictOrders': WHATEVER THE INPUT: true; the input reads as it did. -/
def predictOrdersSpec : ChangeSpec := { name := "predictOrders", fn := fun _ => fun
  | [d1, d2] => { results := [.lit (.bool true)], args := [d1, d2] }
  | _ => none }
def predictOrdersRow : OpenClaim := { program := "ytpnomiepbbbnbaa", sum := "b4ee7e03becd0c0f9d2c68f50ba8f00e25680bb7290ddb4e6fb4fefa307ab36b", func := "shellac/shellaclaw07.PredictOrders", spec := "predictOrders", unfollowed := true, recurses := true, apart := false }
def PredictOrdersSaid : Prop := predictOrdersRow.holds Try.pinned (OpenSpec.ofChange predictOrdersSpec)

/-- ITS FALSE NEIGHBOUR: 'it returns false'. Refute it at one input. -/
def predictOrdersWrong : ChangeSpec := { name := "predictOrders", fn := fun _ => fun
  | [d1, d2] => { results := [.lit (.bool false)], args := [d1, d2] }
  | _ => none }
def PredictOrdersWrongFalsely : Prop := predictOrdersRow.holds Try.pinned (OpenSpec.ofChange predictOrdersWrong)

/-- 'shellaclaw07.PredictLeaves': WHATEVER THE INPUT: true; the input reads as it did. -/
def predictLeavesSpec : ChangeSpec := { name := "predictLeaves", fn := fun _ => fun
  | [d1, d2, d3] => { results := [.lit (.bool true)], args := [d1, d2, d3] }
  | _ => none }
def predictLeavesRow : OpenClaim := { program := "ytpnomiepbbbnbaa", sum := "b4ee7e03becd0c0f9d2c68f50ba8f00e25680bb7290ddb4e6fb4fefa307ab36b", func := "shellac/shellaclaw07.PredictLeaves", spec := "predictLeaves", unfollowed := true, recurses := true, apart := false }
def PredictLeavesSaid : Prop := predictLeavesRow.holds Try.pinned (OpenSpec.ofChange predictLeavesSpec)

/-- ITS FALSE NEIGHBOUR: 'it returns false'. Refute it at one input. -/
def predictLeavesWrong : ChangeSpec := { name := "predictLeaves", fn := fun _ => fun
  | [d1, d2, d3] => { results := [.lit (.bool false)], args := [d1, d2, d3] }
  | _ => none }
def PredictLeavesWrongFalsely : Prop := predictLeavesRow.holds Try.pinned (OpenSpec.ofChange predictLeavesWrong)

/-- 'shellaclaw07.PredictLines': WHATEVER THE INPUT: true; the input reads as it did. -/
def predictLinesSpec : ChangeSpec := { name := "predictLines", fn := fun _ => fun
  | [d1, d2, d3] => { results := [.lit (.bool true)], args := [d1, d2, d3] }
  | _ => none }
def predictLinesRow : OpenClaim := { program := "ytpnomiepbbbnbaa", sum := "b4ee7e03becd0c0f9d2c68f50ba8f00e25680bb7290ddb4e6fb4fefa307ab36b", func := "shellac/shellaclaw07.PredictLines", spec := "predictLines", unfollowed := true, recurses := true, apart := false }
def PredictLinesSaid : Prop := predictLinesRow.holds Try.pinned (OpenSpec.ofChange predictLinesSpec)

/-- ITS FALSE NEIGHBOUR: 'it returns false'. Refute it at one input. -/
def predictLinesWrong : ChangeSpec := { name := "predictLines", fn := fun _ => fun
  | [d1, d2, d3] => { results := [.lit (.bool false)], args := [d1, d2, d3] }
  | _ => none }
def PredictLinesWrongFalsely : Prop := predictLinesRow.holds Try.pinned (OpenSpec.ofChange predictLinesWrong)

/-- 'shellaclaw07.PredictMakes': WHATEVER THE INPUT: true; the input reads as it did. -/
def predictMakesSpec : ChangeSpec := { name := "predictMakes", fn := fun _ => fun
  | [d1, d2, d3] => { results := [.lit (.bool true)], args := [d1, d2, d3] }
  | _ => none }
def predictMakesRow : OpenClaim := { program := "ytpnomiepbbbnbaa", sum := "b4ee7e03becd0c0f9d2c68f50ba8f00e25680bb7290ddb4e6fb4fefa307ab36b", func := "shellac/shellaclaw07.PredictMakes", spec := "predictMakes", unfollowed := true, recurses := true, apart := false }
def PredictMakesSaid : Prop := predictMakesRow.holds Try.pinned (OpenSpec.ofChange predictMakesSpec)

/-- ITS FALSE NEIGHBOUR: 'it returns false'. Refute it at one input. -/
def predictMakesWrong : ChangeSpec := { name := "predictMakes", fn := fun _ => fun
  | [d1, d2, d3] => { results := [.lit (.bool false)], args := [d1, d2, d3] }
  | _ => none }
def PredictMakesWrongFalsely : Prop := predictMakesRow.holds Try.pinned (OpenSpec.ofChange predictMakesWrong)

/-- 'shellaclaw07.PredictBack': WHATEVER THE INPUT: true; the input reads as it did. -/
def predictBackSpec : ChangeSpec := { name := "predictBack", fn := fun _ => fun
  | [d1, d2] => { results := [.lit (.bool true)], args := [d1, d2] }
  | _ => none }
def predictBackRow : OpenClaim := { program := "ytpnomiepbbbnbaa", sum := "b4ee7e03becd0c0f9d2c68f50ba8f00e25680bb7290ddb4e6fb4fefa307ab36b", func := "shellac/shellaclaw07.PredictBack", spec := "predictBack", unfollowed := true, recurses := true, apart := false }
def PredictBackSaid : Prop := predictBackRow.holds Try.pinned (OpenSpec.ofChange predictBackSpec)

/-- ITS FALSE NEIGHBOUR: 'it returns false'. Refute it at one input. -/
def predictBackWrong : ChangeSpec := { name := "predictBack", fn := fun _ => fun
  | [d1, d2] => { results := [.lit (.bool false)], args := [d1, d2] }
  | _ => none }
def PredictBackWrongFalsely : Prop := predictBackRow.holds Try.pinned (OpenSpec.ofChange predictBackWrong)

/-- 'shellaclaw07.PredictSearches': WHATEVER THE INPUT: true; the input reads as it did. -/
def predictSearchesSpec : ChangeSpec := { name := "predictSearches", fn := fun _ => fun
  | [d1, d2] => { results := [.lit (.bool true)], args := [d1, d2] }
  | _ => none }
def predictSearchesRow : OpenClaim := { program := "ytpnomiepbbbnbaa", sum := "b4ee7e03becd0c0f9d2c68f50ba8f00e25680bb7290ddb4e6fb4fefa307ab36b", func := "shellac/shellaclaw07.PredictSearches", spec := "predictSearches", unfollowed := true, recurses := true, apart := false }
def PredictSearchesSaid : Prop := predictSearchesRow.holds Try.pinned (OpenSpec.ofChange predictSearchesSpec)

/-- ITS FALSE NEIGHBOUR: 'it returns false'. Refute it at one input. -/
def predictSearchesWrong : ChangeSpec := { name := "predictSearches", fn := fun _ => fun
  | [d1, d2] => { results := [.lit (.bool false)], args := [d1, d2] }
  | _ => none }
def PredictSearchesWrongFalsely : Prop := predictSearchesRow.holds Try.pinned (OpenSpec.ofChange predictSearchesWrong)

/-- 'shellaclaw07.PredictLess': WHATEVER THE INPUT: true; the input reads as it did. -/
def predictLessSpec : ChangeSpec := { name := "predictLess", fn := fun _ => fun
  | [d1, d2] => { results := [.lit (.bool true)], args := [d1, d2] }
  | _ => none }
def predictLessRow : OpenClaim := { program := "ytpnomiepbbbnbaa", sum := "b4ee7e03becd0c0f9d2c68f50ba8f00e25680bb7290ddb4e6fb4fefa307ab36b", func := "shellac/shellaclaw07.PredictLess", spec := "predictLess", unfollowed := true, recurses := true, apart := false }
def PredictLessSaid : Prop := predictLessRow.holds Try.pinned (OpenSpec.ofChange predictLessSpec)

/-- ITS FALSE NEIGHBOUR: 'it returns false'. Refute it at one input. -/
def predictLessWrong : ChangeSpec := { name := "predictLess", fn := fun _ => fun
  | [d1, d2] => { results := [.lit (.bool false)], args := [d1, d2] }
  | _ => none }
def PredictLessWrongFalsely : Prop := predictLessRow.holds Try.pinned (OpenSpec.ofChange predictLessWrong)

/-- 'shellaclaw07.PredictApart': WHATEVER THE INPUT: true; the input reads as it did. -/
def predictApartSpec : ChangeSpec := { name := "predictApart", fn := fun _ => fun
  | [d1, d2] => { results := [.lit (.bool true)], args := [d1, d2] }
  | _ => none }
def predictApartRow : OpenClaim := { program := "ytpnomiepbbbnbaa", sum := "b4ee7e03becd0c0f9d2c68f50ba8f00e25680bb7290ddb4e6fb4fefa307ab36b", func := "shellac/shellaclaw07.PredictApart", spec := "predictApart", unfollowed := true, recurses := true, apart := false }
def PredictApartSaid : Prop := predictApartRow.holds Try.pinned (OpenSpec.ofChange predictApartSpec)

/-- ITS FALSE NEIGHBOUR: 'it returns false'. Refute it at one input. -/
def predictApartWrong : ChangeSpec := { name := "predictApart", fn := fun _ => fun
  | [d1, d2] => { results := [.lit (.bool false)], args := [d1, d2] }
  | _ => none }
def PredictApartWrongFalsely : Prop := predictApartRow.holds Try.pinned (OpenSpec.ofChange predictApartWrong)

/- THE SECOND FORM. 'bulk': how many values and letters a reading holds, each counted each time it is reached (what is shared counts as often as it is met; a slice's spare places count too). A statement '..UptoSaid' is the law's where the arguments, and the package variables that the reading takes, are together of bulk at most 1048576: NARROWER than '..Said'. Prove '..Said' where nothing that the law and all that it calls make is longer than what came in: it says more and counts as full. Else prove '..UptoSaid'. A law counts once. -/
mutual
def uptoBulk {H : Type} : DataW H → Nat
  | .lit (.string bytes) => bytes.length + 1
  | .lit _ => 1
  | .nil => 1
  | .ptr d => uptoBulk d + 1
  | .slice elems spare => uptoBulkAll elems + uptoBulkAll spare + 1
  | .agg parts => uptoBulkAll parts + 1
  | .iface _ d => uptoBulk d + 1
  | .map entries => uptoBulkEntries entries + 1
  | .held _ => 1
def uptoBulkAll {H : Type} : List (DataW H) → Nat
  | [] => 0
  | d :: r => uptoBulk d + uptoBulkAll r
def uptoBulkEntries {H : Type} : List (Lit × DataW H) → Nat
  | [] => 0
  | x :: r => uptoBulkEntry x + uptoBulkEntries r
def uptoBulkEntry {H : Type} : Lit × DataW H → Nat
  | (.string bytes, d) => bytes.length + uptoBulk d + 1
  | (_, d) => uptoBulk d + 1
 end
def uptoSmall : (H : Type) → List (DataW H) → Bool := fun _ ds => decide (uptoBulkAll ds ≤ 1048576)
def OpenSpec.upto (s : _root_.Go.ChangeSpec) : _root_.Go.OpenSpec := { _root_.Go.OpenSpec.ofChange s with cond := some uptoSmall }

/-- 'shellaclaw07.PredictOrders', WHERE WHAT IT READS IS OF BULK AT MOST 1048576: true; the input reads as it did. -/
def predictOrdersUptoRow : OpenClaim := { program := "ytpnomiepbbbnbaa", sum := "b4ee7e03becd0c0f9d2c68f50ba8f00e25680bb7290ddb4e6fb4fefa307ab36b", func := "shellac/shellaclaw07.PredictOrders", spec := "predictOrders", unfollowed := true, recurses := true, apart := false, narrowed := true }
def PredictOrdersUptoSaid : Prop := predictOrdersUptoRow.holds Try.pinned (OpenSpec.upto predictOrdersSpec)

/-- 'shellaclaw07.PredictLeaves', WHERE WHAT IT READS IS OF BULK AT MOST 1048576: true; the input reads as it did. -/
def predictLeavesUptoRow : OpenClaim := { program := "ytpnomiepbbbnbaa", sum := "b4ee7e03becd0c0f9d2c68f50ba8f00e25680bb7290ddb4e6fb4fefa307ab36b", func := "shellac/shellaclaw07.PredictLeaves", spec := "predictLeaves", unfollowed := true, recurses := true, apart := false, narrowed := true }
def PredictLeavesUptoSaid : Prop := predictLeavesUptoRow.holds Try.pinned (OpenSpec.upto predictLeavesSpec)

/-- 'shellaclaw07.PredictLines', WHERE WHAT IT READS IS OF BULK AT MOST 1048576: true; the input reads as it did. -/
def predictLinesUptoRow : OpenClaim := { program := "ytpnomiepbbbnbaa", sum := "b4ee7e03becd0c0f9d2c68f50ba8f00e25680bb7290ddb4e6fb4fefa307ab36b", func := "shellac/shellaclaw07.PredictLines", spec := "predictLines", unfollowed := true, recurses := true, apart := false, narrowed := true }
def PredictLinesUptoSaid : Prop := predictLinesUptoRow.holds Try.pinned (OpenSpec.upto predictLinesSpec)

/-- 'shellaclaw07.PredictMakes', WHERE WHAT IT READS IS OF BULK AT MOST 1048576: true; the input reads as it did. -/
def predictMakesUptoRow : OpenClaim := { program := "ytpnomiepbbbnbaa", sum := "b4ee7e03becd0c0f9d2c68f50ba8f00e25680bb7290ddb4e6fb4fefa307ab36b", func := "shellac/shellaclaw07.PredictMakes", spec := "predictMakes", unfollowed := true, recurses := true, apart := false, narrowed := true }
def PredictMakesUptoSaid : Prop := predictMakesUptoRow.holds Try.pinned (OpenSpec.upto predictMakesSpec)

/-- 'shellaclaw07.PredictBack', WHERE WHAT IT READS IS OF BULK AT MOST 1048576: true; the input reads as it did. -/
def predictBackUptoRow : OpenClaim := { program := "ytpnomiepbbbnbaa", sum := "b4ee7e03becd0c0f9d2c68f50ba8f00e25680bb7290ddb4e6fb4fefa307ab36b", func := "shellac/shellaclaw07.PredictBack", spec := "predictBack", unfollowed := true, recurses := true, apart := false, narrowed := true }
def PredictBackUptoSaid : Prop := predictBackUptoRow.holds Try.pinned (OpenSpec.upto predictBackSpec)

/-- 'shellaclaw07.PredictSearches', WHERE WHAT IT READS IS OF BULK AT MOST 1048576: true; the input reads as it did. -/
def predictSearchesUptoRow : OpenClaim := { program := "ytpnomiepbbbnbaa", sum := "b4ee7e03becd0c0f9d2c68f50ba8f00e25680bb7290ddb4e6fb4fefa307ab36b", func := "shellac/shellaclaw07.PredictSearches", spec := "predictSearches", unfollowed := true, recurses := true, apart := false, narrowed := true }
def PredictSearchesUptoSaid : Prop := predictSearchesUptoRow.holds Try.pinned (OpenSpec.upto predictSearchesSpec)

/-- 'shellaclaw07.PredictLess', WHERE WHAT IT READS IS OF BULK AT MOST 1048576: true; the input reads as it did. -/
def predictLessUptoRow : OpenClaim := { program := "ytpnomiepbbbnbaa", sum := "b4ee7e03becd0c0f9d2c68f50ba8f00e25680bb7290ddb4e6fb4fefa307ab36b", func := "shellac/shellaclaw07.PredictLess", spec := "predictLess", unfollowed := true, recurses := true, apart := false, narrowed := true }
def PredictLessUptoSaid : Prop := predictLessUptoRow.holds Try.pinned (OpenSpec.upto predictLessSpec)

/-- 'shellaclaw07.PredictApart', WHERE WHAT IT READS IS OF BULK AT MOST 1048576: true; the input reads as it did. -/
def predictApartUptoRow : OpenClaim := { program := "ytpnomiepbbbnbaa", sum := "b4ee7e03becd0c0f9d2c68f50ba8f00e25680bb7290ddb4e6fb4fefa307ab36b", func := "shellac/shellaclaw07.PredictApart", spec := "predictApart", unfollowed := true, recurses := true, apart := false, narrowed := true }
def PredictApartUptoSaid : Prop := predictApartUptoRow.holds Try.pinned (OpenSpec.upto predictApartSpec)

end Rows
end Go.Proofs.Ytpnomiepbbbnbaa

/-
  No cell of these rows narrows 'for every input' (looked for: loops, veiled, ifaces, maps, wideKeys, modest, calm, conditions, laid).
  DERIVED. THE GIVEN ROWS OF THIS SEAT. 5 by the template 'for every input the law returns true; each argument reads behind the call as it read before'; 0 by the template 'total and deterministic' (their statements: YtkhalhfijejioaaTotals.lean).
  GIVEN WITH THE SEED: the statements are not yours to turn. If you find one false, say at which input.
  Laid BY PROGRAM, IN A SANDBOX (cutbox-rows.mjs): the forced cells as the released guide's own fill.sh prints them over the translation cf1e9042d813b1eb… (all of the seat's roots in one cut). By AI agents, Wed Nov 11 2026. No macro, syntax, notation, axiom, sorry.
-/
import Derived.Test.YtkhalhfijejioaaChecked
import GoSem.Claim
import GoSem.ClaimJoined
import GoSem.ClaimMapViews
import Derived.JoinedTies
import Derived.KernelRfl
namespace Go.Proofs.Ytkhalhfijejioaa
/- THE CELL 'sum', in the pinned program and in every row, IS THE sha256 OF THE DUMP (.gsa) THAT YtkhalhfijejioaaProg.lean LOADS. Nothing in Lean hashes anything: it is a label: what it is worth is what the hold of that sum in a sandbox is worth. -/
noncomputable def Try.pinned : Pinned := { name := "ytkhalhfijejioaa", sum := "cf1e9042d813b1eb992b2790c2b31273b246b5d982a71aa76a888588e10af896", checked := Try.checked }
namespace Rows
def none {H : Type} : Left H := { results := [], args := [] }

/-- 'rookerylaw02.SumsCrc': WHATEVER THE INPUT: true; the input reads as it did. -/
def sumsCrcSpec : ChangeSpec := { name := "sumsCrc", fn := fun _ => fun
  | [d] => { results := [.lit (.bool true)], args := [d] }
  | _ => none }
def sumsCrcRow : OpenClaim := { program := "ytkhalhfijejioaa", sum := "cf1e9042d813b1eb992b2790c2b31273b246b5d982a71aa76a888588e10af896", func := "rookery/rookerylaw02.SumsCrc", spec := "sumsCrc", apart := false }
def SumsCrcSaid : Prop := sumsCrcRow.holds Try.pinned (OpenSpec.ofChange sumsCrcSpec)

/-- ITS FALSE NEIGHBOUR: 'it returns false'. Refute it at one input. -/
def sumsCrcWrong : ChangeSpec := { name := "sumsCrc", fn := fun _ => fun
  | [d] => { results := [.lit (.bool false)], args := [d] }
  | _ => none }
def SumsCrcWrongFalsely : Prop := sumsCrcRow.holds Try.pinned (OpenSpec.ofChange sumsCrcWrong)

/-- 'rookerylaw02.SumsSlot': WHATEVER THE INPUT: true; the input reads as it did. -/
def sumsSlotSpec : ChangeSpec := { name := "sumsSlot", fn := fun _ => fun
  | [d] => { results := [.lit (.bool true)], args := [d] }
  | _ => none }
def sumsSlotRow : OpenClaim := { program := "ytkhalhfijejioaa", sum := "cf1e9042d813b1eb992b2790c2b31273b246b5d982a71aa76a888588e10af896", func := "rookery/rookerylaw02.SumsSlot", spec := "sumsSlot", apart := false }
def SumsSlotSaid : Prop := sumsSlotRow.holds Try.pinned (OpenSpec.ofChange sumsSlotSpec)

/-- ITS FALSE NEIGHBOUR: 'it returns false'. Refute it at one input. -/
def sumsSlotWrong : ChangeSpec := { name := "sumsSlot", fn := fun _ => fun
  | [d] => { results := [.lit (.bool false)], args := [d] }
  | _ => none }
def SumsSlotWrongFalsely : Prop := sumsSlotRow.holds Try.pinned (OpenSpec.ofChange sumsSlotWrong)

/-- 'rookerylaw02.SumsBurst': WHATEVER THE INPUT: true; the input reads as it did. -/
def sumsBurstSpec : ChangeSpec := { name := "sumsBurst", fn := fun _ => fun
  | [d1, d2, d3] => { results := [.lit (.bool true)], args := [d1, d2, d3] }
  | _ => none }
def sumsBurstRow : OpenClaim := { program := "ytkhalhfijejioaa", sum := "cf1e9042d813b1eb992b2790c2b31273b246b5d982a71aa76a888588e10af896", func := "rookery/rookerylaw02.SumsBurst", spec := "sumsBurst", apart := false }
def SumsBurstSaid : Prop := sumsBurstRow.holds Try.pinned (OpenSpec.ofChange sumsBurstSpec)

/-- ITS FALSE NEIGHBOUR: 'it returns false'. Refute it at one input. -/
def sumsBurstWrong : ChangeSpec := { name := "sumsBurst", fn := fun _ => fun
  | [d1, d2, d3] => { results := [.lit (.bool false)], args := [d1, d2, d3] }
  | _ => none }
def SumsBurstWrongFalsely : Prop := sumsBurstRow.holds Try.pinned (OpenSpec.ofChange sumsBurstWrong)

/-- 'rookerylaw02.SumsLinear': WHATEVER THE INPUT: true; the input reads as it did. -/
def sumsLinearSpec : ChangeSpec := { name := "sumsLinear", fn := fun _ => fun
  | [d1, d2] => { results := [.lit (.bool true)], args := [d1, d2] }
  | _ => none }
def sumsLinearRow : OpenClaim := { program := "ytkhalhfijejioaa", sum := "cf1e9042d813b1eb992b2790c2b31273b246b5d982a71aa76a888588e10af896", func := "rookery/rookerylaw02.SumsLinear", spec := "sumsLinear", apart := false }
def SumsLinearSaid : Prop := sumsLinearRow.holds Try.pinned (OpenSpec.ofChange sumsLinearSpec)

/-- ITS FALSE NEIGHBOUR: 'it returns false'. Refute it at one input. -/
def sumsLinearWrong : ChangeSpec := { name := "sumsLinear", fn := fun _ => fun
  | [d1, d2] => { results := [.lit (.bool false)], args := [d1, d2] }
  | _ => none }
def SumsLinearWrongFalsely : Prop := sumsLinearRow.holds Try.pinned (OpenSpec.ofChange sumsLinearWrong)

/-- 'rookerylaw02.SumsSlots': WHATEVER THE INPUT: true; the input reads as it did. -/
def sumsSlotsSpec : ChangeSpec := { name := "sumsSlots", fn := fun _ => fun
  | [d] => { results := [.lit (.bool true)], args := [d] }
  | _ => none }
def sumsSlotsRow : OpenClaim := { program := "ytkhalhfijejioaa", sum := "cf1e9042d813b1eb992b2790c2b31273b246b5d982a71aa76a888588e10af896", func := "rookery/rookerylaw02.SumsSlots", spec := "sumsSlots", apart := false }
def SumsSlotsSaid : Prop := sumsSlotsRow.holds Try.pinned (OpenSpec.ofChange sumsSlotsSpec)

/-- ITS FALSE NEIGHBOUR: 'it returns false'. Refute it at one input. -/
def sumsSlotsWrong : ChangeSpec := { name := "sumsSlots", fn := fun _ => fun
  | [d] => { results := [.lit (.bool false)], args := [d] }
  | _ => none }
def SumsSlotsWrongFalsely : Prop := sumsSlotsRow.holds Try.pinned (OpenSpec.ofChange sumsSlotsWrong)

/- THE SECOND FORM. 'bulk': how many values and letters a reading holds, each counted each time it is reached (what is shared counts as often as it is met; a slice's spare places count too). A statement '..UptoSaid' is the law's where the arguments, and the package variables that the reading takes, are together of bulk at most 1048576: NARROWER than '..Said'. Prove '..Said' where nothing that the law and all that it calls make is longer than what came in: it says more and counts as full. Else prove '..UptoSaid'. A law counts once. -/
mutual
def uptoBulk {H : Type} : DataW H → Nat
  | .lit (.string bytes) => bytes.length + 1
  | .lit _ => 1
  | .nil => 1
  | .ptr d => uptoBulk d + 1
  | .slice elems spare => uptoBulkAll elems + uptoBulkAll spare + 1
  | .agg parts => uptoBulkAll parts + 1
  | .iface _ d => uptoBulk d + 1
  | .map entries => uptoBulkEntries entries + 1
  | .held _ => 1
def uptoBulkAll {H : Type} : List (DataW H) → Nat
  | [] => 0
  | d :: r => uptoBulk d + uptoBulkAll r
def uptoBulkEntries {H : Type} : List (Lit × DataW H) → Nat
  | [] => 0
  | x :: r => uptoBulkEntry x + uptoBulkEntries r
def uptoBulkEntry {H : Type} : Lit × DataW H → Nat
  | (.string bytes, d) => bytes.length + uptoBulk d + 1
  | (_, d) => uptoBulk d + 1
 end
def uptoSmall : (H : Type) → List (DataW H) → Bool := fun _ ds => decide (uptoBulkAll ds ≤ 1048576)
def OpenSpec.upto (s : _root_.Go.ChangeSpec) : _root_.Go.OpenSpec := { _root_.Go.OpenSpec.ofChange s with cond := some uptoSmall }

/-- 'rookerylaw02.SumsCrc', WHERE WHAT IT READS IS OF BULK AT MOST 1048576: true; the input reads as it did. -/
def sumsCrcUptoRow : OpenClaim := { program := "ytkhalhfijejioaa", sum := "cf1e9042d813b1eb992b2790c2b31273b246b5d982a71aa76a888588e10af896", func := "rookery/rookerylaw02.SumsCrc", spec := "sumsCrc", apart := false, narrowed := true }
def SumsCrcUptoSaid : Prop := sumsCrcUptoRow.holds Try.pinned (OpenSpec.upto sumsCrcSpec)

/-- 'rookerylaw02.SumsSlot', WHERE WHAT IT READS IS OF BULK AT MOST 1048576: true; the input reads as it did. -/
def sumsSlotUptoRow : OpenClaim := { program := "ytkhalhfijejioaa", sum := "cf1e9042d813b1eb992b2790c2b31273b246b5d982a71aa76a888588e10af896", func := "rookery/rookerylaw02.SumsSlot", spec := "sumsSlot", apart := false, narrowed := true }
def SumsSlotUptoSaid : Prop := sumsSlotUptoRow.holds Try.pinned (OpenSpec.upto sumsSlotSpec)

/-- 'rookerylaw02.SumsBurst', WHERE WHAT IT READS IS OF BULK AT MOST 1048576: true; the input reads as it did. -/
def sumsBurstUptoRow : OpenClaim := { program := "ytkhalhfijejioaa", sum := "cf1e9042d813b1eb992b2790c2b31273b246b5d982a71aa76a888588e10af896", func := "rookery/rookerylaw02.SumsBurst", spec := "sumsBurst", apart := false, narrowed := true }
def SumsBurstUptoSaid : Prop := sumsBurstUptoRow.holds Try.pinned (OpenSpec.upto sumsBurstSpec)

/-- 'rookerylaw02.SumsLinear', WHERE WHAT IT READS IS OF BULK AT MOST 1048576: true; the input reads as it did. -/
def sumsLinearUptoRow : OpenClaim := { program := "ytkhalhfijejioaa", sum := "cf1e9042d813b1eb992b2790c2b31273b246b5d982a71aa76a888588e10af896", func := "rookery/rookerylaw02.SumsLinear", spec := "sumsLinear", apart := false, narrowed := true }
def SumsLinearUptoSaid : Prop := sumsLinearUptoRow.holds Try.pinned (OpenSpec.upto sumsLinearSpec)

/-- 'rookerylaw02.SumsSlots', WHERE WHAT IT READS IS OF BULK AT MOST 1048576: true; the input reads as it did. -/
def sumsSlotsUptoRow : OpenClaim := { program := "ytkhalhfijejioaa", sum := "cf1e9042d813b1eb992b2790c2b31273b246b5d982a71aa76a888588e10af896", func := "rookery/rookerylaw02.SumsSlots", spec := "sumsSlots", apart := false, narrowed := true }
def SumsSlotsUptoSaid : Prop := sumsSlotsUptoRow.holds Try.pinned (OpenSpec.upto sumsSlotsSpec)

end Rows
end Go.Proofs.Ytkhalhfijejioaa

/-
  No cell of these rows narrows 'for every input' (looked for: loops, veiled, ifaces, maps, wideKeys, modest, calm, conditions, laid).
  DERIVED. THE GIVEN ROWS OF THIS SEAT. 12 by the template 'for every input the law returns true; each argument reads behind the call as it read before'; 0 by the template 'total and deterministic' (their statements: YtgjiffpiffphfaaTotals.lean).
  GIVEN WITH THE SEED: the statements are not yours to turn. If you find one false, say at which input.
  Laid BY PROGRAM, IN A SANDBOX (cutbox-rows.mjs): the forced cells as the released guide's own fill.sh prints them over the translation 1a35163da9ad9da1… (all of the seat's roots in one cut). By AI agents, Wed Nov 11 2026. No macro, syntax, notation, axiom, sorry.
-/
import Derived.Test.YtgjiffpiffphfaaChecked
import GoSem.Claim
import GoSem.ClaimJoined
import GoSem.ClaimMapViews
import Derived.JoinedTies
import Derived.KernelRfl
namespace Go.Proofs.Ytgjiffpiffphfaa
/- THE CELL 'sum', in the pinned program and in every row, IS THE sha256 OF THE DUMP (.gsa) THAT YtgjiffpiffphfaaProg.lean LOADS. Nothing in Lean hashes anything: it is a label: what it is worth is what the hold of that sum in a sandbox is worth. -/
noncomputable def Try.pinned : Pinned := { name := "ytgjiffpiffphfaa", sum := "1a35163da9ad9da13f451a675b82cbba38b6a01d123c8343644d5fb5747d8468", checked := Try.checked }
namespace Rows
def none {H : Type} : Left H := { results := [], args := [] }

/-- 'descantlaw06.RiceCosts': WHATEVER THE INPUT: true; the input reads as it did. -/
def riceCostsSpec : ChangeSpec := { name := "riceCosts", fn := fun _ => fun
  | [d1, d2, d3] => { results := [.lit (.bool true)], args := [d1, d2, d3] }
  | _ => none }
def riceCostsRow : OpenClaim := { program := "ytgjiffpiffphfaa", sum := "1a35163da9ad9da13f451a675b82cbba38b6a01d123c8343644d5fb5747d8468", func := "descant/descantlaw06.RiceCosts", spec := "riceCosts", unfollowed := true, recurses := true, apart := false }
def RiceCostsSaid : Prop := riceCostsRow.holds Try.pinned (OpenSpec.ofChange riceCostsSpec)

/-- ITS FALSE NEIGHBOUR: 'it returns false'. Refute it at one input. -/
def riceCostsWrong : ChangeSpec := { name := "riceCosts", fn := fun _ => fun
  | [d1, d2, d3] => { results := [.lit (.bool false)], args := [d1, d2, d3] }
  | _ => none }
def RiceCostsWrongFalsely : Prop := riceCostsRow.holds Try.pinned (OpenSpec.ofChange riceCostsWrong)

/-- 'descantlaw06.RicePuts': WHATEVER THE INPUT: true; the input reads as it did. -/
def ricePutsSpec : ChangeSpec := { name := "ricePuts", fn := fun _ => fun
  | [d1, d2] => { results := [.lit (.bool true)], args := [d1, d2] }
  | _ => none }
def ricePutsRow : OpenClaim := { program := "ytgjiffpiffphfaa", sum := "1a35163da9ad9da13f451a675b82cbba38b6a01d123c8343644d5fb5747d8468", func := "descant/descantlaw06.RicePuts", spec := "ricePuts", unfollowed := true, recurses := true, apart := false }
def RicePutsSaid : Prop := ricePutsRow.holds Try.pinned (OpenSpec.ofChange ricePutsSpec)

/-- ITS FALSE NEIGHBOUR: 'it returns false'. Refute it at one input. -/
def ricePutsWrong : ChangeSpec := { name := "ricePuts", fn := fun _ => fun
  | [d1, d2] => { results := [.lit (.bool false)], args := [d1, d2] }
  | _ => none }
def RicePutsWrongFalsely : Prop := ricePutsRow.holds Try.pinned (OpenSpec.ofChange ricePutsWrong)

/-- 'descantlaw06.RiceBest': WHATEVER THE INPUT: true; the input reads as it did. -/
def riceBestSpec : ChangeSpec := { name := "riceBest", fn := fun _ => fun
  | [d1, d2, d3] => { results := [.lit (.bool true)], args := [d1, d2, d3] }
  | _ => none }
def riceBestRow : OpenClaim := { program := "ytgjiffpiffphfaa", sum := "1a35163da9ad9da13f451a675b82cbba38b6a01d123c8343644d5fb5747d8468", func := "descant/descantlaw06.RiceBest", spec := "riceBest", unfollowed := true, recurses := true, apart := false }
def RiceBestSaid : Prop := riceBestRow.holds Try.pinned (OpenSpec.ofChange riceBestSpec)

/-- ITS FALSE NEIGHBOUR: 'it returns false'. Refute it at one input. -/
def riceBestWrong : ChangeSpec := { name := "riceBest", fn := fun _ => fun
  | [d1, d2, d3] => { results := [.lit (.bool false)], args := [d1, d2, d3] }
  | _ => none }
def RiceBestWrongFalsely : Prop := riceBestRow.holds Try.pinned (OpenSpec.ofChange riceBestWrong)

/-- 'descantlaw08.EvenOnes': WHATEVER THE INPUT: true; the input reads as it did. -/
def evenOnesSpec : ChangeSpec := { name := "evenOnes", fn := fun _ => fun
  | [d1, d2] => { results := [.lit (.bool true)], args := [d1, d2] }
  | _ => none }
def evenOnesRow : OpenClaim := { program := "ytgjiffpiffphfaa", sum := "1a35163da9ad9da13f451a675b82cbba38b6a01d123c8343644d5fb5747d8468", func := "descant/descantlaw08.EvenOnes", spec := "evenOnes", unfollowed := true, recurses := true, apart := false }
def EvenOnesSaid : Prop := evenOnesRow.holds Try.pinned (OpenSpec.ofChange evenOnesSpec)

/-- ITS FALSE NEIGHBOUR: 'it returns false'. Refute it at one input. -/
def evenOnesWrong : ChangeSpec := { name := "evenOnes", fn := fun _ => fun
  | [d1, d2] => { results := [.lit (.bool false)], args := [d1, d2] }
  | _ => none }
def EvenOnesWrongFalsely : Prop := evenOnesRow.holds Try.pinned (OpenSpec.ofChange evenOnesWrong)

/-- 'descantlaw08.EvenCentres': WHATEVER THE INPUT: true; the input reads as it did. -/
def evenCentresSpec : ChangeSpec := { name := "evenCentres", fn := fun _ => fun
  | [d1, d2, d3] => { results := [.lit (.bool true)], args := [d1, d2, d3] }
  | _ => none }
def evenCentresRow : OpenClaim := { program := "ytgjiffpiffphfaa", sum := "1a35163da9ad9da13f451a675b82cbba38b6a01d123c8343644d5fb5747d8468", func := "descant/descantlaw08.EvenCentres", spec := "evenCentres", unfollowed := true, recurses := true, apart := false }
def EvenCentresSaid : Prop := evenCentresRow.holds Try.pinned (OpenSpec.ofChange evenCentresSpec)

/-- ITS FALSE NEIGHBOUR: 'it returns false'. Refute it at one input. -/
def evenCentresWrong : ChangeSpec := { name := "evenCentres", fn := fun _ => fun
  | [d1, d2, d3] => { results := [.lit (.bool false)], args := [d1, d2, d3] }
  | _ => none }
def EvenCentresWrongFalsely : Prop := evenCentresRow.holds Try.pinned (OpenSpec.ofChange evenCentresWrong)

/-- 'descantlaw08.EvenNil': WHATEVER THE INPUT: true; the input reads as it did. -/
def evenNilSpec : ChangeSpec := { name := "evenNil", fn := fun _ => fun
  | [d1, d2, d3] => { results := [.lit (.bool true)], args := [d1, d2, d3] }
  | _ => none }
def evenNilRow : OpenClaim := { program := "ytgjiffpiffphfaa", sum := "1a35163da9ad9da13f451a675b82cbba38b6a01d123c8343644d5fb5747d8468", func := "descant/descantlaw08.EvenNil", spec := "evenNil", unfollowed := true, recurses := true, apart := false }
def EvenNilSaid : Prop := evenNilRow.holds Try.pinned (OpenSpec.ofChange evenNilSpec)

/-- ITS FALSE NEIGHBOUR: 'it returns false'. Refute it at one input. -/
def evenNilWrong : ChangeSpec := { name := "evenNil", fn := fun _ => fun
  | [d1, d2, d3] => { results := [.lit (.bool false)], args := [d1, d2, d3] }
  | _ => none }
def EvenNilWrongFalsely : Prop := evenNilRow.holds Try.pinned (OpenSpec.ofChange evenNilWrong)

/-- 'descantlaw08.EvenPuts': WHATEVER THE INPUT: true; the input reads as it did. -/
def evenPutsSpec : ChangeSpec := { name := "evenPuts", fn := fun _ => fun
  | [d1, d2] => { results := [.lit (.bool true)], args := [d1, d2] }
  | _ => none }
def evenPutsRow : OpenClaim := { program := "ytgjiffpiffphfaa", sum := "1a35163da9ad9da13f451a675b82cbba38b6a01d123c8343644d5fb5747d8468", func := "descant/descantlaw08.EvenPuts", spec := "evenPuts", unfollowed := true, recurses := true, apart := false }
def EvenPutsSaid : Prop := evenPutsRow.holds Try.pinned (OpenSpec.ofChange evenPutsSpec)

/-- ITS FALSE NEIGHBOUR: 'it returns false'. Refute it at one input. -/
def evenPutsWrong : ChangeSpec := { name := "evenPuts", fn := fun _ => fun
  | [d1, d2] => { results := [.lit (.bool false)], args := [d1, d2] }
  | _ => none }
def EvenPutsWrongFalsely : Prop := evenPutsRow.holds Try.pinned (OpenSpec.ofChange evenPutsWrong)

/-- 'descantlaw08.EvenGets': WHATEVER THE INPUT: true; the input reads as it did. -/
def evenGetsSpec : ChangeSpec := { name := "evenGets", fn := fun _ => fun
  | [d1, d2, d3] => { results := [.lit (.bool true)], args := [d1, d2, d3] }
  | _ => none }
def evenGetsRow : OpenClaim := { program := "ytgjiffpiffphfaa", sum := "1a35163da9ad9da13f451a675b82cbba38b6a01d123c8343644d5fb5747d8468", func := "descant/descantlaw08.EvenGets", spec := "evenGets", unfollowed := true, recurses := true, apart := false }
def EvenGetsSaid : Prop := evenGetsRow.holds Try.pinned (OpenSpec.ofChange evenGetsSpec)

/-- ITS FALSE NEIGHBOUR: 'it returns false'. Refute it at one input. -/
def evenGetsWrong : ChangeSpec := { name := "evenGets", fn := fun _ => fun
  | [d1, d2, d3] => { results := [.lit (.bool false)], args := [d1, d2, d3] }
  | _ => none }
def EvenGetsWrongFalsely : Prop := evenGetsRow.holds Try.pinned (OpenSpec.ofChange evenGetsWrong)

/-- 'descantlaw08.EvenBack': WHATEVER THE INPUT: true; the input reads as it did. -/
def evenBackSpec : ChangeSpec := { name := "evenBack", fn := fun _ => fun
  | [d1, d2, d3] => { results := [.lit (.bool true)], args := [d1, d2, d3] }
  | _ => none }
def evenBackRow : OpenClaim := { program := "ytgjiffpiffphfaa", sum := "1a35163da9ad9da13f451a675b82cbba38b6a01d123c8343644d5fb5747d8468", func := "descant/descantlaw08.EvenBack", spec := "evenBack", unfollowed := true, recurses := true, apart := false }
def EvenBackSaid : Prop := evenBackRow.holds Try.pinned (OpenSpec.ofChange evenBackSpec)

/-- ITS FALSE NEIGHBOUR: 'it returns false'. Refute it at one input. -/
def evenBackWrong : ChangeSpec := { name := "evenBack", fn := fun _ => fun
  | [d1, d2, d3] => { results := [.lit (.bool false)], args := [d1, d2, d3] }
  | _ => none }
def EvenBackWrongFalsely : Prop := evenBackRow.holds Try.pinned (OpenSpec.ofChange evenBackWrong)

/-- 'descantlaw06.RiceGets': WHATEVER THE INPUT: true; the input reads as it did. -/
def riceGetsSpec : ChangeSpec := { name := "riceGets", fn := fun _ => fun
  | [d1, d2, d3] => { results := [.lit (.bool true)], args := [d1, d2, d3] }
  | _ => none }
def riceGetsRow : OpenClaim := { program := "ytgjiffpiffphfaa", sum := "1a35163da9ad9da13f451a675b82cbba38b6a01d123c8343644d5fb5747d8468", func := "descant/descantlaw06.RiceGets", spec := "riceGets", apart := false }
def RiceGetsSaid : Prop := riceGetsRow.holds Try.pinned (OpenSpec.ofChange riceGetsSpec)

/-- ITS FALSE NEIGHBOUR: 'it returns false'. Refute it at one input. -/
def riceGetsWrong : ChangeSpec := { name := "riceGets", fn := fun _ => fun
  | [d1, d2, d3] => { results := [.lit (.bool false)], args := [d1, d2, d3] }
  | _ => none }
def RiceGetsWrongFalsely : Prop := riceGetsRow.holds Try.pinned (OpenSpec.ofChange riceGetsWrong)

/-- 'descantlaw06.RiceNil': WHATEVER THE INPUT: true; the input reads as it did. -/
def riceNilSpec : ChangeSpec := { name := "riceNil", fn := fun _ => fun
  | [d1, d2, d3, d4] => { results := [.lit (.bool true)], args := [d1, d2, d3, d4] }
  | _ => none }
def riceNilRow : OpenClaim := { program := "ytgjiffpiffphfaa", sum := "1a35163da9ad9da13f451a675b82cbba38b6a01d123c8343644d5fb5747d8468", func := "descant/descantlaw06.RiceNil", spec := "riceNil", unfollowed := true, recurses := true, apart := false }
def RiceNilSaid : Prop := riceNilRow.holds Try.pinned (OpenSpec.ofChange riceNilSpec)

/-- ITS FALSE NEIGHBOUR: 'it returns false'. Refute it at one input. -/
def riceNilWrong : ChangeSpec := { name := "riceNil", fn := fun _ => fun
  | [d1, d2, d3, d4] => { results := [.lit (.bool false)], args := [d1, d2, d3, d4] }
  | _ => none }
def RiceNilWrongFalsely : Prop := riceNilRow.holds Try.pinned (OpenSpec.ofChange riceNilWrong)

/-- 'descantlaw06.RiceBack': WHATEVER THE INPUT: true; the input reads as it did. -/
def riceBackSpec : ChangeSpec := { name := "riceBack", fn := fun _ => fun
  | [d1, d2, d3] => { results := [.lit (.bool true)], args := [d1, d2, d3] }
  | _ => none }
def riceBackRow : OpenClaim := { program := "ytgjiffpiffphfaa", sum := "1a35163da9ad9da13f451a675b82cbba38b6a01d123c8343644d5fb5747d8468", func := "descant/descantlaw06.RiceBack", spec := "riceBack", unfollowed := true, recurses := true, apart := false }
def RiceBackSaid : Prop := riceBackRow.holds Try.pinned (OpenSpec.ofChange riceBackSpec)

/-- ITS FALSE NEIGHBOUR: 'it returns false'. Refute it at one input. -/
def riceBackWrong : ChangeSpec := { name := "riceBack", fn := fun _ => fun
  | [d1, d2, d3] => { results := [.lit (.bool false)], args := [d1, d2, d3] }
  | _ => none }
def RiceBackWrongFalsely : Prop := riceBackRow.holds Try.pinned (OpenSpec.ofChange riceBackWrong)

/- THE SECOND FORM. 'bulk': how many values and letters a reading holds, each counted each time it is reached (what is shared counts as often as it is met; a slice's spare places count too). A statement '..UptoSaid' is the law's where the arguments, and the package variables that the reading takes, are together of bulk at most 1048576: NARROWER than '..Said'. Prove '..Said' where nothing that the law and all that it calls make is longer than what came in: it says more and counts as full. Else prove '..UptoSaid'. A law counts once. -/
mutual
def uptoBulk {H : Type} : DataW H → Nat
  | .lit (.string bytes) => bytes.length + 1
  | .lit _ => 1
  | .nil => 1
  | .ptr d => uptoBulk d + 1
  | .slice elems spare => uptoBulkAll elems + uptoBulkAll spare + 1
  | .agg parts => uptoBulkAll parts + 1
  | .iface _ d => uptoBulk d + 1
  | .map entries => uptoBulkEntries entries + 1
  | .held _ => 1
def uptoBulkAll {H : Type} : List (DataW H) → Nat
  | [] => 0
  | d :: r => uptoBulk d + uptoBulkAll r
def uptoBulkEntries {H : Type} : List (Lit × DataW H) → Nat
  | [] => 0
  | x :: r => uptoBulkEntry x + uptoBulkEntries r
def uptoBulkEntry {H : Type} : Lit × DataW H → Nat
  | (.string bytes, d) => bytes.length + uptoBulk d + 1
  | (_, d) => uptoBulk d + 1
 end
def uptoSmall : (H : Type) → List (DataW H) → Bool := fun _ ds => decide (uptoBulkAll ds ≤ 1048576)
def OpenSpec.upto (s : _root_.Go.ChangeSpec) : _root_.Go.OpenSpec := { _root_.Go.OpenSpec.ofChange s with cond := some uptoSmall }

/-- 'descantlaw06.RiceCosts', WHERE WHAT IT READS IS OF BULK AT MOST 1048576: true; the input reads as it did. -/
def riceCostsUptoRow : OpenClaim := { program := "ytgjiffpiffphfaa", sum := "1a35163da9ad9da13f451a675b82cbba38b6a01d123c8343644d5fb5747d8468", func := "descant/descantlaw06.RiceCosts", spec := "riceCosts", unfollowed := true, recurses := true, apart := false, narrowed := true }
def RiceCostsUptoSaid : Prop := riceCostsUptoRow.holds Try.pinned (OpenSpec.upto riceCostsSpec)

/-- 'descantlaw06.RicePuts', WHERE WHAT IT READS IS OF BULK AT MOST 1048576: true; the input reads as it did. -/
def ricePutsUptoRow : OpenClaim := { program := "ytgjiffpiffphfaa", sum := "1a35163da9ad9da13f451a675b82cbba38b6a01d123c8343644d5fb5747d8468", func := "descant/descantlaw06.RicePuts", spec := "ricePuts", unfollowed := true, recurses := true, apart := false, narrowed := true }
def RicePutsUptoSaid : Prop := ricePutsUptoRow.holds Try.pinned (OpenSpec.upto ricePutsSpec)

/-- 'descantlaw06.RiceBest', WHERE WHAT IT READS IS OF BULK AT MOST 1048576: true; the input reads as it did. -/
def riceBestUptoRow : OpenClaim := { program := "ytgjiffpiffphfaa", sum := "1a35163da9ad9da13f451a675b82cbba38b6a01d123c8343644d5fb5747d8468", func := "descant/descantlaw06.RiceBest", spec := "riceBest", unfollowed := true, recurses := true, apart := false, narrowed := true }
def RiceBestUptoSaid : Prop := riceBestUptoRow.holds Try.pinned (OpenSpec.upto riceBestSpec)

/-- 'descantlaw08.EvenOnes', WHERE WHAT IT READS IS OF BULK AT MOST 1048576: true; the input reads as it did. -/
def evenOnesUptoRow : OpenClaim := { program := "ytgjiffpiffphfaa", sum := "1a35163da9ad9da13f451a675b82cbba38b6a01d123c8343644d5fb5747d8468", func := "descant/descantlaw08.EvenOnes", spec := "evenOnes", unfollowed := true, recurses := true, apart := false, narrowed := true }
def EvenOnesUptoSaid : Prop := evenOnesUptoRow.holds Try.pinned (OpenSpec.upto evenOnesSpec)

/-- 'descantlaw08.EvenCentres', WHERE WHAT IT READS IS OF BULK AT MOST 1048576: true; the input reads as it did. -/
def evenCentresUptoRow : OpenClaim := { program := "ytgjiffpiffphfaa", sum := "1a35163da9ad9da13f451a675b82cbba38b6a01d123c8343644d5fb5747d8468", func := "descant/descantlaw08.EvenCentres", spec := "evenCentres", unfollowed := true, recurses := true, apart := false, narrowed := true }
def EvenCentresUptoSaid : Prop := evenCentresUptoRow.holds Try.pinned (OpenSpec.upto evenCentresSpec)

/-- 'descantlaw08.EvenNil', WHERE WHAT IT READS IS OF BULK AT MOST 1048576: true; the input reads as it did. -/
def evenNilUptoRow : OpenClaim := { program := "ytgjiffpiffphfaa", sum := "1a35163da9ad9da13f451a675b82cbba38b6a01d123c8343644d5fb5747d8468", func := "descant/descantlaw08.EvenNil", spec := "evenNil", unfollowed := true, recurses := true, apart := false, narrowed := true }
def EvenNilUptoSaid : Prop := evenNilUptoRow.holds Try.pinned (OpenSpec.upto evenNilSpec)

/-- 'descantlaw08.EvenPuts', WHERE WHAT IT READS IS OF BULK AT MOST 1048576: true; the input reads as it did. -/
def evenPutsUptoRow : OpenClaim := { program := "ytgjiffpiffphfaa", sum := "1a35163da9ad9da13f451a675b82cbba38b6a01d123c8343644d5fb5747d8468", func := "descant/descantlaw08.EvenPuts", spec := "evenPuts", unfollowed := true, recurses := true, apart := false, narrowed := true }
def EvenPutsUptoSaid : Prop := evenPutsUptoRow.holds Try.pinned (OpenSpec.upto evenPutsSpec)

/-- 'descantlaw08.EvenGets', WHERE WHAT IT READS IS OF BULK AT MOST 1048576: true; the input reads as it did. -/
def evenGetsUptoRow : OpenClaim := { program := "ytgjiffpiffphfaa", sum := "1a35163da9ad9da13f451a675b82cbba38b6a01d123c8343644d5fb5747d8468", func := "descant/descantlaw08.EvenGets", spec := "evenGets", unfollowed := true, recurses := true, apart := false, narrowed := true }
def EvenGetsUptoSaid : Prop := evenGetsUptoRow.holds Try.pinned (OpenSpec.upto evenGetsSpec)

/-- 'descantlaw08.EvenBack', WHERE WHAT IT READS IS OF BULK AT MOST 1048576: true; the input reads as it did. -/
def evenBackUptoRow : OpenClaim := { program := "ytgjiffpiffphfaa", sum := "1a35163da9ad9da13f451a675b82cbba38b6a01d123c8343644d5fb5747d8468", func := "descant/descantlaw08.EvenBack", spec := "evenBack", unfollowed := true, recurses := true, apart := false, narrowed := true }
def EvenBackUptoSaid : Prop := evenBackUptoRow.holds Try.pinned (OpenSpec.upto evenBackSpec)

/-- 'descantlaw06.RiceGets', WHERE WHAT IT READS IS OF BULK AT MOST 1048576: true; the input reads as it did. -/
def riceGetsUptoRow : OpenClaim := { program := "ytgjiffpiffphfaa", sum := "1a35163da9ad9da13f451a675b82cbba38b6a01d123c8343644d5fb5747d8468", func := "descant/descantlaw06.RiceGets", spec := "riceGets", apart := false, narrowed := true }
def RiceGetsUptoSaid : Prop := riceGetsUptoRow.holds Try.pinned (OpenSpec.upto riceGetsSpec)

/-- 'descantlaw06.RiceNil', WHERE WHAT IT READS IS OF BULK AT MOST 1048576: true; the input reads as it did. -/
def riceNilUptoRow : OpenClaim := { program := "ytgjiffpiffphfaa", sum := "1a35163da9ad9da13f451a675b82cbba38b6a01d123c8343644d5fb5747d8468", func := "descant/descantlaw06.RiceNil", spec := "riceNil", unfollowed := true, recurses := true, apart := false, narrowed := true }
def RiceNilUptoSaid : Prop := riceNilUptoRow.holds Try.pinned (OpenSpec.upto riceNilSpec)

/-- 'descantlaw06.RiceBack', WHERE WHAT IT READS IS OF BULK AT MOST 1048576: true; the input reads as it did. -/
def riceBackUptoRow : OpenClaim := { program := "ytgjiffpiffphfaa", sum := "1a35163da9ad9da13f451a675b82cbba38b6a01d123c8343644d5fb5747d8468", func := "descant/descantlaw06.RiceBack", spec := "riceBack", unfollowed := true, recurses := true, apart := false, narrowed := true }
def RiceBackUptoSaid : Prop := riceBackUptoRow.holds Try.pinned (OpenSpec.upto riceBackSpec)

end Rows
end Go.Proofs.Ytgjiffpiffphfaa

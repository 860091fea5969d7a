/-
  No cell of these rows narrows 'for every input' (looked for: loops, veiled, ifaces, maps, wideKeys, modest, calm, conditions, laid).
  DERIVED. THE GIVEN ROWS OF THIS SEAT. 15 by the template 'for every input the law returns true; each argument reads behind the call as it read before'; 0 by the template 'total and deterministic' (their statements: YtjboboaccjbebaaTotals.lean).
  GIVEN WITH THE SEED: the statements are not yours to turn. If you find one false, say at which input.
  Laid BY PROGRAM, IN A SANDBOX (cutbox-rows.mjs): the forced cells as the released guide's own fill.sh prints them over the translation 59af09e7184864e1… (all of the seat's roots in one cut). By AI agents, Wed Nov 11 2026. No macro, syntax, notation, axiom, sorry.
-/
import Derived.Test.YtjboboaccjbebaaChecked
import GoSem.Claim
import GoSem.ClaimJoined
import GoSem.ClaimMapViews
import Derived.JoinedTies
import Derived.KernelRfl
namespace Go.Proofs.Ytjboboaccjbebaa
/- THE CELL 'sum', in the pinned program and in every row, IS THE sha256 OF THE DUMP (.gsa) THAT YtjboboaccjbebaaProg.lean LOADS. Nothing in Lean hashes anything: it is a label: what it is worth is what the hold of that sum in a sandbox is worth. -/
noncomputable def Try.pinned : Pinned := { name := "ytjboboaccjbebaa", sum := "59af09e7184864e1ae8a2c809699b001f692ad144a93c7c6111de5b20fa57bf6", checked := Try.checked }
namespace Rows
def none {H : Type} : Left H := { results := [], args := [] }

/-- 'descantlaw07.RunsPuts': WHATEVER THE INPUT: true; the input reads as it did. -/
def runsPutsSpec : ChangeSpec := { name := "runsPuts", fn := fun _ => fun
  | [d1, d2] => { results := [.lit (.bool true)], args := [d1, d2] }
  | _ => none }
def runsPutsRow : OpenClaim := { program := "ytjboboaccjbebaa", sum := "59af09e7184864e1ae8a2c809699b001f692ad144a93c7c6111de5b20fa57bf6", func := "descant/descantlaw07.RunsPuts", spec := "runsPuts", unfollowed := true, recurses := true, apart := false }
def RunsPutsSaid : Prop := runsPutsRow.holds Try.pinned (OpenSpec.ofChange runsPutsSpec)

/-- ITS FALSE NEIGHBOUR: 'it returns false'. Refute it at one input. -/
def runsPutsWrong : ChangeSpec := { name := "runsPuts", fn := fun _ => fun
  | [d1, d2] => { results := [.lit (.bool false)], args := [d1, d2] }
  | _ => none }
def RunsPutsWrongFalsely : Prop := runsPutsRow.holds Try.pinned (OpenSpec.ofChange runsPutsWrong)

/-- 'descantlaw07.RunsCosts': WHATEVER THE INPUT: true; the input reads as it did. -/
def runsCostsSpec : ChangeSpec := { name := "runsCosts", fn := fun _ => fun
  | [d1, d2] => { results := [.lit (.bool true)], args := [d1, d2] }
  | _ => none }
def runsCostsRow : OpenClaim := { program := "ytjboboaccjbebaa", sum := "59af09e7184864e1ae8a2c809699b001f692ad144a93c7c6111de5b20fa57bf6", func := "descant/descantlaw07.RunsCosts", spec := "runsCosts", unfollowed := true, recurses := true, apart := false }
def RunsCostsSaid : Prop := runsCostsRow.holds Try.pinned (OpenSpec.ofChange runsCostsSpec)

/-- ITS FALSE NEIGHBOUR: 'it returns false'. Refute it at one input. -/
def runsCostsWrong : ChangeSpec := { name := "runsCosts", fn := fun _ => fun
  | [d1, d2] => { results := [.lit (.bool false)], args := [d1, d2] }
  | _ => none }
def RunsCostsWrongFalsely : Prop := runsCostsRow.holds Try.pinned (OpenSpec.ofChange runsCostsWrong)

/-- 'descantlaw07.RunsCounts': WHATEVER THE INPUT: true; the input reads as it did. -/
def runsCountsSpec : ChangeSpec := { name := "runsCounts", fn := fun _ => fun
  | [d1, d2] => { results := [.lit (.bool true)], args := [d1, d2] }
  | _ => none }
def runsCountsRow : OpenClaim := { program := "ytjboboaccjbebaa", sum := "59af09e7184864e1ae8a2c809699b001f692ad144a93c7c6111de5b20fa57bf6", func := "descant/descantlaw07.RunsCounts", spec := "runsCounts", unfollowed := true, recurses := true, apart := false }
def RunsCountsSaid : Prop := runsCountsRow.holds Try.pinned (OpenSpec.ofChange runsCountsSpec)

/-- ITS FALSE NEIGHBOUR: 'it returns false'. Refute it at one input. -/
def runsCountsWrong : ChangeSpec := { name := "runsCounts", fn := fun _ => fun
  | [d1, d2] => { results := [.lit (.bool false)], args := [d1, d2] }
  | _ => none }
def RunsCountsWrongFalsely : Prop := runsCountsRow.holds Try.pinned (OpenSpec.ofChange runsCountsWrong)

/-- 'descantlaw07.RunsGammas': WHATEVER THE INPUT: true; the input reads as it did. -/
def runsGammasSpec : ChangeSpec := { name := "runsGammas", fn := fun _ => fun
  | [d] => { results := [.lit (.bool true)], args := [d] }
  | _ => none }
def runsGammasRow : OpenClaim := { program := "ytjboboaccjbebaa", sum := "59af09e7184864e1ae8a2c809699b001f692ad144a93c7c6111de5b20fa57bf6", func := "descant/descantlaw07.RunsGammas", spec := "runsGammas", unfollowed := true, recurses := true, apart := false }
def RunsGammasSaid : Prop := runsGammasRow.holds Try.pinned (OpenSpec.ofChange runsGammasSpec)

/-- ITS FALSE NEIGHBOUR: 'it returns false'. Refute it at one input. -/
def runsGammasWrong : ChangeSpec := { name := "runsGammas", fn := fun _ => fun
  | [d] => { results := [.lit (.bool false)], args := [d] }
  | _ => none }
def RunsGammasWrongFalsely : Prop := runsGammasRow.holds Try.pinned (OpenSpec.ofChange runsGammasWrong)

/-- 'descantlaw07.RunsNil': WHATEVER THE INPUT: true; the input reads as it did. -/
def runsNilSpec : ChangeSpec := { name := "runsNil", fn := fun _ => fun
  | [d1, d2, d3, d4] => { results := [.lit (.bool true)], args := [d1, d2, d3, d4] }
  | _ => none }
def runsNilRow : OpenClaim := { program := "ytjboboaccjbebaa", sum := "59af09e7184864e1ae8a2c809699b001f692ad144a93c7c6111de5b20fa57bf6", func := "descant/descantlaw07.RunsNil", spec := "runsNil", unfollowed := true, recurses := true, apart := false }
def RunsNilSaid : Prop := runsNilRow.holds Try.pinned (OpenSpec.ofChange runsNilSpec)

/-- ITS FALSE NEIGHBOUR: 'it returns false'. Refute it at one input. -/
def runsNilWrong : ChangeSpec := { name := "runsNil", fn := fun _ => fun
  | [d1, d2, d3, d4] => { results := [.lit (.bool false)], args := [d1, d2, d3, d4] }
  | _ => none }
def RunsNilWrongFalsely : Prop := runsNilRow.holds Try.pinned (OpenSpec.ofChange runsNilWrong)

/-- 'descantlaw07.RunsGets': WHATEVER THE INPUT: true; the input reads as it did. -/
def runsGetsSpec : ChangeSpec := { name := "runsGets", fn := fun _ => fun
  | [d1, d2, d3] => { results := [.lit (.bool true)], args := [d1, d2, d3] }
  | _ => none }
def runsGetsRow : OpenClaim := { program := "ytjboboaccjbebaa", sum := "59af09e7184864e1ae8a2c809699b001f692ad144a93c7c6111de5b20fa57bf6", func := "descant/descantlaw07.RunsGets", spec := "runsGets", unfollowed := true, recurses := true, apart := false }
def RunsGetsSaid : Prop := runsGetsRow.holds Try.pinned (OpenSpec.ofChange runsGetsSpec)

/-- ITS FALSE NEIGHBOUR: 'it returns false'. Refute it at one input. -/
def runsGetsWrong : ChangeSpec := { name := "runsGets", fn := fun _ => fun
  | [d1, d2, d3] => { results := [.lit (.bool false)], args := [d1, d2, d3] }
  | _ => none }
def RunsGetsWrongFalsely : Prop := runsGetsRow.holds Try.pinned (OpenSpec.ofChange runsGetsWrong)

/-- 'descantlaw07.RunsBack': WHATEVER THE INPUT: true; the input reads as it did. -/
def runsBackSpec : ChangeSpec := { name := "runsBack", fn := fun _ => fun
  | [d1, d2] => { results := [.lit (.bool true)], args := [d1, d2] }
  | _ => none }
def runsBackRow : OpenClaim := { program := "ytjboboaccjbebaa", sum := "59af09e7184864e1ae8a2c809699b001f692ad144a93c7c6111de5b20fa57bf6", func := "descant/descantlaw07.RunsBack", spec := "runsBack", unfollowed := true, recurses := true, apart := false }
def RunsBackSaid : Prop := runsBackRow.holds Try.pinned (OpenSpec.ofChange runsBackSpec)

/-- ITS FALSE NEIGHBOUR: 'it returns false'. Refute it at one input. -/
def runsBackWrong : ChangeSpec := { name := "runsBack", fn := fun _ => fun
  | [d1, d2] => { results := [.lit (.bool false)], args := [d1, d2] }
  | _ => none }
def RunsBackWrongFalsely : Prop := runsBackRow.holds Try.pinned (OpenSpec.ofChange runsBackWrong)

/-- 'descantlaw09.PartChooses': WHATEVER THE INPUT: true; the input reads as it did. -/
def partChoosesSpec : ChangeSpec := { name := "partChooses", fn := fun _ => fun
  | [d] => { results := [.lit (.bool true)], args := [d] }
  | _ => none }
def partChoosesRow : OpenClaim := { program := "ytjboboaccjbebaa", sum := "59af09e7184864e1ae8a2c809699b001f692ad144a93c7c6111de5b20fa57bf6", func := "descant/descantlaw09.PartChooses", spec := "partChooses", unfollowed := true, recurses := true, apart := false }
def PartChoosesSaid : Prop := partChoosesRow.holds Try.pinned (OpenSpec.ofChange partChoosesSpec)

/-- ITS FALSE NEIGHBOUR: 'it returns false'. Refute it at one input. -/
def partChoosesWrong : ChangeSpec := { name := "partChooses", fn := fun _ => fun
  | [d] => { results := [.lit (.bool false)], args := [d] }
  | _ => none }
def PartChoosesWrongFalsely : Prop := partChoosesRow.holds Try.pinned (OpenSpec.ofChange partChoosesWrong)

/-- 'descantlaw09.PartPuts': WHATEVER THE INPUT: true; the input reads as it did. -/
def partPutsSpec : ChangeSpec := { name := "partPuts", fn := fun _ => fun
  | [d1, d2] => { results := [.lit (.bool true)], args := [d1, d2] }
  | _ => none }
def partPutsRow : OpenClaim := { program := "ytjboboaccjbebaa", sum := "59af09e7184864e1ae8a2c809699b001f692ad144a93c7c6111de5b20fa57bf6", func := "descant/descantlaw09.PartPuts", spec := "partPuts", unfollowed := true, recurses := true, apart := false }
def PartPutsSaid : Prop := partPutsRow.holds Try.pinned (OpenSpec.ofChange partPutsSpec)

/-- ITS FALSE NEIGHBOUR: 'it returns false'. Refute it at one input. -/
def partPutsWrong : ChangeSpec := { name := "partPuts", fn := fun _ => fun
  | [d1, d2] => { results := [.lit (.bool false)], args := [d1, d2] }
  | _ => none }
def PartPutsWrongFalsely : Prop := partPutsRow.holds Try.pinned (OpenSpec.ofChange partPutsWrong)

/-- 'descantlaw09.PartBounds': WHATEVER THE INPUT: true; the input reads as it did. -/
def partBoundsSpec : ChangeSpec := { name := "partBounds", fn := fun _ => fun
  | [d1, d2, d3] => { results := [.lit (.bool true)], args := [d1, d2, d3] }
  | _ => none }
def partBoundsRow : OpenClaim := { program := "ytjboboaccjbebaa", sum := "59af09e7184864e1ae8a2c809699b001f692ad144a93c7c6111de5b20fa57bf6", func := "descant/descantlaw09.PartBounds", spec := "partBounds", unfollowed := true, recurses := true, apart := false }
def PartBoundsSaid : Prop := partBoundsRow.holds Try.pinned (OpenSpec.ofChange partBoundsSpec)

/-- ITS FALSE NEIGHBOUR: 'it returns false'. Refute it at one input. -/
def partBoundsWrong : ChangeSpec := { name := "partBounds", fn := fun _ => fun
  | [d1, d2, d3] => { results := [.lit (.bool false)], args := [d1, d2, d3] }
  | _ => none }
def PartBoundsWrongFalsely : Prop := partBoundsRow.holds Try.pinned (OpenSpec.ofChange partBoundsWrong)

/-- 'descantlaw09.PartCosts': WHATEVER THE INPUT: true; the input reads as it did. -/
def partCostsSpec : ChangeSpec := { name := "partCosts", fn := fun _ => fun
  | [d1, d2] => { results := [.lit (.bool true)], args := [d1, d2] }
  | _ => none }
def partCostsRow : OpenClaim := { program := "ytjboboaccjbebaa", sum := "59af09e7184864e1ae8a2c809699b001f692ad144a93c7c6111de5b20fa57bf6", func := "descant/descantlaw09.PartCosts", spec := "partCosts", unfollowed := true, recurses := true, apart := false }
def PartCostsSaid : Prop := partCostsRow.holds Try.pinned (OpenSpec.ofChange partCostsSpec)

/-- ITS FALSE NEIGHBOUR: 'it returns false'. Refute it at one input. -/
def partCostsWrong : ChangeSpec := { name := "partCosts", fn := fun _ => fun
  | [d1, d2] => { results := [.lit (.bool false)], args := [d1, d2] }
  | _ => none }
def PartCostsWrongFalsely : Prop := partCostsRow.holds Try.pinned (OpenSpec.ofChange partCostsWrong)

/-- 'descantlaw09.PartNil': WHATEVER THE INPUT: true; the input reads as it did. -/
def partNilSpec : ChangeSpec := { name := "partNil", fn := fun _ => fun
  | [d1, d2, d3] => { results := [.lit (.bool true)], args := [d1, d2, d3] }
  | _ => none }
def partNilRow : OpenClaim := { program := "ytjboboaccjbebaa", sum := "59af09e7184864e1ae8a2c809699b001f692ad144a93c7c6111de5b20fa57bf6", func := "descant/descantlaw09.PartNil", spec := "partNil", unfollowed := true, recurses := true, apart := false }
def PartNilSaid : Prop := partNilRow.holds Try.pinned (OpenSpec.ofChange partNilSpec)

/-- ITS FALSE NEIGHBOUR: 'it returns false'. Refute it at one input. -/
def partNilWrong : ChangeSpec := { name := "partNil", fn := fun _ => fun
  | [d1, d2, d3] => { results := [.lit (.bool false)], args := [d1, d2, d3] }
  | _ => none }
def PartNilWrongFalsely : Prop := partNilRow.holds Try.pinned (OpenSpec.ofChange partNilWrong)

/-- 'descantlaw09.PartBack': WHATEVER THE INPUT: true; the input reads as it did. -/
def partBackSpec : ChangeSpec := { name := "partBack", fn := fun _ => fun
  | [d1, d2] => { results := [.lit (.bool true)], args := [d1, d2] }
  | _ => none }
def partBackRow : OpenClaim := { program := "ytjboboaccjbebaa", sum := "59af09e7184864e1ae8a2c809699b001f692ad144a93c7c6111de5b20fa57bf6", func := "descant/descantlaw09.PartBack", spec := "partBack", unfollowed := true, recurses := true, apart := false }
def PartBackSaid : Prop := partBackRow.holds Try.pinned (OpenSpec.ofChange partBackSpec)

/-- ITS FALSE NEIGHBOUR: 'it returns false'. Refute it at one input. -/
def partBackWrong : ChangeSpec := { name := "partBack", fn := fun _ => fun
  | [d1, d2] => { results := [.lit (.bool false)], args := [d1, d2] }
  | _ => none }
def PartBackWrongFalsely : Prop := partBackRow.holds Try.pinned (OpenSpec.ofChange partBackWrong)

/-- 'descantlaw21.CorrBounds': WHATEVER THE INPUT: true; the input reads as it did. -/
def corrBoundsSpec : ChangeSpec := { name := "corrBounds", fn := fun _ => fun
  | [d] => { results := [.lit (.bool true)], args := [d] }
  | _ => none }
def corrBoundsRow : OpenClaim := { program := "ytjboboaccjbebaa", sum := "59af09e7184864e1ae8a2c809699b001f692ad144a93c7c6111de5b20fa57bf6", func := "descant/descantlaw21.CorrBounds", spec := "corrBounds", unfollowed := true, recurses := true, apart := false }
def CorrBoundsSaid : Prop := corrBoundsRow.holds Try.pinned (OpenSpec.ofChange corrBoundsSpec)

/-- ITS FALSE NEIGHBOUR: 'it returns false'. Refute it at one input. -/
def corrBoundsWrong : ChangeSpec := { name := "corrBounds", fn := fun _ => fun
  | [d] => { results := [.lit (.bool false)], args := [d] }
  | _ => none }
def CorrBoundsWrongFalsely : Prop := corrBoundsRow.holds Try.pinned (OpenSpec.ofChange corrBoundsWrong)

/-- 'descantlaw21.CorrNil': WHATEVER THE INPUT: true; the input reads as it did. -/
def corrNilSpec : ChangeSpec := { name := "corrNil", fn := fun _ => fun
  | [d1, d2, d3] => { results := [.lit (.bool true)], args := [d1, d2, d3] }
  | _ => none }
def corrNilRow : OpenClaim := { program := "ytjboboaccjbebaa", sum := "59af09e7184864e1ae8a2c809699b001f692ad144a93c7c6111de5b20fa57bf6", func := "descant/descantlaw21.CorrNil", spec := "corrNil", unfollowed := true, recurses := true, apart := false }
def CorrNilSaid : Prop := corrNilRow.holds Try.pinned (OpenSpec.ofChange corrNilSpec)

/-- ITS FALSE NEIGHBOUR: 'it returns false'. Refute it at one input. -/
def corrNilWrong : ChangeSpec := { name := "corrNil", fn := fun _ => fun
  | [d1, d2, d3] => { results := [.lit (.bool false)], args := [d1, d2, d3] }
  | _ => none }
def CorrNilWrongFalsely : Prop := corrNilRow.holds Try.pinned (OpenSpec.ofChange corrNilWrong)

/- THE SECOND FORM. 'bulk': how many values and letters a reading holds, each counted each time it is reached (what is shared counts as often as it is met; a slice's spare places count too). A statement '..UptoSaid' is the law's where the arguments, and the package variables that the reading takes, are together of bulk at most 1048576: NARROWER than '..Said'. Prove '..Said' where nothing that the law and all that it calls make is longer than what came in: it says more and counts as full. Else prove '..UptoSaid'. A law counts once. -/
mutual
def uptoBulk {H : Type} : DataW H → Nat
  | .lit (.string bytes) => bytes.length + 1
  | .lit _ => 1
  | .nil => 1
  | .ptr d => uptoBulk d + 1
  | .slice elems spare => uptoBulkAll elems + uptoBulkAll spare + 1
  | .agg parts => uptoBulkAll parts + 1
  | .iface _ d => uptoBulk d + 1
  | .map entries => uptoBulkEntries entries + 1
  | .held _ => 1
def uptoBulkAll {H : Type} : List (DataW H) → Nat
  | [] => 0
  | d :: r => uptoBulk d + uptoBulkAll r
def uptoBulkEntries {H : Type} : List (Lit × DataW H) → Nat
  | [] => 0
  | x :: r => uptoBulkEntry x + uptoBulkEntries r
def uptoBulkEntry {H : Type} : Lit × DataW H → Nat
  | (.string bytes, d) => bytes.length + uptoBulk d + 1
  | (_, d) => uptoBulk d + 1
 end
def uptoSmall : (H : Type) → List (DataW H) → Bool := fun _ ds => decide (uptoBulkAll ds ≤ 1048576)
def OpenSpec.upto (s : _root_.Go.ChangeSpec) : _root_.Go.OpenSpec := { _root_.Go.OpenSpec.ofChange s with cond := some uptoSmall }

/-- 'descantlaw07.RunsPuts', WHERE WHAT IT READS IS OF BULK AT MOST 1048576: true; the input reads as it did. -/
def runsPutsUptoRow : OpenClaim := { program := "ytjboboaccjbebaa", sum := "59af09e7184864e1ae8a2c809699b001f692ad144a93c7c6111de5b20fa57bf6", func := "descant/descantlaw07.RunsPuts", spec := "runsPuts", unfollowed := true, recurses := true, apart := false, narrowed := true }
def RunsPutsUptoSaid : Prop := runsPutsUptoRow.holds Try.pinned (OpenSpec.upto runsPutsSpec)

/-- 'descantlaw07.RunsCosts', WHERE WHAT IT READS IS OF BULK AT MOST 1048576: true; the input reads as it did. -/
def runsCostsUptoRow : OpenClaim := { program := "ytjboboaccjbebaa", sum := "59af09e7184864e1ae8a2c809699b001f692ad144a93c7c6111de5b20fa57bf6", func := "descant/descantlaw07.RunsCosts", spec := "runsCosts", unfollowed := true, recurses := true, apart := false, narrowed := true }
def RunsCostsUptoSaid : Prop := runsCostsUptoRow.holds Try.pinned (OpenSpec.upto runsCostsSpec)

/-- 'descantlaw07.RunsCounts', WHERE WHAT IT READS IS OF BULK AT MOST 1048576: true; the input reads as it did. -/
def runsCountsUptoRow : OpenClaim := { program := "ytjboboaccjbebaa", sum := "59af09e7184864e1ae8a2c809699b001f692ad144a93c7c6111de5b20fa57bf6", func := "descant/descantlaw07.RunsCounts", spec := "runsCounts", unfollowed := true, recurses := true, apart := false, narrowed := true }
def RunsCountsUptoSaid : Prop := runsCountsUptoRow.holds Try.pinned (OpenSpec.upto runsCountsSpec)

/-- 'descantlaw07.RunsGammas', WHERE WHAT IT READS IS OF BULK AT MOST 1048576: true; the input reads as it did. -/
def runsGammasUptoRow : OpenClaim := { program := "ytjboboaccjbebaa", sum := "59af09e7184864e1ae8a2c809699b001f692ad144a93c7c6111de5b20fa57bf6", func := "descant/descantlaw07.RunsGammas", spec := "runsGammas", unfollowed := true, recurses := true, apart := false, narrowed := true }
def RunsGammasUptoSaid : Prop := runsGammasUptoRow.holds Try.pinned (OpenSpec.upto runsGammasSpec)

/-- 'descantlaw07.RunsNil', WHERE WHAT IT READS IS OF BULK AT MOST 1048576: true; the input reads as it did. -/
def runsNilUptoRow : OpenClaim := { program := "ytjboboaccjbebaa", sum := "59af09e7184864e1ae8a2c809699b001f692ad144a93c7c6111de5b20fa57bf6", func := "descant/descantlaw07.RunsNil", spec := "runsNil", unfollowed := true, recurses := true, apart := false, narrowed := true }
def RunsNilUptoSaid : Prop := runsNilUptoRow.holds Try.pinned (OpenSpec.upto runsNilSpec)

/-- 'descantlaw07.RunsGets', WHERE WHAT IT READS IS OF BULK AT MOST 1048576: true; the input reads as it did. -/
def runsGetsUptoRow : OpenClaim := { program := "ytjboboaccjbebaa", sum := "59af09e7184864e1ae8a2c809699b001f692ad144a93c7c6111de5b20fa57bf6", func := "descant/descantlaw07.RunsGets", spec := "runsGets", unfollowed := true, recurses := true, apart := false, narrowed := true }
def RunsGetsUptoSaid : Prop := runsGetsUptoRow.holds Try.pinned (OpenSpec.upto runsGetsSpec)

/-- 'descantlaw07.RunsBack', WHERE WHAT IT READS IS OF BULK AT MOST 1048576: true; the input reads as it did. -/
def runsBackUptoRow : OpenClaim := { program := "ytjboboaccjbebaa", sum := "59af09e7184864e1ae8a2c809699b001f692ad144a93c7c6111de5b20fa57bf6", func := "descant/descantlaw07.RunsBack", spec := "runsBack", unfollowed := true, recurses := true, apart := false, narrowed := true }
def RunsBackUptoSaid : Prop := runsBackUptoRow.holds Try.pinned (OpenSpec.upto runsBackSpec)

/-- 'descantlaw09.PartChooses', WHERE WHAT IT READS IS OF BULK AT MOST 1048576: true; the input reads as it did. -/
def partChoosesUptoRow : OpenClaim := { program := "ytjboboaccjbebaa", sum := "59af09e7184864e1ae8a2c809699b001f692ad144a93c7c6111de5b20fa57bf6", func := "descant/descantlaw09.PartChooses", spec := "partChooses", unfollowed := true, recurses := true, apart := false, narrowed := true }
def PartChoosesUptoSaid : Prop := partChoosesUptoRow.holds Try.pinned (OpenSpec.upto partChoosesSpec)

/-- 'descantlaw09.PartPuts', WHERE WHAT IT READS IS OF BULK AT MOST 1048576: true; the input reads as it did. -/
def partPutsUptoRow : OpenClaim := { program := "ytjboboaccjbebaa", sum := "59af09e7184864e1ae8a2c809699b001f692ad144a93c7c6111de5b20fa57bf6", func := "descant/descantlaw09.PartPuts", spec := "partPuts", unfollowed := true, recurses := true, apart := false, narrowed := true }
def PartPutsUptoSaid : Prop := partPutsUptoRow.holds Try.pinned (OpenSpec.upto partPutsSpec)

/-- 'descantlaw09.PartBounds', WHERE WHAT IT READS IS OF BULK AT MOST 1048576: true; the input reads as it did. -/
def partBoundsUptoRow : OpenClaim := { program := "ytjboboaccjbebaa", sum := "59af09e7184864e1ae8a2c809699b001f692ad144a93c7c6111de5b20fa57bf6", func := "descant/descantlaw09.PartBounds", spec := "partBounds", unfollowed := true, recurses := true, apart := false, narrowed := true }
def PartBoundsUptoSaid : Prop := partBoundsUptoRow.holds Try.pinned (OpenSpec.upto partBoundsSpec)

/-- 'descantlaw09.PartCosts', WHERE WHAT IT READS IS OF BULK AT MOST 1048576: true; the input reads as it did. -/
def partCostsUptoRow : OpenClaim := { program := "ytjboboaccjbebaa", sum := "59af09e7184864e1ae8a2c809699b001f692ad144a93c7c6111de5b20fa57bf6", func := "descant/descantlaw09.PartCosts", spec := "partCosts", unfollowed := true, recurses := true, apart := false, narrowed := true }
def PartCostsUptoSaid : Prop := partCostsUptoRow.holds Try.pinned (OpenSpec.upto partCostsSpec)

/-- 'descantlaw09.PartNil', WHERE WHAT IT READS IS OF BULK AT MOST 1048576: true; the input reads as it did. -/
def partNilUptoRow : OpenClaim := { program := "ytjboboaccjbebaa", sum := "59af09e7184864e1ae8a2c809699b001f692ad144a93c7c6111de5b20fa57bf6", func := "descant/descantlaw09.PartNil", spec := "partNil", unfollowed := true, recurses := true, apart := false, narrowed := true }
def PartNilUptoSaid : Prop := partNilUptoRow.holds Try.pinned (OpenSpec.upto partNilSpec)

/-- 'descantlaw09.PartBack', WHERE WHAT IT READS IS OF BULK AT MOST 1048576: true; the input reads as it did. -/
def partBackUptoRow : OpenClaim := { program := "ytjboboaccjbebaa", sum := "59af09e7184864e1ae8a2c809699b001f692ad144a93c7c6111de5b20fa57bf6", func := "descant/descantlaw09.PartBack", spec := "partBack", unfollowed := true, recurses := true, apart := false, narrowed := true }
def PartBackUptoSaid : Prop := partBackUptoRow.holds Try.pinned (OpenSpec.upto partBackSpec)

/-- 'descantlaw21.CorrBounds', WHERE WHAT IT READS IS OF BULK AT MOST 1048576: true; the input reads as it did. -/
def corrBoundsUptoRow : OpenClaim := { program := "ytjboboaccjbebaa", sum := "59af09e7184864e1ae8a2c809699b001f692ad144a93c7c6111de5b20fa57bf6", func := "descant/descantlaw21.CorrBounds", spec := "corrBounds", unfollowed := true, recurses := true, apart := false, narrowed := true }
def CorrBoundsUptoSaid : Prop := corrBoundsUptoRow.holds Try.pinned (OpenSpec.upto corrBoundsSpec)

/-- 'descantlaw21.CorrNil', WHERE WHAT IT READS IS OF BULK AT MOST 1048576: true; the input reads as it did. -/
def corrNilUptoRow : OpenClaim := { program := "ytjboboaccjbebaa", sum := "59af09e7184864e1ae8a2c809699b001f692ad144a93c7c6111de5b20fa57bf6", func := "descant/descantlaw21.CorrNil", spec := "corrNil", unfollowed := true, recurses := true, apart := false, narrowed := true }
def CorrNilUptoSaid : Prop := corrNilUptoRow.holds Try.pinned (OpenSpec.upto corrNilSpec)

end Rows
end Go.Proofs.Ytjboboaccjbebaa

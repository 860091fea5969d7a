/-
  No cell of these rows narrows 'for every input' (looked for: loops, veiled, ifaces, maps, wideKeys, modest, calm, conditions, laid).
  DERIVED. THE GIVEN ROWS OF THIS SEAT. 11 by the template 'for every input the law returns true; each argument reads behind the call as it read before'; 0 by the template 'total and deterministic' (their statements: YtfbccmogiafgfaaTotals.lean).
  GIVEN WITH THE SEED: the statements are not yours to turn. If you find one false, say at which input.
  Laid BY PROGRAM, IN A SANDBOX (cutbox-rows.mjs): the forced cells as the released guide's own fill.sh prints them over the translation cd1b7669d9949731… (all of the seat's roots in one cut). By AI agents, Wed Nov 11 2026. No macro, syntax, notation, axiom, sorry.
-/
import Derived.Test.YtfbccmogiafgfaaChecked
import GoSem.Claim
import GoSem.ClaimJoined
import GoSem.ClaimMapViews
import Derived.JoinedTies
import Derived.KernelRfl
namespace Go.Proofs.Ytfbccmogiafgfaa
/- THE CELL 'sum', in the pinned program and in every row, IS THE sha256 OF THE DUMP (.gsa) THAT YtfbccmogiafgfaaProg.lean LOADS. Nothing in Lean hashes anything: it is a label: what it is worth is what the hold of that sum in a sandbox is worth. -/
noncomputable def Try.pinned : Pinned := { name := "ytfbccmogiafgfaa", sum := "cd1b7669d9949731f81ca6c4df4beec07c85f3489c2d7f15bdb91a5d2d0ddf07", checked := Try.checked }
namespace Rows
def none {H : Type} : Left H := { results := [], args := [] }

/-- 'descantlaw12.CoefNears': WHATEVER THE INPUT: true; the input reads as it did. -/
def coefNearsSpec : ChangeSpec := { name := "coefNears", fn := fun _ => fun
  | [d1, d2] => { results := [.lit (.bool true)], args := [d1, d2] }
  | _ => none }
def coefNearsRow : OpenClaim := { program := "ytfbccmogiafgfaa", sum := "cd1b7669d9949731f81ca6c4df4beec07c85f3489c2d7f15bdb91a5d2d0ddf07", func := "descant/descantlaw12.CoefNears", spec := "coefNears", unfollowed := true, recurses := true, apart := false }
def CoefNearsSaid : Prop := coefNearsRow.holds Try.pinned (OpenSpec.ofChange coefNearsSpec)

/-- ITS FALSE NEIGHBOUR: 'it returns false'. Refute it at one input. -/
def coefNearsWrong : ChangeSpec := { name := "coefNears", fn := fun _ => fun
  | [d1, d2] => { results := [.lit (.bool false)], args := [d1, d2] }
  | _ => none }
def CoefNearsWrongFalsely : Prop := coefNearsRow.holds Try.pinned (OpenSpec.ofChange coefNearsWrong)

/-- 'descantlaw12.CoefQuants': WHATEVER THE INPUT: true; the input reads as it did. -/
def coefQuantsSpec : ChangeSpec := { name := "coefQuants", fn := fun _ => fun
  | [d1, d2] => { results := [.lit (.bool true)], args := [d1, d2] }
  | _ => none }
def coefQuantsRow : OpenClaim := { program := "ytfbccmogiafgfaa", sum := "cd1b7669d9949731f81ca6c4df4beec07c85f3489c2d7f15bdb91a5d2d0ddf07", func := "descant/descantlaw12.CoefQuants", spec := "coefQuants", unfollowed := true, recurses := true, apart := false }
def CoefQuantsSaid : Prop := coefQuantsRow.holds Try.pinned (OpenSpec.ofChange coefQuantsSpec)

/-- ITS FALSE NEIGHBOUR: 'it returns false'. Refute it at one input. -/
def coefQuantsWrong : ChangeSpec := { name := "coefQuants", fn := fun _ => fun
  | [d1, d2] => { results := [.lit (.bool false)], args := [d1, d2] }
  | _ => none }
def CoefQuantsWrongFalsely : Prop := coefQuantsRow.holds Try.pinned (OpenSpec.ofChange coefQuantsWrong)

/-- 'descantlaw02.BitioAdds': WHATEVER THE INPUT: true; the input reads as it did. -/
def bitioAddsSpec : ChangeSpec := { name := "bitioAdds", fn := fun _ => fun
  | [d1, d2] => { results := [.lit (.bool true)], args := [d1, d2] }
  | _ => none }
def bitioAddsRow : OpenClaim := { program := "ytfbccmogiafgfaa", sum := "cd1b7669d9949731f81ca6c4df4beec07c85f3489c2d7f15bdb91a5d2d0ddf07", func := "descant/descantlaw02.BitioAdds", spec := "bitioAdds", apart := false }
def BitioAddsSaid : Prop := bitioAddsRow.holds Try.pinned (OpenSpec.ofChange bitioAddsSpec)

/-- ITS FALSE NEIGHBOUR: 'it returns false'. Refute it at one input. -/
def bitioAddsWrong : ChangeSpec := { name := "bitioAdds", fn := fun _ => fun
  | [d1, d2] => { results := [.lit (.bool false)], args := [d1, d2] }
  | _ => none }
def BitioAddsWrongFalsely : Prop := bitioAddsRow.holds Try.pinned (OpenSpec.ofChange bitioAddsWrong)

/-- 'descantlaw02.BitioWrites': WHATEVER THE INPUT: true; the input reads as it did. -/
def bitioWritesSpec : ChangeSpec := { name := "bitioWrites", fn := fun _ => fun
  | [d] => { results := [.lit (.bool true)], args := [d] }
  | _ => none }
def bitioWritesRow : OpenClaim := { program := "ytfbccmogiafgfaa", sum := "cd1b7669d9949731f81ca6c4df4beec07c85f3489c2d7f15bdb91a5d2d0ddf07", func := "descant/descantlaw02.BitioWrites", spec := "bitioWrites", apart := false }
def BitioWritesSaid : Prop := bitioWritesRow.holds Try.pinned (OpenSpec.ofChange bitioWritesSpec)

/-- ITS FALSE NEIGHBOUR: 'it returns false'. Refute it at one input. -/
def bitioWritesWrong : ChangeSpec := { name := "bitioWrites", fn := fun _ => fun
  | [d] => { results := [.lit (.bool false)], args := [d] }
  | _ => none }
def BitioWritesWrongFalsely : Prop := bitioWritesRow.holds Try.pinned (OpenSpec.ofChange bitioWritesWrong)

/-- 'descantlaw12.CoefRights': WHATEVER THE INPUT: true; the input reads as it did. -/
def coefRightsSpec : ChangeSpec := { name := "coefRights", fn := fun _ => fun
  | [d1, d2] => { results := [.lit (.bool true)], args := [d1, d2] }
  | _ => none }
def coefRightsRow : OpenClaim := { program := "ytfbccmogiafgfaa", sum := "cd1b7669d9949731f81ca6c4df4beec07c85f3489c2d7f15bdb91a5d2d0ddf07", func := "descant/descantlaw12.CoefRights", spec := "coefRights", unfollowed := true, recurses := true, apart := false }
def CoefRightsSaid : Prop := coefRightsRow.holds Try.pinned (OpenSpec.ofChange coefRightsSpec)

/-- ITS FALSE NEIGHBOUR: 'it returns false'. Refute it at one input. -/
def coefRightsWrong : ChangeSpec := { name := "coefRights", fn := fun _ => fun
  | [d1, d2] => { results := [.lit (.bool false)], args := [d1, d2] }
  | _ => none }
def CoefRightsWrongFalsely : Prop := coefRightsRow.holds Try.pinned (OpenSpec.ofChange coefRightsWrong)

/-- 'descantlaw02.BitioBack': WHATEVER THE INPUT: true; the input reads as it did. -/
def bitioBackSpec : ChangeSpec := { name := "bitioBack", fn := fun _ => fun
  | [d] => { results := [.lit (.bool true)], args := [d] }
  | _ => none }
def bitioBackRow : OpenClaim := { program := "ytfbccmogiafgfaa", sum := "cd1b7669d9949731f81ca6c4df4beec07c85f3489c2d7f15bdb91a5d2d0ddf07", func := "descant/descantlaw02.BitioBack", spec := "bitioBack", apart := false }
def BitioBackSaid : Prop := bitioBackRow.holds Try.pinned (OpenSpec.ofChange bitioBackSpec)

/-- ITS FALSE NEIGHBOUR: 'it returns false'. Refute it at one input. -/
def bitioBackWrong : ChangeSpec := { name := "bitioBack", fn := fun _ => fun
  | [d] => { results := [.lit (.bool false)], args := [d] }
  | _ => none }
def BitioBackWrongFalsely : Prop := bitioBackRow.holds Try.pinned (OpenSpec.ofChange bitioBackWrong)

/-- 'descantlaw02.BitioReads': WHATEVER THE INPUT: true; the input reads as it did. -/
def bitioReadsSpec : ChangeSpec := { name := "bitioReads", fn := fun _ => fun
  | [d1, d2] => { results := [.lit (.bool true)], args := [d1, d2] }
  | _ => none }
def bitioReadsRow : OpenClaim := { program := "ytfbccmogiafgfaa", sum := "cd1b7669d9949731f81ca6c4df4beec07c85f3489c2d7f15bdb91a5d2d0ddf07", func := "descant/descantlaw02.BitioReads", spec := "bitioReads", apart := false }
def BitioReadsSaid : Prop := bitioReadsRow.holds Try.pinned (OpenSpec.ofChange bitioReadsSpec)

/-- ITS FALSE NEIGHBOUR: 'it returns false'. Refute it at one input. -/
def bitioReadsWrong : ChangeSpec := { name := "bitioReads", fn := fun _ => fun
  | [d1, d2] => { results := [.lit (.bool false)], args := [d1, d2] }
  | _ => none }
def BitioReadsWrongFalsely : Prop := bitioReadsRow.holds Try.pinned (OpenSpec.ofChange bitioReadsWrong)

/-- 'descantlaw02.BitioNil': WHATEVER THE INPUT: true; the input reads as it did. -/
def bitioNilSpec : ChangeSpec := { name := "bitioNil", fn := fun _ => fun
  | [d1, d2] => { results := [.lit (.bool true)], args := [d1, d2] }
  | _ => none }
def bitioNilRow : OpenClaim := { program := "ytfbccmogiafgfaa", sum := "cd1b7669d9949731f81ca6c4df4beec07c85f3489c2d7f15bdb91a5d2d0ddf07", func := "descant/descantlaw02.BitioNil", spec := "bitioNil", apart := false }
def BitioNilSaid : Prop := bitioNilRow.holds Try.pinned (OpenSpec.ofChange bitioNilSpec)

/-- ITS FALSE NEIGHBOUR: 'it returns false'. Refute it at one input. -/
def bitioNilWrong : ChangeSpec := { name := "bitioNil", fn := fun _ => fun
  | [d1, d2] => { results := [.lit (.bool false)], args := [d1, d2] }
  | _ => none }
def BitioNilWrongFalsely : Prop := bitioNilRow.holds Try.pinned (OpenSpec.ofChange bitioNilWrong)

/-- 'descantlaw12.CoefPuts': WHATEVER THE INPUT: true; the input reads as it did. -/
def coefPutsSpec : ChangeSpec := { name := "coefPuts", fn := fun _ => fun
  | [d] => { results := [.lit (.bool true)], args := [d] }
  | _ => none }
def coefPutsRow : OpenClaim := { program := "ytfbccmogiafgfaa", sum := "cd1b7669d9949731f81ca6c4df4beec07c85f3489c2d7f15bdb91a5d2d0ddf07", func := "descant/descantlaw12.CoefPuts", spec := "coefPuts", unfollowed := true, recurses := true, apart := false }
def CoefPutsSaid : Prop := coefPutsRow.holds Try.pinned (OpenSpec.ofChange coefPutsSpec)

/-- ITS FALSE NEIGHBOUR: 'it returns false'. Refute it at one input. -/
def coefPutsWrong : ChangeSpec := { name := "coefPuts", fn := fun _ => fun
  | [d] => { results := [.lit (.bool false)], args := [d] }
  | _ => none }
def CoefPutsWrongFalsely : Prop := coefPutsRow.holds Try.pinned (OpenSpec.ofChange coefPutsWrong)

/-- 'descantlaw12.CoefNil': WHATEVER THE INPUT: true; the input reads as it did. -/
def coefNilSpec : ChangeSpec := { name := "coefNil", fn := fun _ => fun
  | [d] => { results := [.lit (.bool true)], args := [d] }
  | _ => none }
def coefNilRow : OpenClaim := { program := "ytfbccmogiafgfaa", sum := "cd1b7669d9949731f81ca6c4df4beec07c85f3489c2d7f15bdb91a5d2d0ddf07", func := "descant/descantlaw12.CoefNil", spec := "coefNil", unfollowed := true, recurses := true, apart := false }
def CoefNilSaid : Prop := coefNilRow.holds Try.pinned (OpenSpec.ofChange coefNilSpec)

/-- ITS FALSE NEIGHBOUR: 'it returns false'. Refute it at one input. -/
def coefNilWrong : ChangeSpec := { name := "coefNil", fn := fun _ => fun
  | [d] => { results := [.lit (.bool false)], args := [d] }
  | _ => none }
def CoefNilWrongFalsely : Prop := coefNilRow.holds Try.pinned (OpenSpec.ofChange coefNilWrong)

/-- 'descantlaw12.CoefBack': WHATEVER THE INPUT: true; the input reads as it did. -/
def coefBackSpec : ChangeSpec := { name := "coefBack", fn := fun _ => fun
  | [d] => { results := [.lit (.bool true)], args := [d] }
  | _ => none }
def coefBackRow : OpenClaim := { program := "ytfbccmogiafgfaa", sum := "cd1b7669d9949731f81ca6c4df4beec07c85f3489c2d7f15bdb91a5d2d0ddf07", func := "descant/descantlaw12.CoefBack", spec := "coefBack", unfollowed := true, recurses := true, apart := false }
def CoefBackSaid : Prop := coefBackRow.holds Try.pinned (OpenSpec.ofChange coefBackSpec)

/-- ITS FALSE NEIGHBOUR: 'it returns false'. Refute it at one input. -/
def coefBackWrong : ChangeSpec := { name := "coefBack", fn := fun _ => fun
  | [d] => { results := [.lit (.bool false)], args := [d] }
  | _ => none }
def CoefBackWrongFalsely : Prop := coefBackRow.holds Try.pinned (OpenSpec.ofChange coefBackWrong)

/- THE SECOND FORM. 'bulk': how many values and letters a reading holds, each counted each time it is reached (what is shared counts as often as it is met; a slice's spare places count too). A statement '..UptoSaid' is the law's where the arguments, and the package variables that the reading takes, are together of bulk at most 1048576: NARROWER than '..Said'. Prove '..Said' where nothing that the law and all that it calls make is longer than what came in: it says more and counts as full. Else prove '..UptoSaid'. A law counts once. -/
mutual
def uptoBulk {H : Type} : DataW H → Nat
  | .lit (.string bytes) => bytes.length + 1
  | .lit _ => 1
  | .nil => 1
  | .ptr d => uptoBulk d + 1
  | .slice elems spare => uptoBulkAll elems + uptoBulkAll spare + 1
  | .agg parts => uptoBulkAll parts + 1
  | .iface _ d => uptoBulk d + 1
  | .map entries => uptoBulkEntries entries + 1
  | .held _ => 1
def uptoBulkAll {H : Type} : List (DataW H) → Nat
  | [] => 0
  | d :: r => uptoBulk d + uptoBulkAll r
def uptoBulkEntries {H : Type} : List (Lit × DataW H) → Nat
  | [] => 0
  | x :: r => uptoBulkEntry x + uptoBulkEntries r
def uptoBulkEntry {H : Type} : Lit × DataW H → Nat
  | (.string bytes, d) => bytes.length + uptoBulk d + 1
  | (_, d) => uptoBulk d + 1
 end
def uptoSmall : (H : Type) → List (DataW H) → Bool := fun _ ds => decide (uptoBulkAll ds ≤ 1048576)
def OpenSpec.upto (s : _root_.Go.ChangeSpec) : _root_.Go.OpenSpec := { _root_.Go.OpenSpec.ofChange s with cond := some uptoSmall }

/-- 'descantlaw12.CoefNears', WHERE WHAT IT READS IS OF BULK AT MOST 1048576: true; the input reads as it did. -/
def coefNearsUptoRow : OpenClaim := { program := "ytfbccmogiafgfaa", sum := "cd1b7669d9949731f81ca6c4df4beec07c85f3489c2d7f15bdb91a5d2d0ddf07", func := "descant/descantlaw12.CoefNears", spec := "coefNears", unfollowed := true, recurses := true, apart := false, narrowed := true }
def CoefNearsUptoSaid : Prop := coefNearsUptoRow.holds Try.pinned (OpenSpec.upto coefNearsSpec)

/-- 'descantlaw12.CoefQuants', WHERE WHAT IT READS IS OF BULK AT MOST 1048576: true; the input reads as it did. -/
def coefQuantsUptoRow : OpenClaim := { program := "ytfbccmogiafgfaa", sum := "cd1b7669d9949731f81ca6c4df4beec07c85f3489c2d7f15bdb91a5d2d0ddf07", func := "descant/descantlaw12.CoefQuants", spec := "coefQuants", unfollowed := true, recurses := true, apart := false, narrowed := true }
def CoefQuantsUptoSaid : Prop := coefQuantsUptoRow.holds Try.pinned (OpenSpec.upto coefQuantsSpec)

/-- 'descantlaw02.BitioAdds', WHERE WHAT IT READS IS OF BULK AT MOST 1048576: true; the input reads as it did. -/
def bitioAddsUptoRow : OpenClaim := { program := "ytfbccmogiafgfaa", sum := "cd1b7669d9949731f81ca6c4df4beec07c85f3489c2d7f15bdb91a5d2d0ddf07", func := "descant/descantlaw02.BitioAdds", spec := "bitioAdds", apart := false, narrowed := true }
def BitioAddsUptoSaid : Prop := bitioAddsUptoRow.holds Try.pinned (OpenSpec.upto bitioAddsSpec)

/-- 'descantlaw02.BitioWrites', WHERE WHAT IT READS IS OF BULK AT MOST 1048576: true; the input reads as it did. -/
def bitioWritesUptoRow : OpenClaim := { program := "ytfbccmogiafgfaa", sum := "cd1b7669d9949731f81ca6c4df4beec07c85f3489c2d7f15bdb91a5d2d0ddf07", func := "descant/descantlaw02.BitioWrites", spec := "bitioWrites", apart := false, narrowed := true }
def BitioWritesUptoSaid : Prop := bitioWritesUptoRow.holds Try.pinned (OpenSpec.upto bitioWritesSpec)

/-- 'descantlaw12.CoefRights', WHERE WHAT IT READS IS OF BULK AT MOST 1048576: true; the input reads as it did. -/
def coefRightsUptoRow : OpenClaim := { program := "ytfbccmogiafgfaa", sum := "cd1b7669d9949731f81ca6c4df4beec07c85f3489c2d7f15bdb91a5d2d0ddf07", func := "descant/descantlaw12.CoefRights", spec := "coefRights", unfollowed := true, recurses := true, apart := false, narrowed := true }
def CoefRightsUptoSaid : Prop := coefRightsUptoRow.holds Try.pinned (OpenSpec.upto coefRightsSpec)

/-- 'descantlaw02.BitioBack', WHERE WHAT IT READS IS OF BULK AT MOST 1048576: true; the input reads as it did. -/
def bitioBackUptoRow : OpenClaim := { program := "ytfbccmogiafgfaa", sum := "cd1b7669d9949731f81ca6c4df4beec07c85f3489c2d7f15bdb91a5d2d0ddf07", func := "descant/descantlaw02.BitioBack", spec := "bitioBack", apart := false, narrowed := true }
def BitioBackUptoSaid : Prop := bitioBackUptoRow.holds Try.pinned (OpenSpec.upto bitioBackSpec)

/-- 'descantlaw02.BitioReads', WHERE WHAT IT READS IS OF BULK AT MOST 1048576: true; the input reads as it did. -/
def bitioReadsUptoRow : OpenClaim := { program := "ytfbccmogiafgfaa", sum := "cd1b7669d9949731f81ca6c4df4beec07c85f3489c2d7f15bdb91a5d2d0ddf07", func := "descant/descantlaw02.BitioReads", spec := "bitioReads", apart := false, narrowed := true }
def BitioReadsUptoSaid : Prop := bitioReadsUptoRow.holds Try.pinned (OpenSpec.upto bitioReadsSpec)

/-- 'descantlaw02.BitioNil', WHERE WHAT IT READS IS OF BULK AT MOST 1048576: true; the input reads as it did. -/
def bitioNilUptoRow : OpenClaim := { program := "ytfbccmogiafgfaa", sum := "cd1b7669d9949731f81ca6c4df4beec07c85f3489c2d7f15bdb91a5d2d0ddf07", func := "descant/descantlaw02.BitioNil", spec := "bitioNil", apart := false, narrowed := true }
def BitioNilUptoSaid : Prop := bitioNilUptoRow.holds Try.pinned (OpenSpec.upto bitioNilSpec)

/-- 'descantlaw12.CoefPuts', WHERE WHAT IT READS IS OF BULK AT MOST 1048576: true; the input reads as it did. -/
def coefPutsUptoRow : OpenClaim := { program := "ytfbccmogiafgfaa", sum := "cd1b7669d9949731f81ca6c4df4beec07c85f3489c2d7f15bdb91a5d2d0ddf07", func := "descant/descantlaw12.CoefPuts", spec := "coefPuts", unfollowed := true, recurses := true, apart := false, narrowed := true }
def CoefPutsUptoSaid : Prop := coefPutsUptoRow.holds Try.pinned (OpenSpec.upto coefPutsSpec)

/-- 'descantlaw12.CoefNil', WHERE WHAT IT READS IS OF BULK AT MOST 1048576: true; the input reads as it did. -/
def coefNilUptoRow : OpenClaim := { program := "ytfbccmogiafgfaa", sum := "cd1b7669d9949731f81ca6c4df4beec07c85f3489c2d7f15bdb91a5d2d0ddf07", func := "descant/descantlaw12.CoefNil", spec := "coefNil", unfollowed := true, recurses := true, apart := false, narrowed := true }
def CoefNilUptoSaid : Prop := coefNilUptoRow.holds Try.pinned (OpenSpec.upto coefNilSpec)

/-- 'descantlaw12.CoefBack', WHERE WHAT IT READS IS OF BULK AT MOST 1048576: true; the input reads as it did. -/
def coefBackUptoRow : OpenClaim := { program := "ytfbccmogiafgfaa", sum := "cd1b7669d9949731f81ca6c4df4beec07c85f3489c2d7f15bdb91a5d2d0ddf07", func := "descant/descantlaw12.CoefBack", spec := "coefBack", unfollowed := true, recurses := true, apart := false, narrowed := true }
def CoefBackUptoSaid : Prop := coefBackUptoRow.holds Try.pinned (OpenSpec.upto coefBackSpec)

end Rows
end Go.Proofs.Ytfbccmogiafgfaa

/-
  No cell of these rows narrows 'for every input' (looked for: loops, veiled, ifaces, maps, wideKeys, modest, calm, conditions, laid).
  DERIVED. THE GIVEN ROWS OF THIS SEAT. 10 by the template 'for every input the law returns true; each argument reads behind the call as it read before'; 0 by the template 'total and deterministic' (their statements: YtgdlombjhbfbiaaTotals.lean).
  GIVEN WITH THE SEED: the statements are not yours to turn. If you find one false, say at which input.
  Laid BY PROGRAM, IN A SANDBOX (cutbox-rows.mjs): the forced cells as the released guide's own fill.sh prints them over the translation e929279af0180f9e… (all of the seat's roots in one cut). By AI agents, Wed Nov 11 2026. No macro, syntax, notation, axiom, sorry.
-/
import Derived.Test.YtgdlombjhbfbiaaChecked
import GoSem.Claim
import GoSem.ClaimJoined
import GoSem.ClaimMapViews
import Derived.JoinedTies
import Derived.KernelRfl
namespace Go.Proofs.Ytgdlombjhbfbiaa
/- THE CELL 'sum', in the pinned program and in every row, IS THE sha256 OF THE DUMP (.gsa) THAT YtgdlombjhbfbiaaProg.lean LOADS. Nothing in Lean hashes anything: it is a label: what it is worth is what the hold of that sum in a sandbox is worth. -/
noncomputable def Try.pinned : Pinned := { name := "ytgdlombjhbfbiaa", sum := "e929279af0180f9e9d6bc029a1475effe63f07eb940e6d8a84c9c125b1d123e4", checked := Try.checked }
namespace Rows
def none {H : Type} : Left H := { results := [], args := [] }

/-- 'rudderlaw06.FreshOrder': WHATEVER THE INPUT: true; the input reads as it did. -/
def freshOrderSpec : ChangeSpec := { name := "freshOrder", fn := fun _ => fun
  | [d1, d2, d3] => { results := [.lit (.bool true)], args := [d1, d2, d3] }
  | _ => none }
def freshOrderRow : OpenClaim := { program := "ytgdlombjhbfbiaa", sum := "e929279af0180f9e9d6bc029a1475effe63f07eb940e6d8a84c9c125b1d123e4", func := "rudder/rudderlaw06.FreshOrder", spec := "freshOrder", unfollowed := true, recurses := true, apart := false }
def FreshOrderSaid : Prop := freshOrderRow.holds Try.pinned (OpenSpec.ofChange freshOrderSpec)

/-- ITS FALSE NEIGHBOUR: 'it returns false'. Refute it at one input. -/
def freshOrderWrong : ChangeSpec := { name := "freshOrder", fn := fun _ => fun
  | [d1, d2, d3] => { results := [.lit (.bool false)], args := [d1, d2, d3] }
  | _ => none }
def FreshOrderWrongFalsely : Prop := freshOrderRow.holds Try.pinned (OpenSpec.ofChange freshOrderWrong)

/-- 'rudderlaw19.OutputTells': WHATEVER THE INPUT: true; the input reads as it did. -/
def outputTellsSpec : ChangeSpec := { name := "outputTells", fn := fun _ => fun
  | [d1, d2] => { results := [.lit (.bool true)], args := [d1, d2] }
  | _ => none }
def outputTellsRow : OpenClaim := { program := "ytgdlombjhbfbiaa", sum := "e929279af0180f9e9d6bc029a1475effe63f07eb940e6d8a84c9c125b1d123e4", func := "rudder/rudderlaw19.OutputTells", spec := "outputTells", unfollowed := true, recurses := true, apart := false }
def OutputTellsSaid : Prop := outputTellsRow.holds Try.pinned (OpenSpec.ofChange outputTellsSpec)

/-- ITS FALSE NEIGHBOUR: 'it returns false'. Refute it at one input. -/
def outputTellsWrong : ChangeSpec := { name := "outputTells", fn := fun _ => fun
  | [d1, d2] => { results := [.lit (.bool false)], args := [d1, d2] }
  | _ => none }
def OutputTellsWrongFalsely : Prop := outputTellsRow.holds Try.pinned (OpenSpec.ofChange outputTellsWrong)

/-- 'rudderlaw19.OutputBack': WHATEVER THE INPUT: true; the input reads as it did. -/
def outputBackSpec : ChangeSpec := { name := "outputBack", fn := fun _ => fun
  | [d1, d2, d3] => { results := [.lit (.bool true)], args := [d1, d2, d3] }
  | _ => none }
def outputBackRow : OpenClaim := { program := "ytgdlombjhbfbiaa", sum := "e929279af0180f9e9d6bc029a1475effe63f07eb940e6d8a84c9c125b1d123e4", func := "rudder/rudderlaw19.OutputBack", spec := "outputBack", unfollowed := true, recurses := true, apart := false }
def OutputBackSaid : Prop := outputBackRow.holds Try.pinned (OpenSpec.ofChange outputBackSpec)

/-- ITS FALSE NEIGHBOUR: 'it returns false'. Refute it at one input. -/
def outputBackWrong : ChangeSpec := { name := "outputBack", fn := fun _ => fun
  | [d1, d2, d3] => { results := [.lit (.bool false)], args := [d1, d2, d3] }
  | _ => none }
def OutputBackWrongFalsely : Prop := outputBackRow.holds Try.pinned (OpenSpec.ofChange outputBackWrong)

/-- 'rudderlaw23.JudgeTells': WHATEVER THE INPUT: true; the input reads as it did. -/
def judgeTellsSpec : ChangeSpec := { name := "judgeTells", fn := fun _ => fun
  | [d1, d2, d3] => { results := [.lit (.bool true)], args := [d1, d2, d3] }
  | _ => none }
def judgeTellsRow : OpenClaim := { program := "ytgdlombjhbfbiaa", sum := "e929279af0180f9e9d6bc029a1475effe63f07eb940e6d8a84c9c125b1d123e4", func := "rudder/rudderlaw23.JudgeTells", spec := "judgeTells", unfollowed := true, recurses := true, apart := false }
def JudgeTellsSaid : Prop := judgeTellsRow.holds Try.pinned (OpenSpec.ofChange judgeTellsSpec)

/-- ITS FALSE NEIGHBOUR: 'it returns false'. Refute it at one input. -/
def judgeTellsWrong : ChangeSpec := { name := "judgeTells", fn := fun _ => fun
  | [d1, d2, d3] => { results := [.lit (.bool false)], args := [d1, d2, d3] }
  | _ => none }
def JudgeTellsWrongFalsely : Prop := judgeTellsRow.holds Try.pinned (OpenSpec.ofChange judgeTellsWrong)

/-- 'rudderlaw23.JudgeTurn': WHATEVER THE INPUT: true; the input reads as it did. -/
def judgeTurnSpec : ChangeSpec := { name := "judgeTurn", fn := fun _ => fun
  | [d1, d2, d3] => { results := [.lit (.bool true)], args := [d1, d2, d3] }
  | _ => none }
def judgeTurnRow : OpenClaim := { program := "ytgdlombjhbfbiaa", sum := "e929279af0180f9e9d6bc029a1475effe63f07eb940e6d8a84c9c125b1d123e4", func := "rudder/rudderlaw23.JudgeTurn", spec := "judgeTurn", unfollowed := true, recurses := true, apart := false }
def JudgeTurnSaid : Prop := judgeTurnRow.holds Try.pinned (OpenSpec.ofChange judgeTurnSpec)

/-- ITS FALSE NEIGHBOUR: 'it returns false'. Refute it at one input. -/
def judgeTurnWrong : ChangeSpec := { name := "judgeTurn", fn := fun _ => fun
  | [d1, d2, d3] => { results := [.lit (.bool false)], args := [d1, d2, d3] }
  | _ => none }
def JudgeTurnWrongFalsely : Prop := judgeTurnRow.holds Try.pinned (OpenSpec.ofChange judgeTurnWrong)

/-- 'rudderlaw22.SceneTells': WHATEVER THE INPUT: true; the input reads as it did. -/
def sceneTellsSpec : ChangeSpec := { name := "sceneTells", fn := fun _ => fun
  | [d1, d2, d3] => { results := [.lit (.bool true)], args := [d1, d2, d3] }
  | _ => none }
def sceneTellsRow : OpenClaim := { program := "ytgdlombjhbfbiaa", sum := "e929279af0180f9e9d6bc029a1475effe63f07eb940e6d8a84c9c125b1d123e4", func := "rudder/rudderlaw22.SceneTells", spec := "sceneTells", unfollowed := true, recurses := true, apart := false }
def SceneTellsSaid : Prop := sceneTellsRow.holds Try.pinned (OpenSpec.ofChange sceneTellsSpec)

/-- ITS FALSE NEIGHBOUR: 'it returns false'. Refute it at one input. -/
def sceneTellsWrong : ChangeSpec := { name := "sceneTells", fn := fun _ => fun
  | [d1, d2, d3] => { results := [.lit (.bool false)], args := [d1, d2, d3] }
  | _ => none }
def SceneTellsWrongFalsely : Prop := sceneTellsRow.holds Try.pinned (OpenSpec.ofChange sceneTellsWrong)

/-- 'rudderlaw22.SceneNear': WHATEVER THE INPUT: true; the input reads as it did. -/
def sceneNearSpec : ChangeSpec := { name := "sceneNear", fn := fun _ => fun
  | [d] => { results := [.lit (.bool true)], args := [d] }
  | _ => none }
def sceneNearRow : OpenClaim := { program := "ytgdlombjhbfbiaa", sum := "e929279af0180f9e9d6bc029a1475effe63f07eb940e6d8a84c9c125b1d123e4", func := "rudder/rudderlaw22.SceneNear", spec := "sceneNear", unfollowed := true, recurses := true, apart := false }
def SceneNearSaid : Prop := sceneNearRow.holds Try.pinned (OpenSpec.ofChange sceneNearSpec)

/-- ITS FALSE NEIGHBOUR: 'it returns false'. Refute it at one input. -/
def sceneNearWrong : ChangeSpec := { name := "sceneNear", fn := fun _ => fun
  | [d] => { results := [.lit (.bool false)], args := [d] }
  | _ => none }
def SceneNearWrongFalsely : Prop := sceneNearRow.holds Try.pinned (OpenSpec.ofChange sceneNearWrong)

/-- 'rudderlaw18.SignalNear': WHATEVER THE INPUT: true; the input reads as it did. -/
def signalNearSpec : ChangeSpec := { name := "signalNear", fn := fun _ => fun
  | [d1, d2] => { results := [.lit (.bool true)], args := [d1, d2] }
  | _ => none }
def signalNearRow : OpenClaim := { program := "ytgdlombjhbfbiaa", sum := "e929279af0180f9e9d6bc029a1475effe63f07eb940e6d8a84c9c125b1d123e4", func := "rudder/rudderlaw18.SignalNear", spec := "signalNear", unfollowed := true, recurses := true, apart := false }
def SignalNearSaid : Prop := signalNearRow.holds Try.pinned (OpenSpec.ofChange signalNearSpec)

/-- ITS FALSE NEIGHBOUR: 'it returns false'. Refute it at one input. -/
def signalNearWrong : ChangeSpec := { name := "signalNear", fn := fun _ => fun
  | [d1, d2] => { results := [.lit (.bool false)], args := [d1, d2] }
  | _ => none }
def SignalNearWrongFalsely : Prop := signalNearRow.holds Try.pinned (OpenSpec.ofChange signalNearWrong)

/-- 'rudderlaw18.SignalBounded': WHATEVER THE INPUT: true; the input reads as it did. -/
def signalBoundedSpec : ChangeSpec := { name := "signalBounded", fn := fun _ => fun
  | [d1, d2] => { results := [.lit (.bool true)], args := [d1, d2] }
  | _ => none }
def signalBoundedRow : OpenClaim := { program := "ytgdlombjhbfbiaa", sum := "e929279af0180f9e9d6bc029a1475effe63f07eb940e6d8a84c9c125b1d123e4", func := "rudder/rudderlaw18.SignalBounded", spec := "signalBounded", unfollowed := true, recurses := true, apart := false }
def SignalBoundedSaid : Prop := signalBoundedRow.holds Try.pinned (OpenSpec.ofChange signalBoundedSpec)

/-- ITS FALSE NEIGHBOUR: 'it returns false'. Refute it at one input. -/
def signalBoundedWrong : ChangeSpec := { name := "signalBounded", fn := fun _ => fun
  | [d1, d2] => { results := [.lit (.bool false)], args := [d1, d2] }
  | _ => none }
def SignalBoundedWrongFalsely : Prop := signalBoundedRow.holds Try.pinned (OpenSpec.ofChange signalBoundedWrong)

/-- 'rudderlaw18.SignalFound': WHATEVER THE INPUT: true; the input reads as it did. -/
def signalFoundSpec : ChangeSpec := { name := "signalFound", fn := fun _ => fun
  | [d1, d2] => { results := [.lit (.bool true)], args := [d1, d2] }
  | _ => none }
def signalFoundRow : OpenClaim := { program := "ytgdlombjhbfbiaa", sum := "e929279af0180f9e9d6bc029a1475effe63f07eb940e6d8a84c9c125b1d123e4", func := "rudder/rudderlaw18.SignalFound", spec := "signalFound", unfollowed := true, recurses := true, apart := false }
def SignalFoundSaid : Prop := signalFoundRow.holds Try.pinned (OpenSpec.ofChange signalFoundSpec)

/-- ITS FALSE NEIGHBOUR: 'it returns false'. Refute it at one input. -/
def signalFoundWrong : ChangeSpec := { name := "signalFound", fn := fun _ => fun
  | [d1, d2] => { results := [.lit (.bool false)], args := [d1, d2] }
  | _ => none }
def SignalFoundWrongFalsely : Prop := signalFoundRow.holds Try.pinned (OpenSpec.ofChange signalFoundWrong)

/- THE SECOND FORM. 'bulk': how many values and letters a reading holds, each counted each time it is reached (what is shared counts as often as it is met; a slice's spare places count too). A statement '..UptoSaid' is the law's where the arguments, and the package variables that the reading takes, are together of bulk at most 1048576: NARROWER than '..Said'. Prove '..Said' where nothing that the law and all that it calls make is longer than what came in: it says more and counts as full. Else prove '..UptoSaid'. A law counts once. -/
mutual
def uptoBulk {H : Type} : DataW H → Nat
  | .lit (.string bytes) => bytes.length + 1
  | .lit _ => 1
  | .nil => 1
  | .ptr d => uptoBulk d + 1
  | .slice elems spare => uptoBulkAll elems + uptoBulkAll spare + 1
  | .agg parts => uptoBulkAll parts + 1
  | .iface _ d => uptoBulk d + 1
  | .map entries => uptoBulkEntries entries + 1
  | .held _ => 1
def uptoBulkAll {H : Type} : List (DataW H) → Nat
  | [] => 0
  | d :: r => uptoBulk d + uptoBulkAll r
def uptoBulkEntries {H : Type} : List (Lit × DataW H) → Nat
  | [] => 0
  | x :: r => uptoBulkEntry x + uptoBulkEntries r
def uptoBulkEntry {H : Type} : Lit × DataW H → Nat
  | (.string bytes, d) => bytes.length + uptoBulk d + 1
  | (_, d) => uptoBulk d + 1
 end
def uptoSmall : (H : Type) → List (DataW H) → Bool := fun _ ds => decide (uptoBulkAll ds ≤ 1048576)
def OpenSpec.upto (s : _root_.Go.ChangeSpec) : _root_.Go.OpenSpec := { _root_.Go.OpenSpec.ofChange s with cond := some uptoSmall }

/-- 'rudderlaw06.FreshOrder', WHERE WHAT IT READS IS OF BULK AT MOST 1048576: true; the input reads as it did. -/
def freshOrderUptoRow : OpenClaim := { program := "ytgdlombjhbfbiaa", sum := "e929279af0180f9e9d6bc029a1475effe63f07eb940e6d8a84c9c125b1d123e4", func := "rudder/rudderlaw06.FreshOrder", spec := "freshOrder", unfollowed := true, recurses := true, apart := false, narrowed := true }
def FreshOrderUptoSaid : Prop := freshOrderUptoRow.holds Try.pinned (OpenSpec.upto freshOrderSpec)

/-- 'rudderlaw19.OutputTells', WHERE WHAT IT READS IS OF BULK AT MOST 1048576: true; the input reads as it did. -/
def outputTellsUptoRow : OpenClaim := { program := "ytgdlombjhbfbiaa", sum := "e929279af0180f9e9d6bc029a1475effe63f07eb940e6d8a84c9c125b1d123e4", func := "rudder/rudderlaw19.OutputTells", spec := "outputTells", unfollowed := true, recurses := true, apart := false, narrowed := true }
def OutputTellsUptoSaid : Prop := outputTellsUptoRow.holds Try.pinned (OpenSpec.upto outputTellsSpec)

/-- 'rudderlaw19.OutputBack', WHERE WHAT IT READS IS OF BULK AT MOST 1048576: true; the input reads as it did. -/
def outputBackUptoRow : OpenClaim := { program := "ytgdlombjhbfbiaa", sum := "e929279af0180f9e9d6bc029a1475effe63f07eb940e6d8a84c9c125b1d123e4", func := "rudder/rudderlaw19.OutputBack", spec := "outputBack", unfollowed := true, recurses := true, apart := false, narrowed := true }
def OutputBackUptoSaid : Prop := outputBackUptoRow.holds Try.pinned (OpenSpec.upto outputBackSpec)

/-- 'rudderlaw23.JudgeTells', WHERE WHAT IT READS IS OF BULK AT MOST 1048576: true; the input reads as it did. -/
def judgeTellsUptoRow : OpenClaim := { program := "ytgdlombjhbfbiaa", sum := "e929279af0180f9e9d6bc029a1475effe63f07eb940e6d8a84c9c125b1d123e4", func := "rudder/rudderlaw23.JudgeTells", spec := "judgeTells", unfollowed := true, recurses := true, apart := false, narrowed := true }
def JudgeTellsUptoSaid : Prop := judgeTellsUptoRow.holds Try.pinned (OpenSpec.upto judgeTellsSpec)

/-- 'rudderlaw23.JudgeTurn', WHERE WHAT IT READS IS OF BULK AT MOST 1048576: true; the input reads as it did. -/
def judgeTurnUptoRow : OpenClaim := { program := "ytgdlombjhbfbiaa", sum := "e929279af0180f9e9d6bc029a1475effe63f07eb940e6d8a84c9c125b1d123e4", func := "rudder/rudderlaw23.JudgeTurn", spec := "judgeTurn", unfollowed := true, recurses := true, apart := false, narrowed := true }
def JudgeTurnUptoSaid : Prop := judgeTurnUptoRow.holds Try.pinned (OpenSpec.upto judgeTurnSpec)

/-- 'rudderlaw22.SceneTells', WHERE WHAT IT READS IS OF BULK AT MOST 1048576: true; the input reads as it did. -/
def sceneTellsUptoRow : OpenClaim := { program := "ytgdlombjhbfbiaa", sum := "e929279af0180f9e9d6bc029a1475effe63f07eb940e6d8a84c9c125b1d123e4", func := "rudder/rudderlaw22.SceneTells", spec := "sceneTells", unfollowed := true, recurses := true, apart := false, narrowed := true }
def SceneTellsUptoSaid : Prop := sceneTellsUptoRow.holds Try.pinned (OpenSpec.upto sceneTellsSpec)

/-- 'rudderlaw22.SceneNear', WHERE WHAT IT READS IS OF BULK AT MOST 1048576: true; the input reads as it did. -/
def sceneNearUptoRow : OpenClaim := { program := "ytgdlombjhbfbiaa", sum := "e929279af0180f9e9d6bc029a1475effe63f07eb940e6d8a84c9c125b1d123e4", func := "rudder/rudderlaw22.SceneNear", spec := "sceneNear", unfollowed := true, recurses := true, apart := false, narrowed := true }
def SceneNearUptoSaid : Prop := sceneNearUptoRow.holds Try.pinned (OpenSpec.upto sceneNearSpec)

/-- 'rudderlaw18.SignalNear', WHERE WHAT IT READS IS OF BULK AT MOST 1048576: true; the input reads as it did. -/
def signalNearUptoRow : OpenClaim := { program := "ytgdlombjhbfbiaa", sum := "e929279af0180f9e9d6bc029a1475effe63f07eb940e6d8a84c9c125b1d123e4", func := "rudder/rudderlaw18.SignalNear", spec := "signalNear", unfollowed := true, recurses := true, apart := false, narrowed := true }
def SignalNearUptoSaid : Prop := signalNearUptoRow.holds Try.pinned (OpenSpec.upto signalNearSpec)

/-- 'rudderlaw18.SignalBounded', WHERE WHAT IT READS IS OF BULK AT MOST 1048576: true; the input reads as it did. -/
def signalBoundedUptoRow : OpenClaim := { program := "ytgdlombjhbfbiaa", sum := "e929279af0180f9e9d6bc029a1475effe63f07eb940e6d8a84c9c125b1d123e4", func := "rudder/rudderlaw18.SignalBounded", spec := "signalBounded", unfollowed := true, recurses := true, apart := false, narrowed := true }
def SignalBoundedUptoSaid : Prop := signalBoundedUptoRow.holds Try.pinned (OpenSpec.upto signalBoundedSpec)

/-- 'rudderlaw18.SignalFound', WHERE WHAT IT READS IS OF BULK AT MOST 1048576: true; the input reads as it did. -/
def signalFoundUptoRow : OpenClaim := { program := "ytgdlombjhbfbiaa", sum := "e929279af0180f9e9d6bc029a1475effe63f07eb940e6d8a84c9c125b1d123e4", func := "rudder/rudderlaw18.SignalFound", spec := "signalFound", unfollowed := true, recurses := true, apart := false, narrowed := true }
def SignalFoundUptoSaid : Prop := signalFoundUptoRow.holds Try.pinned (OpenSpec.upto signalFoundSpec)

end Rows
end Go.Proofs.Ytgdlombjhbfbiaa

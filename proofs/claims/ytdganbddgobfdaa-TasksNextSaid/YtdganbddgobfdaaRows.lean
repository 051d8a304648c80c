/-
  No cell of these rows narrows 'for every input' (looked for: loops, veiled, ifaces, maps, wideKeys, modest, calm, conditions, laid).
  DERIVED. THE GIVEN ROWS OF THIS SEAT. 12 by the template 'for every input the law returns true; each argument reads behind the call as it read before'; 0 by the template 'total and deterministic' (their statements: YtdganbddgobfdaaTotals.lean).
  GIVEN WITH THE SEED: the statements are not yours to turn. If you find one false, say at which input.
  Laid BY PROGRAM, IN A SANDBOX (cutbox-rows.mjs): the forced cells as the released guide's own fill.sh prints them over the translation abdda14073369154… (all of the seat's roots in one cut). By AI agents, Wed Nov 11 2026. No macro, syntax, notation, axiom, sorry.
-/
import Derived.Test.YtdganbddgobfdaaChecked
import GoSem.Claim
import GoSem.ClaimJoined
import GoSem.ClaimMapViews
import Derived.JoinedTies
import Derived.KernelRfl
namespace Go.Proofs.Ytdganbddgobfdaa
/- THE CELL 'sum', in the pinned program and in every row, IS THE sha256 OF THE DUMP (.gsa) THAT YtdganbddgobfdaaProg.lean LOADS. Nothing in Lean hashes anything: it is a label: what it is worth is what the hold of that sum in a sandbox is worth. -/
noncomputable def Try.pinned : Pinned := { name := "ytdganbddgobfdaa", sum := "abdda140733691547a1db79ecec8b50589b80420a1f4ffceff48327f3706d070", checked := Try.checked }
namespace Rows
def none {H : Type} : Left H := { results := [], args := [] }

/-- 'garnerlaw05.TasksNext': WHATEVER THE INPUT: true; the input reads as it did. -/
def tasksNextSpec : ChangeSpec := { name := "tasksNext", fn := fun _ => fun
  | [d1, d2] => { results := [.lit (.bool true)], args := [d1, d2] }
  | _ => none }
def tasksNextRow : OpenClaim := { program := "ytdganbddgobfdaa", sum := "abdda140733691547a1db79ecec8b50589b80420a1f4ffceff48327f3706d070", func := "garner/garnerlaw05.TasksNext", spec := "tasksNext", unfollowed := true, recurses := true, apart := false }
def TasksNextSaid : Prop := tasksNextRow.holds Try.pinned (OpenSpec.ofChange tasksNextSpec)

/-- ITS FALSE NEIGHBOUR: 'it returns false'. Refute it at one input. -/
def tasksNextWrong : ChangeSpec := { name := "tasksNext", fn := fun _ => fun
  | [d1, d2] => { results := [.lit (.bool false)], args := [d1, d2] }
  | _ => none }
def TasksNextWrongFalsely : Prop := tasksNextRow.holds Try.pinned (OpenSpec.ofChange tasksNextWrong)

/-- 'garnerlaw05.TasksAwait': WHATEVER THE INPUT: true; the input reads as it did. -/
def tasksAwaitSpec : ChangeSpec := { name := "tasksAwait", fn := fun _ => fun
  | [d1, d2] => { results := [.lit (.bool true)], args := [d1, d2] }
  | _ => none }
def tasksAwaitRow : OpenClaim := { program := "ytdganbddgobfdaa", sum := "abdda140733691547a1db79ecec8b50589b80420a1f4ffceff48327f3706d070", func := "garner/garnerlaw05.TasksAwait", spec := "tasksAwait", unfollowed := true, recurses := true, apart := false }
def TasksAwaitSaid : Prop := tasksAwaitRow.holds Try.pinned (OpenSpec.ofChange tasksAwaitSpec)

/-- ITS FALSE NEIGHBOUR: 'it returns false'. Refute it at one input. -/
def tasksAwaitWrong : ChangeSpec := { name := "tasksAwait", fn := fun _ => fun
  | [d1, d2] => { results := [.lit (.bool false)], args := [d1, d2] }
  | _ => none }
def TasksAwaitWrongFalsely : Prop := tasksAwaitRow.holds Try.pinned (OpenSpec.ofChange tasksAwaitWrong)

/-- 'garnerlaw05.TasksBoxes': WHATEVER THE INPUT: true; the input reads as it did. -/
def tasksBoxesSpec : ChangeSpec := { name := "tasksBoxes", fn := fun _ => fun
  | [d1, d2, d3, d4] => { results := [.lit (.bool true)], args := [d1, d2, d3, d4] }
  | _ => none }
def tasksBoxesRow : OpenClaim := { program := "ytdganbddgobfdaa", sum := "abdda140733691547a1db79ecec8b50589b80420a1f4ffceff48327f3706d070", func := "garner/garnerlaw05.TasksBoxes", spec := "tasksBoxes", unfollowed := true, recurses := true, apart := false }
def TasksBoxesSaid : Prop := tasksBoxesRow.holds Try.pinned (OpenSpec.ofChange tasksBoxesSpec)

/-- ITS FALSE NEIGHBOUR: 'it returns false'. Refute it at one input. -/
def tasksBoxesWrong : ChangeSpec := { name := "tasksBoxes", fn := fun _ => fun
  | [d1, d2, d3, d4] => { results := [.lit (.bool false)], args := [d1, d2, d3, d4] }
  | _ => none }
def TasksBoxesWrongFalsely : Prop := tasksBoxesRow.holds Try.pinned (OpenSpec.ofChange tasksBoxesWrong)

/-- 'garnerlaw06.EpochPlays': WHATEVER THE INPUT: true; the input reads as it did. -/
def epochPlaysSpec : ChangeSpec := { name := "epochPlays", fn := fun _ => fun
  | [d] => { results := [.lit (.bool true)], args := [d] }
  | _ => none }
def epochPlaysRow : OpenClaim := { program := "ytdganbddgobfdaa", sum := "abdda140733691547a1db79ecec8b50589b80420a1f4ffceff48327f3706d070", func := "garner/garnerlaw06.EpochPlays", spec := "epochPlays", unfollowed := true, recurses := true, apart := false }
def EpochPlaysSaid : Prop := epochPlaysRow.holds Try.pinned (OpenSpec.ofChange epochPlaysSpec)

/-- ITS FALSE NEIGHBOUR: 'it returns false'. Refute it at one input. -/
def epochPlaysWrong : ChangeSpec := { name := "epochPlays", fn := fun _ => fun
  | [d] => { results := [.lit (.bool false)], args := [d] }
  | _ => none }
def EpochPlaysWrongFalsely : Prop := epochPlaysRow.holds Try.pinned (OpenSpec.ofChange epochPlaysWrong)

/-- 'garnerlaw09.PermReads': WHATEVER THE INPUT: true; the input reads as it did. -/
def permReadsSpec : ChangeSpec := { name := "permReads", fn := fun _ => fun
  | [d1, d2, d3, d4] => { results := [.lit (.bool true)], args := [d1, d2, d3, d4] }
  | _ => none }
def permReadsRow : OpenClaim := { program := "ytdganbddgobfdaa", sum := "abdda140733691547a1db79ecec8b50589b80420a1f4ffceff48327f3706d070", func := "garner/garnerlaw09.PermReads", spec := "permReads", inPlace := ["slices.overlaps[int]"], unfollowed := true, recurses := true, apart := false }
def PermReadsSaid : Prop := permReadsRow.holds Try.pinned (OpenSpec.ofChange permReadsSpec)

/-- ITS FALSE NEIGHBOUR: 'it returns false'. Refute it at one input. -/
def permReadsWrong : ChangeSpec := { name := "permReads", fn := fun _ => fun
  | [d1, d2, d3, d4] => { results := [.lit (.bool false)], args := [d1, d2, d3, d4] }
  | _ => none }
def PermReadsWrongFalsely : Prop := permReadsRow.holds Try.pinned (OpenSpec.ofChange permReadsWrong)

/-- 'garnerlaw03.DiskNames': WHATEVER THE INPUT: true; the input reads as it did. -/
def diskNamesSpec : ChangeSpec := { name := "diskNames", fn := fun _ => fun
  | [d] => { results := [.lit (.bool true)], args := [d] }
  | _ => none }
def diskNamesRow : OpenClaim := { program := "ytdganbddgobfdaa", sum := "abdda140733691547a1db79ecec8b50589b80420a1f4ffceff48327f3706d070", func := "garner/garnerlaw03.DiskNames", spec := "diskNames", unfollowed := true, recurses := true, apart := false }
def DiskNamesSaid : Prop := diskNamesRow.holds Try.pinned (OpenSpec.ofChange diskNamesSpec)

/-- ITS FALSE NEIGHBOUR: 'it returns false'. Refute it at one input. -/
def diskNamesWrong : ChangeSpec := { name := "diskNames", fn := fun _ => fun
  | [d] => { results := [.lit (.bool false)], args := [d] }
  | _ => none }
def DiskNamesWrongFalsely : Prop := diskNamesRow.holds Try.pinned (OpenSpec.ofChange diskNamesWrong)

/-- 'garnerlaw04.CellsPlay': WHATEVER THE INPUT: true; the input reads as it did. -/
def cellsPlaySpec : ChangeSpec := { name := "cellsPlay", fn := fun _ => fun
  | [d1, d2] => { results := [.lit (.bool true)], args := [d1, d2] }
  | _ => none }
def cellsPlayRow : OpenClaim := { program := "ytdganbddgobfdaa", sum := "abdda140733691547a1db79ecec8b50589b80420a1f4ffceff48327f3706d070", func := "garner/garnerlaw04.CellsPlay", spec := "cellsPlay", unfollowed := true, recurses := true, apart := false }
def CellsPlaySaid : Prop := cellsPlayRow.holds Try.pinned (OpenSpec.ofChange cellsPlaySpec)

/-- ITS FALSE NEIGHBOUR: 'it returns false'. Refute it at one input. -/
def cellsPlayWrong : ChangeSpec := { name := "cellsPlay", fn := fun _ => fun
  | [d1, d2] => { results := [.lit (.bool false)], args := [d1, d2] }
  | _ => none }
def CellsPlayWrongFalsely : Prop := cellsPlayRow.holds Try.pinned (OpenSpec.ofChange cellsPlayWrong)

/-- 'garnerlaw11.NodePlays': WHATEVER THE INPUT: true; the input reads as it did. -/
def nodePlaysSpec : ChangeSpec := { name := "nodePlays", fn := fun _ => fun
  | [d1, d2, d3] => { results := [.lit (.bool true)], args := [d1, d2, d3] }
  | _ => none }
def nodePlaysRow : OpenClaim := { program := "ytdganbddgobfdaa", sum := "abdda140733691547a1db79ecec8b50589b80420a1f4ffceff48327f3706d070", func := "garner/garnerlaw11.NodePlays", spec := "nodePlays", inPlace := ["slices.overlaps[int]"], unfollowed := true, recurses := true, apart := false }
def NodePlaysSaid : Prop := nodePlaysRow.holds Try.pinned (OpenSpec.ofChange nodePlaysSpec)

/-- ITS FALSE NEIGHBOUR: 'it returns false'. Refute it at one input. -/
def nodePlaysWrong : ChangeSpec := { name := "nodePlays", fn := fun _ => fun
  | [d1, d2, d3] => { results := [.lit (.bool false)], args := [d1, d2, d3] }
  | _ => none }
def NodePlaysWrongFalsely : Prop := nodePlaysRow.holds Try.pinned (OpenSpec.ofChange nodePlaysWrong)

/-- 'garnerlaw03.DiskSame': WHATEVER THE INPUT: true; the input reads as it did. -/
def diskSameSpec : ChangeSpec := { name := "diskSame", fn := fun _ => fun
  | [d1, d2, d3] => { results := [.lit (.bool true)], args := [d1, d2, d3] }
  | _ => none }
def diskSameRow : OpenClaim := { program := "ytdganbddgobfdaa", sum := "abdda140733691547a1db79ecec8b50589b80420a1f4ffceff48327f3706d070", func := "garner/garnerlaw03.DiskSame", spec := "diskSame", inPlace := ["maps.clone"], unfollowed := true, recurses := true, apart := false }
def DiskSameSaid : Prop := diskSameRow.holds Try.pinned (OpenSpec.ofChange diskSameSpec)

/-- ITS FALSE NEIGHBOUR: 'it returns false'. Refute it at one input. -/
def diskSameWrong : ChangeSpec := { name := "diskSame", fn := fun _ => fun
  | [d1, d2, d3] => { results := [.lit (.bool false)], args := [d1, d2, d3] }
  | _ => none }
def DiskSameWrongFalsely : Prop := diskSameRow.holds Try.pinned (OpenSpec.ofChange diskSameWrong)

/-- 'garnerlaw03.DiskSteps': WHATEVER THE INPUT: true; the input reads as it did. -/
def diskStepsSpec : ChangeSpec := { name := "diskSteps", fn := fun _ => fun
  | [d1, d2, d3] => { results := [.lit (.bool true)], args := [d1, d2, d3] }
  | _ => none }
def diskStepsRow : OpenClaim := { program := "ytdganbddgobfdaa", sum := "abdda140733691547a1db79ecec8b50589b80420a1f4ffceff48327f3706d070", func := "garner/garnerlaw03.DiskSteps", spec := "diskSteps", inPlace := ["maps.clone"], unfollowed := true, recurses := true, apart := false }
def DiskStepsSaid : Prop := diskStepsRow.holds Try.pinned (OpenSpec.ofChange diskStepsSpec)

/-- ITS FALSE NEIGHBOUR: 'it returns false'. Refute it at one input. -/
def diskStepsWrong : ChangeSpec := { name := "diskSteps", fn := fun _ => fun
  | [d1, d2, d3] => { results := [.lit (.bool false)], args := [d1, d2, d3] }
  | _ => none }
def DiskStepsWrongFalsely : Prop := diskStepsRow.holds Try.pinned (OpenSpec.ofChange diskStepsWrong)

/-- 'garnerlaw03.DiskLasts': WHATEVER THE INPUT: true; the input reads as it did. -/
def diskLastsSpec : ChangeSpec := { name := "diskLasts", fn := fun _ => fun
  | [d1, d2, d3] => { results := [.lit (.bool true)], args := [d1, d2, d3] }
  | _ => none }
def diskLastsRow : OpenClaim := { program := "ytdganbddgobfdaa", sum := "abdda140733691547a1db79ecec8b50589b80420a1f4ffceff48327f3706d070", func := "garner/garnerlaw03.DiskLasts", spec := "diskLasts", inPlace := ["maps.clone"], unfollowed := true, recurses := true, apart := false }
def DiskLastsSaid : Prop := diskLastsRow.holds Try.pinned (OpenSpec.ofChange diskLastsSpec)

/-- ITS FALSE NEIGHBOUR: 'it returns false'. Refute it at one input. -/
def diskLastsWrong : ChangeSpec := { name := "diskLasts", fn := fun _ => fun
  | [d1, d2, d3] => { results := [.lit (.bool false)], args := [d1, d2, d3] }
  | _ => none }
def DiskLastsWrongFalsely : Prop := diskLastsRow.holds Try.pinned (OpenSpec.ofChange diskLastsWrong)

/-- 'garnerlaw04.CellsCopies': WHATEVER THE INPUT: true; the input reads as it did. -/
def cellsCopiesSpec : ChangeSpec := { name := "cellsCopies", fn := fun _ => fun
  | [d1, d2, d3] => { results := [.lit (.bool true)], args := [d1, d2, d3] }
  | _ => none }
def cellsCopiesRow : OpenClaim := { program := "ytdganbddgobfdaa", sum := "abdda140733691547a1db79ecec8b50589b80420a1f4ffceff48327f3706d070", func := "garner/garnerlaw04.CellsCopies", spec := "cellsCopies", inPlace := ["maps.clone"], unfollowed := true, recurses := true, apart := false }
def CellsCopiesSaid : Prop := cellsCopiesRow.holds Try.pinned (OpenSpec.ofChange cellsCopiesSpec)

/-- ITS FALSE NEIGHBOUR: 'it returns false'. Refute it at one input. -/
def cellsCopiesWrong : ChangeSpec := { name := "cellsCopies", fn := fun _ => fun
  | [d1, d2, d3] => { results := [.lit (.bool false)], args := [d1, d2, d3] }
  | _ => none }
def CellsCopiesWrongFalsely : Prop := cellsCopiesRow.holds Try.pinned (OpenSpec.ofChange cellsCopiesWrong)

/- THE SECOND FORM. 'bulk': how many values and letters a reading holds, each counted each time it is reached (what is shared counts as often as it is met; a slice's spare places count too). A statement '..UptoSaid' is the law's where the arguments, and the package variables that the reading takes, are together of bulk at most 1048576: NARROWER than '..Said'. Prove '..Said' where nothing that the law and all that it calls make is longer than what came in: it says more and counts as full. Else prove '..UptoSaid'. A law counts once. -/
mutual
def uptoBulk {H : Type} : DataW H → Nat
  | .lit (.string bytes) => bytes.length + 1
  | .lit _ => 1
  | .nil => 1
  | .ptr d => uptoBulk d + 1
  | .slice elems spare => uptoBulkAll elems + uptoBulkAll spare + 1
  | .agg parts => uptoBulkAll parts + 1
  | .iface _ d => uptoBulk d + 1
  | .map entries => uptoBulkEntries entries + 1
  | .held _ => 1
def uptoBulkAll {H : Type} : List (DataW H) → Nat
  | [] => 0
  | d :: r => uptoBulk d + uptoBulkAll r
def uptoBulkEntries {H : Type} : List (Lit × DataW H) → Nat
  | [] => 0
  | x :: r => uptoBulkEntry x + uptoBulkEntries r
def uptoBulkEntry {H : Type} : Lit × DataW H → Nat
  | (.string bytes, d) => bytes.length + uptoBulk d + 1
  | (_, d) => uptoBulk d + 1
 end
def uptoSmall : (H : Type) → List (DataW H) → Bool := fun _ ds => decide (uptoBulkAll ds ≤ 1048576)
def OpenSpec.upto (s : _root_.Go.ChangeSpec) : _root_.Go.OpenSpec := { _root_.Go.OpenSpec.ofChange s with cond := some uptoSmall }

/-- 'garnerlaw05.TasksNext', WHERE WHAT IT READS IS OF BULK AT MOST 1048576: true; the input reads as it did. -/
def tasksNextUptoRow : OpenClaim := { program := "ytdganbddgobfdaa", sum := "abdda140733691547a1db79ecec8b50589b80420a1f4ffceff48327f3706d070", func := "garner/garnerlaw05.TasksNext", spec := "tasksNext", unfollowed := true, recurses := true, apart := false, narrowed := true }
def TasksNextUptoSaid : Prop := tasksNextUptoRow.holds Try.pinned (OpenSpec.upto tasksNextSpec)

/-- 'garnerlaw05.TasksAwait', WHERE WHAT IT READS IS OF BULK AT MOST 1048576: true; the input reads as it did. -/
def tasksAwaitUptoRow : OpenClaim := { program := "ytdganbddgobfdaa", sum := "abdda140733691547a1db79ecec8b50589b80420a1f4ffceff48327f3706d070", func := "garner/garnerlaw05.TasksAwait", spec := "tasksAwait", unfollowed := true, recurses := true, apart := false, narrowed := true }
def TasksAwaitUptoSaid : Prop := tasksAwaitUptoRow.holds Try.pinned (OpenSpec.upto tasksAwaitSpec)

/-- 'garnerlaw05.TasksBoxes', WHERE WHAT IT READS IS OF BULK AT MOST 1048576: true; the input reads as it did. -/
def tasksBoxesUptoRow : OpenClaim := { program := "ytdganbddgobfdaa", sum := "abdda140733691547a1db79ecec8b50589b80420a1f4ffceff48327f3706d070", func := "garner/garnerlaw05.TasksBoxes", spec := "tasksBoxes", unfollowed := true, recurses := true, apart := false, narrowed := true }
def TasksBoxesUptoSaid : Prop := tasksBoxesUptoRow.holds Try.pinned (OpenSpec.upto tasksBoxesSpec)

/-- 'garnerlaw06.EpochPlays', WHERE WHAT IT READS IS OF BULK AT MOST 1048576: true; the input reads as it did. -/
def epochPlaysUptoRow : OpenClaim := { program := "ytdganbddgobfdaa", sum := "abdda140733691547a1db79ecec8b50589b80420a1f4ffceff48327f3706d070", func := "garner/garnerlaw06.EpochPlays", spec := "epochPlays", unfollowed := true, recurses := true, apart := false, narrowed := true }
def EpochPlaysUptoSaid : Prop := epochPlaysUptoRow.holds Try.pinned (OpenSpec.upto epochPlaysSpec)

/-- 'garnerlaw09.PermReads', WHERE WHAT IT READS IS OF BULK AT MOST 1048576: true; the input reads as it did. -/
def permReadsUptoRow : OpenClaim := { program := "ytdganbddgobfdaa", sum := "abdda140733691547a1db79ecec8b50589b80420a1f4ffceff48327f3706d070", func := "garner/garnerlaw09.PermReads", spec := "permReads", inPlace := ["slices.overlaps[int]"], unfollowed := true, recurses := true, apart := false, narrowed := true }
def PermReadsUptoSaid : Prop := permReadsUptoRow.holds Try.pinned (OpenSpec.upto permReadsSpec)

/-- 'garnerlaw03.DiskNames', WHERE WHAT IT READS IS OF BULK AT MOST 1048576: true; the input reads as it did. -/
def diskNamesUptoRow : OpenClaim := { program := "ytdganbddgobfdaa", sum := "abdda140733691547a1db79ecec8b50589b80420a1f4ffceff48327f3706d070", func := "garner/garnerlaw03.DiskNames", spec := "diskNames", unfollowed := true, recurses := true, apart := false, narrowed := true }
def DiskNamesUptoSaid : Prop := diskNamesUptoRow.holds Try.pinned (OpenSpec.upto diskNamesSpec)

/-- 'garnerlaw04.CellsPlay', WHERE WHAT IT READS IS OF BULK AT MOST 1048576: true; the input reads as it did. -/
def cellsPlayUptoRow : OpenClaim := { program := "ytdganbddgobfdaa", sum := "abdda140733691547a1db79ecec8b50589b80420a1f4ffceff48327f3706d070", func := "garner/garnerlaw04.CellsPlay", spec := "cellsPlay", unfollowed := true, recurses := true, apart := false, narrowed := true }
def CellsPlayUptoSaid : Prop := cellsPlayUptoRow.holds Try.pinned (OpenSpec.upto cellsPlaySpec)

/-- 'garnerlaw11.NodePlays', WHERE WHAT IT READS IS OF BULK AT MOST 1048576: true; the input reads as it did. -/
def nodePlaysUptoRow : OpenClaim := { program := "ytdganbddgobfdaa", sum := "abdda140733691547a1db79ecec8b50589b80420a1f4ffceff48327f3706d070", func := "garner/garnerlaw11.NodePlays", spec := "nodePlays", inPlace := ["slices.overlaps[int]"], unfollowed := true, recurses := true, apart := false, narrowed := true }
def NodePlaysUptoSaid : Prop := nodePlaysUptoRow.holds Try.pinned (OpenSpec.upto nodePlaysSpec)

/-- 'garnerlaw03.DiskSame', WHERE WHAT IT READS IS OF BULK AT MOST 1048576: true; the input reads as it did. -/
def diskSameUptoRow : OpenClaim := { program := "ytdganbddgobfdaa", sum := "abdda140733691547a1db79ecec8b50589b80420a1f4ffceff48327f3706d070", func := "garner/garnerlaw03.DiskSame", spec := "diskSame", inPlace := ["maps.clone"], unfollowed := true, recurses := true, apart := false, narrowed := true }
def DiskSameUptoSaid : Prop := diskSameUptoRow.holds Try.pinned (OpenSpec.upto diskSameSpec)

/-- 'garnerlaw03.DiskSteps', WHERE WHAT IT READS IS OF BULK AT MOST 1048576: true; the input reads as it did. -/
def diskStepsUptoRow : OpenClaim := { program := "ytdganbddgobfdaa", sum := "abdda140733691547a1db79ecec8b50589b80420a1f4ffceff48327f3706d070", func := "garner/garnerlaw03.DiskSteps", spec := "diskSteps", inPlace := ["maps.clone"], unfollowed := true, recurses := true, apart := false, narrowed := true }
def DiskStepsUptoSaid : Prop := diskStepsUptoRow.holds Try.pinned (OpenSpec.upto diskStepsSpec)

/-- 'garnerlaw03.DiskLasts', WHERE WHAT IT READS IS OF BULK AT MOST 1048576: true; the input reads as it did. -/
def diskLastsUptoRow : OpenClaim := { program := "ytdganbddgobfdaa", sum := "abdda140733691547a1db79ecec8b50589b80420a1f4ffceff48327f3706d070", func := "garner/garnerlaw03.DiskLasts", spec := "diskLasts", inPlace := ["maps.clone"], unfollowed := true, recurses := true, apart := false, narrowed := true }
def DiskLastsUptoSaid : Prop := diskLastsUptoRow.holds Try.pinned (OpenSpec.upto diskLastsSpec)

/-- 'garnerlaw04.CellsCopies', WHERE WHAT IT READS IS OF BULK AT MOST 1048576: true; the input reads as it did. -/
def cellsCopiesUptoRow : OpenClaim := { program := "ytdganbddgobfdaa", sum := "abdda140733691547a1db79ecec8b50589b80420a1f4ffceff48327f3706d070", func := "garner/garnerlaw04.CellsCopies", spec := "cellsCopies", inPlace := ["maps.clone"], unfollowed := true, recurses := true, apart := false, narrowed := true }
def CellsCopiesUptoSaid : Prop := cellsCopiesUptoRow.holds Try.pinned (OpenSpec.upto cellsCopiesSpec)

end Rows
end Go.Proofs.Ytdganbddgobfdaa

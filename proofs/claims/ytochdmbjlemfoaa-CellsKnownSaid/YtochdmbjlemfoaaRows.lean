/-
  No cell of these rows narrows 'for every input' (looked for: loops, veiled, ifaces, maps, wideKeys, modest, calm, conditions, laid).
  DERIVED. THE GIVEN ROWS OF THIS SEAT. 14 by the template 'for every input the law returns true; each argument reads behind the call as it read before'; 0 by the template 'total and deterministic' (their statements: YtochdmbjlemfoaaTotals.lean).
  GIVEN WITH THE SEED: the statements are not yours to turn. If you find one false, say at which input.
  Laid BY PROGRAM, IN A SANDBOX (cutbox-rows.mjs): the forced cells as the released guide's own fill.sh prints them over the translation 7e46b4bde7526dbb… (all of the seat's roots in one cut). By AI agents, Wed Nov 11 2026. No macro, syntax, notation, axiom, sorry.
-/
import Derived.Test.YtochdmbjlemfoaaChecked
import GoSem.Claim
import GoSem.ClaimJoined
import GoSem.ClaimMapViews
import Derived.JoinedTies
import Derived.KernelRfl
namespace Go.Proofs.Ytochdmbjlemfoaa
/- THE CELL 'sum', in the pinned program and in every row, IS THE sha256 OF THE DUMP (.gsa) THAT YtochdmbjlemfoaaProg.lean LOADS. Nothing in Lean hashes anything: it is a label: what it is worth is what the hold of that sum in a sandbox is worth. -/
noncomputable def Try.pinned : Pinned := { name := "ytochdmbjlemfoaa", sum := "7e46b4bde7526dbb6007940d4ff8544fc28bd27f84f4e45f21f959f7d60a273d", checked := Try.checked }
namespace Rows
def none {H : Type} : Left H := { results := [], args := [] }

/-- 'anamnesislaw24.UndoLast': WHATEVER THE INPUT: true; the input reads as it did. -/
def undoLastSpec : ChangeSpec := { name := "undoLast", fn := fun _ => fun
  | [d1, d2, d3] => { results := [.lit (.bool true)], args := [d1, d2, d3] }
  | _ => none }
def undoLastRow : OpenClaim := { program := "ytochdmbjlemfoaa", sum := "7e46b4bde7526dbb6007940d4ff8544fc28bd27f84f4e45f21f959f7d60a273d", func := "anamnesis/anamnesislaw24.UndoLast", spec := "undoLast", apart := false }
def UndoLastSaid : Prop := undoLastRow.holds Try.pinned (OpenSpec.ofChange undoLastSpec)

/-- ITS FALSE NEIGHBOUR: 'it returns false'. Refute it at one input. -/
def undoLastWrong : ChangeSpec := { name := "undoLast", fn := fun _ => fun
  | [d1, d2, d3] => { results := [.lit (.bool false)], args := [d1, d2, d3] }
  | _ => none }
def UndoLastWrongFalsely : Prop := undoLastRow.holds Try.pinned (OpenSpec.ofChange undoLastWrong)

/-- 'anamnesislaw24.UndoOwn': WHATEVER THE INPUT: true; the input reads as it did. -/
def undoOwnSpec : ChangeSpec := { name := "undoOwn", fn := fun _ => fun
  | [d1, d2] => { results := [.lit (.bool true)], args := [d1, d2] }
  | _ => none }
def undoOwnRow : OpenClaim := { program := "ytochdmbjlemfoaa", sum := "7e46b4bde7526dbb6007940d4ff8544fc28bd27f84f4e45f21f959f7d60a273d", func := "anamnesis/anamnesislaw24.UndoOwn", spec := "undoOwn", apart := false }
def UndoOwnSaid : Prop := undoOwnRow.holds Try.pinned (OpenSpec.ofChange undoOwnSpec)

/-- ITS FALSE NEIGHBOUR: 'it returns false'. Refute it at one input. -/
def undoOwnWrong : ChangeSpec := { name := "undoOwn", fn := fun _ => fun
  | [d1, d2] => { results := [.lit (.bool false)], args := [d1, d2] }
  | _ => none }
def UndoOwnWrongFalsely : Prop := undoOwnRow.holds Try.pinned (OpenSpec.ofChange undoOwnWrong)

/-- 'anamnesislaw24.UndoKnown': WHATEVER THE INPUT: true; the input reads as it did. -/
def undoKnownSpec : ChangeSpec := { name := "undoKnown", fn := fun _ => fun
  | [] => { results := [.lit (.bool true)], args := [] }
  | _ => none }
def undoKnownRow : OpenClaim := { program := "ytochdmbjlemfoaa", sum := "7e46b4bde7526dbb6007940d4ff8544fc28bd27f84f4e45f21f959f7d60a273d", func := "anamnesis/anamnesislaw24.UndoKnown", spec := "undoKnown", apart := false }
def UndoKnownSaid : Prop := undoKnownRow.holds Try.pinned (OpenSpec.ofChange undoKnownSpec)

/-- ITS FALSE NEIGHBOUR: 'it returns false'. Refute it at one input. -/
def undoKnownWrong : ChangeSpec := { name := "undoKnown", fn := fun _ => fun
  | [] => { results := [.lit (.bool false)], args := [] }
  | _ => none }
def UndoKnownWrongFalsely : Prop := undoKnownRow.holds Try.pinned (OpenSpec.ofChange undoKnownWrong)

/-- 'anamnesislaw24.UndoPlays': WHATEVER THE INPUT: true; the input reads as it did. -/
def undoPlaysSpec : ChangeSpec := { name := "undoPlays", fn := fun _ => fun
  | [d1, d2] => { results := [.lit (.bool true)], args := [d1, d2] }
  | _ => none }
def undoPlaysRow : OpenClaim := { program := "ytochdmbjlemfoaa", sum := "7e46b4bde7526dbb6007940d4ff8544fc28bd27f84f4e45f21f959f7d60a273d", func := "anamnesis/anamnesislaw24.UndoPlays", spec := "undoPlays", apart := false }
def UndoPlaysSaid : Prop := undoPlaysRow.holds Try.pinned (OpenSpec.ofChange undoPlaysSpec)

/-- ITS FALSE NEIGHBOUR: 'it returns false'. Refute it at one input. -/
def undoPlaysWrong : ChangeSpec := { name := "undoPlays", fn := fun _ => fun
  | [d1, d2] => { results := [.lit (.bool false)], args := [d1, d2] }
  | _ => none }
def UndoPlaysWrongFalsely : Prop := undoPlaysRow.holds Try.pinned (OpenSpec.ofChange undoPlaysWrong)

/-- 'anamnesislaw25.MarksLast': WHATEVER THE INPUT: true; the input reads as it did. -/
def marksLastSpec : ChangeSpec := { name := "marksLast", fn := fun _ => fun
  | [d1, d2, d3, d4] => { results := [.lit (.bool true)], args := [d1, d2, d3, d4] }
  | _ => none }
def marksLastRow : OpenClaim := { program := "ytochdmbjlemfoaa", sum := "7e46b4bde7526dbb6007940d4ff8544fc28bd27f84f4e45f21f959f7d60a273d", func := "anamnesis/anamnesislaw25.MarksLast", spec := "marksLast", unfollowed := true, recurses := true, apart := false }
def MarksLastSaid : Prop := marksLastRow.holds Try.pinned (OpenSpec.ofChange marksLastSpec)

/-- ITS FALSE NEIGHBOUR: 'it returns false'. Refute it at one input. -/
def marksLastWrong : ChangeSpec := { name := "marksLast", fn := fun _ => fun
  | [d1, d2, d3, d4] => { results := [.lit (.bool false)], args := [d1, d2, d3, d4] }
  | _ => none }
def MarksLastWrongFalsely : Prop := marksLastRow.holds Try.pinned (OpenSpec.ofChange marksLastWrong)

/-- 'anamnesislaw25.MarksPlay': WHATEVER THE INPUT: true; the input reads as it did. -/
def marksPlaySpec : ChangeSpec := { name := "marksPlay", fn := fun _ => fun
  | [d1, d2, d3, d4] => { results := [.lit (.bool true)], args := [d1, d2, d3, d4] }
  | _ => none }
def marksPlayRow : OpenClaim := { program := "ytochdmbjlemfoaa", sum := "7e46b4bde7526dbb6007940d4ff8544fc28bd27f84f4e45f21f959f7d60a273d", func := "anamnesis/anamnesislaw25.MarksPlay", spec := "marksPlay", unfollowed := true, recurses := true, apart := false }
def MarksPlaySaid : Prop := marksPlayRow.holds Try.pinned (OpenSpec.ofChange marksPlaySpec)

/-- ITS FALSE NEIGHBOUR: 'it returns false'. Refute it at one input. -/
def marksPlayWrong : ChangeSpec := { name := "marksPlay", fn := fun _ => fun
  | [d1, d2, d3, d4] => { results := [.lit (.bool false)], args := [d1, d2, d3, d4] }
  | _ => none }
def MarksPlayWrongFalsely : Prop := marksPlayRow.holds Try.pinned (OpenSpec.ofChange marksPlayWrong)

/-- 'anamnesislaw25.MarksKnown': WHATEVER THE INPUT: true; the input reads as it did. -/
def marksKnownSpec : ChangeSpec := { name := "marksKnown", fn := fun _ => fun
  | [] => { results := [.lit (.bool true)], args := [] }
  | _ => none }
def marksKnownRow : OpenClaim := { program := "ytochdmbjlemfoaa", sum := "7e46b4bde7526dbb6007940d4ff8544fc28bd27f84f4e45f21f959f7d60a273d", func := "anamnesis/anamnesislaw25.MarksKnown", spec := "marksKnown", unfollowed := true, recurses := true, apart := false }
def MarksKnownSaid : Prop := marksKnownRow.holds Try.pinned (OpenSpec.ofChange marksKnownSpec)

/-- ITS FALSE NEIGHBOUR: 'it returns false'. Refute it at one input. -/
def marksKnownWrong : ChangeSpec := { name := "marksKnown", fn := fun _ => fun
  | [] => { results := [.lit (.bool false)], args := [] }
  | _ => none }
def MarksKnownWrongFalsely : Prop := marksKnownRow.holds Try.pinned (OpenSpec.ofChange marksKnownWrong)

/-- 'anamnesislaw25.MarksMost': WHATEVER THE INPUT: true; the input reads as it did. -/
def marksMostSpec : ChangeSpec := { name := "marksMost", fn := fun _ => fun
  | [d1, d2, d3] => { results := [.lit (.bool true)], args := [d1, d2, d3] }
  | _ => none }
def marksMostRow : OpenClaim := { program := "ytochdmbjlemfoaa", sum := "7e46b4bde7526dbb6007940d4ff8544fc28bd27f84f4e45f21f959f7d60a273d", func := "anamnesis/anamnesislaw25.MarksMost", spec := "marksMost", unfollowed := true, recurses := true, apart := false }
def MarksMostSaid : Prop := marksMostRow.holds Try.pinned (OpenSpec.ofChange marksMostSpec)

/-- ITS FALSE NEIGHBOUR: 'it returns false'. Refute it at one input. -/
def marksMostWrong : ChangeSpec := { name := "marksMost", fn := fun _ => fun
  | [d1, d2, d3] => { results := [.lit (.bool false)], args := [d1, d2, d3] }
  | _ => none }
def MarksMostWrongFalsely : Prop := marksMostRow.holds Try.pinned (OpenSpec.ofChange marksMostWrong)

/-- 'anamnesislaw25.MarksNear': WHATEVER THE INPUT: true; the input reads as it did. -/
def marksNearSpec : ChangeSpec := { name := "marksNear", fn := fun _ => fun
  | [d1, d2, d3, d4, d5] => { results := [.lit (.bool true)], args := [d1, d2, d3, d4, d5] }
  | _ => none }
def marksNearRow : OpenClaim := { program := "ytochdmbjlemfoaa", sum := "7e46b4bde7526dbb6007940d4ff8544fc28bd27f84f4e45f21f959f7d60a273d", func := "anamnesis/anamnesislaw25.MarksNear", spec := "marksNear", unfollowed := true, recurses := true, apart := false }
def MarksNearSaid : Prop := marksNearRow.holds Try.pinned (OpenSpec.ofChange marksNearSpec)

/-- ITS FALSE NEIGHBOUR: 'it returns false'. Refute it at one input. -/
def marksNearWrong : ChangeSpec := { name := "marksNear", fn := fun _ => fun
  | [d1, d2, d3, d4, d5] => { results := [.lit (.bool false)], args := [d1, d2, d3, d4, d5] }
  | _ => none }
def MarksNearWrongFalsely : Prop := marksNearRow.holds Try.pinned (OpenSpec.ofChange marksNearWrong)

/-- 'anamnesislaw19.CellsPlay': WHATEVER THE INPUT: true; the input reads as it did. -/
def cellsPlaySpec : ChangeSpec := { name := "cellsPlay", fn := fun _ => fun
  | [d1, d2] => { results := [.lit (.bool true)], args := [d1, d2] }
  | _ => none }
def cellsPlayRow : OpenClaim := { program := "ytochdmbjlemfoaa", sum := "7e46b4bde7526dbb6007940d4ff8544fc28bd27f84f4e45f21f959f7d60a273d", func := "anamnesis/anamnesislaw19.CellsPlay", spec := "cellsPlay", unfollowed := true, recurses := true, apart := false }
def CellsPlaySaid : Prop := cellsPlayRow.holds Try.pinned (OpenSpec.ofChange cellsPlaySpec)

/-- ITS FALSE NEIGHBOUR: 'it returns false'. Refute it at one input. -/
def cellsPlayWrong : ChangeSpec := { name := "cellsPlay", fn := fun _ => fun
  | [d1, d2] => { results := [.lit (.bool false)], args := [d1, d2] }
  | _ => none }
def CellsPlayWrongFalsely : Prop := cellsPlayRow.holds Try.pinned (OpenSpec.ofChange cellsPlayWrong)

/-- 'anamnesislaw19.CellsSame': WHATEVER THE INPUT: true; the input reads as it did. -/
def cellsSameSpec : ChangeSpec := { name := "cellsSame", fn := fun _ => fun
  | [d1, d2, d3, d4] => { results := [.lit (.bool true)], args := [d1, d2, d3, d4] }
  | _ => none }
def cellsSameRow : OpenClaim := { program := "ytochdmbjlemfoaa", sum := "7e46b4bde7526dbb6007940d4ff8544fc28bd27f84f4e45f21f959f7d60a273d", func := "anamnesis/anamnesislaw19.CellsSame", spec := "cellsSame", unfollowed := true, recurses := true, apart := false }
def CellsSameSaid : Prop := cellsSameRow.holds Try.pinned (OpenSpec.ofChange cellsSameSpec)

/-- ITS FALSE NEIGHBOUR: 'it returns false'. Refute it at one input. -/
def cellsSameWrong : ChangeSpec := { name := "cellsSame", fn := fun _ => fun
  | [d1, d2, d3, d4] => { results := [.lit (.bool false)], args := [d1, d2, d3, d4] }
  | _ => none }
def CellsSameWrongFalsely : Prop := cellsSameRow.holds Try.pinned (OpenSpec.ofChange cellsSameWrong)

/-- 'anamnesislaw19.CellsBack': WHATEVER THE INPUT: true; the input reads as it did. -/
def cellsBackSpec : ChangeSpec := { name := "cellsBack", fn := fun _ => fun
  | [d1, d2] => { results := [.lit (.bool true)], args := [d1, d2] }
  | _ => none }
def cellsBackRow : OpenClaim := { program := "ytochdmbjlemfoaa", sum := "7e46b4bde7526dbb6007940d4ff8544fc28bd27f84f4e45f21f959f7d60a273d", func := "anamnesis/anamnesislaw19.CellsBack", spec := "cellsBack", unfollowed := true, recurses := true, apart := false }
def CellsBackSaid : Prop := cellsBackRow.holds Try.pinned (OpenSpec.ofChange cellsBackSpec)

/-- ITS FALSE NEIGHBOUR: 'it returns false'. Refute it at one input. -/
def cellsBackWrong : ChangeSpec := { name := "cellsBack", fn := fun _ => fun
  | [d1, d2] => { results := [.lit (.bool false)], args := [d1, d2] }
  | _ => none }
def CellsBackWrongFalsely : Prop := cellsBackRow.holds Try.pinned (OpenSpec.ofChange cellsBackWrong)

/-- 'anamnesislaw19.CellsKnown': WHATEVER THE INPUT: true; the input reads as it did. -/
def cellsKnownSpec : ChangeSpec := { name := "cellsKnown", fn := fun _ => fun
  | [] => { results := [.lit (.bool true)], args := [] }
  | _ => none }
def cellsKnownRow : OpenClaim := { program := "ytochdmbjlemfoaa", sum := "7e46b4bde7526dbb6007940d4ff8544fc28bd27f84f4e45f21f959f7d60a273d", func := "anamnesis/anamnesislaw19.CellsKnown", spec := "cellsKnown", unfollowed := true, recurses := true, apart := false }
def CellsKnownSaid : Prop := cellsKnownRow.holds Try.pinned (OpenSpec.ofChange cellsKnownSpec)

/-- ITS FALSE NEIGHBOUR: 'it returns false'. Refute it at one input. -/
def cellsKnownWrong : ChangeSpec := { name := "cellsKnown", fn := fun _ => fun
  | [] => { results := [.lit (.bool false)], args := [] }
  | _ => none }
def CellsKnownWrongFalsely : Prop := cellsKnownRow.holds Try.pinned (OpenSpec.ofChange cellsKnownWrong)

/-- 'anamnesislaw19.CellsApart': WHATEVER THE INPUT: true; the input reads as it did. -/
def cellsApartSpec : ChangeSpec := { name := "cellsApart", fn := fun _ => fun
  | [d1, d2] => { results := [.lit (.bool true)], args := [d1, d2] }
  | _ => none }
def cellsApartRow : OpenClaim := { program := "ytochdmbjlemfoaa", sum := "7e46b4bde7526dbb6007940d4ff8544fc28bd27f84f4e45f21f959f7d60a273d", func := "anamnesis/anamnesislaw19.CellsApart", spec := "cellsApart", unfollowed := true, recurses := true, apart := false }
def CellsApartSaid : Prop := cellsApartRow.holds Try.pinned (OpenSpec.ofChange cellsApartSpec)

/-- ITS FALSE NEIGHBOUR: 'it returns false'. Refute it at one input. -/
def cellsApartWrong : ChangeSpec := { name := "cellsApart", fn := fun _ => fun
  | [d1, d2] => { results := [.lit (.bool false)], args := [d1, d2] }
  | _ => none }
def CellsApartWrongFalsely : Prop := cellsApartRow.holds Try.pinned (OpenSpec.ofChange cellsApartWrong)

/- THE SECOND FORM. 'bulk': how many values and letters a reading holds, each counted each time it is reached (what is shared counts as often as it is met; a slice's spare places count too). A statement '..UptoSaid' is the law's where the arguments, and the package variables that the reading takes, are together of bulk at most 1048576: NARROWER than '..Said'. Prove '..Said' where nothing that the law and all that it calls make is longer than what came in: it says more and counts as full. Else prove '..UptoSaid'. A law counts once. -/
mutual
def uptoBulk {H : Type} : DataW H → Nat
  | .lit (.string bytes) => bytes.length + 1
  | .lit _ => 1
  | .nil => 1
  | .ptr d => uptoBulk d + 1
  | .slice elems spare => uptoBulkAll elems + uptoBulkAll spare + 1
  | .agg parts => uptoBulkAll parts + 1
  | .iface _ d => uptoBulk d + 1
  | .map entries => uptoBulkEntries entries + 1
  | .held _ => 1
def uptoBulkAll {H : Type} : List (DataW H) → Nat
  | [] => 0
  | d :: r => uptoBulk d + uptoBulkAll r
def uptoBulkEntries {H : Type} : List (Lit × DataW H) → Nat
  | [] => 0
  | x :: r => uptoBulkEntry x + uptoBulkEntries r
def uptoBulkEntry {H : Type} : Lit × DataW H → Nat
  | (.string bytes, d) => bytes.length + uptoBulk d + 1
  | (_, d) => uptoBulk d + 1
 end
def uptoSmall : (H : Type) → List (DataW H) → Bool := fun _ ds => decide (uptoBulkAll ds ≤ 1048576)
def OpenSpec.upto (s : _root_.Go.ChangeSpec) : _root_.Go.OpenSpec := { _root_.Go.OpenSpec.ofChange s with cond := some uptoSmall }

/-- 'anamnesislaw24.UndoLast', WHERE WHAT IT READS IS OF BULK AT MOST 1048576: true; the input reads as it did. -/
def undoLastUptoRow : OpenClaim := { program := "ytochdmbjlemfoaa", sum := "7e46b4bde7526dbb6007940d4ff8544fc28bd27f84f4e45f21f959f7d60a273d", func := "anamnesis/anamnesislaw24.UndoLast", spec := "undoLast", apart := false, narrowed := true }
def UndoLastUptoSaid : Prop := undoLastUptoRow.holds Try.pinned (OpenSpec.upto undoLastSpec)

/-- 'anamnesislaw24.UndoOwn', WHERE WHAT IT READS IS OF BULK AT MOST 1048576: true; the input reads as it did. -/
def undoOwnUptoRow : OpenClaim := { program := "ytochdmbjlemfoaa", sum := "7e46b4bde7526dbb6007940d4ff8544fc28bd27f84f4e45f21f959f7d60a273d", func := "anamnesis/anamnesislaw24.UndoOwn", spec := "undoOwn", apart := false, narrowed := true }
def UndoOwnUptoSaid : Prop := undoOwnUptoRow.holds Try.pinned (OpenSpec.upto undoOwnSpec)

/-- 'anamnesislaw24.UndoKnown', WHERE WHAT IT READS IS OF BULK AT MOST 1048576: true; the input reads as it did. -/
def undoKnownUptoRow : OpenClaim := { program := "ytochdmbjlemfoaa", sum := "7e46b4bde7526dbb6007940d4ff8544fc28bd27f84f4e45f21f959f7d60a273d", func := "anamnesis/anamnesislaw24.UndoKnown", spec := "undoKnown", apart := false, narrowed := true }
def UndoKnownUptoSaid : Prop := undoKnownUptoRow.holds Try.pinned (OpenSpec.upto undoKnownSpec)

/-- 'anamnesislaw24.UndoPlays', WHERE WHAT IT READS IS OF BULK AT MOST 1048576: true; the input reads as it did. -/
def undoPlaysUptoRow : OpenClaim := { program := "ytochdmbjlemfoaa", sum := "7e46b4bde7526dbb6007940d4ff8544fc28bd27f84f4e45f21f959f7d60a273d", func := "anamnesis/anamnesislaw24.UndoPlays", spec := "undoPlays", apart := false, narrowed := true }
def UndoPlaysUptoSaid : Prop := undoPlaysUptoRow.holds Try.pinned (OpenSpec.upto undoPlaysSpec)

/-- 'anamnesislaw25.MarksLast', WHERE WHAT IT READS IS OF BULK AT MOST 1048576: true; the input reads as it did. -/
def marksLastUptoRow : OpenClaim := { program := "ytochdmbjlemfoaa", sum := "7e46b4bde7526dbb6007940d4ff8544fc28bd27f84f4e45f21f959f7d60a273d", func := "anamnesis/anamnesislaw25.MarksLast", spec := "marksLast", unfollowed := true, recurses := true, apart := false, narrowed := true }
def MarksLastUptoSaid : Prop := marksLastUptoRow.holds Try.pinned (OpenSpec.upto marksLastSpec)

/-- 'anamnesislaw25.MarksPlay', WHERE WHAT IT READS IS OF BULK AT MOST 1048576: true; the input reads as it did. -/
def marksPlayUptoRow : OpenClaim := { program := "ytochdmbjlemfoaa", sum := "7e46b4bde7526dbb6007940d4ff8544fc28bd27f84f4e45f21f959f7d60a273d", func := "anamnesis/anamnesislaw25.MarksPlay", spec := "marksPlay", unfollowed := true, recurses := true, apart := false, narrowed := true }
def MarksPlayUptoSaid : Prop := marksPlayUptoRow.holds Try.pinned (OpenSpec.upto marksPlaySpec)

/-- 'anamnesislaw25.MarksKnown', WHERE WHAT IT READS IS OF BULK AT MOST 1048576: true; the input reads as it did. -/
def marksKnownUptoRow : OpenClaim := { program := "ytochdmbjlemfoaa", sum := "7e46b4bde7526dbb6007940d4ff8544fc28bd27f84f4e45f21f959f7d60a273d", func := "anamnesis/anamnesislaw25.MarksKnown", spec := "marksKnown", unfollowed := true, recurses := true, apart := false, narrowed := true }
def MarksKnownUptoSaid : Prop := marksKnownUptoRow.holds Try.pinned (OpenSpec.upto marksKnownSpec)

/-- 'anamnesislaw25.MarksMost', WHERE WHAT IT READS IS OF BULK AT MOST 1048576: true; the input reads as it did. -/
def marksMostUptoRow : OpenClaim := { program := "ytochdmbjlemfoaa", sum := "7e46b4bde7526dbb6007940d4ff8544fc28bd27f84f4e45f21f959f7d60a273d", func := "anamnesis/anamnesislaw25.MarksMost", spec := "marksMost", unfollowed := true, recurses := true, apart := false, narrowed := true }
def MarksMostUptoSaid : Prop := marksMostUptoRow.holds Try.pinned (OpenSpec.upto marksMostSpec)

/-- 'anamnesislaw25.MarksNear', WHERE WHAT IT READS IS OF BULK AT MOST 1048576: true; the input reads as it did. -/
def marksNearUptoRow : OpenClaim := { program := "ytochdmbjlemfoaa", sum := "7e46b4bde7526dbb6007940d4ff8544fc28bd27f84f4e45f21f959f7d60a273d", func := "anamnesis/anamnesislaw25.MarksNear", spec := "marksNear", unfollowed := true, recurses := true, apart := false, narrowed := true }
def MarksNearUptoSaid : Prop := marksNearUptoRow.holds Try.pinned (OpenSpec.upto marksNearSpec)

/-- 'anamnesislaw19.CellsPlay', WHERE WHAT IT READS IS OF BULK AT MOST 1048576: true; the input reads as it did. -/
def cellsPlayUptoRow : OpenClaim := { program := "ytochdmbjlemfoaa", sum := "7e46b4bde7526dbb6007940d4ff8544fc28bd27f84f4e45f21f959f7d60a273d", func := "anamnesis/anamnesislaw19.CellsPlay", spec := "cellsPlay", unfollowed := true, recurses := true, apart := false, narrowed := true }
def CellsPlayUptoSaid : Prop := cellsPlayUptoRow.holds Try.pinned (OpenSpec.upto cellsPlaySpec)

/-- 'anamnesislaw19.CellsSame', WHERE WHAT IT READS IS OF BULK AT MOST 1048576: true; the input reads as it did. -/
def cellsSameUptoRow : OpenClaim := { program := "ytochdmbjlemfoaa", sum := "7e46b4bde7526dbb6007940d4ff8544fc28bd27f84f4e45f21f959f7d60a273d", func := "anamnesis/anamnesislaw19.CellsSame", spec := "cellsSame", unfollowed := true, recurses := true, apart := false, narrowed := true }
def CellsSameUptoSaid : Prop := cellsSameUptoRow.holds Try.pinned (OpenSpec.upto cellsSameSpec)

/-- 'anamnesislaw19.CellsBack', WHERE WHAT IT READS IS OF BULK AT MOST 1048576: true; the input reads as it did. -/
def cellsBackUptoRow : OpenClaim := { program := "ytochdmbjlemfoaa", sum := "7e46b4bde7526dbb6007940d4ff8544fc28bd27f84f4e45f21f959f7d60a273d", func := "anamnesis/anamnesislaw19.CellsBack", spec := "cellsBack", unfollowed := true, recurses := true, apart := false, narrowed := true }
def CellsBackUptoSaid : Prop := cellsBackUptoRow.holds Try.pinned (OpenSpec.upto cellsBackSpec)

/-- 'anamnesislaw19.CellsKnown', WHERE WHAT IT READS IS OF BULK AT MOST 1048576: true; the input reads as it did. -/
def cellsKnownUptoRow : OpenClaim := { program := "ytochdmbjlemfoaa", sum := "7e46b4bde7526dbb6007940d4ff8544fc28bd27f84f4e45f21f959f7d60a273d", func := "anamnesis/anamnesislaw19.CellsKnown", spec := "cellsKnown", unfollowed := true, recurses := true, apart := false, narrowed := true }
def CellsKnownUptoSaid : Prop := cellsKnownUptoRow.holds Try.pinned (OpenSpec.upto cellsKnownSpec)

/-- 'anamnesislaw19.CellsApart', WHERE WHAT IT READS IS OF BULK AT MOST 1048576: true; the input reads as it did. -/
def cellsApartUptoRow : OpenClaim := { program := "ytochdmbjlemfoaa", sum := "7e46b4bde7526dbb6007940d4ff8544fc28bd27f84f4e45f21f959f7d60a273d", func := "anamnesis/anamnesislaw19.CellsApart", spec := "cellsApart", unfollowed := true, recurses := true, apart := false, narrowed := true }
def CellsApartUptoSaid : Prop := cellsApartUptoRow.holds Try.pinned (OpenSpec.upto cellsApartSpec)

end Rows
end Go.Proofs.Ytochdmbjlemfoaa

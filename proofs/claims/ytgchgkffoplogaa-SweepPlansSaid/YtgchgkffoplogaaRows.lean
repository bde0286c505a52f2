/-
  No cell of these rows narrows 'for every input' (looked for: loops, veiled, ifaces, maps, wideKeys, modest, calm, conditions, laid).
  DERIVED. THE GIVEN ROWS OF THIS SEAT. 9 by the template 'for every input the law returns true; each argument reads behind the call as it read before'; 0 by the template 'total and deterministic' (their statements: YtgchgkffoplogaaTotals.lean).
  GIVEN WITH THE SEED: the statements are not yours to turn. If you find one false, say at which input.
  Laid BY PROGRAM, IN A SANDBOX (cutbox-rows.mjs): the forced cells as the released guide's own fill.sh prints them over the translation a4262009a550c590… (all of the seat's roots in one cut). By AI agents, Wed Nov 11 2026. No macro, syntax, notation, axiom, sorry.
-/
import Derived.Test.YtgchgkffoplogaaChecked
import GoSem.Claim
import GoSem.ClaimJoined
import GoSem.ClaimMapViews
import Derived.JoinedTies
import Derived.KernelRfl
namespace Go.Proofs.Ytgchgkffoplogaa
/- THE CELL 'sum', in the pinned program and in every row, IS THE sha256 OF THE DUMP (.gsa) THAT YtgchgkffoplogaaProg.lean LOADS. Nothing in Lean hashes anything: it is a label: what it is worth is what the hold of that sum in a sandbox is worth. -/
noncomputable def Try.pinned : Pinned := { name := "ytgchgkffoplogaa", sum := "a4262009a550c59005e8a3b7e4317a7154dc12d9b6c60f3255dcb613e4e30ca2", checked := Try.checked }
namespace Rows
def none {H : Type} : Left H := { results := [], args := [] }

/-- 'lexiconlaw11.SlotsLowest': WHATEVER THE INPUT: true; the input reads as it did. -/
def slotsLowestSpec : ChangeSpec := { name := "slotsLowest", fn := fun _ => fun
  | [d1, d2] => { results := [.lit (.bool true)], args := [d1, d2] }
  | _ => none }
def slotsLowestRow : OpenClaim := { program := "ytgchgkffoplogaa", sum := "a4262009a550c59005e8a3b7e4317a7154dc12d9b6c60f3255dcb613e4e30ca2", func := "lexicon/lexiconlaw11.SlotsLowest", spec := "slotsLowest", unfollowed := true, recurses := true, apart := false }
def SlotsLowestSaid : Prop := slotsLowestRow.holds Try.pinned (OpenSpec.ofChange slotsLowestSpec)

/-- ITS FALSE NEIGHBOUR: 'it returns false'. Refute it at one input. -/
def slotsLowestWrong : ChangeSpec := { name := "slotsLowest", fn := fun _ => fun
  | [d1, d2] => { results := [.lit (.bool false)], args := [d1, d2] }
  | _ => none }
def SlotsLowestWrongFalsely : Prop := slotsLowestRow.holds Try.pinned (OpenSpec.ofChange slotsLowestWrong)

/-- 'lexiconlaw11.SlotsPlay': WHATEVER THE INPUT: true; the input reads as it did. -/
def slotsPlaySpec : ChangeSpec := { name := "slotsPlay", fn := fun _ => fun
  | [d1, d2, d3] => { results := [.lit (.bool true)], args := [d1, d2, d3] }
  | _ => none }
def slotsPlayRow : OpenClaim := { program := "ytgchgkffoplogaa", sum := "a4262009a550c59005e8a3b7e4317a7154dc12d9b6c60f3255dcb613e4e30ca2", func := "lexicon/lexiconlaw11.SlotsPlay", spec := "slotsPlay", unfollowed := true, recurses := true, apart := false }
def SlotsPlaySaid : Prop := slotsPlayRow.holds Try.pinned (OpenSpec.ofChange slotsPlaySpec)

/-- ITS FALSE NEIGHBOUR: 'it returns false'. Refute it at one input. -/
def slotsPlayWrong : ChangeSpec := { name := "slotsPlay", fn := fun _ => fun
  | [d1, d2, d3] => { results := [.lit (.bool false)], args := [d1, d2, d3] }
  | _ => none }
def SlotsPlayWrongFalsely : Prop := slotsPlayRow.holds Try.pinned (OpenSpec.ofChange slotsPlayWrong)

/-- 'lexiconlaw11.SlotsNothing': WHATEVER THE INPUT: true; the input reads as it did. -/
def slotsNothingSpec : ChangeSpec := { name := "slotsNothing", fn := fun _ => fun
  | [d] => { results := [.lit (.bool true)], args := [d] }
  | _ => none }
def slotsNothingRow : OpenClaim := { program := "ytgchgkffoplogaa", sum := "a4262009a550c59005e8a3b7e4317a7154dc12d9b6c60f3255dcb613e4e30ca2", func := "lexicon/lexiconlaw11.SlotsNothing", spec := "slotsNothing", unfollowed := true, recurses := true, apart := false }
def SlotsNothingSaid : Prop := slotsNothingRow.holds Try.pinned (OpenSpec.ofChange slotsNothingSpec)

/-- ITS FALSE NEIGHBOUR: 'it returns false'. Refute it at one input. -/
def slotsNothingWrong : ChangeSpec := { name := "slotsNothing", fn := fun _ => fun
  | [d] => { results := [.lit (.bool false)], args := [d] }
  | _ => none }
def SlotsNothingWrongFalsely : Prop := slotsNothingRow.holds Try.pinned (OpenSpec.ofChange slotsNothingWrong)

/-- 'lexiconlaw11.SlotsTwo': WHATEVER THE INPUT: true; the input reads as it did. -/
def slotsTwoSpec : ChangeSpec := { name := "slotsTwo", fn := fun _ => fun
  | [d1, d2] => { results := [.lit (.bool true)], args := [d1, d2] }
  | _ => none }
def slotsTwoRow : OpenClaim := { program := "ytgchgkffoplogaa", sum := "a4262009a550c59005e8a3b7e4317a7154dc12d9b6c60f3255dcb613e4e30ca2", func := "lexicon/lexiconlaw11.SlotsTwo", spec := "slotsTwo", unfollowed := true, recurses := true, apart := false }
def SlotsTwoSaid : Prop := slotsTwoRow.holds Try.pinned (OpenSpec.ofChange slotsTwoSpec)

/-- ITS FALSE NEIGHBOUR: 'it returns false'. Refute it at one input. -/
def slotsTwoWrong : ChangeSpec := { name := "slotsTwo", fn := fun _ => fun
  | [d1, d2] => { results := [.lit (.bool false)], args := [d1, d2] }
  | _ => none }
def SlotsTwoWrongFalsely : Prop := slotsTwoRow.holds Try.pinned (OpenSpec.ofChange slotsTwoWrong)

/-- 'lexiconlaw12.SweepMarks': WHATEVER THE INPUT: true; the input reads as it did. -/
def sweepMarksSpec : ChangeSpec := { name := "sweepMarks", fn := fun _ => fun
  | [d1, d2, d3] => { results := [.lit (.bool true)], args := [d1, d2, d3] }
  | _ => none }
def sweepMarksRow : OpenClaim := { program := "ytgchgkffoplogaa", sum := "a4262009a550c59005e8a3b7e4317a7154dc12d9b6c60f3255dcb613e4e30ca2", func := "lexicon/lexiconlaw12.SweepMarks", spec := "sweepMarks", unfollowed := true, recurses := true, apart := false }
def SweepMarksSaid : Prop := sweepMarksRow.holds Try.pinned (OpenSpec.ofChange sweepMarksSpec)

/-- ITS FALSE NEIGHBOUR: 'it returns false'. Refute it at one input. -/
def sweepMarksWrong : ChangeSpec := { name := "sweepMarks", fn := fun _ => fun
  | [d1, d2, d3] => { results := [.lit (.bool false)], args := [d1, d2, d3] }
  | _ => none }
def SweepMarksWrongFalsely : Prop := sweepMarksRow.holds Try.pinned (OpenSpec.ofChange sweepMarksWrong)

/-- 'lexiconlaw12.SweepFrees': WHATEVER THE INPUT: true; the input reads as it did. -/
def sweepFreesSpec : ChangeSpec := { name := "sweepFrees", fn := fun _ => fun
  | [d1, d2, d3, d4] => { results := [.lit (.bool true)], args := [d1, d2, d3, d4] }
  | _ => none }
def sweepFreesRow : OpenClaim := { program := "ytgchgkffoplogaa", sum := "a4262009a550c59005e8a3b7e4317a7154dc12d9b6c60f3255dcb613e4e30ca2", func := "lexicon/lexiconlaw12.SweepFrees", spec := "sweepFrees", unfollowed := true, recurses := true, apart := false }
def SweepFreesSaid : Prop := sweepFreesRow.holds Try.pinned (OpenSpec.ofChange sweepFreesSpec)

/-- ITS FALSE NEIGHBOUR: 'it returns false'. Refute it at one input. -/
def sweepFreesWrong : ChangeSpec := { name := "sweepFrees", fn := fun _ => fun
  | [d1, d2, d3, d4] => { results := [.lit (.bool false)], args := [d1, d2, d3, d4] }
  | _ => none }
def SweepFreesWrongFalsely : Prop := sweepFreesRow.holds Try.pinned (OpenSpec.ofChange sweepFreesWrong)

/-- 'lexiconlaw12.SweepCloses': WHATEVER THE INPUT: true; the input reads as it did. -/
def sweepClosesSpec : ChangeSpec := { name := "sweepCloses", fn := fun _ => fun
  | [d1, d2, d3] => { results := [.lit (.bool true)], args := [d1, d2, d3] }
  | _ => none }
def sweepClosesRow : OpenClaim := { program := "ytgchgkffoplogaa", sum := "a4262009a550c59005e8a3b7e4317a7154dc12d9b6c60f3255dcb613e4e30ca2", func := "lexicon/lexiconlaw12.SweepCloses", spec := "sweepCloses", unfollowed := true, recurses := true, apart := false }
def SweepClosesSaid : Prop := sweepClosesRow.holds Try.pinned (OpenSpec.ofChange sweepClosesSpec)

/-- ITS FALSE NEIGHBOUR: 'it returns false'. Refute it at one input. -/
def sweepClosesWrong : ChangeSpec := { name := "sweepCloses", fn := fun _ => fun
  | [d1, d2, d3] => { results := [.lit (.bool false)], args := [d1, d2, d3] }
  | _ => none }
def SweepClosesWrongFalsely : Prop := sweepClosesRow.holds Try.pinned (OpenSpec.ofChange sweepClosesWrong)

/-- 'lexiconlaw12.SweepNothing': WHATEVER THE INPUT: true; the input reads as it did. -/
def sweepNothingSpec : ChangeSpec := { name := "sweepNothing", fn := fun _ => fun
  | [d1, d2] => { results := [.lit (.bool true)], args := [d1, d2] }
  | _ => none }
def sweepNothingRow : OpenClaim := { program := "ytgchgkffoplogaa", sum := "a4262009a550c59005e8a3b7e4317a7154dc12d9b6c60f3255dcb613e4e30ca2", func := "lexicon/lexiconlaw12.SweepNothing", spec := "sweepNothing", unfollowed := true, recurses := true, apart := false }
def SweepNothingSaid : Prop := sweepNothingRow.holds Try.pinned (OpenSpec.ofChange sweepNothingSpec)

/-- ITS FALSE NEIGHBOUR: 'it returns false'. Refute it at one input. -/
def sweepNothingWrong : ChangeSpec := { name := "sweepNothing", fn := fun _ => fun
  | [d1, d2] => { results := [.lit (.bool false)], args := [d1, d2] }
  | _ => none }
def SweepNothingWrongFalsely : Prop := sweepNothingRow.holds Try.pinned (OpenSpec.ofChange sweepNothingWrong)

/-- 'lexiconlaw12.SweepPlans': WHATEVER THE INPUT: true; the input reads as it did. -/
def sweepPlansSpec : ChangeSpec := { name := "sweepPlans", fn := fun _ => fun
  | [d1, d2] => { results := [.lit (.bool true)], args := [d1, d2] }
  | _ => none }
def sweepPlansRow : OpenClaim := { program := "ytgchgkffoplogaa", sum := "a4262009a550c59005e8a3b7e4317a7154dc12d9b6c60f3255dcb613e4e30ca2", func := "lexicon/lexiconlaw12.SweepPlans", spec := "sweepPlans", unfollowed := true, recurses := true, apart := false }
def SweepPlansSaid : Prop := sweepPlansRow.holds Try.pinned (OpenSpec.ofChange sweepPlansSpec)

/-- ITS FALSE NEIGHBOUR: 'it returns false'. Refute it at one input. -/
def sweepPlansWrong : ChangeSpec := { name := "sweepPlans", fn := fun _ => fun
  | [d1, d2] => { results := [.lit (.bool false)], args := [d1, d2] }
  | _ => none }
def SweepPlansWrongFalsely : Prop := sweepPlansRow.holds Try.pinned (OpenSpec.ofChange sweepPlansWrong)

/- THE SECOND FORM. 'bulk': how many values and letters a reading holds, each counted each time it is reached (what is shared counts as often as it is met; a slice's spare places count too). A statement '..UptoSaid' is the law's where the arguments, and the package variables that the reading takes, are together of bulk at most 1048576: NARROWER than '..Said'. Prove '..Said' where nothing that the law and all that it calls make is longer than what came in: it says more and counts as full. Else prove '..UptoSaid'. A law counts once. -/
mutual
def uptoBulk {H : Type} : DataW H → Nat
  | .lit (.string bytes) => bytes.length + 1
  | .lit _ => 1
  | .nil => 1
  | .ptr d => uptoBulk d + 1
  | .slice elems spare => uptoBulkAll elems + uptoBulkAll spare + 1
  | .agg parts => uptoBulkAll parts + 1
  | .iface _ d => uptoBulk d + 1
  | .map entries => uptoBulkEntries entries + 1
  | .held _ => 1
def uptoBulkAll {H : Type} : List (DataW H) → Nat
  | [] => 0
  | d :: r => uptoBulk d + uptoBulkAll r
def uptoBulkEntries {H : Type} : List (Lit × DataW H) → Nat
  | [] => 0
  | x :: r => uptoBulkEntry x + uptoBulkEntries r
def uptoBulkEntry {H : Type} : Lit × DataW H → Nat
  | (.string bytes, d) => bytes.length + uptoBulk d + 1
  | (_, d) => uptoBulk d + 1
 end
def uptoSmall : (H : Type) → List (DataW H) → Bool := fun _ ds => decide (uptoBulkAll ds ≤ 1048576)
def OpenSpec.upto (s : _root_.Go.ChangeSpec) : _root_.Go.OpenSpec := { _root_.Go.OpenSpec.ofChange s with cond := some uptoSmall }

/-- 'lexiconlaw11.SlotsLowest', WHERE WHAT IT READS IS OF BULK AT MOST 1048576: true; the input reads as it did. -/
def slotsLowestUptoRow : OpenClaim := { program := "ytgchgkffoplogaa", sum := "a4262009a550c59005e8a3b7e4317a7154dc12d9b6c60f3255dcb613e4e30ca2", func := "lexicon/lexiconlaw11.SlotsLowest", spec := "slotsLowest", unfollowed := true, recurses := true, apart := false, narrowed := true }
def SlotsLowestUptoSaid : Prop := slotsLowestUptoRow.holds Try.pinned (OpenSpec.upto slotsLowestSpec)

/-- 'lexiconlaw11.SlotsPlay', WHERE WHAT IT READS IS OF BULK AT MOST 1048576: true; the input reads as it did. -/
def slotsPlayUptoRow : OpenClaim := { program := "ytgchgkffoplogaa", sum := "a4262009a550c59005e8a3b7e4317a7154dc12d9b6c60f3255dcb613e4e30ca2", func := "lexicon/lexiconlaw11.SlotsPlay", spec := "slotsPlay", unfollowed := true, recurses := true, apart := false, narrowed := true }
def SlotsPlayUptoSaid : Prop := slotsPlayUptoRow.holds Try.pinned (OpenSpec.upto slotsPlaySpec)

/-- 'lexiconlaw11.SlotsNothing', WHERE WHAT IT READS IS OF BULK AT MOST 1048576: true; the input reads as it did. -/
def slotsNothingUptoRow : OpenClaim := { program := "ytgchgkffoplogaa", sum := "a4262009a550c59005e8a3b7e4317a7154dc12d9b6c60f3255dcb613e4e30ca2", func := "lexicon/lexiconlaw11.SlotsNothing", spec := "slotsNothing", unfollowed := true, recurses := true, apart := false, narrowed := true }
def SlotsNothingUptoSaid : Prop := slotsNothingUptoRow.holds Try.pinned (OpenSpec.upto slotsNothingSpec)

/-- 'lexiconlaw11.SlotsTwo', WHERE WHAT IT READS IS OF BULK AT MOST 1048576: true; the input reads as it did. -/
def slotsTwoUptoRow : OpenClaim := { program := "ytgchgkffoplogaa", sum := "a4262009a550c59005e8a3b7e4317a7154dc12d9b6c60f3255dcb613e4e30ca2", func := "lexicon/lexiconlaw11.SlotsTwo", spec := "slotsTwo", unfollowed := true, recurses := true, apart := false, narrowed := true }
def SlotsTwoUptoSaid : Prop := slotsTwoUptoRow.holds Try.pinned (OpenSpec.upto slotsTwoSpec)

/-- 'lexiconlaw12.SweepMarks', WHERE WHAT IT READS IS OF BULK AT MOST 1048576: true; the input reads as it did. -/
def sweepMarksUptoRow : OpenClaim := { program := "ytgchgkffoplogaa", sum := "a4262009a550c59005e8a3b7e4317a7154dc12d9b6c60f3255dcb613e4e30ca2", func := "lexicon/lexiconlaw12.SweepMarks", spec := "sweepMarks", unfollowed := true, recurses := true, apart := false, narrowed := true }
def SweepMarksUptoSaid : Prop := sweepMarksUptoRow.holds Try.pinned (OpenSpec.upto sweepMarksSpec)

/-- 'lexiconlaw12.SweepFrees', WHERE WHAT IT READS IS OF BULK AT MOST 1048576: true; the input reads as it did. -/
def sweepFreesUptoRow : OpenClaim := { program := "ytgchgkffoplogaa", sum := "a4262009a550c59005e8a3b7e4317a7154dc12d9b6c60f3255dcb613e4e30ca2", func := "lexicon/lexiconlaw12.SweepFrees", spec := "sweepFrees", unfollowed := true, recurses := true, apart := false, narrowed := true }
def SweepFreesUptoSaid : Prop := sweepFreesUptoRow.holds Try.pinned (OpenSpec.upto sweepFreesSpec)

/-- 'lexiconlaw12.SweepCloses', WHERE WHAT IT READS IS OF BULK AT MOST 1048576: true; the input reads as it did. -/
def sweepClosesUptoRow : OpenClaim := { program := "ytgchgkffoplogaa", sum := "a4262009a550c59005e8a3b7e4317a7154dc12d9b6c60f3255dcb613e4e30ca2", func := "lexicon/lexiconlaw12.SweepCloses", spec := "sweepCloses", unfollowed := true, recurses := true, apart := false, narrowed := true }
def SweepClosesUptoSaid : Prop := sweepClosesUptoRow.holds Try.pinned (OpenSpec.upto sweepClosesSpec)

/-- 'lexiconlaw12.SweepNothing', WHERE WHAT IT READS IS OF BULK AT MOST 1048576: true; the input reads as it did. -/
def sweepNothingUptoRow : OpenClaim := { program := "ytgchgkffoplogaa", sum := "a4262009a550c59005e8a3b7e4317a7154dc12d9b6c60f3255dcb613e4e30ca2", func := "lexicon/lexiconlaw12.SweepNothing", spec := "sweepNothing", unfollowed := true, recurses := true, apart := false, narrowed := true }
def SweepNothingUptoSaid : Prop := sweepNothingUptoRow.holds Try.pinned (OpenSpec.upto sweepNothingSpec)

/-- 'lexiconlaw12.SweepPlans', WHERE WHAT IT READS IS OF BULK AT MOST 1048576: true; the input reads as it did. -/
def sweepPlansUptoRow : OpenClaim := { program := "ytgchgkffoplogaa", sum := "a4262009a550c59005e8a3b7e4317a7154dc12d9b6c60f3255dcb613e4e30ca2", func := "lexicon/lexiconlaw12.SweepPlans", spec := "sweepPlans", unfollowed := true, recurses := true, apart := false, narrowed := true }
def SweepPlansUptoSaid : Prop := sweepPlansUptoRow.holds Try.pinned (OpenSpec.upto sweepPlansSpec)

end Rows
end Go.Proofs.Ytgchgkffoplogaa

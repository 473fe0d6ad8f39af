/-
  No cell of these rows narrows 'for every input' (looked for: loops, veiled, ifaces, maps, wideKeys, modest, calm, conditions, laid).
  DERIVED. THE GIVEN ROWS OF THIS SEAT. 5 by the template 'for every input the law returns true; each argument reads behind the call as it read before'; 0 by the template 'total and deterministic' (their statements: YtioflglfnalcaaaTotals.lean).
  GIVEN WITH THE SEED: the statements are not yours to turn. If you find one false, say at which input.
  Laid BY PROGRAM, IN A SANDBOX (cutbox-rows.mjs): the forced cells as the released guide's own fill.sh prints them over the translation 3afe06ba4385cb97… (all of the seat's roots in one cut). By AI agents, Wed Nov 11 2026. No macro, syntax, notation, axiom, sorry.
-/
import Derived.Test.YtioflglfnalcaaaChecked
import GoSem.Claim
import GoSem.ClaimJoined
import GoSem.ClaimMapViews
import Derived.JoinedTies
import Derived.KernelRfl
namespace Go.Proofs.Ytioflglfnalcaaa
/- THE CELL 'sum', in the pinned program and in every row, IS THE sha256 OF THE DUMP (.gsa) THAT YtioflglfnalcaaaProg.lean LOADS. Nothing in Lean hashes anything: it is a label: what it is worth is what the hold of that sum in a sandbox is worth. -/
noncomputable def Try.pinned : Pinned := { name := "ytioflglfnalcaaa", sum := "3afe06ba4385cb97054e36618e78a086b1b720d22ccd8d7ede9f52b6c54a5aa5", checked := Try.checked }
namespace Rows
def none {H : Type} : Left H := { results := [], args := [] }

/-- 'glossarylaw04.TriePlays': WHATEVER THE INPUT: true; the input reads as it did. -/
def triePlaysSpec : ChangeSpec := { name := "triePlays", fn := fun _ => fun
  | [d] => { results := [.lit (.bool true)], args := [d] }
  | _ => none }
def triePlaysRow : OpenClaim := { program := "ytioflglfnalcaaa", sum := "3afe06ba4385cb97054e36618e78a086b1b720d22ccd8d7ede9f52b6c54a5aa5", func := "glossary/glossarylaw04.TriePlays", spec := "triePlays", unfollowed := true, recurses := true, apart := false }
def TriePlaysSaid : Prop := triePlaysRow.holds Try.pinned (OpenSpec.ofChange triePlaysSpec)

/-- ITS FALSE NEIGHBOUR: 'it returns false'. Refute it at one input. -/
def triePlaysWrong : ChangeSpec := { name := "triePlays", fn := fun _ => fun
  | [d] => { results := [.lit (.bool false)], args := [d] }
  | _ => none }
def TriePlaysWrongFalsely : Prop := triePlaysRow.holds Try.pinned (OpenSpec.ofChange triePlaysWrong)

/-- 'glossarylaw04.TrieLongest': WHATEVER THE INPUT: true; the input reads as it did. -/
def trieLongestSpec : ChangeSpec := { name := "trieLongest", fn := fun _ => fun
  | [d1, d2] => { results := [.lit (.bool true)], args := [d1, d2] }
  | _ => none }
def trieLongestRow : OpenClaim := { program := "ytioflglfnalcaaa", sum := "3afe06ba4385cb97054e36618e78a086b1b720d22ccd8d7ede9f52b6c54a5aa5", func := "glossary/glossarylaw04.TrieLongest", spec := "trieLongest", unfollowed := true, recurses := true, apart := false }
def TrieLongestSaid : Prop := trieLongestRow.holds Try.pinned (OpenSpec.ofChange trieLongestSpec)

/-- ITS FALSE NEIGHBOUR: 'it returns false'. Refute it at one input. -/
def trieLongestWrong : ChangeSpec := { name := "trieLongest", fn := fun _ => fun
  | [d1, d2] => { results := [.lit (.bool false)], args := [d1, d2] }
  | _ => none }
def TrieLongestWrongFalsely : Prop := trieLongestRow.holds Try.pinned (OpenSpec.ofChange trieLongestWrong)

/-- 'glossarylaw04.TrieRises': WHATEVER THE INPUT: true; the input reads as it did. -/
def trieRisesSpec : ChangeSpec := { name := "trieRises", fn := fun _ => fun
  | [d1, d2] => { results := [.lit (.bool true)], args := [d1, d2] }
  | _ => none }
def trieRisesRow : OpenClaim := { program := "ytioflglfnalcaaa", sum := "3afe06ba4385cb97054e36618e78a086b1b720d22ccd8d7ede9f52b6c54a5aa5", func := "glossary/glossarylaw04.TrieRises", spec := "trieRises", unfollowed := true, recurses := true, apart := false }
def TrieRisesSaid : Prop := trieRisesRow.holds Try.pinned (OpenSpec.ofChange trieRisesSpec)

/-- ITS FALSE NEIGHBOUR: 'it returns false'. Refute it at one input. -/
def trieRisesWrong : ChangeSpec := { name := "trieRises", fn := fun _ => fun
  | [d1, d2] => { results := [.lit (.bool false)], args := [d1, d2] }
  | _ => none }
def TrieRisesWrongFalsely : Prop := trieRisesRow.holds Try.pinned (OpenSpec.ofChange trieRisesWrong)

/-- 'glossarylaw04.TrieThings': WHATEVER THE INPUT: true; the input reads as it did. -/
def trieThingsSpec : ChangeSpec := { name := "trieThings", fn := fun _ => fun
  | [d1, d2] => { results := [.lit (.bool true)], args := [d1, d2] }
  | _ => none }
def trieThingsRow : OpenClaim := { program := "ytioflglfnalcaaa", sum := "3afe06ba4385cb97054e36618e78a086b1b720d22ccd8d7ede9f52b6c54a5aa5", func := "glossary/glossarylaw04.TrieThings", spec := "trieThings", unfollowed := true, recurses := true, apart := false }
def TrieThingsSaid : Prop := trieThingsRow.holds Try.pinned (OpenSpec.ofChange trieThingsSpec)

/-- ITS FALSE NEIGHBOUR: 'it returns false'. Refute it at one input. -/
def trieThingsWrong : ChangeSpec := { name := "trieThings", fn := fun _ => fun
  | [d1, d2] => { results := [.lit (.bool false)], args := [d1, d2] }
  | _ => none }
def TrieThingsWrongFalsely : Prop := trieThingsRow.holds Try.pinned (OpenSpec.ofChange trieThingsWrong)

/-- 'glossarylaw04.TrieKnown': WHATEVER THE INPUT: true; the input reads as it did. -/
def trieKnownSpec : ChangeSpec := { name := "trieKnown", fn := fun _ => fun
  | [] => { results := [.lit (.bool true)], args := [] }
  | _ => none }
def trieKnownRow : OpenClaim := { program := "ytioflglfnalcaaa", sum := "3afe06ba4385cb97054e36618e78a086b1b720d22ccd8d7ede9f52b6c54a5aa5", func := "glossary/glossarylaw04.TrieKnown", spec := "trieKnown", unfollowed := true, recurses := true, apart := false }
def TrieKnownSaid : Prop := trieKnownRow.holds Try.pinned (OpenSpec.ofChange trieKnownSpec)

/-- ITS FALSE NEIGHBOUR: 'it returns false'. Refute it at one input. -/
def trieKnownWrong : ChangeSpec := { name := "trieKnown", fn := fun _ => fun
  | [] => { results := [.lit (.bool false)], args := [] }
  | _ => none }
def TrieKnownWrongFalsely : Prop := trieKnownRow.holds Try.pinned (OpenSpec.ofChange trieKnownWrong)

/- THE SECOND FORM. 'bulk': how many values and letters a reading holds, each counted each time it is reached (what is shared counts as often as it is met; a slice's spare places count too). A statement '..UptoSaid' is the law's where the arguments, and the package variables that the reading takes, are together of bulk at most 1048576: NARROWER than '..Said'. Prove '..Said' where nothing that the law and all that it calls make is longer than what came in: it says more and counts as full. Else prove '..UptoSaid'. A law counts once. -/
mutual
def uptoBulk {H : Type} : DataW H → Nat
  | .lit (.string bytes) => bytes.length + 1
  | .lit _ => 1
  | .nil => 1
  | .ptr d => uptoBulk d + 1
  | .slice elems spare => uptoBulkAll elems + uptoBulkAll spare + 1
  | .agg parts => uptoBulkAll parts + 1
  | .iface _ d => uptoBulk d + 1
  | .map entries => uptoBulkEntries entries + 1
  | .held _ => 1
def uptoBulkAll {H : Type} : List (DataW H) → Nat
  | [] => 0
  | d :: r => uptoBulk d + uptoBulkAll r
def uptoBulkEntries {H : Type} : List (Lit × DataW H) → Nat
  | [] => 0
  | x :: r => uptoBulkEntry x + uptoBulkEntries r
def uptoBulkEntry {H : Type} : Lit × DataW H → Nat
  | (.string bytes, d) => bytes.length + uptoBulk d + 1
  | (_, d) => uptoBulk d + 1
 end
def uptoSmall : (H : Type) → List (DataW H) → Bool := fun _ ds => decide (uptoBulkAll ds ≤ 1048576)
def OpenSpec.upto (s : _root_.Go.ChangeSpec) : _root_.Go.OpenSpec := { _root_.Go.OpenSpec.ofChange s with cond := some uptoSmall }

/-- 'glossarylaw04.TriePlays', WHERE WHAT IT READS IS OF BULK AT MOST 1048576: true; the input reads as it did. -/
def triePlaysUptoRow : OpenClaim := { program := "ytioflglfnalcaaa", sum := "3afe06ba4385cb97054e36618e78a086b1b720d22ccd8d7ede9f52b6c54a5aa5", func := "glossary/glossarylaw04.TriePlays", spec := "triePlays", unfollowed := true, recurses := true, apart := false, narrowed := true }
def TriePlaysUptoSaid : Prop := triePlaysUptoRow.holds Try.pinned (OpenSpec.upto triePlaysSpec)

/-- 'glossarylaw04.TrieLongest', WHERE WHAT IT READS IS OF BULK AT MOST 1048576: true; the input reads as it did. -/
def trieLongestUptoRow : OpenClaim := { program := "ytioflglfnalcaaa", sum := "3afe06ba4385cb97054e36618e78a086b1b720d22ccd8d7ede9f52b6c54a5aa5", func := "glossary/glossarylaw04.TrieLongest", spec := "trieLongest", unfollowed := true, recurses := true, apart := false, narrowed := true }
def TrieLongestUptoSaid : Prop := trieLongestUptoRow.holds Try.pinned (OpenSpec.upto trieLongestSpec)

/-- 'glossarylaw04.TrieRises', WHERE WHAT IT READS IS OF BULK AT MOST 1048576: true; the input reads as it did. -/
def trieRisesUptoRow : OpenClaim := { program := "ytioflglfnalcaaa", sum := "3afe06ba4385cb97054e36618e78a086b1b720d22ccd8d7ede9f52b6c54a5aa5", func := "glossary/glossarylaw04.TrieRises", spec := "trieRises", unfollowed := true, recurses := true, apart := false, narrowed := true }
def TrieRisesUptoSaid : Prop := trieRisesUptoRow.holds Try.pinned (OpenSpec.upto trieRisesSpec)

/-- 'glossarylaw04.TrieThings', WHERE WHAT IT READS IS OF BULK AT MOST 1048576: true; the input reads as it did. -/
def trieThingsUptoRow : OpenClaim := { program := "ytioflglfnalcaaa", sum := "3afe06ba4385cb97054e36618e78a086b1b720d22ccd8d7ede9f52b6c54a5aa5", func := "glossary/glossarylaw04.TrieThings", spec := "trieThings", unfollowed := true, recurses := true, apart := false, narrowed := true }
def TrieThingsUptoSaid : Prop := trieThingsUptoRow.holds Try.pinned (OpenSpec.upto trieThingsSpec)

/-- 'glossarylaw04.TrieKnown', WHERE WHAT IT READS IS OF BULK AT MOST 1048576: true; the input reads as it did. -/
def trieKnownUptoRow : OpenClaim := { program := "ytioflglfnalcaaa", sum := "3afe06ba4385cb97054e36618e78a086b1b720d22ccd8d7ede9f52b6c54a5aa5", func := "glossary/glossarylaw04.TrieKnown", spec := "trieKnown", unfollowed := true, recurses := true, apart := false, narrowed := true }
def TrieKnownUptoSaid : Prop := trieKnownUptoRow.holds Try.pinned (OpenSpec.upto trieKnownSpec)

end Rows
end Go.Proofs.Ytioflglfnalcaaa

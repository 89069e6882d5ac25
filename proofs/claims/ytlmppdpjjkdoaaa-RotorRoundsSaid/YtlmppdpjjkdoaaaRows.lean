/-
  No cell of these rows narrows 'for every input' (looked for: loops, veiled, ifaces, maps, wideKeys, modest, calm, conditions, laid).
  DERIVED. THE GIVEN ROWS OF THIS SEAT. 12 by the template 'for every input the law returns true; each argument reads behind the call as it read before'; 0 by the template 'total and deterministic' (their statements: YtlmppdpjjkdoaaaTotals.lean).
  GIVEN WITH THE SEED: the statements are not yours to turn. If you find one false, say at which input.
  Laid BY PROGRAM, IN A SANDBOX (cutbox-rows.mjs): the forced cells as the released guide's own fill.sh prints them over the translation 6d5fba593daf094a… (all of the seat's roots in one cut). By AI agents, Wed Nov 11 2026. No macro, syntax, notation, axiom, sorry.
-/
import Derived.Test.YtlmppdpjjkdoaaaChecked
import GoSem.Claim
import GoSem.ClaimJoined
import GoSem.ClaimMapViews
import Derived.JoinedTies
import Derived.KernelRfl
namespace Go.Proofs.Ytlmppdpjjkdoaaa
/- THE CELL 'sum', in the pinned program and in every row, IS THE sha256 OF THE DUMP (.gsa) THAT YtlmppdpjjkdoaaaProg.lean LOADS. Nothing in Lean hashes anything: it is a label: what it is worth is what the hold of that sum in a sandbox is worth. -/
noncomputable def Try.pinned : Pinned := { name := "ytlmppdpjjkdoaaa", sum := "6d5fba593daf094a3d54b3536736154d8db5d9df76ed93618785b19255953c40", checked := Try.checked }
namespace Rows
def none {H : Type} : Left H := { results := [], args := [] }

/-- 'stewardlaw21.ProbeResults': WHATEVER THE INPUT: true; the input reads as it did. -/
def probeResultsSpec : ChangeSpec := { name := "probeResults", fn := fun _ => fun
  | [d1, d2, d3] => { results := [.lit (.bool true)], args := [d1, d2, d3] }
  | _ => none }
def probeResultsRow : OpenClaim := { program := "ytlmppdpjjkdoaaa", sum := "6d5fba593daf094a3d54b3536736154d8db5d9df76ed93618785b19255953c40", func := "steward/stewardlaw21.ProbeResults", spec := "probeResults", apart := false }
def ProbeResultsSaid : Prop := probeResultsRow.holds Try.pinned (OpenSpec.ofChange probeResultsSpec)

/-- ITS FALSE NEIGHBOUR: 'it returns false'. Refute it at one input. -/
def probeResultsWrong : ChangeSpec := { name := "probeResults", fn := fun _ => fun
  | [d1, d2, d3] => { results := [.lit (.bool false)], args := [d1, d2, d3] }
  | _ => none }
def ProbeResultsWrongFalsely : Prop := probeResultsRow.holds Try.pinned (OpenSpec.ofChange probeResultsWrong)

/-- 'stewardlaw21.ProbeRows': WHATEVER THE INPUT: true; the input reads as it did. -/
def probeRowsSpec : ChangeSpec := { name := "probeRows", fn := fun _ => fun
  | [d] => { results := [.lit (.bool true)], args := [d] }
  | _ => none }
def probeRowsRow : OpenClaim := { program := "ytlmppdpjjkdoaaa", sum := "6d5fba593daf094a3d54b3536736154d8db5d9df76ed93618785b19255953c40", func := "steward/stewardlaw21.ProbeRows", spec := "probeRows", apart := false }
def ProbeRowsSaid : Prop := probeRowsRow.holds Try.pinned (OpenSpec.ofChange probeRowsSpec)

/-- ITS FALSE NEIGHBOUR: 'it returns false'. Refute it at one input. -/
def probeRowsWrong : ChangeSpec := { name := "probeRows", fn := fun _ => fun
  | [d] => { results := [.lit (.bool false)], args := [d] }
  | _ => none }
def ProbeRowsWrongFalsely : Prop := probeRowsRow.holds Try.pinned (OpenSpec.ofChange probeRowsWrong)

/-- 'stewardlaw17.PrimeGcd': WHATEVER THE INPUT: true; the input reads as it did. -/
def primeGcdSpec : ChangeSpec := { name := "primeGcd", fn := fun _ => fun
  | [d1, d2] => { results := [.lit (.bool true)], args := [d1, d2] }
  | _ => none }
def primeGcdRow : OpenClaim := { program := "ytlmppdpjjkdoaaa", sum := "6d5fba593daf094a3d54b3536736154d8db5d9df76ed93618785b19255953c40", func := "steward/stewardlaw17.PrimeGcd", spec := "primeGcd", recurses := true, apart := false }
def PrimeGcdSaid : Prop := primeGcdRow.holds Try.pinned (OpenSpec.ofChange primeGcdSpec)

/-- ITS FALSE NEIGHBOUR: 'it returns false'. Refute it at one input. -/
def primeGcdWrong : ChangeSpec := { name := "primeGcd", fn := fun _ => fun
  | [d1, d2] => { results := [.lit (.bool false)], args := [d1, d2] }
  | _ => none }
def PrimeGcdWrongFalsely : Prop := primeGcdRow.holds Try.pinned (OpenSpec.ofChange primeGcdWrong)

/-- 'stewardlaw17.PrimeInverse': WHATEVER THE INPUT: true; the input reads as it did. -/
def primeInverseSpec : ChangeSpec := { name := "primeInverse", fn := fun _ => fun
  | [d1, d2] => { results := [.lit (.bool true)], args := [d1, d2] }
  | _ => none }
def primeInverseRow : OpenClaim := { program := "ytlmppdpjjkdoaaa", sum := "6d5fba593daf094a3d54b3536736154d8db5d9df76ed93618785b19255953c40", func := "steward/stewardlaw17.PrimeInverse", spec := "primeInverse", recurses := true, apart := false }
def PrimeInverseSaid : Prop := primeInverseRow.holds Try.pinned (OpenSpec.ofChange primeInverseSpec)

/-- ITS FALSE NEIGHBOUR: 'it returns false'. Refute it at one input. -/
def primeInverseWrong : ChangeSpec := { name := "primeInverse", fn := fun _ => fun
  | [d1, d2] => { results := [.lit (.bool false)], args := [d1, d2] }
  | _ => none }
def PrimeInverseWrongFalsely : Prop := primeInverseRow.holds Try.pinned (OpenSpec.ofChange primeInverseWrong)

/-- 'stewardlaw15.RotorRounds': WHATEVER THE INPUT: true; the input reads as it did. -/
def rotorRoundsSpec : ChangeSpec := { name := "rotorRounds", fn := fun _ => fun
  | [d] => { results := [.lit (.bool true)], args := [d] }
  | _ => none }
def rotorRoundsRow : OpenClaim := { program := "ytlmppdpjjkdoaaa", sum := "6d5fba593daf094a3d54b3536736154d8db5d9df76ed93618785b19255953c40", func := "steward/stewardlaw15.RotorRounds", spec := "rotorRounds", unfollowed := true, recurses := true, apart := false }
def RotorRoundsSaid : Prop := rotorRoundsRow.holds Try.pinned (OpenSpec.ofChange rotorRoundsSpec)

/-- ITS FALSE NEIGHBOUR: 'it returns false'. Refute it at one input. -/
def rotorRoundsWrong : ChangeSpec := { name := "rotorRounds", fn := fun _ => fun
  | [d] => { results := [.lit (.bool false)], args := [d] }
  | _ => none }
def RotorRoundsWrongFalsely : Prop := rotorRoundsRow.holds Try.pinned (OpenSpec.ofChange rotorRoundsWrong)

/-- 'stewardlaw15.RotorFair': WHATEVER THE INPUT: true; the input reads as it did. -/
def rotorFairSpec : ChangeSpec := { name := "rotorFair", fn := fun _ => fun
  | [d1, d2] => { results := [.lit (.bool true)], args := [d1, d2] }
  | _ => none }
def rotorFairRow : OpenClaim := { program := "ytlmppdpjjkdoaaa", sum := "6d5fba593daf094a3d54b3536736154d8db5d9df76ed93618785b19255953c40", func := "steward/stewardlaw15.RotorFair", spec := "rotorFair", unfollowed := true, recurses := true, apart := false }
def RotorFairSaid : Prop := rotorFairRow.holds Try.pinned (OpenSpec.ofChange rotorFairSpec)

/-- ITS FALSE NEIGHBOUR: 'it returns false'. Refute it at one input. -/
def rotorFairWrong : ChangeSpec := { name := "rotorFair", fn := fun _ => fun
  | [d1, d2] => { results := [.lit (.bool false)], args := [d1, d2] }
  | _ => none }
def RotorFairWrongFalsely : Prop := rotorFairRow.holds Try.pinned (OpenSpec.ofChange rotorFairWrong)

/-- 'stewardlaw14.DrawsTwo': WHATEVER THE INPUT: true; the input reads as it did. -/
def drawsTwoSpec : ChangeSpec := { name := "drawsTwo", fn := fun _ => fun
  | [d1, d2] => { results := [.lit (.bool true)], args := [d1, d2] }
  | _ => none }
def drawsTwoRow : OpenClaim := { program := "ytlmppdpjjkdoaaa", sum := "6d5fba593daf094a3d54b3536736154d8db5d9df76ed93618785b19255953c40", func := "steward/stewardlaw14.DrawsTwo", spec := "drawsTwo", apart := false }
def DrawsTwoSaid : Prop := drawsTwoRow.holds Try.pinned (OpenSpec.ofChange drawsTwoSpec)

/-- ITS FALSE NEIGHBOUR: 'it returns false'. Refute it at one input. -/
def drawsTwoWrong : ChangeSpec := { name := "drawsTwo", fn := fun _ => fun
  | [d1, d2] => { results := [.lit (.bool false)], args := [d1, d2] }
  | _ => none }
def DrawsTwoWrongFalsely : Prop := drawsTwoRow.holds Try.pinned (OpenSpec.ofChange drawsTwoWrong)

/-- 'stewardlaw14.DrawsShuffles': WHATEVER THE INPUT: true; the input reads as it did. -/
def drawsShufflesSpec : ChangeSpec := { name := "drawsShuffles", fn := fun _ => fun
  | [d1, d2] => { results := [.lit (.bool true)], args := [d1, d2] }
  | _ => none }
def drawsShufflesRow : OpenClaim := { program := "ytlmppdpjjkdoaaa", sum := "6d5fba593daf094a3d54b3536736154d8db5d9df76ed93618785b19255953c40", func := "steward/stewardlaw14.DrawsShuffles", spec := "drawsShuffles", apart := false }
def DrawsShufflesSaid : Prop := drawsShufflesRow.holds Try.pinned (OpenSpec.ofChange drawsShufflesSpec)

/-- ITS FALSE NEIGHBOUR: 'it returns false'. Refute it at one input. -/
def drawsShufflesWrong : ChangeSpec := { name := "drawsShuffles", fn := fun _ => fun
  | [d1, d2] => { results := [.lit (.bool false)], args := [d1, d2] }
  | _ => none }
def DrawsShufflesWrongFalsely : Prop := drawsShufflesRow.holds Try.pinned (OpenSpec.ofChange drawsShufflesWrong)

/-- 'stewardlaw17.PrimeFactors': WHATEVER THE INPUT: true; the input reads as it did. -/
def primeFactorsSpec : ChangeSpec := { name := "primeFactors", fn := fun _ => fun
  | [d] => { results := [.lit (.bool true)], args := [d] }
  | _ => none }
def primeFactorsRow : OpenClaim := { program := "ytlmppdpjjkdoaaa", sum := "6d5fba593daf094a3d54b3536736154d8db5d9df76ed93618785b19255953c40", func := "steward/stewardlaw17.PrimeFactors", spec := "primeFactors", apart := false }
def PrimeFactorsSaid : Prop := primeFactorsRow.holds Try.pinned (OpenSpec.ofChange primeFactorsSpec)

/-- ITS FALSE NEIGHBOUR: 'it returns false'. Refute it at one input. -/
def primeFactorsWrong : ChangeSpec := { name := "primeFactors", fn := fun _ => fun
  | [d] => { results := [.lit (.bool false)], args := [d] }
  | _ => none }
def PrimeFactorsWrongFalsely : Prop := primeFactorsRow.holds Try.pinned (OpenSpec.ofChange primeFactorsWrong)

/-- 'stewardlaw17.PrimeRows': WHATEVER THE INPUT: true; the input reads as it did. -/
def primeRowsSpec : ChangeSpec := { name := "primeRows", fn := fun _ => fun
  | [d1, d2, d3] => { results := [.lit (.bool true)], args := [d1, d2, d3] }
  | _ => none }
def primeRowsRow : OpenClaim := { program := "ytlmppdpjjkdoaaa", sum := "6d5fba593daf094a3d54b3536736154d8db5d9df76ed93618785b19255953c40", func := "steward/stewardlaw17.PrimeRows", spec := "primeRows", recurses := true, apart := false }
def PrimeRowsSaid : Prop := primeRowsRow.holds Try.pinned (OpenSpec.ofChange primeRowsSpec)

/-- ITS FALSE NEIGHBOUR: 'it returns false'. Refute it at one input. -/
def primeRowsWrong : ChangeSpec := { name := "primeRows", fn := fun _ => fun
  | [d1, d2, d3] => { results := [.lit (.bool false)], args := [d1, d2, d3] }
  | _ => none }
def PrimeRowsWrongFalsely : Prop := primeRowsRow.holds Try.pinned (OpenSpec.ofChange primeRowsWrong)

/-- 'stewardlaw01.SiphashSums': WHATEVER THE INPUT: true; the input reads as it did. -/
def siphashSumsSpec : ChangeSpec := { name := "siphashSums", fn := fun _ => fun
  | [d1, d2] => { results := [.lit (.bool true)], args := [d1, d2] }
  | _ => none }
def siphashSumsRow : OpenClaim := { program := "ytlmppdpjjkdoaaa", sum := "6d5fba593daf094a3d54b3536736154d8db5d9df76ed93618785b19255953c40", func := "steward/stewardlaw01.SiphashSums", spec := "siphashSums", apart := false }
def SiphashSumsSaid : Prop := siphashSumsRow.holds Try.pinned (OpenSpec.ofChange siphashSumsSpec)

/-- ITS FALSE NEIGHBOUR: 'it returns false'. Refute it at one input. -/
def siphashSumsWrong : ChangeSpec := { name := "siphashSums", fn := fun _ => fun
  | [d1, d2] => { results := [.lit (.bool false)], args := [d1, d2] }
  | _ => none }
def SiphashSumsWrongFalsely : Prop := siphashSumsRow.holds Try.pinned (OpenSpec.ofChange siphashSumsWrong)

/-- 'stewardlaw01.SiphashParts': WHATEVER THE INPUT: true; the input reads as it did. -/
def siphashPartsSpec : ChangeSpec := { name := "siphashParts", fn := fun _ => fun
  | [d1, d2] => { results := [.lit (.bool true)], args := [d1, d2] }
  | _ => none }
def siphashPartsRow : OpenClaim := { program := "ytlmppdpjjkdoaaa", sum := "6d5fba593daf094a3d54b3536736154d8db5d9df76ed93618785b19255953c40", func := "steward/stewardlaw01.SiphashParts", spec := "siphashParts", apart := false }
def SiphashPartsSaid : Prop := siphashPartsRow.holds Try.pinned (OpenSpec.ofChange siphashPartsSpec)

/-- ITS FALSE NEIGHBOUR: 'it returns false'. Refute it at one input. -/
def siphashPartsWrong : ChangeSpec := { name := "siphashParts", fn := fun _ => fun
  | [d1, d2] => { results := [.lit (.bool false)], args := [d1, d2] }
  | _ => none }
def SiphashPartsWrongFalsely : Prop := siphashPartsRow.holds Try.pinned (OpenSpec.ofChange siphashPartsWrong)

/- THE SECOND FORM. 'bulk': how many values and letters a reading holds, each counted each time it is reached (what is shared counts as often as it is met; a slice's spare places count too). A statement '..UptoSaid' is the law's where the arguments, and the package variables that the reading takes, are together of bulk at most 1048576: NARROWER than '..Said'. Prove '..Said' where nothing that the law and all that it calls make is longer than what came in: it says more and counts as full. Else prove '..UptoSaid'. A law counts once. -/
mutual
def uptoBulk {H : Type} : DataW H → Nat
  | .lit (.string bytes) => bytes.length + 1
  | .lit _ => 1
  | .nil => 1
  | .ptr d => uptoBulk d + 1
  | .slice elems spare => uptoBulkAll elems + uptoBulkAll spare + 1
  | .agg parts => uptoBulkAll parts + 1
  | .iface _ d => uptoBulk d + 1
  | .map entries => uptoBulkEntries entries + 1
  | .held _ => 1
def uptoBulkAll {H : Type} : List (DataW H) → Nat
  | [] => 0
  | d :: r => uptoBulk d + uptoBulkAll r
def uptoBulkEntries {H : Type} : List (Lit × DataW H) → Nat
  | [] => 0
  | x :: r => uptoBulkEntry x + uptoBulkEntries r
def uptoBulkEntry {H : Type} : Lit × DataW H → Nat
  | (.string bytes, d) => bytes.length + uptoBulk d + 1
  | (_, d) => uptoBulk d + 1
 end
def uptoSmall : (H : Type) → List (DataW H) → Bool := fun _ ds => decide (uptoBulkAll ds ≤ 1048576)
def OpenSpec.upto (s : _root_.Go.ChangeSpec) : _root_.Go.OpenSpec := { _root_.Go.OpenSpec.ofChange s with cond := some uptoSmall }

/-- 'stewardlaw21.ProbeResults', WHERE WHAT IT READS IS OF BULK AT MOST 1048576: true; the input reads as it did. -/
def probeResultsUptoRow : OpenClaim := { program := "ytlmppdpjjkdoaaa", sum := "6d5fba593daf094a3d54b3536736154d8db5d9df76ed93618785b19255953c40", func := "steward/stewardlaw21.ProbeResults", spec := "probeResults", apart := false, narrowed := true }
def ProbeResultsUptoSaid : Prop := probeResultsUptoRow.holds Try.pinned (OpenSpec.upto probeResultsSpec)

/-- 'stewardlaw21.ProbeRows', WHERE WHAT IT READS IS OF BULK AT MOST 1048576: true; the input reads as it did. -/
def probeRowsUptoRow : OpenClaim := { program := "ytlmppdpjjkdoaaa", sum := "6d5fba593daf094a3d54b3536736154d8db5d9df76ed93618785b19255953c40", func := "steward/stewardlaw21.ProbeRows", spec := "probeRows", apart := false, narrowed := true }
def ProbeRowsUptoSaid : Prop := probeRowsUptoRow.holds Try.pinned (OpenSpec.upto probeRowsSpec)

/-- 'stewardlaw17.PrimeGcd', WHERE WHAT IT READS IS OF BULK AT MOST 1048576: true; the input reads as it did. -/
def primeGcdUptoRow : OpenClaim := { program := "ytlmppdpjjkdoaaa", sum := "6d5fba593daf094a3d54b3536736154d8db5d9df76ed93618785b19255953c40", func := "steward/stewardlaw17.PrimeGcd", spec := "primeGcd", recurses := true, apart := false, narrowed := true }
def PrimeGcdUptoSaid : Prop := primeGcdUptoRow.holds Try.pinned (OpenSpec.upto primeGcdSpec)

/-- 'stewardlaw17.PrimeInverse', WHERE WHAT IT READS IS OF BULK AT MOST 1048576: true; the input reads as it did. -/
def primeInverseUptoRow : OpenClaim := { program := "ytlmppdpjjkdoaaa", sum := "6d5fba593daf094a3d54b3536736154d8db5d9df76ed93618785b19255953c40", func := "steward/stewardlaw17.PrimeInverse", spec := "primeInverse", recurses := true, apart := false, narrowed := true }
def PrimeInverseUptoSaid : Prop := primeInverseUptoRow.holds Try.pinned (OpenSpec.upto primeInverseSpec)

/-- 'stewardlaw15.RotorRounds', WHERE WHAT IT READS IS OF BULK AT MOST 1048576: true; the input reads as it did. -/
def rotorRoundsUptoRow : OpenClaim := { program := "ytlmppdpjjkdoaaa", sum := "6d5fba593daf094a3d54b3536736154d8db5d9df76ed93618785b19255953c40", func := "steward/stewardlaw15.RotorRounds", spec := "rotorRounds", unfollowed := true, recurses := true, apart := false, narrowed := true }
def RotorRoundsUptoSaid : Prop := rotorRoundsUptoRow.holds Try.pinned (OpenSpec.upto rotorRoundsSpec)

/-- 'stewardlaw15.RotorFair', WHERE WHAT IT READS IS OF BULK AT MOST 1048576: true; the input reads as it did. -/
def rotorFairUptoRow : OpenClaim := { program := "ytlmppdpjjkdoaaa", sum := "6d5fba593daf094a3d54b3536736154d8db5d9df76ed93618785b19255953c40", func := "steward/stewardlaw15.RotorFair", spec := "rotorFair", unfollowed := true, recurses := true, apart := false, narrowed := true }
def RotorFairUptoSaid : Prop := rotorFairUptoRow.holds Try.pinned (OpenSpec.upto rotorFairSpec)

/-- 'stewardlaw14.DrawsTwo', WHERE WHAT IT READS IS OF BULK AT MOST 1048576: true; the input reads as it did. -/
def drawsTwoUptoRow : OpenClaim := { program := "ytlmppdpjjkdoaaa", sum := "6d5fba593daf094a3d54b3536736154d8db5d9df76ed93618785b19255953c40", func := "steward/stewardlaw14.DrawsTwo", spec := "drawsTwo", apart := false, narrowed := true }
def DrawsTwoUptoSaid : Prop := drawsTwoUptoRow.holds Try.pinned (OpenSpec.upto drawsTwoSpec)

/-- 'stewardlaw14.DrawsShuffles', WHERE WHAT IT READS IS OF BULK AT MOST 1048576: true; the input reads as it did. -/
def drawsShufflesUptoRow : OpenClaim := { program := "ytlmppdpjjkdoaaa", sum := "6d5fba593daf094a3d54b3536736154d8db5d9df76ed93618785b19255953c40", func := "steward/stewardlaw14.DrawsShuffles", spec := "drawsShuffles", apart := false, narrowed := true }
def DrawsShufflesUptoSaid : Prop := drawsShufflesUptoRow.holds Try.pinned (OpenSpec.upto drawsShufflesSpec)

/-- 'stewardlaw17.PrimeFactors', WHERE WHAT IT READS IS OF BULK AT MOST 1048576: true; the input reads as it did. -/
def primeFactorsUptoRow : OpenClaim := { program := "ytlmppdpjjkdoaaa", sum := "6d5fba593daf094a3d54b3536736154d8db5d9df76ed93618785b19255953c40", func := "steward/stewardlaw17.PrimeFactors", spec := "primeFactors", apart := false, narrowed := true }
def PrimeFactorsUptoSaid : Prop := primeFactorsUptoRow.holds Try.pinned (OpenSpec.upto primeFactorsSpec)

/-- 'stewardlaw17.PrimeRows', WHERE WHAT IT READS IS OF BULK AT MOST 1048576: true; the input reads as it did. -/
def primeRowsUptoRow : OpenClaim := { program := "ytlmppdpjjkdoaaa", sum := "6d5fba593daf094a3d54b3536736154d8db5d9df76ed93618785b19255953c40", func := "steward/stewardlaw17.PrimeRows", spec := "primeRows", recurses := true, apart := false, narrowed := true }
def PrimeRowsUptoSaid : Prop := primeRowsUptoRow.holds Try.pinned (OpenSpec.upto primeRowsSpec)

/-- 'stewardlaw01.SiphashSums', WHERE WHAT IT READS IS OF BULK AT MOST 1048576: true; the input reads as it did. -/
def siphashSumsUptoRow : OpenClaim := { program := "ytlmppdpjjkdoaaa", sum := "6d5fba593daf094a3d54b3536736154d8db5d9df76ed93618785b19255953c40", func := "steward/stewardlaw01.SiphashSums", spec := "siphashSums", apart := false, narrowed := true }
def SiphashSumsUptoSaid : Prop := siphashSumsUptoRow.holds Try.pinned (OpenSpec.upto siphashSumsSpec)

/-- 'stewardlaw01.SiphashParts', WHERE WHAT IT READS IS OF BULK AT MOST 1048576: true; the input reads as it did. -/
def siphashPartsUptoRow : OpenClaim := { program := "ytlmppdpjjkdoaaa", sum := "6d5fba593daf094a3d54b3536736154d8db5d9df76ed93618785b19255953c40", func := "steward/stewardlaw01.SiphashParts", spec := "siphashParts", apart := false, narrowed := true }
def SiphashPartsUptoSaid : Prop := siphashPartsUptoRow.holds Try.pinned (OpenSpec.upto siphashPartsSpec)

end Rows
end Go.Proofs.Ytlmppdpjjkdoaaa

/-
  No cell of these rows narrows 'for every input' (looked for: loops, veiled, ifaces, maps, wideKeys, modest, calm, conditions, laid).
  DERIVED. THE GIVEN ROWS OF THIS SEAT. 3 by the template 'for every input the law returns true; each argument reads behind the call as it read before'; 0 by the template 'total and deterministic' (their statements: YtlmppdpjjkdoaabTotals.lean).
  GIVEN WITH THE SEED: the statements are not yours to turn. If you find one false, say at which input.
  Laid BY PROGRAM, IN A SANDBOX (cutbox-rows.mjs): the forced cells as the released guide's own fill.sh prints them over the translation 1a516be440641ef0… (all of the seat's roots in one cut). By AI agents, Wed Nov 11 2026. No macro, syntax, notation, axiom, sorry.
-/
import Derived.Test.YtlmppdpjjkdoaabChecked
import GoSem.Claim
import GoSem.ClaimJoined
import GoSem.ClaimMapViews
import Derived.JoinedTies
import Derived.KernelRfl
namespace Go.Proofs.Ytlmppdpjjkdoaab
/- THE CELL 'sum', in the pinned program and in every row, IS THE sha256 OF THE DUMP (.gsa) THAT YtlmppdpjjkdoaabProg.lean LOADS. Nothing in Lean hashes anything: it is a label: what it is worth is what the hold of that sum in a sandbox is worth. -/
noncomputable def Try.pinned : Pinned := { name := "ytlmppdpjjkdoaab", sum := "1a516be440641ef01f0a2d6de26438ab28333788c3c134bc671275ace4113238", checked := Try.checked }
namespace Rows
def none {H : Type} : Left H := { results := [], args := [] }

/-- 'stewardlaw01.SiphashBelow': WHATEVER THE INPUT: true; the input reads as it did. -/
def siphashBelowSpec : ChangeSpec := { name := "siphashBelow", fn := fun _ => fun
  | [d1, d2, d3] => { results := [.lit (.bool true)], args := [d1, d2, d3] }
  | _ => none }
def siphashBelowRow : OpenClaim := { program := "ytlmppdpjjkdoaab", sum := "1a516be440641ef01f0a2d6de26438ab28333788c3c134bc671275ace4113238", func := "steward/stewardlaw01.SiphashBelow", spec := "siphashBelow", apart := false }
def SiphashBelowSaid : Prop := siphashBelowRow.holds Try.pinned (OpenSpec.ofChange siphashBelowSpec)

/-- ITS FALSE NEIGHBOUR: 'it returns false'. Refute it at one input. -/
def siphashBelowWrong : ChangeSpec := { name := "siphashBelow", fn := fun _ => fun
  | [d1, d2, d3] => { results := [.lit (.bool false)], args := [d1, d2, d3] }
  | _ => none }
def SiphashBelowWrongFalsely : Prop := siphashBelowRow.holds Try.pinned (OpenSpec.ofChange siphashBelowWrong)

/-- 'stewardlaw01.SiphashKeys': WHATEVER THE INPUT: true; the input reads as it did. -/
def siphashKeysSpec : ChangeSpec := { name := "siphashKeys", fn := fun _ => fun
  | [d] => { results := [.lit (.bool true)], args := [d] }
  | _ => none }
def siphashKeysRow : OpenClaim := { program := "ytlmppdpjjkdoaab", sum := "1a516be440641ef01f0a2d6de26438ab28333788c3c134bc671275ace4113238", func := "steward/stewardlaw01.SiphashKeys", spec := "siphashKeys", apart := false }
def SiphashKeysSaid : Prop := siphashKeysRow.holds Try.pinned (OpenSpec.ofChange siphashKeysSpec)

/-- ITS FALSE NEIGHBOUR: 'it returns false'. Refute it at one input. -/
def siphashKeysWrong : ChangeSpec := { name := "siphashKeys", fn := fun _ => fun
  | [d] => { results := [.lit (.bool false)], args := [d] }
  | _ => none }
def SiphashKeysWrongFalsely : Prop := siphashKeysRow.holds Try.pinned (OpenSpec.ofChange siphashKeysWrong)

/-- 'stewardlaw15.RotorPlays': WHATEVER THE INPUT: true; the input reads as it did. -/
def rotorPlaysSpec : ChangeSpec := { name := "rotorPlays", fn := fun _ => fun
  | [d1, d2] => { results := [.lit (.bool true)], args := [d1, d2] }
  | _ => none }
def rotorPlaysRow : OpenClaim := { program := "ytlmppdpjjkdoaab", sum := "1a516be440641ef01f0a2d6de26438ab28333788c3c134bc671275ace4113238", func := "steward/stewardlaw15.RotorPlays", spec := "rotorPlays", inPlace := ["maps.clone"], unfollowed := true, recurses := true, apart := false }
def RotorPlaysSaid : Prop := rotorPlaysRow.holds Try.pinned (OpenSpec.ofChange rotorPlaysSpec)

/-- ITS FALSE NEIGHBOUR: 'it returns false'. Refute it at one input. -/
def rotorPlaysWrong : ChangeSpec := { name := "rotorPlays", fn := fun _ => fun
  | [d1, d2] => { results := [.lit (.bool false)], args := [d1, d2] }
  | _ => none }
def RotorPlaysWrongFalsely : Prop := rotorPlaysRow.holds Try.pinned (OpenSpec.ofChange rotorPlaysWrong)

/- THE SECOND FORM. 'bulk': how many values and letters a reading holds, each counted each time it is reached (what is shared counts as often as it is met; a slice's spare places count too). A statement '..UptoSaid' is the law's where the arguments, and the package variables that the reading takes, are together of bulk at most 1048576: NARROWER than '..Said'. Prove '..Said' where nothing that the law and all that it calls make is longer than what came in: it says more and counts as full. Else prove '..UptoSaid'. A law counts once. -/
mutual
def uptoBulk {H : Type} : DataW H → Nat
  | .lit (.string bytes) => bytes.length + 1
  | .lit _ => 1
  | .nil => 1
  | .ptr d => uptoBulk d + 1
  | .slice elems spare => uptoBulkAll elems + uptoBulkAll spare + 1
  | .agg parts => uptoBulkAll parts + 1
  | .iface _ d => uptoBulk d + 1
  | .map entries => uptoBulkEntries entries + 1
  | .held _ => 1
def uptoBulkAll {H : Type} : List (DataW H) → Nat
  | [] => 0
  | d :: r => uptoBulk d + uptoBulkAll r
def uptoBulkEntries {H : Type} : List (Lit × DataW H) → Nat
  | [] => 0
  | x :: r => uptoBulkEntry x + uptoBulkEntries r
def uptoBulkEntry {H : Type} : Lit × DataW H → Nat
  | (.string bytes, d) => bytes.length + uptoBulk d + 1
  | (_, d) => uptoBulk d + 1
 end
def uptoSmall : (H : Type) → List (DataW H) → Bool := fun _ ds => decide (uptoBulkAll ds ≤ 1048576)
def OpenSpec.upto (s : _root_.Go.ChangeSpec) : _root_.Go.OpenSpec := { _root_.Go.OpenSpec.ofChange s with cond := some uptoSmall }

/-- 'stewardlaw01.SiphashBelow', WHERE WHAT IT READS IS OF BULK AT MOST 1048576: true; the input reads as it did. -/
def siphashBelowUptoRow : OpenClaim := { program := "ytlmppdpjjkdoaab", sum := "1a516be440641ef01f0a2d6de26438ab28333788c3c134bc671275ace4113238", func := "steward/stewardlaw01.SiphashBelow", spec := "siphashBelow", apart := false, narrowed := true }
def SiphashBelowUptoSaid : Prop := siphashBelowUptoRow.holds Try.pinned (OpenSpec.upto siphashBelowSpec)

/-- 'stewardlaw01.SiphashKeys', WHERE WHAT IT READS IS OF BULK AT MOST 1048576: true; the input reads as it did. -/
def siphashKeysUptoRow : OpenClaim := { program := "ytlmppdpjjkdoaab", sum := "1a516be440641ef01f0a2d6de26438ab28333788c3c134bc671275ace4113238", func := "steward/stewardlaw01.SiphashKeys", spec := "siphashKeys", apart := false, narrowed := true }
def SiphashKeysUptoSaid : Prop := siphashKeysUptoRow.holds Try.pinned (OpenSpec.upto siphashKeysSpec)

/-- 'stewardlaw15.RotorPlays', WHERE WHAT IT READS IS OF BULK AT MOST 1048576: true; the input reads as it did. -/
def rotorPlaysUptoRow : OpenClaim := { program := "ytlmppdpjjkdoaab", sum := "1a516be440641ef01f0a2d6de26438ab28333788c3c134bc671275ace4113238", func := "steward/stewardlaw15.RotorPlays", spec := "rotorPlays", inPlace := ["maps.clone"], unfollowed := true, recurses := true, apart := false, narrowed := true }
def RotorPlaysUptoSaid : Prop := rotorPlaysUptoRow.holds Try.pinned (OpenSpec.upto rotorPlaysSpec)

end Rows
end Go.Proofs.Ytlmppdpjjkdoaab

/-
  No cell of these rows narrows 'for every input' (looked for: loops, veiled, ifaces, maps, wideKeys, modest, calm, conditions, laid).
  DERIVED. THE GIVEN ROWS OF THIS SEAT. 5 by the template 'for every input the law returns true; each argument reads behind the call as it read before'; 0 by the template 'total and deterministic' (their statements: YtgohlbljdffelaaTotals.lean).
  GIVEN WITH THE SEED: the statements are not yours to turn. If you find one false, say at which input.
  Laid BY PROGRAM, IN A SANDBOX (cutbox-rows.mjs): the forced cells as the released guide's own fill.sh prints them over the translation c9a56be6423c00e0… (all of the seat's roots in one cut). By AI agents, Wed Nov 11 2026. No macro, syntax, notation, axiom, sorry.
-/
import Derived.Test.YtgohlbljdffelaaChecked
import GoSem.Claim
import GoSem.ClaimJoined
import GoSem.ClaimMapViews
import Derived.JoinedTies
import Derived.KernelRfl
namespace Go.Proofs.Ytgohlbljdffelaa
/- THE CELL 'sum', in the pinned program and in every row, IS THE sha256 OF THE DUMP (.gsa) THAT YtgohlbljdffelaaProg.lean LOADS. Nothing in Lean hashes anything: it is a label: what it is worth is what the hold of that sum in a sandbox is worth. -/
noncomputable def Try.pinned : Pinned := { name := "ytgohlbljdffelaa", sum := "c9a56be6423c00e013e027e7e3bbeb6665250734b4234e2b538d27674bfc31c0", checked := Try.checked }
namespace Rows
def none {H : Type} : Left H := { results := [], args := [] }

/-- 'stewardlaw20.AgendaOrder': WHATEVER THE INPUT: true; the input reads as it did. -/
def agendaOrderSpec : ChangeSpec := { name := "agendaOrder", fn := fun _ => fun
  | [d] => { results := [.lit (.bool true)], args := [d] }
  | _ => none }
def agendaOrderRow : OpenClaim := { program := "ytgohlbljdffelaa", sum := "c9a56be6423c00e013e027e7e3bbeb6665250734b4234e2b538d27674bfc31c0", func := "steward/stewardlaw20.AgendaOrder", spec := "agendaOrder", unfollowed := true, recurses := true, apart := false }
def AgendaOrderSaid : Prop := agendaOrderRow.holds Try.pinned (OpenSpec.ofChange agendaOrderSpec)

/-- ITS FALSE NEIGHBOUR: 'it returns false'. Refute it at one input. -/
def agendaOrderWrong : ChangeSpec := { name := "agendaOrder", fn := fun _ => fun
  | [d] => { results := [.lit (.bool false)], args := [d] }
  | _ => none }
def AgendaOrderWrongFalsely : Prop := agendaOrderRow.holds Try.pinned (OpenSpec.ofChange agendaOrderWrong)

/-- 'stewardlaw25.IdleOnce': WHATEVER THE INPUT: true; the input reads as it did. -/
def idleOnceSpec : ChangeSpec := { name := "idleOnce", fn := fun _ => fun
  | [d1, d2] => { results := [.lit (.bool true)], args := [d1, d2] }
  | _ => none }
def idleOnceRow : OpenClaim := { program := "ytgohlbljdffelaa", sum := "c9a56be6423c00e013e027e7e3bbeb6665250734b4234e2b538d27674bfc31c0", func := "steward/stewardlaw25.IdleOnce", spec := "idleOnce", unfollowed := true, recurses := true, apart := false }
def IdleOnceSaid : Prop := idleOnceRow.holds Try.pinned (OpenSpec.ofChange idleOnceSpec)

/-- ITS FALSE NEIGHBOUR: 'it returns false'. Refute it at one input. -/
def idleOnceWrong : ChangeSpec := { name := "idleOnce", fn := fun _ => fun
  | [d1, d2] => { results := [.lit (.bool false)], args := [d1, d2] }
  | _ => none }
def IdleOnceWrongFalsely : Prop := idleOnceRow.holds Try.pinned (OpenSpec.ofChange idleOnceWrong)

/-- 'stewardlaw20.AgendaPlays': WHATEVER THE INPUT: true; the input reads as it did. -/
def agendaPlaysSpec : ChangeSpec := { name := "agendaPlays", fn := fun _ => fun
  | [d1, d2] => { results := [.lit (.bool true)], args := [d1, d2] }
  | _ => none }
def agendaPlaysRow : OpenClaim := { program := "ytgohlbljdffelaa", sum := "c9a56be6423c00e013e027e7e3bbeb6665250734b4234e2b538d27674bfc31c0", func := "steward/stewardlaw20.AgendaPlays", spec := "agendaPlays", unfollowed := true, recurses := true, apart := false }
def AgendaPlaysSaid : Prop := agendaPlaysRow.holds Try.pinned (OpenSpec.ofChange agendaPlaysSpec)

/-- ITS FALSE NEIGHBOUR: 'it returns false'. Refute it at one input. -/
def agendaPlaysWrong : ChangeSpec := { name := "agendaPlays", fn := fun _ => fun
  | [d1, d2] => { results := [.lit (.bool false)], args := [d1, d2] }
  | _ => none }
def AgendaPlaysWrongFalsely : Prop := agendaPlaysRow.holds Try.pinned (OpenSpec.ofChange agendaPlaysWrong)

/-- 'stewardlaw25.IdlePlays': WHATEVER THE INPUT: true; the input reads as it did. -/
def idlePlaysSpec : ChangeSpec := { name := "idlePlays", fn := fun _ => fun
  | [d1, d2, d3] => { results := [.lit (.bool true)], args := [d1, d2, d3] }
  | _ => none }
def idlePlaysRow : OpenClaim := { program := "ytgohlbljdffelaa", sum := "c9a56be6423c00e013e027e7e3bbeb6665250734b4234e2b538d27674bfc31c0", func := "steward/stewardlaw25.IdlePlays", spec := "idlePlays", unfollowed := true, recurses := true, apart := false }
def IdlePlaysSaid : Prop := idlePlaysRow.holds Try.pinned (OpenSpec.ofChange idlePlaysSpec)

/-- ITS FALSE NEIGHBOUR: 'it returns false'. Refute it at one input. -/
def idlePlaysWrong : ChangeSpec := { name := "idlePlays", fn := fun _ => fun
  | [d1, d2, d3] => { results := [.lit (.bool false)], args := [d1, d2, d3] }
  | _ => none }
def IdlePlaysWrongFalsely : Prop := idlePlaysRow.holds Try.pinned (OpenSpec.ofChange idlePlaysWrong)

/-- 'stewardlaw25.IdleClones': WHATEVER THE INPUT: true; the input reads as it did. -/
def idleClonesSpec : ChangeSpec := { name := "idleClones", fn := fun _ => fun
  | [d1, d2, d3] => { results := [.lit (.bool true)], args := [d1, d2, d3] }
  | _ => none }
def idleClonesRow : OpenClaim := { program := "ytgohlbljdffelaa", sum := "c9a56be6423c00e013e027e7e3bbeb6665250734b4234e2b538d27674bfc31c0", func := "steward/stewardlaw25.IdleClones", spec := "idleClones", unfollowed := true, recurses := true, apart := false }
def IdleClonesSaid : Prop := idleClonesRow.holds Try.pinned (OpenSpec.ofChange idleClonesSpec)

/-- ITS FALSE NEIGHBOUR: 'it returns false'. Refute it at one input. -/
def idleClonesWrong : ChangeSpec := { name := "idleClones", fn := fun _ => fun
  | [d1, d2, d3] => { results := [.lit (.bool false)], args := [d1, d2, d3] }
  | _ => none }
def IdleClonesWrongFalsely : Prop := idleClonesRow.holds Try.pinned (OpenSpec.ofChange idleClonesWrong)

/- THE SECOND FORM. 'bulk': how many values and letters a reading holds, each counted each time it is reached (what is shared counts as often as it is met; a slice's spare places count too). A statement '..UptoSaid' is the law's where the arguments, and the package variables that the reading takes, are together of bulk at most 1048576: NARROWER than '..Said'. Prove '..Said' where nothing that the law and all that it calls make is longer than what came in: it says more and counts as full. Else prove '..UptoSaid'. A law counts once. -/
mutual
def uptoBulk {H : Type} : DataW H → Nat
  | .lit (.string bytes) => bytes.length + 1
  | .lit _ => 1
  | .nil => 1
  | .ptr d => uptoBulk d + 1
  | .slice elems spare => uptoBulkAll elems + uptoBulkAll spare + 1
  | .agg parts => uptoBulkAll parts + 1
  | .iface _ d => uptoBulk d + 1
  | .map entries => uptoBulkEntries entries + 1
  | .held _ => 1
def uptoBulkAll {H : Type} : List (DataW H) → Nat
  | [] => 0
  | d :: r => uptoBulk d + uptoBulkAll r
def uptoBulkEntries {H : Type} : List (Lit × DataW H) → Nat
  | [] => 0
  | x :: r => uptoBulkEntry x + uptoBulkEntries r
def uptoBulkEntry {H : Type} : Lit × DataW H → Nat
  | (.string bytes, d) => bytes.length + uptoBulk d + 1
  | (_, d) => uptoBulk d + 1
 end
def uptoSmall : (H : Type) → List (DataW H) → Bool := fun _ ds => decide (uptoBulkAll ds ≤ 1048576)
def OpenSpec.upto (s : _root_.Go.ChangeSpec) : _root_.Go.OpenSpec := { _root_.Go.OpenSpec.ofChange s with cond := some uptoSmall }

/-- 'stewardlaw20.AgendaOrder', WHERE WHAT IT READS IS OF BULK AT MOST 1048576: true; the input reads as it did. -/
def agendaOrderUptoRow : OpenClaim := { program := "ytgohlbljdffelaa", sum := "c9a56be6423c00e013e027e7e3bbeb6665250734b4234e2b538d27674bfc31c0", func := "steward/stewardlaw20.AgendaOrder", spec := "agendaOrder", unfollowed := true, recurses := true, apart := false, narrowed := true }
def AgendaOrderUptoSaid : Prop := agendaOrderUptoRow.holds Try.pinned (OpenSpec.upto agendaOrderSpec)

/-- 'stewardlaw25.IdleOnce', WHERE WHAT IT READS IS OF BULK AT MOST 1048576: true; the input reads as it did. -/
def idleOnceUptoRow : OpenClaim := { program := "ytgohlbljdffelaa", sum := "c9a56be6423c00e013e027e7e3bbeb6665250734b4234e2b538d27674bfc31c0", func := "steward/stewardlaw25.IdleOnce", spec := "idleOnce", unfollowed := true, recurses := true, apart := false, narrowed := true }
def IdleOnceUptoSaid : Prop := idleOnceUptoRow.holds Try.pinned (OpenSpec.upto idleOnceSpec)

/-- 'stewardlaw20.AgendaPlays', WHERE WHAT IT READS IS OF BULK AT MOST 1048576: true; the input reads as it did. -/
def agendaPlaysUptoRow : OpenClaim := { program := "ytgohlbljdffelaa", sum := "c9a56be6423c00e013e027e7e3bbeb6665250734b4234e2b538d27674bfc31c0", func := "steward/stewardlaw20.AgendaPlays", spec := "agendaPlays", unfollowed := true, recurses := true, apart := false, narrowed := true }
def AgendaPlaysUptoSaid : Prop := agendaPlaysUptoRow.holds Try.pinned (OpenSpec.upto agendaPlaysSpec)

/-- 'stewardlaw25.IdlePlays', WHERE WHAT IT READS IS OF BULK AT MOST 1048576: true; the input reads as it did. -/
def idlePlaysUptoRow : OpenClaim := { program := "ytgohlbljdffelaa", sum := "c9a56be6423c00e013e027e7e3bbeb6665250734b4234e2b538d27674bfc31c0", func := "steward/stewardlaw25.IdlePlays", spec := "idlePlays", unfollowed := true, recurses := true, apart := false, narrowed := true }
def IdlePlaysUptoSaid : Prop := idlePlaysUptoRow.holds Try.pinned (OpenSpec.upto idlePlaysSpec)

/-- 'stewardlaw25.IdleClones', WHERE WHAT IT READS IS OF BULK AT MOST 1048576: true; the input reads as it did. -/
def idleClonesUptoRow : OpenClaim := { program := "ytgohlbljdffelaa", sum := "c9a56be6423c00e013e027e7e3bbeb6665250734b4234e2b538d27674bfc31c0", func := "steward/stewardlaw25.IdleClones", spec := "idleClones", unfollowed := true, recurses := true, apart := false, narrowed := true }
def IdleClonesUptoSaid : Prop := idleClonesUptoRow.holds Try.pinned (OpenSpec.upto idleClonesSpec)

end Rows
end Go.Proofs.Ytgohlbljdffelaa

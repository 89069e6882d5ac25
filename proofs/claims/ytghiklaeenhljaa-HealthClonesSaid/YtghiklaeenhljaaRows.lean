/-
  No cell of these rows narrows 'for every input' (looked for: loops, veiled, ifaces, maps, wideKeys, modest, calm, conditions, laid).
  DERIVED. THE GIVEN ROWS OF THIS SEAT. 4 by the template 'for every input the law returns true; each argument reads behind the call as it read before'; 0 by the template 'total and deterministic' (their statements: YtghiklaeenhljaaTotals.lean).
  GIVEN WITH THE SEED: the statements are not yours to turn. If you find one false, say at which input.
  Laid BY PROGRAM, IN A SANDBOX (cutbox-rows.mjs): the forced cells as the released guide's own fill.sh prints them over the translation e677cc764c3dfc8f… (all of the seat's roots in one cut). By AI agents, Wed Nov 11 2026. No macro, syntax, notation, axiom, sorry.
-/
import Derived.Test.YtghiklaeenhljaaChecked
import GoSem.Claim
import GoSem.ClaimJoined
import GoSem.ClaimMapViews
import Derived.JoinedTies
import Derived.KernelRfl
namespace Go.Proofs.Ytghiklaeenhljaa
/- THE CELL 'sum', in the pinned program and in every row, IS THE sha256 OF THE DUMP (.gsa) THAT YtghiklaeenhljaaProg.lean LOADS. Nothing in Lean hashes anything: it is a label: what it is worth is what the hold of that sum in a sandbox is worth. -/
noncomputable def Try.pinned : Pinned := { name := "ytghiklaeenhljaa", sum := "e677cc764c3dfc8f6e8d05f230a376d0f32a2d7448786d0ff7a3fff4a253f487", checked := Try.checked }
namespace Rows
def none {H : Type} : Left H := { results := [], args := [] }

/-- 'stewardtop.StewardRamps': WHATEVER THE INPUT: true; the input reads as it did. -/
def stewardRampsSpec : ChangeSpec := { name := "stewardRamps", fn := fun _ => fun
  | [d1, d2, d3] => { results := [.lit (.bool true)], args := [d1, d2, d3] }
  | _ => none }
def stewardRampsRow : OpenClaim := { program := "ytghiklaeenhljaa", sum := "e677cc764c3dfc8f6e8d05f230a376d0f32a2d7448786d0ff7a3fff4a253f487", func := "steward/stewardtop.StewardRamps", spec := "stewardRamps", unfollowed := true, recurses := true, apart := false }
def StewardRampsSaid : Prop := stewardRampsRow.holds Try.pinned (OpenSpec.ofChange stewardRampsSpec)

/-- ITS FALSE NEIGHBOUR: 'it returns false'. Refute it at one input. -/
def stewardRampsWrong : ChangeSpec := { name := "stewardRamps", fn := fun _ => fun
  | [d1, d2, d3] => { results := [.lit (.bool false)], args := [d1, d2, d3] }
  | _ => none }
def StewardRampsWrongFalsely : Prop := stewardRampsRow.holds Try.pinned (OpenSpec.ofChange stewardRampsWrong)

/-- 'stewardlaw23.HealthEpochs': WHATEVER THE INPUT: true; the input reads as it did. -/
def healthEpochsSpec : ChangeSpec := { name := "healthEpochs", fn := fun _ => fun
  | [d1, d2] => { results := [.lit (.bool true)], args := [d1, d2] }
  | _ => none }
def healthEpochsRow : OpenClaim := { program := "ytghiklaeenhljaa", sum := "e677cc764c3dfc8f6e8d05f230a376d0f32a2d7448786d0ff7a3fff4a253f487", func := "steward/stewardlaw23.HealthEpochs", spec := "healthEpochs", unfollowed := true, recurses := true, apart := false }
def HealthEpochsSaid : Prop := healthEpochsRow.holds Try.pinned (OpenSpec.ofChange healthEpochsSpec)

/-- ITS FALSE NEIGHBOUR: 'it returns false'. Refute it at one input. -/
def healthEpochsWrong : ChangeSpec := { name := "healthEpochs", fn := fun _ => fun
  | [d1, d2] => { results := [.lit (.bool false)], args := [d1, d2] }
  | _ => none }
def HealthEpochsWrongFalsely : Prop := healthEpochsRow.holds Try.pinned (OpenSpec.ofChange healthEpochsWrong)

/-- 'stewardlaw23.HealthPlays': WHATEVER THE INPUT: true; the input reads as it did. -/
def healthPlaysSpec : ChangeSpec := { name := "healthPlays", fn := fun _ => fun
  | [d1, d2, d3] => { results := [.lit (.bool true)], args := [d1, d2, d3] }
  | _ => none }
def healthPlaysRow : OpenClaim := { program := "ytghiklaeenhljaa", sum := "e677cc764c3dfc8f6e8d05f230a376d0f32a2d7448786d0ff7a3fff4a253f487", func := "steward/stewardlaw23.HealthPlays", spec := "healthPlays", unfollowed := true, recurses := true, apart := false }
def HealthPlaysSaid : Prop := healthPlaysRow.holds Try.pinned (OpenSpec.ofChange healthPlaysSpec)

/-- ITS FALSE NEIGHBOUR: 'it returns false'. Refute it at one input. -/
def healthPlaysWrong : ChangeSpec := { name := "healthPlays", fn := fun _ => fun
  | [d1, d2, d3] => { results := [.lit (.bool false)], args := [d1, d2, d3] }
  | _ => none }
def HealthPlaysWrongFalsely : Prop := healthPlaysRow.holds Try.pinned (OpenSpec.ofChange healthPlaysWrong)

/-- 'stewardlaw23.HealthClones': WHATEVER THE INPUT: true; the input reads as it did. -/
def healthClonesSpec : ChangeSpec := { name := "healthClones", fn := fun _ => fun
  | [d1, d2, d3] => { results := [.lit (.bool true)], args := [d1, d2, d3] }
  | _ => none }
def healthClonesRow : OpenClaim := { program := "ytghiklaeenhljaa", sum := "e677cc764c3dfc8f6e8d05f230a376d0f32a2d7448786d0ff7a3fff4a253f487", func := "steward/stewardlaw23.HealthClones", spec := "healthClones", inPlace := ["maps.clone"], unfollowed := true, recurses := true, apart := false }
def HealthClonesSaid : Prop := healthClonesRow.holds Try.pinned (OpenSpec.ofChange healthClonesSpec)

/-- ITS FALSE NEIGHBOUR: 'it returns false'. Refute it at one input. -/
def healthClonesWrong : ChangeSpec := { name := "healthClones", fn := fun _ => fun
  | [d1, d2, d3] => { results := [.lit (.bool false)], args := [d1, d2, d3] }
  | _ => none }
def HealthClonesWrongFalsely : Prop := healthClonesRow.holds Try.pinned (OpenSpec.ofChange healthClonesWrong)

/- THE SECOND FORM. 'bulk': how many values and letters a reading holds, each counted each time it is reached (what is shared counts as often as it is met; a slice's spare places count too). A statement '..UptoSaid' is the law's where the arguments, and the package variables that the reading takes, are together of bulk at most 1048576: NARROWER than '..Said'. Prove '..Said' where nothing that the law and all that it calls make is longer than what came in: it says more and counts as full. Else prove '..UptoSaid'. A law counts once. -/
mutual
def uptoBulk {H : Type} : DataW H → Nat
  | .lit (.string bytes) => bytes.length + 1
  | .lit _ => 1
  | .nil => 1
  | .ptr d => uptoBulk d + 1
  | .slice elems spare => uptoBulkAll elems + uptoBulkAll spare + 1
  | .agg parts => uptoBulkAll parts + 1
  | .iface _ d => uptoBulk d + 1
  | .map entries => uptoBulkEntries entries + 1
  | .held _ => 1
def uptoBulkAll {H : Type} : List (DataW H) → Nat
  | [] => 0
  | d :: r => uptoBulk d + uptoBulkAll r
def uptoBulkEntries {H : Type} : List (Lit × DataW H) → Nat
  | [] => 0
  | x :: r => uptoBulkEntry x + uptoBulkEntries r
def uptoBulkEntry {H : Type} : Lit × DataW H → Nat
  | (.string bytes, d) => bytes.length + uptoBulk d + 1
  | (_, d) => uptoBulk d + 1
 end
def uptoSmall : (H : Type) → List (DataW H) → Bool := fun _ ds => decide (uptoBulkAll ds ≤ 1048576)
def OpenSpec.upto (s : _root_.Go.ChangeSpec) : _root_.Go.OpenSpec := { _root_.Go.OpenSpec.ofChange s with cond := some uptoSmall }

/-- 'stewardtop.StewardRamps', WHERE WHAT IT READS IS OF BULK AT MOST 1048576: true; the input reads as it did. -/
def stewardRampsUptoRow : OpenClaim := { program := "ytghiklaeenhljaa", sum := "e677cc764c3dfc8f6e8d05f230a376d0f32a2d7448786d0ff7a3fff4a253f487", func := "steward/stewardtop.StewardRamps", spec := "stewardRamps", unfollowed := true, recurses := true, apart := false, narrowed := true }
def StewardRampsUptoSaid : Prop := stewardRampsUptoRow.holds Try.pinned (OpenSpec.upto stewardRampsSpec)

/-- 'stewardlaw23.HealthEpochs', WHERE WHAT IT READS IS OF BULK AT MOST 1048576: true; the input reads as it did. -/
def healthEpochsUptoRow : OpenClaim := { program := "ytghiklaeenhljaa", sum := "e677cc764c3dfc8f6e8d05f230a376d0f32a2d7448786d0ff7a3fff4a253f487", func := "steward/stewardlaw23.HealthEpochs", spec := "healthEpochs", unfollowed := true, recurses := true, apart := false, narrowed := true }
def HealthEpochsUptoSaid : Prop := healthEpochsUptoRow.holds Try.pinned (OpenSpec.upto healthEpochsSpec)

/-- 'stewardlaw23.HealthPlays', WHERE WHAT IT READS IS OF BULK AT MOST 1048576: true; the input reads as it did. -/
def healthPlaysUptoRow : OpenClaim := { program := "ytghiklaeenhljaa", sum := "e677cc764c3dfc8f6e8d05f230a376d0f32a2d7448786d0ff7a3fff4a253f487", func := "steward/stewardlaw23.HealthPlays", spec := "healthPlays", unfollowed := true, recurses := true, apart := false, narrowed := true }
def HealthPlaysUptoSaid : Prop := healthPlaysUptoRow.holds Try.pinned (OpenSpec.upto healthPlaysSpec)

/-- 'stewardlaw23.HealthClones', WHERE WHAT IT READS IS OF BULK AT MOST 1048576: true; the input reads as it did. -/
def healthClonesUptoRow : OpenClaim := { program := "ytghiklaeenhljaa", sum := "e677cc764c3dfc8f6e8d05f230a376d0f32a2d7448786d0ff7a3fff4a253f487", func := "steward/stewardlaw23.HealthClones", spec := "healthClones", inPlace := ["maps.clone"], unfollowed := true, recurses := true, apart := false, narrowed := true }
def HealthClonesUptoSaid : Prop := healthClonesUptoRow.holds Try.pinned (OpenSpec.upto healthClonesSpec)

end Rows
end Go.Proofs.Ytghiklaeenhljaa

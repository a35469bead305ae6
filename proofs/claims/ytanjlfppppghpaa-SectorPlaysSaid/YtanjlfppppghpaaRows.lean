/-
  No cell of these rows narrows 'for every input' (looked for: loops, veiled, ifaces, maps, wideKeys, modest, calm, conditions, laid).
  DERIVED. THE GIVEN ROWS OF THIS SEAT. 5 by the template 'for every input the law returns true; each argument reads behind the call as it read before'; 0 by the template 'total and deterministic' (their statements: YtanjlfppppghpaaTotals.lean).
  GIVEN WITH THE SEED: the statements are not yours to turn. If you find one false, say at which input.
  Laid BY PROGRAM, IN A SANDBOX (cutbox-rows.mjs): the forced cells as the released guide's own fill.sh prints them over the translation 51f757f8787d051a… (all of the seat's roots in one cut). By AI agents, Wed Nov 11 2026. No macro, syntax, notation, axiom, sorry.
-/
import Derived.Test.YtanjlfppppghpaaChecked
import GoSem.Claim
import GoSem.ClaimJoined
import GoSem.ClaimMapViews
import Derived.JoinedTies
import Derived.KernelRfl
namespace Go.Proofs.Ytanjlfppppghpaa
/- THE CELL 'sum', in the pinned program and in every row, IS THE sha256 OF THE DUMP (.gsa) THAT YtanjlfppppghpaaProg.lean LOADS. Nothing in Lean hashes anything: it is a label: what it is worth is what the hold of that sum in a sandbox is worth. -/
noncomputable def Try.pinned : Pinned := { name := "ytanjlfppppghpaa", sum := "51f757f8787d051aec7405fd317128c3896f8c745d16a7820f85b5c0eb1c45ac", checked := Try.checked }
namespace Rows
def none {H : Type} : Left H := { results := [], args := [] }

/-- 'aquiferlaw07.SectorWhole': WHATEVER THE INPUT: true; the input reads as it did. -/
def sectorWholeSpec : ChangeSpec := { name := "sectorWhole", fn := fun _ => fun
  | [d1, d2] => { results := [.lit (.bool true)], args := [d1, d2] }
  | _ => none }
def sectorWholeRow : OpenClaim := { program := "ytanjlfppppghpaa", sum := "51f757f8787d051aec7405fd317128c3896f8c745d16a7820f85b5c0eb1c45ac", func := "aquifer/aquiferlaw07.SectorWhole", spec := "sectorWhole", apart := false }
def SectorWholeSaid : Prop := sectorWholeRow.holds Try.pinned (OpenSpec.ofChange sectorWholeSpec)

/-- ITS FALSE NEIGHBOUR: 'it returns false'. Refute it at one input. -/
def sectorWholeWrong : ChangeSpec := { name := "sectorWhole", fn := fun _ => fun
  | [d1, d2] => { results := [.lit (.bool false)], args := [d1, d2] }
  | _ => none }
def SectorWholeWrongFalsely : Prop := sectorWholeRow.holds Try.pinned (OpenSpec.ofChange sectorWholeWrong)

/-- 'aquiferlaw07.SectorKeeps': WHATEVER THE INPUT: true; the input reads as it did. -/
def sectorKeepsSpec : ChangeSpec := { name := "sectorKeeps", fn := fun _ => fun
  | [d1, d2, d3] => { results := [.lit (.bool true)], args := [d1, d2, d3] }
  | _ => none }
def sectorKeepsRow : OpenClaim := { program := "ytanjlfppppghpaa", sum := "51f757f8787d051aec7405fd317128c3896f8c745d16a7820f85b5c0eb1c45ac", func := "aquifer/aquiferlaw07.SectorKeeps", spec := "sectorKeeps", apart := false }
def SectorKeepsSaid : Prop := sectorKeepsRow.holds Try.pinned (OpenSpec.ofChange sectorKeepsSpec)

/-- ITS FALSE NEIGHBOUR: 'it returns false'. Refute it at one input. -/
def sectorKeepsWrong : ChangeSpec := { name := "sectorKeeps", fn := fun _ => fun
  | [d1, d2, d3] => { results := [.lit (.bool false)], args := [d1, d2, d3] }
  | _ => none }
def SectorKeepsWrongFalsely : Prop := sectorKeepsRow.holds Try.pinned (OpenSpec.ofChange sectorKeepsWrong)

/-- 'aquiferlaw07.SectorArms': WHATEVER THE INPUT: true; the input reads as it did. -/
def sectorArmsSpec : ChangeSpec := { name := "sectorArms", fn := fun _ => fun
  | [d1, d2] => { results := [.lit (.bool true)], args := [d1, d2] }
  | _ => none }
def sectorArmsRow : OpenClaim := { program := "ytanjlfppppghpaa", sum := "51f757f8787d051aec7405fd317128c3896f8c745d16a7820f85b5c0eb1c45ac", func := "aquifer/aquiferlaw07.SectorArms", spec := "sectorArms", unfollowed := true, recurses := true, apart := false }
def SectorArmsSaid : Prop := sectorArmsRow.holds Try.pinned (OpenSpec.ofChange sectorArmsSpec)

/-- ITS FALSE NEIGHBOUR: 'it returns false'. Refute it at one input. -/
def sectorArmsWrong : ChangeSpec := { name := "sectorArms", fn := fun _ => fun
  | [d1, d2] => { results := [.lit (.bool false)], args := [d1, d2] }
  | _ => none }
def SectorArmsWrongFalsely : Prop := sectorArmsRow.holds Try.pinned (OpenSpec.ofChange sectorArmsWrong)

/-- 'aquiferlaw07.SectorPlays': WHATEVER THE INPUT: true; the input reads as it did. -/
def sectorPlaysSpec : ChangeSpec := { name := "sectorPlays", fn := fun _ => fun
  | [d1, d2] => { results := [.lit (.bool true)], args := [d1, d2] }
  | _ => none }
def sectorPlaysRow : OpenClaim := { program := "ytanjlfppppghpaa", sum := "51f757f8787d051aec7405fd317128c3896f8c745d16a7820f85b5c0eb1c45ac", func := "aquifer/aquiferlaw07.SectorPlays", spec := "sectorPlays", apart := false }
def SectorPlaysSaid : Prop := sectorPlaysRow.holds Try.pinned (OpenSpec.ofChange sectorPlaysSpec)

/-- ITS FALSE NEIGHBOUR: 'it returns false'. Refute it at one input. -/
def sectorPlaysWrong : ChangeSpec := { name := "sectorPlays", fn := fun _ => fun
  | [d1, d2] => { results := [.lit (.bool false)], args := [d1, d2] }
  | _ => none }
def SectorPlaysWrongFalsely : Prop := sectorPlaysRow.holds Try.pinned (OpenSpec.ofChange sectorPlaysWrong)

/-- 'aquiferlaw07.SectorNobody': WHATEVER THE INPUT: true; the input reads as it did. -/
def sectorNobodySpec : ChangeSpec := { name := "sectorNobody", fn := fun _ => fun
  | [d] => { results := [.lit (.bool true)], args := [d] }
  | _ => none }
def sectorNobodyRow : OpenClaim := { program := "ytanjlfppppghpaa", sum := "51f757f8787d051aec7405fd317128c3896f8c745d16a7820f85b5c0eb1c45ac", func := "aquifer/aquiferlaw07.SectorNobody", spec := "sectorNobody", apart := false }
def SectorNobodySaid : Prop := sectorNobodyRow.holds Try.pinned (OpenSpec.ofChange sectorNobodySpec)

/-- ITS FALSE NEIGHBOUR: 'it returns false'. Refute it at one input. -/
def sectorNobodyWrong : ChangeSpec := { name := "sectorNobody", fn := fun _ => fun
  | [d] => { results := [.lit (.bool false)], args := [d] }
  | _ => none }
def SectorNobodyWrongFalsely : Prop := sectorNobodyRow.holds Try.pinned (OpenSpec.ofChange sectorNobodyWrong)

/- THE SECOND FORM. 'bulk': how many values and letters a reading holds, each counted each time it is reached (what is shared counts as often as it is met; a slice's spare places count too). A statement '..UptoSaid' is the law's where the arguments, and the package variables that the reading takes, are together of bulk at most 1048576: NARROWER than '..Said'. Prove '..Said' where nothing that the law and all that it calls make is longer than what came in: it says more and counts as full. Else prove '..UptoSaid'. A law counts once. -/
mutual
def uptoBulk {H : Type} : DataW H → Nat
  | .lit (.string bytes) => bytes.length + 1
  | .lit _ => 1
  | .nil => 1
  | .ptr d => uptoBulk d + 1
  | .slice elems spare => uptoBulkAll elems + uptoBulkAll spare + 1
  | .agg parts => uptoBulkAll parts + 1
  | .iface _ d => uptoBulk d + 1
  | .map entries => uptoBulkEntries entries + 1
  | .held _ => 1
def uptoBulkAll {H : Type} : List (DataW H) → Nat
  | [] => 0
  | d :: r => uptoBulk d + uptoBulkAll r
def uptoBulkEntries {H : Type} : List (Lit × DataW H) → Nat
  | [] => 0
  | x :: r => uptoBulkEntry x + uptoBulkEntries r
def uptoBulkEntry {H : Type} : Lit × DataW H → Nat
  | (.string bytes, d) => bytes.length + uptoBulk d + 1
  | (_, d) => uptoBulk d + 1
 end
def uptoSmall : (H : Type) → List (DataW H) → Bool := fun _ ds => decide (uptoBulkAll ds ≤ 1048576)
def OpenSpec.upto (s : _root_.Go.ChangeSpec) : _root_.Go.OpenSpec := { _root_.Go.OpenSpec.ofChange s with cond := some uptoSmall }

/-- 'aquiferlaw07.SectorWhole', WHERE WHAT IT READS IS OF BULK AT MOST 1048576: true; the input reads as it did. -/
def sectorWholeUptoRow : OpenClaim := { program := "ytanjlfppppghpaa", sum := "51f757f8787d051aec7405fd317128c3896f8c745d16a7820f85b5c0eb1c45ac", func := "aquifer/aquiferlaw07.SectorWhole", spec := "sectorWhole", apart := false, narrowed := true }
def SectorWholeUptoSaid : Prop := sectorWholeUptoRow.holds Try.pinned (OpenSpec.upto sectorWholeSpec)

/-- 'aquiferlaw07.SectorKeeps', WHERE WHAT IT READS IS OF BULK AT MOST 1048576: true; the input reads as it did. -/
def sectorKeepsUptoRow : OpenClaim := { program := "ytanjlfppppghpaa", sum := "51f757f8787d051aec7405fd317128c3896f8c745d16a7820f85b5c0eb1c45ac", func := "aquifer/aquiferlaw07.SectorKeeps", spec := "sectorKeeps", apart := false, narrowed := true }
def SectorKeepsUptoSaid : Prop := sectorKeepsUptoRow.holds Try.pinned (OpenSpec.upto sectorKeepsSpec)

/-- 'aquiferlaw07.SectorArms', WHERE WHAT IT READS IS OF BULK AT MOST 1048576: true; the input reads as it did. -/
def sectorArmsUptoRow : OpenClaim := { program := "ytanjlfppppghpaa", sum := "51f757f8787d051aec7405fd317128c3896f8c745d16a7820f85b5c0eb1c45ac", func := "aquifer/aquiferlaw07.SectorArms", spec := "sectorArms", unfollowed := true, recurses := true, apart := false, narrowed := true }
def SectorArmsUptoSaid : Prop := sectorArmsUptoRow.holds Try.pinned (OpenSpec.upto sectorArmsSpec)

/-- 'aquiferlaw07.SectorPlays', WHERE WHAT IT READS IS OF BULK AT MOST 1048576: true; the input reads as it did. -/
def sectorPlaysUptoRow : OpenClaim := { program := "ytanjlfppppghpaa", sum := "51f757f8787d051aec7405fd317128c3896f8c745d16a7820f85b5c0eb1c45ac", func := "aquifer/aquiferlaw07.SectorPlays", spec := "sectorPlays", apart := false, narrowed := true }
def SectorPlaysUptoSaid : Prop := sectorPlaysUptoRow.holds Try.pinned (OpenSpec.upto sectorPlaysSpec)

/-- 'aquiferlaw07.SectorNobody', WHERE WHAT IT READS IS OF BULK AT MOST 1048576: true; the input reads as it did. -/
def sectorNobodyUptoRow : OpenClaim := { program := "ytanjlfppppghpaa", sum := "51f757f8787d051aec7405fd317128c3896f8c745d16a7820f85b5c0eb1c45ac", func := "aquifer/aquiferlaw07.SectorNobody", spec := "sectorNobody", apart := false, narrowed := true }
def SectorNobodyUptoSaid : Prop := sectorNobodyUptoRow.holds Try.pinned (OpenSpec.upto sectorNobodySpec)

end Rows
end Go.Proofs.Ytanjlfppppghpaa

/-
  NARROWER THAN 'FOR EVERY INPUT', by the rows' own cells (each row's printed sentence says how): PagedbOpens: laid · PagedbAborts: laid · PagedbStays: laid · PagedbNobody: laid · PagedbLasts: laid · PagedbPlays: laid.
  DERIVED. THE GIVEN ROWS OF THIS SEAT. 6 by the template 'for every input the law returns true; each argument reads behind the call as it read before'; 0 by the template 'total and deterministic' (their statements: YtnffnpndnaofhaaGreatDoorTotals.lean).
  GIVEN WITH THE SEED: the statements are not yours to turn. If you find one false, say at which input.
  Laid BY PROGRAM, IN A SANDBOX (cutbox-rows.mjs): the forced cells as the released guide's own fill.sh prints them over the translation d30bb3af85b09f2f… (all of the seat's roots in one cut). By AI agents, Wed Nov 11 2026. No macro, syntax, notation, axiom, sorry.
-/
import Derived.Test.YtnffnpndnaofhaaGreatDoorChecked
import GoSem.PinnedTables
import GoSem.Claim
import GoSem.ClaimJoined
import GoSem.ClaimMapViews
import Derived.JoinedTies
import Derived.KernelRfl
namespace Go.Proofs.YtnffnpndnaofhaaGreatDoor
/- THE CELL 'sum', in the pinned program and in every row, IS THE sha256 OF THE DUMP (.gsa) THAT YtnffnpndnaofhaaGreatDoorProg.lean LOADS. Nothing in Lean hashes anything: it is a label: what it is worth is what the hold of that sum in a sandbox is worth. -/
noncomputable def Tryz.pinned : Pinned := { name := "ytnffnpndnaofhaagreatdoor", sum := "d30bb3af85b09f2f5d1ac118088e78127f7d34ac0eedd473d44067499b2188ba", checked := Tryz.checked }
namespace Rows
def none {H : Type} : Left H := { results := [], args := [] }

/- WHAT THE LISTED PACKAGE-LEVEL VARIABLES READ AS WHEN THE CALL BEGINS. Each datum BY PROGRAM (the guide's laid-datum.mjs) off the statement by which the dump's own 'gosem.cut.vars' lays the variable. In a bare row this is a premise. The card (YtnffnpndnaofhaaGreatDoorCards.lean) ties it to the program's text. -/
def laid_aquifer_castagnoli_half {H : Type} : DataW H := .agg [.lit (.int .u32 0), .lit (.int .u32 274646895), .lit (.int .u32 549293790), .lit (.int .u32 820201905), .lit (.int .u32 1098587580), .lit (.int .u32 1361435347), .lit (.int .u32 1640403810), .lit (.int .u32 1905808397), .lit (.int .u32 2197175160), .lit (.int .u32 2460548119), .lit (.int .u32 2722870694), .lit (.int .u32 2987750089), .lit (.int .u32 3280807620), .lit (.int .u32 3553878443), .lit (.int .u32 3811616794), .lit (.int .u32 4084100981)]
def laid_unicode_utf8_acceptRanges {H : Type} : DataW H := .agg [.agg [.lit (.int .u8 128), .lit (.int .u8 191)], .agg [.lit (.int .u8 160), .lit (.int .u8 191)], .agg [.lit (.int .u8 128), .lit (.int .u8 159)], .agg [.lit (.int .u8 144), .lit (.int .u8 191)], .agg [.lit (.int .u8 128), .lit (.int .u8 143)], .agg [.lit (.int .u8 0), .lit (.int .u8 0)], .agg [.lit (.int .u8 0), .lit (.int .u8 0)], .agg [.lit (.int .u8 0), .lit (.int .u8 0)], .agg [.lit (.int .u8 0), .lit (.int .u8 0)], .agg [.lit (.int .u8 0), .lit (.int .u8 0)], .agg [.lit (.int .u8 0), .lit (.int .u8 0)], .agg [.lit (.int .u8 0), .lit (.int .u8 0)], .agg [.lit (.int .u8 0), .lit (.int .u8 0)], .agg [.lit (.int .u8 0), .lit (.int .u8 0)], .agg [.lit (.int .u8 0), .lit (.int .u8 0)], .agg [.lit (.int .u8 0), .lit (.int .u8 0)]]
/-- One of Go's own tables, pinned by name: the form's constant. -/
def laid_unicode_utf8_first : DataW Unit := Go.Pinned.utf8First

/-- 'aquiferlaw10.PagedbOpens': WHATEVER THE INPUT: true; the input reads as it did. -/
def pagedbOpensSpec : ChangeSpec := { name := "pagedbOpens", fn := fun _ => fun
  | [d1, d2, d3] => { results := [.lit (.bool true)], args := [d1, d2, d3] }
  | _ => none }
def pagedbOpensRow : OpenClaim := { program := "ytnffnpndnaofhaagreatdoor", sum := "d30bb3af85b09f2f5d1ac118088e78127f7d34ac0eedd473d44067499b2188ba", func := "aquifer/aquiferlaw10.PagedbOpens", spec := "pagedbOpens", inPlace := ["internal/abi.NoEscape", "internal/bytealg.MakeNoZero", "internal/bytealg.IndexByteString", "internal/bytealg.IndexString"], unfollowed := true, recurses := true, named := ["aquifer/castagnoli.half", "unicode/utf8.first", "unicode/utf8.acceptRanges", "internal/bytealg.MaxLen"], apart := false, laid := [("aquifer/castagnoli.half", laid_aquifer_castagnoli_half), ("unicode/utf8.acceptRanges", laid_unicode_utf8_acceptRanges), ("unicode/utf8.first", laid_unicode_utf8_first)] }
def PagedbOpensSaid : Prop := pagedbOpensRow.holds Tryz.pinned (OpenSpec.ofChange pagedbOpensSpec)

/-- ITS FALSE NEIGHBOUR: 'it returns false'. Refute it at one input. -/
def pagedbOpensWrong : ChangeSpec := { name := "pagedbOpens", fn := fun _ => fun
  | [d1, d2, d3] => { results := [.lit (.bool false)], args := [d1, d2, d3] }
  | _ => none }
def PagedbOpensWrongFalsely : Prop := pagedbOpensRow.holds Tryz.pinned (OpenSpec.ofChange pagedbOpensWrong)

/-- 'aquiferlaw10.PagedbAborts': WHATEVER THE INPUT: true; the input reads as it did. -/
def pagedbAbortsSpec : ChangeSpec := { name := "pagedbAborts", fn := fun _ => fun
  | [d1, d2] => { results := [.lit (.bool true)], args := [d1, d2] }
  | _ => none }
def pagedbAbortsRow : OpenClaim := { program := "ytnffnpndnaofhaagreatdoor", sum := "d30bb3af85b09f2f5d1ac118088e78127f7d34ac0eedd473d44067499b2188ba", func := "aquifer/aquiferlaw10.PagedbAborts", spec := "pagedbAborts", inPlace := ["internal/abi.NoEscape", "internal/bytealg.MakeNoZero", "internal/bytealg.IndexByteString", "internal/bytealg.IndexString"], unfollowed := true, recurses := true, named := ["aquifer/castagnoli.half", "unicode/utf8.first", "unicode/utf8.acceptRanges", "internal/bytealg.MaxLen"], apart := false, laid := [("aquifer/castagnoli.half", laid_aquifer_castagnoli_half), ("unicode/utf8.acceptRanges", laid_unicode_utf8_acceptRanges), ("unicode/utf8.first", laid_unicode_utf8_first)] }
def PagedbAbortsSaid : Prop := pagedbAbortsRow.holds Tryz.pinned (OpenSpec.ofChange pagedbAbortsSpec)

/-- ITS FALSE NEIGHBOUR: 'it returns false'. Refute it at one input. -/
def pagedbAbortsWrong : ChangeSpec := { name := "pagedbAborts", fn := fun _ => fun
  | [d1, d2] => { results := [.lit (.bool false)], args := [d1, d2] }
  | _ => none }
def PagedbAbortsWrongFalsely : Prop := pagedbAbortsRow.holds Tryz.pinned (OpenSpec.ofChange pagedbAbortsWrong)

/-- 'aquiferlaw10.PagedbStays': WHATEVER THE INPUT: true; the input reads as it did. -/
def pagedbStaysSpec : ChangeSpec := { name := "pagedbStays", fn := fun _ => fun
  | [d1, d2] => { results := [.lit (.bool true)], args := [d1, d2] }
  | _ => none }
def pagedbStaysRow : OpenClaim := { program := "ytnffnpndnaofhaagreatdoor", sum := "d30bb3af85b09f2f5d1ac118088e78127f7d34ac0eedd473d44067499b2188ba", func := "aquifer/aquiferlaw10.PagedbStays", spec := "pagedbStays", inPlace := ["internal/abi.NoEscape", "internal/bytealg.MakeNoZero", "internal/bytealg.IndexByteString", "internal/bytealg.IndexString"], unfollowed := true, recurses := true, named := ["aquifer/castagnoli.half", "unicode/utf8.first", "unicode/utf8.acceptRanges", "internal/bytealg.MaxLen"], apart := false, laid := [("aquifer/castagnoli.half", laid_aquifer_castagnoli_half), ("unicode/utf8.acceptRanges", laid_unicode_utf8_acceptRanges), ("unicode/utf8.first", laid_unicode_utf8_first)] }
def PagedbStaysSaid : Prop := pagedbStaysRow.holds Tryz.pinned (OpenSpec.ofChange pagedbStaysSpec)

/-- ITS FALSE NEIGHBOUR: 'it returns false'. Refute it at one input. -/
def pagedbStaysWrong : ChangeSpec := { name := "pagedbStays", fn := fun _ => fun
  | [d1, d2] => { results := [.lit (.bool false)], args := [d1, d2] }
  | _ => none }
def PagedbStaysWrongFalsely : Prop := pagedbStaysRow.holds Tryz.pinned (OpenSpec.ofChange pagedbStaysWrong)

/-- 'aquiferlaw10.PagedbNobody': WHATEVER THE INPUT: true; the input reads as it did. -/
def pagedbNobodySpec : ChangeSpec := { name := "pagedbNobody", fn := fun _ => fun
  | [d] => { results := [.lit (.bool true)], args := [d] }
  | _ => none }
def pagedbNobodyRow : OpenClaim := { program := "ytnffnpndnaofhaagreatdoor", sum := "d30bb3af85b09f2f5d1ac118088e78127f7d34ac0eedd473d44067499b2188ba", func := "aquifer/aquiferlaw10.PagedbNobody", spec := "pagedbNobody", inPlace := ["internal/abi.NoEscape", "internal/bytealg.MakeNoZero", "internal/bytealg.IndexByteString", "internal/bytealg.IndexString"], unfollowed := true, recurses := true, named := ["aquifer/castagnoli.half", "unicode/utf8.first", "unicode/utf8.acceptRanges", "internal/bytealg.MaxLen"], apart := false, laid := [("aquifer/castagnoli.half", laid_aquifer_castagnoli_half), ("unicode/utf8.acceptRanges", laid_unicode_utf8_acceptRanges), ("unicode/utf8.first", laid_unicode_utf8_first)] }
def PagedbNobodySaid : Prop := pagedbNobodyRow.holds Tryz.pinned (OpenSpec.ofChange pagedbNobodySpec)

/-- ITS FALSE NEIGHBOUR: 'it returns false'. Refute it at one input. -/
def pagedbNobodyWrong : ChangeSpec := { name := "pagedbNobody", fn := fun _ => fun
  | [d] => { results := [.lit (.bool false)], args := [d] }
  | _ => none }
def PagedbNobodyWrongFalsely : Prop := pagedbNobodyRow.holds Tryz.pinned (OpenSpec.ofChange pagedbNobodyWrong)

/-- 'aquiferlaw10.PagedbLasts': WHATEVER THE INPUT: true; the input reads as it did. -/
def pagedbLastsSpec : ChangeSpec := { name := "pagedbLasts", fn := fun _ => fun
  | [d1, d2, d3] => { results := [.lit (.bool true)], args := [d1, d2, d3] }
  | _ => none }
def pagedbLastsRow : OpenClaim := { program := "ytnffnpndnaofhaagreatdoor", sum := "d30bb3af85b09f2f5d1ac118088e78127f7d34ac0eedd473d44067499b2188ba", func := "aquifer/aquiferlaw10.PagedbLasts", spec := "pagedbLasts", inPlace := ["internal/abi.NoEscape", "internal/bytealg.MakeNoZero", "internal/bytealg.IndexByteString", "internal/bytealg.IndexString"], unfollowed := true, recurses := true, named := ["aquifer/castagnoli.half", "unicode/utf8.first", "unicode/utf8.acceptRanges", "internal/bytealg.MaxLen"], apart := false, laid := [("aquifer/castagnoli.half", laid_aquifer_castagnoli_half), ("unicode/utf8.acceptRanges", laid_unicode_utf8_acceptRanges), ("unicode/utf8.first", laid_unicode_utf8_first)] }
def PagedbLastsSaid : Prop := pagedbLastsRow.holds Tryz.pinned (OpenSpec.ofChange pagedbLastsSpec)

/-- ITS FALSE NEIGHBOUR: 'it returns false'. Refute it at one input. -/
def pagedbLastsWrong : ChangeSpec := { name := "pagedbLasts", fn := fun _ => fun
  | [d1, d2, d3] => { results := [.lit (.bool false)], args := [d1, d2, d3] }
  | _ => none }
def PagedbLastsWrongFalsely : Prop := pagedbLastsRow.holds Tryz.pinned (OpenSpec.ofChange pagedbLastsWrong)

/-- 'aquiferlaw10.PagedbPlays': WHATEVER THE INPUT: true; the input reads as it did. -/
def pagedbPlaysSpec : ChangeSpec := { name := "pagedbPlays", fn := fun _ => fun
  | [d1, d2, d3] => { results := [.lit (.bool true)], args := [d1, d2, d3] }
  | _ => none }
def pagedbPlaysRow : OpenClaim := { program := "ytnffnpndnaofhaagreatdoor", sum := "d30bb3af85b09f2f5d1ac118088e78127f7d34ac0eedd473d44067499b2188ba", func := "aquifer/aquiferlaw10.PagedbPlays", spec := "pagedbPlays", inPlace := ["internal/abi.NoEscape", "internal/bytealg.MakeNoZero", "internal/bytealg.IndexByteString", "internal/bytealg.IndexString"], unfollowed := true, recurses := true, named := ["aquifer/castagnoli.half", "unicode/utf8.first", "unicode/utf8.acceptRanges", "internal/bytealg.MaxLen"], apart := false, laid := [("aquifer/castagnoli.half", laid_aquifer_castagnoli_half), ("unicode/utf8.acceptRanges", laid_unicode_utf8_acceptRanges), ("unicode/utf8.first", laid_unicode_utf8_first)] }
def PagedbPlaysSaid : Prop := pagedbPlaysRow.holds Tryz.pinned (OpenSpec.ofChange pagedbPlaysSpec)

/-- ITS FALSE NEIGHBOUR: 'it returns false'. Refute it at one input. -/
def pagedbPlaysWrong : ChangeSpec := { name := "pagedbPlays", fn := fun _ => fun
  | [d1, d2, d3] => { results := [.lit (.bool false)], args := [d1, d2, d3] }
  | _ => none }
def PagedbPlaysWrongFalsely : Prop := pagedbPlaysRow.holds Tryz.pinned (OpenSpec.ofChange pagedbPlaysWrong)

/- THE SECOND FORM. 'bulk': how many values and letters a reading holds, each counted each time it is reached (what is shared counts as often as it is met; a slice's spare places count too). A statement '..UptoSaid' is the law's where the arguments, and the package variables that the reading takes, are together of bulk at most 1048576: NARROWER than '..Said'. Prove '..Said' where nothing that the law and all that it calls make is longer than what came in: it says more and counts as full. Else prove '..UptoSaid'. A law counts once. -/
mutual
def uptoBulk {H : Type} : DataW H → Nat
  | .lit (.string bytes) => bytes.length + 1
  | .lit _ => 1
  | .nil => 1
  | .ptr d => uptoBulk d + 1
  | .slice elems spare => uptoBulkAll elems + uptoBulkAll spare + 1
  | .agg parts => uptoBulkAll parts + 1
  | .iface _ d => uptoBulk d + 1
  | .map entries => uptoBulkEntries entries + 1
  | .held _ => 1
def uptoBulkAll {H : Type} : List (DataW H) → Nat
  | [] => 0
  | d :: r => uptoBulk d + uptoBulkAll r
def uptoBulkEntries {H : Type} : List (Lit × DataW H) → Nat
  | [] => 0
  | x :: r => uptoBulkEntry x + uptoBulkEntries r
def uptoBulkEntry {H : Type} : Lit × DataW H → Nat
  | (.string bytes, d) => bytes.length + uptoBulk d + 1
  | (_, d) => uptoBulk d + 1
 end
def uptoSmall : (H : Type) → List (DataW H) → Bool := fun _ ds => decide (uptoBulkAll ds ≤ 1048576)
def OpenSpec.upto (s : _root_.Go.ChangeSpec) : _root_.Go.OpenSpec := { _root_.Go.OpenSpec.ofChange s with cond := some uptoSmall }

/-- 'aquiferlaw10.PagedbOpens', WHERE WHAT IT READS IS OF BULK AT MOST 1048576: true; the input reads as it did. -/
def pagedbOpensUptoRow : OpenClaim := { program := "ytnffnpndnaofhaagreatdoor", sum := "d30bb3af85b09f2f5d1ac118088e78127f7d34ac0eedd473d44067499b2188ba", func := "aquifer/aquiferlaw10.PagedbOpens", spec := "pagedbOpens", inPlace := ["internal/abi.NoEscape", "internal/bytealg.MakeNoZero", "internal/bytealg.IndexByteString", "internal/bytealg.IndexString"], unfollowed := true, recurses := true, named := ["aquifer/castagnoli.half", "unicode/utf8.first", "unicode/utf8.acceptRanges", "internal/bytealg.MaxLen"], apart := false, laid := [("aquifer/castagnoli.half", laid_aquifer_castagnoli_half), ("unicode/utf8.acceptRanges", laid_unicode_utf8_acceptRanges), ("unicode/utf8.first", laid_unicode_utf8_first)], narrowed := true }
def PagedbOpensUptoSaid : Prop := pagedbOpensUptoRow.holds Tryz.pinned (OpenSpec.upto pagedbOpensSpec)

/-- 'aquiferlaw10.PagedbAborts', WHERE WHAT IT READS IS OF BULK AT MOST 1048576: true; the input reads as it did. -/
def pagedbAbortsUptoRow : OpenClaim := { program := "ytnffnpndnaofhaagreatdoor", sum := "d30bb3af85b09f2f5d1ac118088e78127f7d34ac0eedd473d44067499b2188ba", func := "aquifer/aquiferlaw10.PagedbAborts", spec := "pagedbAborts", inPlace := ["internal/abi.NoEscape", "internal/bytealg.MakeNoZero", "internal/bytealg.IndexByteString", "internal/bytealg.IndexString"], unfollowed := true, recurses := true, named := ["aquifer/castagnoli.half", "unicode/utf8.first", "unicode/utf8.acceptRanges", "internal/bytealg.MaxLen"], apart := false, laid := [("aquifer/castagnoli.half", laid_aquifer_castagnoli_half), ("unicode/utf8.acceptRanges", laid_unicode_utf8_acceptRanges), ("unicode/utf8.first", laid_unicode_utf8_first)], narrowed := true }
def PagedbAbortsUptoSaid : Prop := pagedbAbortsUptoRow.holds Tryz.pinned (OpenSpec.upto pagedbAbortsSpec)

/-- 'aquiferlaw10.PagedbStays', WHERE WHAT IT READS IS OF BULK AT MOST 1048576: true; the input reads as it did. -/
def pagedbStaysUptoRow : OpenClaim := { program := "ytnffnpndnaofhaagreatdoor", sum := "d30bb3af85b09f2f5d1ac118088e78127f7d34ac0eedd473d44067499b2188ba", func := "aquifer/aquiferlaw10.PagedbStays", spec := "pagedbStays", inPlace := ["internal/abi.NoEscape", "internal/bytealg.MakeNoZero", "internal/bytealg.IndexByteString", "internal/bytealg.IndexString"], unfollowed := true, recurses := true, named := ["aquifer/castagnoli.half", "unicode/utf8.first", "unicode/utf8.acceptRanges", "internal/bytealg.MaxLen"], apart := false, laid := [("aquifer/castagnoli.half", laid_aquifer_castagnoli_half), ("unicode/utf8.acceptRanges", laid_unicode_utf8_acceptRanges), ("unicode/utf8.first", laid_unicode_utf8_first)], narrowed := true }
def PagedbStaysUptoSaid : Prop := pagedbStaysUptoRow.holds Tryz.pinned (OpenSpec.upto pagedbStaysSpec)

/-- 'aquiferlaw10.PagedbNobody', WHERE WHAT IT READS IS OF BULK AT MOST 1048576: true; the input reads as it did. -/
def pagedbNobodyUptoRow : OpenClaim := { program := "ytnffnpndnaofhaagreatdoor", sum := "d30bb3af85b09f2f5d1ac118088e78127f7d34ac0eedd473d44067499b2188ba", func := "aquifer/aquiferlaw10.PagedbNobody", spec := "pagedbNobody", inPlace := ["internal/abi.NoEscape", "internal/bytealg.MakeNoZero", "internal/bytealg.IndexByteString", "internal/bytealg.IndexString"], unfollowed := true, recurses := true, named := ["aquifer/castagnoli.half", "unicode/utf8.first", "unicode/utf8.acceptRanges", "internal/bytealg.MaxLen"], apart := false, laid := [("aquifer/castagnoli.half", laid_aquifer_castagnoli_half), ("unicode/utf8.acceptRanges", laid_unicode_utf8_acceptRanges), ("unicode/utf8.first", laid_unicode_utf8_first)], narrowed := true }
def PagedbNobodyUptoSaid : Prop := pagedbNobodyUptoRow.holds Tryz.pinned (OpenSpec.upto pagedbNobodySpec)

/-- 'aquiferlaw10.PagedbLasts', WHERE WHAT IT READS IS OF BULK AT MOST 1048576: true; the input reads as it did. -/
def pagedbLastsUptoRow : OpenClaim := { program := "ytnffnpndnaofhaagreatdoor", sum := "d30bb3af85b09f2f5d1ac118088e78127f7d34ac0eedd473d44067499b2188ba", func := "aquifer/aquiferlaw10.PagedbLasts", spec := "pagedbLasts", inPlace := ["internal/abi.NoEscape", "internal/bytealg.MakeNoZero", "internal/bytealg.IndexByteString", "internal/bytealg.IndexString"], unfollowed := true, recurses := true, named := ["aquifer/castagnoli.half", "unicode/utf8.first", "unicode/utf8.acceptRanges", "internal/bytealg.MaxLen"], apart := false, laid := [("aquifer/castagnoli.half", laid_aquifer_castagnoli_half), ("unicode/utf8.acceptRanges", laid_unicode_utf8_acceptRanges), ("unicode/utf8.first", laid_unicode_utf8_first)], narrowed := true }
def PagedbLastsUptoSaid : Prop := pagedbLastsUptoRow.holds Tryz.pinned (OpenSpec.upto pagedbLastsSpec)

/-- 'aquiferlaw10.PagedbPlays', WHERE WHAT IT READS IS OF BULK AT MOST 1048576: true; the input reads as it did. -/
def pagedbPlaysUptoRow : OpenClaim := { program := "ytnffnpndnaofhaagreatdoor", sum := "d30bb3af85b09f2f5d1ac118088e78127f7d34ac0eedd473d44067499b2188ba", func := "aquifer/aquiferlaw10.PagedbPlays", spec := "pagedbPlays", inPlace := ["internal/abi.NoEscape", "internal/bytealg.MakeNoZero", "internal/bytealg.IndexByteString", "internal/bytealg.IndexString"], unfollowed := true, recurses := true, named := ["aquifer/castagnoli.half", "unicode/utf8.first", "unicode/utf8.acceptRanges", "internal/bytealg.MaxLen"], apart := false, laid := [("aquifer/castagnoli.half", laid_aquifer_castagnoli_half), ("unicode/utf8.acceptRanges", laid_unicode_utf8_acceptRanges), ("unicode/utf8.first", laid_unicode_utf8_first)], narrowed := true }
def PagedbPlaysUptoSaid : Prop := pagedbPlaysUptoRow.holds Tryz.pinned (OpenSpec.upto pagedbPlaysSpec)

end Rows
end Go.Proofs.YtnffnpndnaofhaaGreatDoor

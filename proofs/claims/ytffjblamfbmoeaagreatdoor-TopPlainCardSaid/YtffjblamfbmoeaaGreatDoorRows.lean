/-
  NARROWER THAN 'FOR EVERY INPUT', by the rows' own cells (each row's printed sentence says how): TopDefined: laid · TopPlain: laid · TopSpelt: laid.
  DERIVED. THE GIVEN ROWS OF THIS SEAT. 3 by the template 'for every input the law returns true; each argument reads behind the call as it read before'; 0 by the template 'total and deterministic' (their statements: YtffjblamfbmoeaaGreatDoorTotals.lean).
  GIVEN WITH THE SEED: the statements are not yours to turn. If you find one false, say at which input.
  Laid BY PROGRAM, IN A SANDBOX (cutbox-rows.mjs): the forced cells as the released guide's own fill.sh prints them over the translation 2cb3ece13dd32a5d… (all of the seat's roots in one cut). By AI agents, Wed Nov 11 2026. No macro, syntax, notation, axiom, sorry.
-/
import Derived.Test.YtffjblamfbmoeaaGreatDoorChecked
import GoSem.Claim
import GoSem.ClaimJoined
import GoSem.ClaimMapViews
import Derived.JoinedTies
import Derived.KernelRfl
namespace Go.Proofs.YtffjblamfbmoeaaGreatDoor
/- THE CELL 'sum', in the pinned program and in every row, IS THE sha256 OF THE DUMP (.gsa) THAT YtffjblamfbmoeaaGreatDoorProg.lean LOADS. Nothing in Lean hashes anything: it is a label: what it is worth is what the hold of that sum in a sandbox is worth. -/
noncomputable def Tryz.pinned : Pinned := { name := "ytffjblamfbmoeaagreatdoor", sum := "2cb3ece13dd32a5d71a53abfe4d228742857471b21a8941c70b2bd69309e2b51", checked := Tryz.checked }
namespace Rows
def none {H : Type} : Left H := { results := [], args := [] }

/- WHAT THE LISTED PACKAGE-LEVEL VARIABLES READ AS WHEN THE CALL BEGINS. Each datum BY PROGRAM (the guide's laid-datum.mjs) off the statement by which the dump's own 'gosem.cut.vars' lays the variable. In a bare row this is a premise. The card (YtffjblamfbmoeaaGreatDoorCards.lean) ties it to the program's text. -/
def laid_reglet_cond_operators {H : Type} : DataW H := .agg [.agg [.lit (.string [124, 124]), .lit (.int .i64 1)], .agg [.lit (.string [38, 38]), .lit (.int .i64 2)], .agg [.lit (.string [124]), .lit (.int .i64 3)], .agg [.lit (.string [94]), .lit (.int .i64 4)], .agg [.lit (.string [38]), .lit (.int .i64 5)], .agg [.lit (.string [61, 61]), .lit (.int .i64 6)], .agg [.lit (.string [33, 61]), .lit (.int .i64 6)], .agg [.lit (.string [60]), .lit (.int .i64 7)], .agg [.lit (.string [62]), .lit (.int .i64 7)], .agg [.lit (.string [60, 61]), .lit (.int .i64 7)], .agg [.lit (.string [62, 61]), .lit (.int .i64 7)], .agg [.lit (.string [60, 60]), .lit (.int .i64 8)], .agg [.lit (.string [62, 62]), .lit (.int .i64 8)], .agg [.lit (.string [43]), .lit (.int .i64 9)], .agg [.lit (.string [45]), .lit (.int .i64 9)], .agg [.lit (.string [42]), .lit (.int .i64 10)], .agg [.lit (.string [47]), .lit (.int .i64 10)], .agg [.lit (.string [37]), .lit (.int .i64 10)]]

/-- 'reglettop.TopDefined': WHATEVER THE INPUT: true; the input reads as it did. -/
def topDefinedSpec : ChangeSpec := { name := "topDefined", fn := fun _ => fun
  | [d1, d2, d3] => { results := [.lit (.bool true)], args := [d1, d2, d3] }
  | _ => none }
def topDefinedRow : OpenClaim := { program := "ytffjblamfbmoeaagreatdoor", sum := "2cb3ece13dd32a5d71a53abfe4d228742857471b21a8941c70b2bd69309e2b51", func := "reglet/reglettop.TopDefined", spec := "topDefined", inPlace := ["internal/abi.NoEscape", "internal/bytealg.MakeNoZero", "internal/bytealg.IndexByteString", "internal/bytealg.IndexString", "math/bits.Add64"], unfollowed := true, recurses := true, named := ["internal/bytealg.MaxLen", "reglet/cond.operators"], apart := false, laid := [("reglet/cond.operators", laid_reglet_cond_operators)] }
def TopDefinedSaid : Prop := topDefinedRow.holds Tryz.pinned (OpenSpec.ofChange topDefinedSpec)

/-- ITS FALSE NEIGHBOUR: 'it returns false'. Refute it at one input. -/
def topDefinedWrong : ChangeSpec := { name := "topDefined", fn := fun _ => fun
  | [d1, d2, d3] => { results := [.lit (.bool false)], args := [d1, d2, d3] }
  | _ => none }
def TopDefinedWrongFalsely : Prop := topDefinedRow.holds Tryz.pinned (OpenSpec.ofChange topDefinedWrong)

/-- 'reglettop.TopPlain': WHATEVER THE INPUT: true; the input reads as it did. -/
def topPlainSpec : ChangeSpec := { name := "topPlain", fn := fun _ => fun
  | [d] => { results := [.lit (.bool true)], args := [d] }
  | _ => none }
def topPlainRow : OpenClaim := { program := "ytffjblamfbmoeaagreatdoor", sum := "2cb3ece13dd32a5d71a53abfe4d228742857471b21a8941c70b2bd69309e2b51", func := "reglet/reglettop.TopPlain", spec := "topPlain", inPlace := ["internal/abi.NoEscape", "internal/bytealg.MakeNoZero", "internal/bytealg.IndexByteString", "internal/bytealg.IndexString", "math/bits.Add64"], unfollowed := true, recurses := true, named := ["internal/bytealg.MaxLen", "reglet/cond.operators"], apart := false, laid := [("reglet/cond.operators", laid_reglet_cond_operators)] }
def TopPlainSaid : Prop := topPlainRow.holds Tryz.pinned (OpenSpec.ofChange topPlainSpec)

/-- ITS FALSE NEIGHBOUR: 'it returns false'. Refute it at one input. -/
def topPlainWrong : ChangeSpec := { name := "topPlain", fn := fun _ => fun
  | [d] => { results := [.lit (.bool false)], args := [d] }
  | _ => none }
def TopPlainWrongFalsely : Prop := topPlainRow.holds Tryz.pinned (OpenSpec.ofChange topPlainWrong)

/-- 'reglettop.TopSpelt': WHATEVER THE INPUT: true; the input reads as it did. -/
def topSpeltSpec : ChangeSpec := { name := "topSpelt", fn := fun _ => fun
  | [d1, d2] => { results := [.lit (.bool true)], args := [d1, d2] }
  | _ => none }
def topSpeltRow : OpenClaim := { program := "ytffjblamfbmoeaagreatdoor", sum := "2cb3ece13dd32a5d71a53abfe4d228742857471b21a8941c70b2bd69309e2b51", func := "reglet/reglettop.TopSpelt", spec := "topSpelt", inPlace := ["internal/abi.NoEscape", "internal/bytealg.MakeNoZero", "internal/bytealg.IndexByteString", "internal/bytealg.IndexString", "math/bits.Add64"], unfollowed := true, recurses := true, named := ["internal/bytealg.MaxLen", "reglet/cond.operators"], apart := false, laid := [("reglet/cond.operators", laid_reglet_cond_operators)] }
def TopSpeltSaid : Prop := topSpeltRow.holds Tryz.pinned (OpenSpec.ofChange topSpeltSpec)

/-- ITS FALSE NEIGHBOUR: 'it returns false'. Refute it at one input. -/
def topSpeltWrong : ChangeSpec := { name := "topSpelt", fn := fun _ => fun
  | [d1, d2] => { results := [.lit (.bool false)], args := [d1, d2] }
  | _ => none }
def TopSpeltWrongFalsely : Prop := topSpeltRow.holds Tryz.pinned (OpenSpec.ofChange topSpeltWrong)

/- THE SECOND FORM. 'bulk': how many values and letters a reading holds, each counted each time it is reached (what is shared counts as often as it is met; a slice's spare places count too). A statement '..UptoSaid' is the law's where the arguments, and the package variables that the reading takes, are together of bulk at most 1048576: NARROWER than '..Said'. Prove '..Said' where nothing that the law and all that it calls make is longer than what came in: it says more and counts as full. Else prove '..UptoSaid'. A law counts once. -/
mutual
def uptoBulk {H : Type} : DataW H → Nat
  | .lit (.string bytes) => bytes.length + 1
  | .lit _ => 1
  | .nil => 1
  | .ptr d => uptoBulk d + 1
  | .slice elems spare => uptoBulkAll elems + uptoBulkAll spare + 1
  | .agg parts => uptoBulkAll parts + 1
  | .iface _ d => uptoBulk d + 1
  | .map entries => uptoBulkEntries entries + 1
  | .held _ => 1
def uptoBulkAll {H : Type} : List (DataW H) → Nat
  | [] => 0
  | d :: r => uptoBulk d + uptoBulkAll r
def uptoBulkEntries {H : Type} : List (Lit × DataW H) → Nat
  | [] => 0
  | x :: r => uptoBulkEntry x + uptoBulkEntries r
def uptoBulkEntry {H : Type} : Lit × DataW H → Nat
  | (.string bytes, d) => bytes.length + uptoBulk d + 1
  | (_, d) => uptoBulk d + 1
 end
def uptoSmall : (H : Type) → List (DataW H) → Bool := fun _ ds => decide (uptoBulkAll ds ≤ 1048576)
def OpenSpec.upto (s : _root_.Go.ChangeSpec) : _root_.Go.OpenSpec := { _root_.Go.OpenSpec.ofChange s with cond := some uptoSmall }

/-- 'reglettop.TopDefined', WHERE WHAT IT READS IS OF BULK AT MOST 1048576: true; the input reads as it did. -/
def topDefinedUptoRow : OpenClaim := { program := "ytffjblamfbmoeaagreatdoor", sum := "2cb3ece13dd32a5d71a53abfe4d228742857471b21a8941c70b2bd69309e2b51", func := "reglet/reglettop.TopDefined", spec := "topDefined", inPlace := ["internal/abi.NoEscape", "internal/bytealg.MakeNoZero", "internal/bytealg.IndexByteString", "internal/bytealg.IndexString", "math/bits.Add64"], unfollowed := true, recurses := true, named := ["internal/bytealg.MaxLen", "reglet/cond.operators"], apart := false, laid := [("reglet/cond.operators", laid_reglet_cond_operators)], narrowed := true }
def TopDefinedUptoSaid : Prop := topDefinedUptoRow.holds Tryz.pinned (OpenSpec.upto topDefinedSpec)

/-- 'reglettop.TopPlain', WHERE WHAT IT READS IS OF BULK AT MOST 1048576: true; the input reads as it did. -/
def topPlainUptoRow : OpenClaim := { program := "ytffjblamfbmoeaagreatdoor", sum := "2cb3ece13dd32a5d71a53abfe4d228742857471b21a8941c70b2bd69309e2b51", func := "reglet/reglettop.TopPlain", spec := "topPlain", inPlace := ["internal/abi.NoEscape", "internal/bytealg.MakeNoZero", "internal/bytealg.IndexByteString", "internal/bytealg.IndexString", "math/bits.Add64"], unfollowed := true, recurses := true, named := ["internal/bytealg.MaxLen", "reglet/cond.operators"], apart := false, laid := [("reglet/cond.operators", laid_reglet_cond_operators)], narrowed := true }
def TopPlainUptoSaid : Prop := topPlainUptoRow.holds Tryz.pinned (OpenSpec.upto topPlainSpec)

/-- 'reglettop.TopSpelt', WHERE WHAT IT READS IS OF BULK AT MOST 1048576: true; the input reads as it did. -/
def topSpeltUptoRow : OpenClaim := { program := "ytffjblamfbmoeaagreatdoor", sum := "2cb3ece13dd32a5d71a53abfe4d228742857471b21a8941c70b2bd69309e2b51", func := "reglet/reglettop.TopSpelt", spec := "topSpelt", inPlace := ["internal/abi.NoEscape", "internal/bytealg.MakeNoZero", "internal/bytealg.IndexByteString", "internal/bytealg.IndexString", "math/bits.Add64"], unfollowed := true, recurses := true, named := ["internal/bytealg.MaxLen", "reglet/cond.operators"], apart := false, laid := [("reglet/cond.operators", laid_reglet_cond_operators)], narrowed := true }
def TopSpeltUptoSaid : Prop := topSpeltUptoRow.holds Tryz.pinned (OpenSpec.upto topSpeltSpec)

end Rows
end Go.Proofs.YtffjblamfbmoeaaGreatDoor

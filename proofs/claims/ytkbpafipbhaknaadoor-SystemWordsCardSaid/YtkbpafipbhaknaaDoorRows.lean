/-
  NARROWER THAN 'FOR EVERY INPUT', by the rows' own cells (each row's printed sentence says how): SystemEnvs: laid · SystemWords: laid · SystemValid: laid · ArgumentCloses: laid · ArgumentProduct: laid · ArgumentValues: laid.
  DERIVED. THE GIVEN ROWS OF THIS SEAT. 6 by the template 'for every input the law returns true; each argument reads behind the call as it read before'; 0 by the template 'total and deterministic' (their statements: YtkbpafipbhaknaaDoorTotals.lean).
  GIVEN WITH THE SEED: the statements are not yours to turn. If you find one false, say at which input.
  Laid BY PROGRAM, IN A SANDBOX (cutbox-rows.mjs): the forced cells as the released guide's own fill.sh prints them over the translation c54418e8a441ce84… (all of the seat's roots in one cut). By AI agents, Wed Nov 11 2026. No macro, syntax, notation, axiom, sorry.
-/
import Derived.Test.YtkbpafipbhaknaaDoorChecked
import GoSem.Claim
import GoSem.ClaimJoined
import GoSem.ClaimMapViews
import Derived.JoinedTies
import Derived.KernelRfl
namespace Go.Proofs.YtkbpafipbhaknaaDoor
/- THE CELL 'sum', in the pinned program and in every row, IS THE sha256 OF THE DUMP (.gsa) THAT YtkbpafipbhaknaaDoorProg.lean LOADS. Nothing in Lean hashes anything: it is a label: what it is worth is what the hold of that sum in a sandbox is worth. -/
noncomputable def Tryd.pinned : Pinned := { name := "ytkbpafipbhaknaadoor", sum := "c54418e8a441ce84d2822ba362f700e5ad60e4f3b02c6d6f1a6804410d227f74", checked := Tryd.checked }
namespace Rows
def none {H : Type} : Left H := { results := [], args := [] }

/- WHAT THE LISTED PACKAGE-LEVEL VARIABLES READ AS WHEN THE CALL BEGINS. Each datum BY PROGRAM (the guide's laid-datum.mjs) off the statement by which the dump's own 'gosem.cut.vars' lays the variable. In a bare row this is a premise. The card (YtkbpafipbhaknaaDoorCards.lean) ties it to the program's text. -/
def laid_attestor_field_fields {H : Type} : DataW H := .agg [.agg [.lit (.int .u64 97), .lit (.int .u64 5), .lit (.int .i64 5), .lit (.int .i64 5), .slice [.lit (.int .u64 3)] []], .agg [.lit (.int .u64 257), .lit (.int .u64 3), .lit (.int .i64 8), .lit (.int .i64 3), .nil], .agg [.lit (.int .u64 12289), .lit (.int .u64 11), .lit (.int .i64 12), .lit (.int .i64 5), .slice [.lit (.int .u64 3)] []], .agg [.lit (.int .u64 998244353), .lit (.int .u64 3), .lit (.int .i64 23), .lit (.int .i64 3), .slice [.lit (.int .u64 7), .lit (.int .u64 17)] []]]

/-- 'attestorlaw13.SystemEnvs': WHATEVER THE INPUT: true; the input reads as it did. -/
def systemEnvsSpec : ChangeSpec := { name := "systemEnvs", fn := fun _ => fun
  | [d1, d2, d3] => { results := [.lit (.bool true)], args := [d1, d2, d3] }
  | _ => none }
def systemEnvsRow : OpenClaim := { program := "ytkbpafipbhaknaadoor", sum := "c54418e8a441ce84d2822ba362f700e5ad60e4f3b02c6d6f1a6804410d227f74", func := "attestor/attestorlaw13.SystemEnvs", spec := "systemEnvs", unfollowed := true, recurses := true, named := ["attestor/field.fields"], apart := false, laid := [("attestor/field.fields", laid_attestor_field_fields)] }
def SystemEnvsSaid : Prop := systemEnvsRow.holds Tryd.pinned (OpenSpec.ofChange systemEnvsSpec)

/-- ITS FALSE NEIGHBOUR: 'it returns false'. Refute it at one input. -/
def systemEnvsWrong : ChangeSpec := { name := "systemEnvs", fn := fun _ => fun
  | [d1, d2, d3] => { results := [.lit (.bool false)], args := [d1, d2, d3] }
  | _ => none }
def SystemEnvsWrongFalsely : Prop := systemEnvsRow.holds Tryd.pinned (OpenSpec.ofChange systemEnvsWrong)

/-- 'attestorlaw13.SystemWords': WHATEVER THE INPUT: true; the input reads as it did. -/
def systemWordsSpec : ChangeSpec := { name := "systemWords", fn := fun _ => fun
  | [d1, d2] => { results := [.lit (.bool true)], args := [d1, d2] }
  | _ => none }
def systemWordsRow : OpenClaim := { program := "ytkbpafipbhaknaadoor", sum := "c54418e8a441ce84d2822ba362f700e5ad60e4f3b02c6d6f1a6804410d227f74", func := "attestor/attestorlaw13.SystemWords", spec := "systemWords", unfollowed := true, recurses := true, named := ["attestor/field.fields"], apart := false, laid := [("attestor/field.fields", laid_attestor_field_fields)] }
def SystemWordsSaid : Prop := systemWordsRow.holds Tryd.pinned (OpenSpec.ofChange systemWordsSpec)

/-- ITS FALSE NEIGHBOUR: 'it returns false'. Refute it at one input. -/
def systemWordsWrong : ChangeSpec := { name := "systemWords", fn := fun _ => fun
  | [d1, d2] => { results := [.lit (.bool false)], args := [d1, d2] }
  | _ => none }
def SystemWordsWrongFalsely : Prop := systemWordsRow.holds Tryd.pinned (OpenSpec.ofChange systemWordsWrong)

/-- 'attestorlaw13.SystemValid': WHATEVER THE INPUT: true; the input reads as it did. -/
def systemValidSpec : ChangeSpec := { name := "systemValid", fn := fun _ => fun
  | [d] => { results := [.lit (.bool true)], args := [d] }
  | _ => none }
def systemValidRow : OpenClaim := { program := "ytkbpafipbhaknaadoor", sum := "c54418e8a441ce84d2822ba362f700e5ad60e4f3b02c6d6f1a6804410d227f74", func := "attestor/attestorlaw13.SystemValid", spec := "systemValid", unfollowed := true, recurses := true, named := ["attestor/field.fields"], apart := false, laid := [("attestor/field.fields", laid_attestor_field_fields)] }
def SystemValidSaid : Prop := systemValidRow.holds Tryd.pinned (OpenSpec.ofChange systemValidSpec)

/-- ITS FALSE NEIGHBOUR: 'it returns false'. Refute it at one input. -/
def systemValidWrong : ChangeSpec := { name := "systemValid", fn := fun _ => fun
  | [d] => { results := [.lit (.bool false)], args := [d] }
  | _ => none }
def SystemValidWrongFalsely : Prop := systemValidRow.holds Tryd.pinned (OpenSpec.ofChange systemValidWrong)

/-- 'attestorlaw14.ArgumentCloses': WHATEVER THE INPUT: true; the input reads as it did. -/
def argumentClosesSpec : ChangeSpec := { name := "argumentCloses", fn := fun _ => fun
  | [d1, d2, d3, d4] => { results := [.lit (.bool true)], args := [d1, d2, d3, d4] }
  | _ => none }
def argumentClosesRow : OpenClaim := { program := "ytkbpafipbhaknaadoor", sum := "c54418e8a441ce84d2822ba362f700e5ad60e4f3b02c6d6f1a6804410d227f74", func := "attestor/attestorlaw14.ArgumentCloses", spec := "argumentCloses", unfollowed := true, recurses := true, named := ["attestor/field.fields"], apart := false, laid := [("attestor/field.fields", laid_attestor_field_fields)] }
def ArgumentClosesSaid : Prop := argumentClosesRow.holds Tryd.pinned (OpenSpec.ofChange argumentClosesSpec)

/-- ITS FALSE NEIGHBOUR: 'it returns false'. Refute it at one input. -/
def argumentClosesWrong : ChangeSpec := { name := "argumentCloses", fn := fun _ => fun
  | [d1, d2, d3, d4] => { results := [.lit (.bool false)], args := [d1, d2, d3, d4] }
  | _ => none }
def ArgumentClosesWrongFalsely : Prop := argumentClosesRow.holds Tryd.pinned (OpenSpec.ofChange argumentClosesWrong)

/-- 'attestorlaw14.ArgumentProduct': WHATEVER THE INPUT: true; the input reads as it did. -/
def argumentProductSpec : ChangeSpec := { name := "argumentProduct", fn := fun _ => fun
  | [d1, d2, d3] => { results := [.lit (.bool true)], args := [d1, d2, d3] }
  | _ => none }
def argumentProductRow : OpenClaim := { program := "ytkbpafipbhaknaadoor", sum := "c54418e8a441ce84d2822ba362f700e5ad60e4f3b02c6d6f1a6804410d227f74", func := "attestor/attestorlaw14.ArgumentProduct", spec := "argumentProduct", unfollowed := true, recurses := true, named := ["attestor/field.fields"], apart := false, laid := [("attestor/field.fields", laid_attestor_field_fields)] }
def ArgumentProductSaid : Prop := argumentProductRow.holds Tryd.pinned (OpenSpec.ofChange argumentProductSpec)

/-- ITS FALSE NEIGHBOUR: 'it returns false'. Refute it at one input. -/
def argumentProductWrong : ChangeSpec := { name := "argumentProduct", fn := fun _ => fun
  | [d1, d2, d3] => { results := [.lit (.bool false)], args := [d1, d2, d3] }
  | _ => none }
def ArgumentProductWrongFalsely : Prop := argumentProductRow.holds Tryd.pinned (OpenSpec.ofChange argumentProductWrong)

/-- 'attestorlaw14.ArgumentValues': WHATEVER THE INPUT: true; the input reads as it did. -/
def argumentValuesSpec : ChangeSpec := { name := "argumentValues", fn := fun _ => fun
  | [d1, d2] => { results := [.lit (.bool true)], args := [d1, d2] }
  | _ => none }
def argumentValuesRow : OpenClaim := { program := "ytkbpafipbhaknaadoor", sum := "c54418e8a441ce84d2822ba362f700e5ad60e4f3b02c6d6f1a6804410d227f74", func := "attestor/attestorlaw14.ArgumentValues", spec := "argumentValues", unfollowed := true, recurses := true, named := ["attestor/field.fields"], apart := false, laid := [("attestor/field.fields", laid_attestor_field_fields)] }
def ArgumentValuesSaid : Prop := argumentValuesRow.holds Tryd.pinned (OpenSpec.ofChange argumentValuesSpec)

/-- ITS FALSE NEIGHBOUR: 'it returns false'. Refute it at one input. -/
def argumentValuesWrong : ChangeSpec := { name := "argumentValues", fn := fun _ => fun
  | [d1, d2] => { results := [.lit (.bool false)], args := [d1, d2] }
  | _ => none }
def ArgumentValuesWrongFalsely : Prop := argumentValuesRow.holds Tryd.pinned (OpenSpec.ofChange argumentValuesWrong)

/- THE SECOND FORM. 'bulk': how many values and letters a reading holds, each counted each time it is reached (what is shared counts as often as it is met; a slice's spare places count too). A statement '..UptoSaid' is the law's where the arguments, and the package variables that the reading takes, are together of bulk at most 1048576: NARROWER than '..Said'. Prove '..Said' where nothing that the law and all that it calls make is longer than what came in: it says more and counts as full. Else prove '..UptoSaid'. A law counts once. -/
mutual
def uptoBulk {H : Type} : DataW H → Nat
  | .lit (.string bytes) => bytes.length + 1
  | .lit _ => 1
  | .nil => 1
  | .ptr d => uptoBulk d + 1
  | .slice elems spare => uptoBulkAll elems + uptoBulkAll spare + 1
  | .agg parts => uptoBulkAll parts + 1
  | .iface _ d => uptoBulk d + 1
  | .map entries => uptoBulkEntries entries + 1
  | .held _ => 1
def uptoBulkAll {H : Type} : List (DataW H) → Nat
  | [] => 0
  | d :: r => uptoBulk d + uptoBulkAll r
def uptoBulkEntries {H : Type} : List (Lit × DataW H) → Nat
  | [] => 0
  | x :: r => uptoBulkEntry x + uptoBulkEntries r
def uptoBulkEntry {H : Type} : Lit × DataW H → Nat
  | (.string bytes, d) => bytes.length + uptoBulk d + 1
  | (_, d) => uptoBulk d + 1
 end
def uptoSmall : (H : Type) → List (DataW H) → Bool := fun _ ds => decide (uptoBulkAll ds ≤ 1048576)
def OpenSpec.upto (s : _root_.Go.ChangeSpec) : _root_.Go.OpenSpec := { _root_.Go.OpenSpec.ofChange s with cond := some uptoSmall }

/-- 'attestorlaw13.SystemEnvs', WHERE WHAT IT READS IS OF BULK AT MOST 1048576: true; the input reads as it did. -/
def systemEnvsUptoRow : OpenClaim := { program := "ytkbpafipbhaknaadoor", sum := "c54418e8a441ce84d2822ba362f700e5ad60e4f3b02c6d6f1a6804410d227f74", func := "attestor/attestorlaw13.SystemEnvs", spec := "systemEnvs", unfollowed := true, recurses := true, named := ["attestor/field.fields"], apart := false, laid := [("attestor/field.fields", laid_attestor_field_fields)], narrowed := true }
def SystemEnvsUptoSaid : Prop := systemEnvsUptoRow.holds Tryd.pinned (OpenSpec.upto systemEnvsSpec)

/-- 'attestorlaw13.SystemWords', WHERE WHAT IT READS IS OF BULK AT MOST 1048576: true; the input reads as it did. -/
def systemWordsUptoRow : OpenClaim := { program := "ytkbpafipbhaknaadoor", sum := "c54418e8a441ce84d2822ba362f700e5ad60e4f3b02c6d6f1a6804410d227f74", func := "attestor/attestorlaw13.SystemWords", spec := "systemWords", unfollowed := true, recurses := true, named := ["attestor/field.fields"], apart := false, laid := [("attestor/field.fields", laid_attestor_field_fields)], narrowed := true }
def SystemWordsUptoSaid : Prop := systemWordsUptoRow.holds Tryd.pinned (OpenSpec.upto systemWordsSpec)

/-- 'attestorlaw13.SystemValid', WHERE WHAT IT READS IS OF BULK AT MOST 1048576: true; the input reads as it did. -/
def systemValidUptoRow : OpenClaim := { program := "ytkbpafipbhaknaadoor", sum := "c54418e8a441ce84d2822ba362f700e5ad60e4f3b02c6d6f1a6804410d227f74", func := "attestor/attestorlaw13.SystemValid", spec := "systemValid", unfollowed := true, recurses := true, named := ["attestor/field.fields"], apart := false, laid := [("attestor/field.fields", laid_attestor_field_fields)], narrowed := true }
def SystemValidUptoSaid : Prop := systemValidUptoRow.holds Tryd.pinned (OpenSpec.upto systemValidSpec)

/-- 'attestorlaw14.ArgumentCloses', WHERE WHAT IT READS IS OF BULK AT MOST 1048576: true; the input reads as it did. -/
def argumentClosesUptoRow : OpenClaim := { program := "ytkbpafipbhaknaadoor", sum := "c54418e8a441ce84d2822ba362f700e5ad60e4f3b02c6d6f1a6804410d227f74", func := "attestor/attestorlaw14.ArgumentCloses", spec := "argumentCloses", unfollowed := true, recurses := true, named := ["attestor/field.fields"], apart := false, laid := [("attestor/field.fields", laid_attestor_field_fields)], narrowed := true }
def ArgumentClosesUptoSaid : Prop := argumentClosesUptoRow.holds Tryd.pinned (OpenSpec.upto argumentClosesSpec)

/-- 'attestorlaw14.ArgumentProduct', WHERE WHAT IT READS IS OF BULK AT MOST 1048576: true; the input reads as it did. -/
def argumentProductUptoRow : OpenClaim := { program := "ytkbpafipbhaknaadoor", sum := "c54418e8a441ce84d2822ba362f700e5ad60e4f3b02c6d6f1a6804410d227f74", func := "attestor/attestorlaw14.ArgumentProduct", spec := "argumentProduct", unfollowed := true, recurses := true, named := ["attestor/field.fields"], apart := false, laid := [("attestor/field.fields", laid_attestor_field_fields)], narrowed := true }
def ArgumentProductUptoSaid : Prop := argumentProductUptoRow.holds Tryd.pinned (OpenSpec.upto argumentProductSpec)

/-- 'attestorlaw14.ArgumentValues', WHERE WHAT IT READS IS OF BULK AT MOST 1048576: true; the input reads as it did. -/
def argumentValuesUptoRow : OpenClaim := { program := "ytkbpafipbhaknaadoor", sum := "c54418e8a441ce84d2822ba362f700e5ad60e4f3b02c6d6f1a6804410d227f74", func := "attestor/attestorlaw14.ArgumentValues", spec := "argumentValues", unfollowed := true, recurses := true, named := ["attestor/field.fields"], apart := false, laid := [("attestor/field.fields", laid_attestor_field_fields)], narrowed := true }
def ArgumentValuesUptoSaid : Prop := argumentValuesUptoRow.holds Tryd.pinned (OpenSpec.upto argumentValuesSpec)

end Rows
end Go.Proofs.YtkbpafipbhaknaaDoor

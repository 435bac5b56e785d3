/-
  NARROWER THAN 'FOR EVERY INPUT', by the rows' own cells (each row's printed sentence says how): JournalRuns: laid · TableForms: laid · TableBack: laid · AuditExact: laid · AuditForms: laid · AuditMasks: laid · AuditTold: laid · AclOrder: laid · AclExact: laid · PolicyBack: laid · PolicyWords: laid.
  DERIVED. THE GIVEN ROWS OF THIS SEAT. 11 by the template 'for every input the law returns true; each argument reads behind the call as it read before'; 0 by the template 'total and deterministic' (their statements: YtiipkbkoigcabaaDoorTotals.lean).
  GIVEN WITH THE SEED: the statements are not yours to turn. If you find one false, say at which input.
  Laid BY PROGRAM, IN A SANDBOX (cutbox-rows.mjs): the forced cells as the released guide's own fill.sh prints them over the translation 19607eee6abf7589… (all of the seat's roots in one cut). By AI agents, Wed Nov 11 2026. No macro, syntax, notation, axiom, sorry.
-/
import Derived.Test.YtiipkbkoigcabaaDoorChecked
import GoSem.PinnedTables
import GoSem.Claim
import GoSem.ClaimJoined
import GoSem.ClaimMapViews
import Derived.JoinedTies
import Derived.KernelRfl
namespace Go.Proofs.YtiipkbkoigcabaaDoor
/- THE CELL 'sum', in the pinned program and in every row, IS THE sha256 OF THE DUMP (.gsa) THAT YtiipkbkoigcabaaDoorProg.lean LOADS. Nothing in Lean hashes anything: it is a label: what it is worth is what the hold of that sum in a sandbox is worth. -/
noncomputable def Tryd.pinned : Pinned := { name := "ytiipkbkoigcabaadoor", sum := "19607eee6abf7589d776e934e88f3341986bab4a9093b6196cd5c506b7eebc6c", checked := Tryd.checked }
namespace Rows
def none {H : Type} : Left H := { results := [], args := [] }

/- WHAT THE LISTED PACKAGE-LEVEL VARIABLES READ AS WHEN THE CALL BEGINS. Each datum BY PROGRAM (the guide's laid-datum.mjs) off the statement by which the dump's own 'gosem.cut.vars' lays the variable. In a bare row this is a premise. The card (YtiipkbkoigcabaaDoorCards.lean) ties it to the program's text. -/
def laid_errors_errorType {H : Type} : DataW H := .iface "internal/reflectlite.rtype" (.agg [.ptr (.lit (.string [101, 114, 114, 111, 114]))])
def laid_unicode_utf8_acceptRanges {H : Type} : DataW H := .agg [.agg [.lit (.int .u8 128), .lit (.int .u8 191)], .agg [.lit (.int .u8 160), .lit (.int .u8 191)], .agg [.lit (.int .u8 128), .lit (.int .u8 159)], .agg [.lit (.int .u8 144), .lit (.int .u8 191)], .agg [.lit (.int .u8 128), .lit (.int .u8 143)], .agg [.lit (.int .u8 0), .lit (.int .u8 0)], .agg [.lit (.int .u8 0), .lit (.int .u8 0)], .agg [.lit (.int .u8 0), .lit (.int .u8 0)], .agg [.lit (.int .u8 0), .lit (.int .u8 0)], .agg [.lit (.int .u8 0), .lit (.int .u8 0)], .agg [.lit (.int .u8 0), .lit (.int .u8 0)], .agg [.lit (.int .u8 0), .lit (.int .u8 0)], .agg [.lit (.int .u8 0), .lit (.int .u8 0)], .agg [.lit (.int .u8 0), .lit (.int .u8 0)], .agg [.lit (.int .u8 0), .lit (.int .u8 0)], .agg [.lit (.int .u8 0), .lit (.int .u8 0)]]
/-- One of Go's own tables, pinned by name: the form's constant. -/
def laid_unicode_utf8_first : DataW Unit := Go.Pinned.utf8First

/-- 'bursarylaw15.JournalRuns': WHATEVER THE INPUT: true; the input reads as it did. -/
def journalRunsSpec : ChangeSpec := { name := "journalRuns", fn := fun _ => fun
  | [d1, d2, d3] => { results := [.lit (.bool true)], args := [d1, d2, d3] }
  | _ => none }
def journalRunsRow : OpenClaim := { program := "ytiipkbkoigcabaadoor", sum := "19607eee6abf7589d776e934e88f3341986bab4a9093b6196cd5c506b7eebc6c", func := "bursary/bursarylaw15.JournalRuns", spec := "journalRuns", inPlace := ["internal/reflectlite.ValueOf", "(internal/reflectlite.Value).Type", "(internal/reflectlite.Value).IsNil", "internal/reflectlite.TypeOf", "(internal/reflectlite.Value).Elem", "(internal/reflectlite.Value).Set"], unfollowed := true, recurses := true, named := ["errors.errorType"], apart := false, laid := [("errors.errorType", laid_errors_errorType)] }
def JournalRunsSaid : Prop := journalRunsRow.holds Tryd.pinned (OpenSpec.ofChange journalRunsSpec)

/-- ITS FALSE NEIGHBOUR: 'it returns false'. Refute it at one input. -/
def journalRunsWrong : ChangeSpec := { name := "journalRuns", fn := fun _ => fun
  | [d1, d2, d3] => { results := [.lit (.bool false)], args := [d1, d2, d3] }
  | _ => none }
def JournalRunsWrongFalsely : Prop := journalRunsRow.holds Tryd.pinned (OpenSpec.ofChange journalRunsWrong)

/-- 'bursarylaw16.TableForms': WHATEVER THE INPUT: true; the input reads as it did. -/
def tableFormsSpec : ChangeSpec := { name := "tableForms", fn := fun _ => fun
  | [d1, d2] => { results := [.lit (.bool true)], args := [d1, d2] }
  | _ => none }
def tableFormsRow : OpenClaim := { program := "ytiipkbkoigcabaadoor", sum := "19607eee6abf7589d776e934e88f3341986bab4a9093b6196cd5c506b7eebc6c", func := "bursary/bursarylaw16.TableForms", spec := "tableForms", inPlace := ["internal/bytealg.abigen_runtime_cmpstring", "slices.overlaps[bursary/table.Entry]", "internal/reflectlite.ValueOf", "(internal/reflectlite.Value).Type", "(internal/reflectlite.Value).IsNil", "internal/reflectlite.TypeOf", "(internal/reflectlite.Value).Elem", "(internal/reflectlite.Value).Set"], unfollowed := true, recurses := true, named := ["errors.errorType"], apart := false, laid := [("errors.errorType", laid_errors_errorType)] }
def TableFormsSaid : Prop := tableFormsRow.holds Tryd.pinned (OpenSpec.ofChange tableFormsSpec)

/-- ITS FALSE NEIGHBOUR: 'it returns false'. Refute it at one input. -/
def tableFormsWrong : ChangeSpec := { name := "tableForms", fn := fun _ => fun
  | [d1, d2] => { results := [.lit (.bool false)], args := [d1, d2] }
  | _ => none }
def TableFormsWrongFalsely : Prop := tableFormsRow.holds Tryd.pinned (OpenSpec.ofChange tableFormsWrong)

/-- 'bursarylaw16.TableBack': WHATEVER THE INPUT: true; the input reads as it did. -/
def tableBackSpec : ChangeSpec := { name := "tableBack", fn := fun _ => fun
  | [d1, d2] => { results := [.lit (.bool true)], args := [d1, d2] }
  | _ => none }
def tableBackRow : OpenClaim := { program := "ytiipkbkoigcabaadoor", sum := "19607eee6abf7589d776e934e88f3341986bab4a9093b6196cd5c506b7eebc6c", func := "bursary/bursarylaw16.TableBack", spec := "tableBack", inPlace := ["internal/bytealg.abigen_runtime_cmpstring", "slices.overlaps[bursary/table.Entry]", "internal/reflectlite.ValueOf", "(internal/reflectlite.Value).Type", "(internal/reflectlite.Value).IsNil", "internal/reflectlite.TypeOf", "(internal/reflectlite.Value).Elem", "(internal/reflectlite.Value).Set"], unfollowed := true, recurses := true, named := ["errors.errorType"], apart := false, laid := [("errors.errorType", laid_errors_errorType)] }
def TableBackSaid : Prop := tableBackRow.holds Tryd.pinned (OpenSpec.ofChange tableBackSpec)

/-- ITS FALSE NEIGHBOUR: 'it returns false'. Refute it at one input. -/
def tableBackWrong : ChangeSpec := { name := "tableBack", fn := fun _ => fun
  | [d1, d2] => { results := [.lit (.bool false)], args := [d1, d2] }
  | _ => none }
def TableBackWrongFalsely : Prop := tableBackRow.holds Tryd.pinned (OpenSpec.ofChange tableBackWrong)

/-- 'bursarylaw33.AuditExact': WHATEVER THE INPUT: true; the input reads as it did. -/
def auditExactSpec : ChangeSpec := { name := "auditExact", fn := fun _ => fun
  | [d1, d2, d3] => { results := [.lit (.bool true)], args := [d1, d2, d3] }
  | _ => none }
def auditExactRow : OpenClaim := { program := "ytiipkbkoigcabaadoor", sum := "19607eee6abf7589d776e934e88f3341986bab4a9093b6196cd5c506b7eebc6c", func := "bursary/bursarylaw33.AuditExact", spec := "auditExact", inPlace := ["internal/reflectlite.ValueOf", "(internal/reflectlite.Value).Type", "(internal/reflectlite.Value).IsNil", "internal/reflectlite.TypeOf", "(internal/reflectlite.Value).Elem", "(internal/reflectlite.Value).Set"], unfollowed := true, recurses := true, named := ["errors.errorType"], apart := false, laid := [("errors.errorType", laid_errors_errorType)] }
def AuditExactSaid : Prop := auditExactRow.holds Tryd.pinned (OpenSpec.ofChange auditExactSpec)

/-- ITS FALSE NEIGHBOUR: 'it returns false'. Refute it at one input. -/
def auditExactWrong : ChangeSpec := { name := "auditExact", fn := fun _ => fun
  | [d1, d2, d3] => { results := [.lit (.bool false)], args := [d1, d2, d3] }
  | _ => none }
def AuditExactWrongFalsely : Prop := auditExactRow.holds Tryd.pinned (OpenSpec.ofChange auditExactWrong)

/-- 'bursarylaw33.AuditForms': WHATEVER THE INPUT: true; the input reads as it did. -/
def auditFormsSpec : ChangeSpec := { name := "auditForms", fn := fun _ => fun
  | [d1, d2] => { results := [.lit (.bool true)], args := [d1, d2] }
  | _ => none }
def auditFormsRow : OpenClaim := { program := "ytiipkbkoigcabaadoor", sum := "19607eee6abf7589d776e934e88f3341986bab4a9093b6196cd5c506b7eebc6c", func := "bursary/bursarylaw33.AuditForms", spec := "auditForms", inPlace := ["internal/reflectlite.ValueOf", "(internal/reflectlite.Value).Type", "(internal/reflectlite.Value).IsNil", "internal/reflectlite.TypeOf", "(internal/reflectlite.Value).Elem", "(internal/reflectlite.Value).Set"], unfollowed := true, recurses := true, named := ["errors.errorType"], apart := false, laid := [("errors.errorType", laid_errors_errorType)] }
def AuditFormsSaid : Prop := auditFormsRow.holds Tryd.pinned (OpenSpec.ofChange auditFormsSpec)

/-- ITS FALSE NEIGHBOUR: 'it returns false'. Refute it at one input. -/
def auditFormsWrong : ChangeSpec := { name := "auditForms", fn := fun _ => fun
  | [d1, d2] => { results := [.lit (.bool false)], args := [d1, d2] }
  | _ => none }
def AuditFormsWrongFalsely : Prop := auditFormsRow.holds Tryd.pinned (OpenSpec.ofChange auditFormsWrong)

/-- 'bursarylaw33.AuditMasks': WHATEVER THE INPUT: true; the input reads as it did. -/
def auditMasksSpec : ChangeSpec := { name := "auditMasks", fn := fun _ => fun
  | [d1, d2, d3] => { results := [.lit (.bool true)], args := [d1, d2, d3] }
  | _ => none }
def auditMasksRow : OpenClaim := { program := "ytiipkbkoigcabaadoor", sum := "19607eee6abf7589d776e934e88f3341986bab4a9093b6196cd5c506b7eebc6c", func := "bursary/bursarylaw33.AuditMasks", spec := "auditMasks", inPlace := ["internal/reflectlite.ValueOf", "(internal/reflectlite.Value).Type", "(internal/reflectlite.Value).IsNil", "internal/reflectlite.TypeOf", "(internal/reflectlite.Value).Elem", "(internal/reflectlite.Value).Set"], unfollowed := true, recurses := true, named := ["errors.errorType"], apart := false, laid := [("errors.errorType", laid_errors_errorType)] }
def AuditMasksSaid : Prop := auditMasksRow.holds Tryd.pinned (OpenSpec.ofChange auditMasksSpec)

/-- ITS FALSE NEIGHBOUR: 'it returns false'. Refute it at one input. -/
def auditMasksWrong : ChangeSpec := { name := "auditMasks", fn := fun _ => fun
  | [d1, d2, d3] => { results := [.lit (.bool false)], args := [d1, d2, d3] }
  | _ => none }
def AuditMasksWrongFalsely : Prop := auditMasksRow.holds Tryd.pinned (OpenSpec.ofChange auditMasksWrong)

/-- 'bursarylaw33.AuditTold': WHATEVER THE INPUT: true; the input reads as it did. -/
def auditToldSpec : ChangeSpec := { name := "auditTold", fn := fun _ => fun
  | [d1, d2, d3] => { results := [.lit (.bool true)], args := [d1, d2, d3] }
  | _ => none }
def auditToldRow : OpenClaim := { program := "ytiipkbkoigcabaadoor", sum := "19607eee6abf7589d776e934e88f3341986bab4a9093b6196cd5c506b7eebc6c", func := "bursary/bursarylaw33.AuditTold", spec := "auditTold", inPlace := ["internal/reflectlite.ValueOf", "(internal/reflectlite.Value).Type", "(internal/reflectlite.Value).IsNil", "internal/reflectlite.TypeOf", "(internal/reflectlite.Value).Elem", "(internal/reflectlite.Value).Set"], unfollowed := true, recurses := true, named := ["errors.errorType"], apart := false, laid := [("errors.errorType", laid_errors_errorType)] }
def AuditToldSaid : Prop := auditToldRow.holds Tryd.pinned (OpenSpec.ofChange auditToldSpec)

/-- ITS FALSE NEIGHBOUR: 'it returns false'. Refute it at one input. -/
def auditToldWrong : ChangeSpec := { name := "auditTold", fn := fun _ => fun
  | [d1, d2, d3] => { results := [.lit (.bool false)], args := [d1, d2, d3] }
  | _ => none }
def AuditToldWrongFalsely : Prop := auditToldRow.holds Tryd.pinned (OpenSpec.ofChange auditToldWrong)

/-- 'bursarylaw26.AclOrder': WHATEVER THE INPUT: true; the input reads as it did. -/
def aclOrderSpec : ChangeSpec := { name := "aclOrder", fn := fun _ => fun
  | [d1, d2, d3] => { results := [.lit (.bool true)], args := [d1, d2, d3] }
  | _ => none }
def aclOrderRow : OpenClaim := { program := "ytiipkbkoigcabaadoor", sum := "19607eee6abf7589d776e934e88f3341986bab4a9093b6196cd5c506b7eebc6c", func := "bursary/bursarylaw26.AclOrder", spec := "aclOrder", inPlace := ["internal/bytealg.CountString", "internal/bytealg.IndexByteString", "internal/bytealg.IndexString"], unfollowed := true, recurses := true, named := ["unicode/utf8.first", "unicode/utf8.acceptRanges", "internal/bytealg.MaxLen"], apart := false, laid := [("unicode/utf8.acceptRanges", laid_unicode_utf8_acceptRanges), ("unicode/utf8.first", laid_unicode_utf8_first)] }
def AclOrderSaid : Prop := aclOrderRow.holds Tryd.pinned (OpenSpec.ofChange aclOrderSpec)

/-- ITS FALSE NEIGHBOUR: 'it returns false'. Refute it at one input. -/
def aclOrderWrong : ChangeSpec := { name := "aclOrder", fn := fun _ => fun
  | [d1, d2, d3] => { results := [.lit (.bool false)], args := [d1, d2, d3] }
  | _ => none }
def AclOrderWrongFalsely : Prop := aclOrderRow.holds Tryd.pinned (OpenSpec.ofChange aclOrderWrong)

/-- 'bursarylaw26.AclExact': WHATEVER THE INPUT: true; the input reads as it did. -/
def aclExactSpec : ChangeSpec := { name := "aclExact", fn := fun _ => fun
  | [d1, d2, d3] => { results := [.lit (.bool true)], args := [d1, d2, d3] }
  | _ => none }
def aclExactRow : OpenClaim := { program := "ytiipkbkoigcabaadoor", sum := "19607eee6abf7589d776e934e88f3341986bab4a9093b6196cd5c506b7eebc6c", func := "bursary/bursarylaw26.AclExact", spec := "aclExact", inPlace := ["internal/bytealg.CountString", "internal/bytealg.IndexByteString", "internal/bytealg.IndexString"], unfollowed := true, recurses := true, named := ["unicode/utf8.first", "unicode/utf8.acceptRanges", "internal/bytealg.MaxLen"], apart := false, laid := [("unicode/utf8.acceptRanges", laid_unicode_utf8_acceptRanges), ("unicode/utf8.first", laid_unicode_utf8_first)] }
def AclExactSaid : Prop := aclExactRow.holds Tryd.pinned (OpenSpec.ofChange aclExactSpec)

/-- ITS FALSE NEIGHBOUR: 'it returns false'. Refute it at one input. -/
def aclExactWrong : ChangeSpec := { name := "aclExact", fn := fun _ => fun
  | [d1, d2, d3] => { results := [.lit (.bool false)], args := [d1, d2, d3] }
  | _ => none }
def AclExactWrongFalsely : Prop := aclExactRow.holds Tryd.pinned (OpenSpec.ofChange aclExactWrong)

/-- 'bursarylaw25.PolicyBack': WHATEVER THE INPUT: true; the input reads as it did. -/
def policyBackSpec : ChangeSpec := { name := "policyBack", fn := fun _ => fun
  | [d1, d2] => { results := [.lit (.bool true)], args := [d1, d2] }
  | _ => none }
def policyBackRow : OpenClaim := { program := "ytiipkbkoigcabaadoor", sum := "19607eee6abf7589d776e934e88f3341986bab4a9093b6196cd5c506b7eebc6c", func := "bursary/bursarylaw25.PolicyBack", spec := "policyBack", inPlace := ["internal/bytealg.IndexByteString", "internal/bytealg.IndexString", "internal/bytealg.CountString", "internal/abi.NoEscape", "internal/bytealg.MakeNoZero", "internal/reflectlite.ValueOf", "(internal/reflectlite.Value).Type", "(internal/reflectlite.Value).IsNil", "internal/reflectlite.TypeOf", "(internal/reflectlite.Value).Elem", "(internal/reflectlite.Value).Set"], unfollowed := true, recurses := true, named := ["unicode/utf8.first", "unicode/utf8.acceptRanges", "internal/bytealg.MaxLen", "errors.errorType"], apart := false, laid := [("unicode/utf8.acceptRanges", laid_unicode_utf8_acceptRanges), ("errors.errorType", laid_errors_errorType), ("unicode/utf8.first", laid_unicode_utf8_first)] }
def PolicyBackSaid : Prop := policyBackRow.holds Tryd.pinned (OpenSpec.ofChange policyBackSpec)

/-- ITS FALSE NEIGHBOUR: 'it returns false'. Refute it at one input. -/
def policyBackWrong : ChangeSpec := { name := "policyBack", fn := fun _ => fun
  | [d1, d2] => { results := [.lit (.bool false)], args := [d1, d2] }
  | _ => none }
def PolicyBackWrongFalsely : Prop := policyBackRow.holds Tryd.pinned (OpenSpec.ofChange policyBackWrong)

/-- 'bursarylaw25.PolicyWords': WHATEVER THE INPUT: true; the input reads as it did. -/
def policyWordsSpec : ChangeSpec := { name := "policyWords", fn := fun _ => fun
  | [d] => { results := [.lit (.bool true)], args := [d] }
  | _ => none }
def policyWordsRow : OpenClaim := { program := "ytiipkbkoigcabaadoor", sum := "19607eee6abf7589d776e934e88f3341986bab4a9093b6196cd5c506b7eebc6c", func := "bursary/bursarylaw25.PolicyWords", spec := "policyWords", inPlace := ["internal/bytealg.CountString", "internal/bytealg.IndexByteString", "internal/bytealg.IndexString", "internal/abi.NoEscape", "internal/bytealg.MakeNoZero", "internal/reflectlite.ValueOf", "(internal/reflectlite.Value).Type", "(internal/reflectlite.Value).IsNil", "internal/reflectlite.TypeOf", "(internal/reflectlite.Value).Elem", "(internal/reflectlite.Value).Set"], unfollowed := true, recurses := true, named := ["unicode/utf8.first", "unicode/utf8.acceptRanges", "internal/bytealg.MaxLen", "errors.errorType"], apart := false, laid := [("unicode/utf8.acceptRanges", laid_unicode_utf8_acceptRanges), ("errors.errorType", laid_errors_errorType), ("unicode/utf8.first", laid_unicode_utf8_first)] }
def PolicyWordsSaid : Prop := policyWordsRow.holds Tryd.pinned (OpenSpec.ofChange policyWordsSpec)

/-- ITS FALSE NEIGHBOUR: 'it returns false'. Refute it at one input. -/
def policyWordsWrong : ChangeSpec := { name := "policyWords", fn := fun _ => fun
  | [d] => { results := [.lit (.bool false)], args := [d] }
  | _ => none }
def PolicyWordsWrongFalsely : Prop := policyWordsRow.holds Tryd.pinned (OpenSpec.ofChange policyWordsWrong)

/- THE SECOND FORM. 'bulk': how many values and letters a reading holds, each counted each time it is reached (what is shared counts as often as it is met; a slice's spare places count too). A statement '..UptoSaid' is the law's where the arguments, and the package variables that the reading takes, are together of bulk at most 1048576: NARROWER than '..Said'. Prove '..Said' where nothing that the law and all that it calls make is longer than what came in: it says more and counts as full. Else prove '..UptoSaid'. A law counts once. -/
mutual
def uptoBulk {H : Type} : DataW H → Nat
  | .lit (.string bytes) => bytes.length + 1
  | .lit _ => 1
  | .nil => 1
  | .ptr d => uptoBulk d + 1
  | .slice elems spare => uptoBulkAll elems + uptoBulkAll spare + 1
  | .agg parts => uptoBulkAll parts + 1
  | .iface _ d => uptoBulk d + 1
  | .map entries => uptoBulkEntries entries + 1
  | .held _ => 1
def uptoBulkAll {H : Type} : List (DataW H) → Nat
  | [] => 0
  | d :: r => uptoBulk d + uptoBulkAll r
def uptoBulkEntries {H : Type} : List (Lit × DataW H) → Nat
  | [] => 0
  | x :: r => uptoBulkEntry x + uptoBulkEntries r
def uptoBulkEntry {H : Type} : Lit × DataW H → Nat
  | (.string bytes, d) => bytes.length + uptoBulk d + 1
  | (_, d) => uptoBulk d + 1
 end
def uptoSmall : (H : Type) → List (DataW H) → Bool := fun _ ds => decide (uptoBulkAll ds ≤ 1048576)
def OpenSpec.upto (s : _root_.Go.ChangeSpec) : _root_.Go.OpenSpec := { _root_.Go.OpenSpec.ofChange s with cond := some uptoSmall }

/-- 'bursarylaw15.JournalRuns', WHERE WHAT IT READS IS OF BULK AT MOST 1048576: true; the input reads as it did. -/
def journalRunsUptoRow : OpenClaim := { program := "ytiipkbkoigcabaadoor", sum := "19607eee6abf7589d776e934e88f3341986bab4a9093b6196cd5c506b7eebc6c", func := "bursary/bursarylaw15.JournalRuns", spec := "journalRuns", inPlace := ["internal/reflectlite.ValueOf", "(internal/reflectlite.Value).Type", "(internal/reflectlite.Value).IsNil", "internal/reflectlite.TypeOf", "(internal/reflectlite.Value).Elem", "(internal/reflectlite.Value).Set"], unfollowed := true, recurses := true, named := ["errors.errorType"], apart := false, laid := [("errors.errorType", laid_errors_errorType)], narrowed := true }
def JournalRunsUptoSaid : Prop := journalRunsUptoRow.holds Tryd.pinned (OpenSpec.upto journalRunsSpec)

/-- 'bursarylaw16.TableForms', WHERE WHAT IT READS IS OF BULK AT MOST 1048576: true; the input reads as it did. -/
def tableFormsUptoRow : OpenClaim := { program := "ytiipkbkoigcabaadoor", sum := "19607eee6abf7589d776e934e88f3341986bab4a9093b6196cd5c506b7eebc6c", func := "bursary/bursarylaw16.TableForms", spec := "tableForms", inPlace := ["internal/bytealg.abigen_runtime_cmpstring", "slices.overlaps[bursary/table.Entry]", "internal/reflectlite.ValueOf", "(internal/reflectlite.Value).Type", "(internal/reflectlite.Value).IsNil", "internal/reflectlite.TypeOf", "(internal/reflectlite.Value).Elem", "(internal/reflectlite.Value).Set"], unfollowed := true, recurses := true, named := ["errors.errorType"], apart := false, laid := [("errors.errorType", laid_errors_errorType)], narrowed := true }
def TableFormsUptoSaid : Prop := tableFormsUptoRow.holds Tryd.pinned (OpenSpec.upto tableFormsSpec)

/-- 'bursarylaw16.TableBack', WHERE WHAT IT READS IS OF BULK AT MOST 1048576: true; the input reads as it did. -/
def tableBackUptoRow : OpenClaim := { program := "ytiipkbkoigcabaadoor", sum := "19607eee6abf7589d776e934e88f3341986bab4a9093b6196cd5c506b7eebc6c", func := "bursary/bursarylaw16.TableBack", spec := "tableBack", inPlace := ["internal/bytealg.abigen_runtime_cmpstring", "slices.overlaps[bursary/table.Entry]", "internal/reflectlite.ValueOf", "(internal/reflectlite.Value).Type", "(internal/reflectlite.Value).IsNil", "internal/reflectlite.TypeOf", "(internal/reflectlite.Value).Elem", "(internal/reflectlite.Value).Set"], unfollowed := true, recurses := true, named := ["errors.errorType"], apart := false, laid := [("errors.errorType", laid_errors_errorType)], narrowed := true }
def TableBackUptoSaid : Prop := tableBackUptoRow.holds Tryd.pinned (OpenSpec.upto tableBackSpec)

/-- 'bursarylaw33.AuditExact', WHERE WHAT IT READS IS OF BULK AT MOST 1048576: true; the input reads as it did. -/
def auditExactUptoRow : OpenClaim := { program := "ytiipkbkoigcabaadoor", sum := "19607eee6abf7589d776e934e88f3341986bab4a9093b6196cd5c506b7eebc6c", func := "bursary/bursarylaw33.AuditExact", spec := "auditExact", inPlace := ["internal/reflectlite.ValueOf", "(internal/reflectlite.Value).Type", "(internal/reflectlite.Value).IsNil", "internal/reflectlite.TypeOf", "(internal/reflectlite.Value).Elem", "(internal/reflectlite.Value).Set"], unfollowed := true, recurses := true, named := ["errors.errorType"], apart := false, laid := [("errors.errorType", laid_errors_errorType)], narrowed := true }
def AuditExactUptoSaid : Prop := auditExactUptoRow.holds Tryd.pinned (OpenSpec.upto auditExactSpec)

/-- 'bursarylaw33.AuditForms', WHERE WHAT IT READS IS OF BULK AT MOST 1048576: true; the input reads as it did. -/
def auditFormsUptoRow : OpenClaim := { program := "ytiipkbkoigcabaadoor", sum := "19607eee6abf7589d776e934e88f3341986bab4a9093b6196cd5c506b7eebc6c", func := "bursary/bursarylaw33.AuditForms", spec := "auditForms", inPlace := ["internal/reflectlite.ValueOf", "(internal/reflectlite.Value).Type", "(internal/reflectlite.Value).IsNil", "internal/reflectlite.TypeOf", "(internal/reflectlite.Value).Elem", "(internal/reflectlite.Value).Set"], unfollowed := true, recurses := true, named := ["errors.errorType"], apart := false, laid := [("errors.errorType", laid_errors_errorType)], narrowed := true }
def AuditFormsUptoSaid : Prop := auditFormsUptoRow.holds Tryd.pinned (OpenSpec.upto auditFormsSpec)

/-- 'bursarylaw33.AuditMasks', WHERE WHAT IT READS IS OF BULK AT MOST 1048576: true; the input reads as it did. -/
def auditMasksUptoRow : OpenClaim := { program := "ytiipkbkoigcabaadoor", sum := "19607eee6abf7589d776e934e88f3341986bab4a9093b6196cd5c506b7eebc6c", func := "bursary/bursarylaw33.AuditMasks", spec := "auditMasks", inPlace := ["internal/reflectlite.ValueOf", "(internal/reflectlite.Value).Type", "(internal/reflectlite.Value).IsNil", "internal/reflectlite.TypeOf", "(internal/reflectlite.Value).Elem", "(internal/reflectlite.Value).Set"], unfollowed := true, recurses := true, named := ["errors.errorType"], apart := false, laid := [("errors.errorType", laid_errors_errorType)], narrowed := true }
def AuditMasksUptoSaid : Prop := auditMasksUptoRow.holds Tryd.pinned (OpenSpec.upto auditMasksSpec)

/-- 'bursarylaw33.AuditTold', WHERE WHAT IT READS IS OF BULK AT MOST 1048576: true; the input reads as it did. -/
def auditToldUptoRow : OpenClaim := { program := "ytiipkbkoigcabaadoor", sum := "19607eee6abf7589d776e934e88f3341986bab4a9093b6196cd5c506b7eebc6c", func := "bursary/bursarylaw33.AuditTold", spec := "auditTold", inPlace := ["internal/reflectlite.ValueOf", "(internal/reflectlite.Value).Type", "(internal/reflectlite.Value).IsNil", "internal/reflectlite.TypeOf", "(internal/reflectlite.Value).Elem", "(internal/reflectlite.Value).Set"], unfollowed := true, recurses := true, named := ["errors.errorType"], apart := false, laid := [("errors.errorType", laid_errors_errorType)], narrowed := true }
def AuditToldUptoSaid : Prop := auditToldUptoRow.holds Tryd.pinned (OpenSpec.upto auditToldSpec)

/-- 'bursarylaw26.AclOrder', WHERE WHAT IT READS IS OF BULK AT MOST 1048576: true; the input reads as it did. -/
def aclOrderUptoRow : OpenClaim := { program := "ytiipkbkoigcabaadoor", sum := "19607eee6abf7589d776e934e88f3341986bab4a9093b6196cd5c506b7eebc6c", func := "bursary/bursarylaw26.AclOrder", spec := "aclOrder", inPlace := ["internal/bytealg.CountString", "internal/bytealg.IndexByteString", "internal/bytealg.IndexString"], unfollowed := true, recurses := true, named := ["unicode/utf8.first", "unicode/utf8.acceptRanges", "internal/bytealg.MaxLen"], apart := false, laid := [("unicode/utf8.acceptRanges", laid_unicode_utf8_acceptRanges), ("unicode/utf8.first", laid_unicode_utf8_first)], narrowed := true }
def AclOrderUptoSaid : Prop := aclOrderUptoRow.holds Tryd.pinned (OpenSpec.upto aclOrderSpec)

/-- 'bursarylaw26.AclExact', WHERE WHAT IT READS IS OF BULK AT MOST 1048576: true; the input reads as it did. -/
def aclExactUptoRow : OpenClaim := { program := "ytiipkbkoigcabaadoor", sum := "19607eee6abf7589d776e934e88f3341986bab4a9093b6196cd5c506b7eebc6c", func := "bursary/bursarylaw26.AclExact", spec := "aclExact", inPlace := ["internal/bytealg.CountString", "internal/bytealg.IndexByteString", "internal/bytealg.IndexString"], unfollowed := true, recurses := true, named := ["unicode/utf8.first", "unicode/utf8.acceptRanges", "internal/bytealg.MaxLen"], apart := false, laid := [("unicode/utf8.acceptRanges", laid_unicode_utf8_acceptRanges), ("unicode/utf8.first", laid_unicode_utf8_first)], narrowed := true }
def AclExactUptoSaid : Prop := aclExactUptoRow.holds Tryd.pinned (OpenSpec.upto aclExactSpec)

/-- 'bursarylaw25.PolicyBack', WHERE WHAT IT READS IS OF BULK AT MOST 1048576: true; the input reads as it did. -/
def policyBackUptoRow : OpenClaim := { program := "ytiipkbkoigcabaadoor", sum := "19607eee6abf7589d776e934e88f3341986bab4a9093b6196cd5c506b7eebc6c", func := "bursary/bursarylaw25.PolicyBack", spec := "policyBack", inPlace := ["internal/bytealg.IndexByteString", "internal/bytealg.IndexString", "internal/bytealg.CountString", "internal/abi.NoEscape", "internal/bytealg.MakeNoZero", "internal/reflectlite.ValueOf", "(internal/reflectlite.Value).Type", "(internal/reflectlite.Value).IsNil", "internal/reflectlite.TypeOf", "(internal/reflectlite.Value).Elem", "(internal/reflectlite.Value).Set"], unfollowed := true, recurses := true, named := ["unicode/utf8.first", "unicode/utf8.acceptRanges", "internal/bytealg.MaxLen", "errors.errorType"], apart := false, laid := [("unicode/utf8.acceptRanges", laid_unicode_utf8_acceptRanges), ("errors.errorType", laid_errors_errorType), ("unicode/utf8.first", laid_unicode_utf8_first)], narrowed := true }
def PolicyBackUptoSaid : Prop := policyBackUptoRow.holds Tryd.pinned (OpenSpec.upto policyBackSpec)

/-- 'bursarylaw25.PolicyWords', WHERE WHAT IT READS IS OF BULK AT MOST 1048576: true; the input reads as it did. -/
def policyWordsUptoRow : OpenClaim := { program := "ytiipkbkoigcabaadoor", sum := "19607eee6abf7589d776e934e88f3341986bab4a9093b6196cd5c506b7eebc6c", func := "bursary/bursarylaw25.PolicyWords", spec := "policyWords", inPlace := ["internal/bytealg.CountString", "internal/bytealg.IndexByteString", "internal/bytealg.IndexString", "internal/abi.NoEscape", "internal/bytealg.MakeNoZero", "internal/reflectlite.ValueOf", "(internal/reflectlite.Value).Type", "(internal/reflectlite.Value).IsNil", "internal/reflectlite.TypeOf", "(internal/reflectlite.Value).Elem", "(internal/reflectlite.Value).Set"], unfollowed := true, recurses := true, named := ["unicode/utf8.first", "unicode/utf8.acceptRanges", "internal/bytealg.MaxLen", "errors.errorType"], apart := false, laid := [("unicode/utf8.acceptRanges", laid_unicode_utf8_acceptRanges), ("errors.errorType", laid_errors_errorType), ("unicode/utf8.first", laid_unicode_utf8_first)], narrowed := true }
def PolicyWordsUptoSaid : Prop := policyWordsUptoRow.holds Tryd.pinned (OpenSpec.upto policyWordsSpec)

end Rows
end Go.Proofs.YtiipkbkoigcabaaDoor

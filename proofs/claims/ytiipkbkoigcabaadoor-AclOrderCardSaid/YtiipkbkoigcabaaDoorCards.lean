/-
  DERIVED. GIVEN WITH THE SEED: THE CARDS: each row of YtiipkbkoigcabaaDoorRows.lean that lists a variable, with what it lists TIED to the program's text (the seventh form; the later family's looks); each row that meets fmt, with fmt's text TOLD by the authors' own Lean function (tested against real Go, not proved from fmt's source: count such statements apart). THE CARD IS WHAT COUNTS. Prove the row's statement (the work); the ties are given (YtiipkbkoigcabaaDoorTie.lean); close each card by the builder's one call (the guide's Derived/Test/ToyasCard.lean, 'card_holds'). Laid BY PROGRAM, IN A SANDBOX (cutbox-door.mjs). By AI agents, Wed Nov 11 2026. No macro, syntax, notation, axiom, sorry.
-/
import Derived.Test.YtiipkbkoigcabaaDoorRows
import GoSem.ClaimSeven
namespace Go.Proofs.YtiipkbkoigcabaaDoor
namespace Rows

/-- THE TIED CARD OF 'bursarylaw15.JournalRuns'. -/
def journalRunsCard : Claim7 := { stood := { row := journalRunsRow, standIns := [], harness := (true, "5db1730cd9cbed8764fe7646148a4c8640dc25507d98908ce898f85ab5f5a675"), looks := true }, kinds := [], alts := [], laidByText := true, laidKinds := [.handle], laidTests := true, laidLooks := .later }
def JournalRunsCardSaid : Prop := Claim7.holds Tryd.pinned (.plain (OpenSpec.ofChange journalRunsSpec)) journalRunsCard

/-- THE TIED CARD OF 'bursarylaw16.TableForms'. -/
def tableFormsCard : Claim7 := { stood := { row := tableFormsRow, standIns := [], harness := (true, "5db1730cd9cbed8764fe7646148a4c8640dc25507d98908ce898f85ab5f5a675"), looks := true }, kinds := [], alts := [], laidByText := true, laidKinds := [.handle], laidTests := true, laidLooks := .later }
def TableFormsCardSaid : Prop := Claim7.holds Tryd.pinned (.plain (OpenSpec.ofChange tableFormsSpec)) tableFormsCard

/-- THE TIED CARD OF 'bursarylaw16.TableBack'. -/
def tableBackCard : Claim7 := { stood := { row := tableBackRow, standIns := [], harness := (true, "5db1730cd9cbed8764fe7646148a4c8640dc25507d98908ce898f85ab5f5a675"), looks := true }, kinds := [], alts := [], laidByText := true, laidKinds := [.handle], laidTests := true, laidLooks := .later }
def TableBackCardSaid : Prop := Claim7.holds Tryd.pinned (.plain (OpenSpec.ofChange tableBackSpec)) tableBackCard

/-- THE TIED CARD OF 'bursarylaw33.AuditExact'. -/
def auditExactCard : Claim7 := { stood := { row := auditExactRow, standIns := [], harness := (true, "5db1730cd9cbed8764fe7646148a4c8640dc25507d98908ce898f85ab5f5a675"), looks := true }, kinds := [], alts := [], laidByText := true, laidKinds := [.handle], laidTests := true, laidLooks := .later }
def AuditExactCardSaid : Prop := Claim7.holds Tryd.pinned (.plain (OpenSpec.ofChange auditExactSpec)) auditExactCard

/-- THE TIED CARD OF 'bursarylaw33.AuditForms'. -/
def auditFormsCard : Claim7 := { stood := { row := auditFormsRow, standIns := [], harness := (true, "5db1730cd9cbed8764fe7646148a4c8640dc25507d98908ce898f85ab5f5a675"), looks := true }, kinds := [], alts := [], laidByText := true, laidKinds := [.handle], laidTests := true, laidLooks := .later }
def AuditFormsCardSaid : Prop := Claim7.holds Tryd.pinned (.plain (OpenSpec.ofChange auditFormsSpec)) auditFormsCard

/-- THE TIED CARD OF 'bursarylaw33.AuditMasks'. -/
def auditMasksCard : Claim7 := { stood := { row := auditMasksRow, standIns := [], harness := (true, "5db1730cd9cbed8764fe7646148a4c8640dc25507d98908ce898f85ab5f5a675"), looks := true }, kinds := [], alts := [], laidByText := true, laidKinds := [.handle], laidTests := true, laidLooks := .later }
def AuditMasksCardSaid : Prop := Claim7.holds Tryd.pinned (.plain (OpenSpec.ofChange auditMasksSpec)) auditMasksCard

/-- THE TIED CARD OF 'bursarylaw33.AuditTold'. -/
def auditToldCard : Claim7 := { stood := { row := auditToldRow, standIns := [], harness := (true, "5db1730cd9cbed8764fe7646148a4c8640dc25507d98908ce898f85ab5f5a675"), looks := true }, kinds := [], alts := [], laidByText := true, laidKinds := [.handle], laidTests := true, laidLooks := .later }
def AuditToldCardSaid : Prop := Claim7.holds Tryd.pinned (.plain (OpenSpec.ofChange auditToldSpec)) auditToldCard

/-- THE TIED CARD OF 'bursarylaw26.AclOrder'. -/
def aclOrderCard : Claim7 := { stood := { row := aclOrderRow, standIns := [], harness := (true, "5db1730cd9cbed8764fe7646148a4c8640dc25507d98908ce898f85ab5f5a675"), looks := true }, kinds := [], alts := [], laidByText := true, laidKinds := [.data, .pinned], laidTests := true, laidLooks := .later }
def AclOrderCardSaid : Prop := Claim7.holds Tryd.pinned (.plain (OpenSpec.ofChange aclOrderSpec)) aclOrderCard

/-- THE TIED CARD OF 'bursarylaw26.AclExact'. -/
def aclExactCard : Claim7 := { stood := { row := aclExactRow, standIns := [], harness := (true, "5db1730cd9cbed8764fe7646148a4c8640dc25507d98908ce898f85ab5f5a675"), looks := true }, kinds := [], alts := [], laidByText := true, laidKinds := [.data, .pinned], laidTests := true, laidLooks := .later }
def AclExactCardSaid : Prop := Claim7.holds Tryd.pinned (.plain (OpenSpec.ofChange aclExactSpec)) aclExactCard

/-- THE TIED CARD OF 'bursarylaw25.PolicyBack'. -/
def policyBackCard : Claim7 := { stood := { row := policyBackRow, standIns := [], harness := (true, "5db1730cd9cbed8764fe7646148a4c8640dc25507d98908ce898f85ab5f5a675"), looks := true }, kinds := [], alts := [], laidByText := true, laidKinds := [.data, .handle, .pinned], laidTests := true, laidLooks := .later }
def PolicyBackCardSaid : Prop := Claim7.holds Tryd.pinned (.plain (OpenSpec.ofChange policyBackSpec)) policyBackCard

/-- THE TIED CARD OF 'bursarylaw25.PolicyWords'. -/
def policyWordsCard : Claim7 := { stood := { row := policyWordsRow, standIns := [], harness := (true, "5db1730cd9cbed8764fe7646148a4c8640dc25507d98908ce898f85ab5f5a675"), looks := true }, kinds := [], alts := [], laidByText := true, laidKinds := [.data, .handle, .pinned], laidTests := true, laidLooks := .later }
def PolicyWordsCardSaid : Prop := Claim7.holds Tryd.pinned (.plain (OpenSpec.ofChange policyWordsSpec)) policyWordsCard

/-- THE SECOND FORM's CARD OF 'bursarylaw15.JournalRuns'. -/
def journalRunsUptoCard : Claim7 := { stood := { row := journalRunsUptoRow, standIns := [], harness := (true, "5db1730cd9cbed8764fe7646148a4c8640dc25507d98908ce898f85ab5f5a675"), looks := true }, kinds := [], alts := [], laidByText := true, laidKinds := [.handle], laidTests := true, laidLooks := .later }
def JournalRunsUptoCardSaid : Prop := Claim7.holds Tryd.pinned (.plain (OpenSpec.upto journalRunsSpec)) journalRunsUptoCard

/-- THE SECOND FORM's CARD OF 'bursarylaw16.TableForms'. -/
def tableFormsUptoCard : Claim7 := { stood := { row := tableFormsUptoRow, standIns := [], harness := (true, "5db1730cd9cbed8764fe7646148a4c8640dc25507d98908ce898f85ab5f5a675"), looks := true }, kinds := [], alts := [], laidByText := true, laidKinds := [.handle], laidTests := true, laidLooks := .later }
def TableFormsUptoCardSaid : Prop := Claim7.holds Tryd.pinned (.plain (OpenSpec.upto tableFormsSpec)) tableFormsUptoCard

/-- THE SECOND FORM's CARD OF 'bursarylaw16.TableBack'. -/
def tableBackUptoCard : Claim7 := { stood := { row := tableBackUptoRow, standIns := [], harness := (true, "5db1730cd9cbed8764fe7646148a4c8640dc25507d98908ce898f85ab5f5a675"), looks := true }, kinds := [], alts := [], laidByText := true, laidKinds := [.handle], laidTests := true, laidLooks := .later }
def TableBackUptoCardSaid : Prop := Claim7.holds Tryd.pinned (.plain (OpenSpec.upto tableBackSpec)) tableBackUptoCard

/-- THE SECOND FORM's CARD OF 'bursarylaw33.AuditExact'. -/
def auditExactUptoCard : Claim7 := { stood := { row := auditExactUptoRow, standIns := [], harness := (true, "5db1730cd9cbed8764fe7646148a4c8640dc25507d98908ce898f85ab5f5a675"), looks := true }, kinds := [], alts := [], laidByText := true, laidKinds := [.handle], laidTests := true, laidLooks := .later }
def AuditExactUptoCardSaid : Prop := Claim7.holds Tryd.pinned (.plain (OpenSpec.upto auditExactSpec)) auditExactUptoCard

/-- THE SECOND FORM's CARD OF 'bursarylaw33.AuditForms'. -/
def auditFormsUptoCard : Claim7 := { stood := { row := auditFormsUptoRow, standIns := [], harness := (true, "5db1730cd9cbed8764fe7646148a4c8640dc25507d98908ce898f85ab5f5a675"), looks := true }, kinds := [], alts := [], laidByText := true, laidKinds := [.handle], laidTests := true, laidLooks := .later }
def AuditFormsUptoCardSaid : Prop := Claim7.holds Tryd.pinned (.plain (OpenSpec.upto auditFormsSpec)) auditFormsUptoCard

/-- THE SECOND FORM's CARD OF 'bursarylaw33.AuditMasks'. -/
def auditMasksUptoCard : Claim7 := { stood := { row := auditMasksUptoRow, standIns := [], harness := (true, "5db1730cd9cbed8764fe7646148a4c8640dc25507d98908ce898f85ab5f5a675"), looks := true }, kinds := [], alts := [], laidByText := true, laidKinds := [.handle], laidTests := true, laidLooks := .later }
def AuditMasksUptoCardSaid : Prop := Claim7.holds Tryd.pinned (.plain (OpenSpec.upto auditMasksSpec)) auditMasksUptoCard

/-- THE SECOND FORM's CARD OF 'bursarylaw33.AuditTold'. -/
def auditToldUptoCard : Claim7 := { stood := { row := auditToldUptoRow, standIns := [], harness := (true, "5db1730cd9cbed8764fe7646148a4c8640dc25507d98908ce898f85ab5f5a675"), looks := true }, kinds := [], alts := [], laidByText := true, laidKinds := [.handle], laidTests := true, laidLooks := .later }
def AuditToldUptoCardSaid : Prop := Claim7.holds Tryd.pinned (.plain (OpenSpec.upto auditToldSpec)) auditToldUptoCard

/-- THE SECOND FORM's CARD OF 'bursarylaw26.AclOrder'. -/
def aclOrderUptoCard : Claim7 := { stood := { row := aclOrderUptoRow, standIns := [], harness := (true, "5db1730cd9cbed8764fe7646148a4c8640dc25507d98908ce898f85ab5f5a675"), looks := true }, kinds := [], alts := [], laidByText := true, laidKinds := [.data, .pinned], laidTests := true, laidLooks := .later }
def AclOrderUptoCardSaid : Prop := Claim7.holds Tryd.pinned (.plain (OpenSpec.upto aclOrderSpec)) aclOrderUptoCard

/-- THE SECOND FORM's CARD OF 'bursarylaw26.AclExact'. -/
def aclExactUptoCard : Claim7 := { stood := { row := aclExactUptoRow, standIns := [], harness := (true, "5db1730cd9cbed8764fe7646148a4c8640dc25507d98908ce898f85ab5f5a675"), looks := true }, kinds := [], alts := [], laidByText := true, laidKinds := [.data, .pinned], laidTests := true, laidLooks := .later }
def AclExactUptoCardSaid : Prop := Claim7.holds Tryd.pinned (.plain (OpenSpec.upto aclExactSpec)) aclExactUptoCard

/-- THE SECOND FORM's CARD OF 'bursarylaw25.PolicyBack'. -/
def policyBackUptoCard : Claim7 := { stood := { row := policyBackUptoRow, standIns := [], harness := (true, "5db1730cd9cbed8764fe7646148a4c8640dc25507d98908ce898f85ab5f5a675"), looks := true }, kinds := [], alts := [], laidByText := true, laidKinds := [.data, .handle, .pinned], laidTests := true, laidLooks := .later }
def PolicyBackUptoCardSaid : Prop := Claim7.holds Tryd.pinned (.plain (OpenSpec.upto policyBackSpec)) policyBackUptoCard

/-- THE SECOND FORM's CARD OF 'bursarylaw25.PolicyWords'. -/
def policyWordsUptoCard : Claim7 := { stood := { row := policyWordsUptoRow, standIns := [], harness := (true, "5db1730cd9cbed8764fe7646148a4c8640dc25507d98908ce898f85ab5f5a675"), looks := true }, kinds := [], alts := [], laidByText := true, laidKinds := [.data, .handle, .pinned], laidTests := true, laidLooks := .later }
def PolicyWordsUptoCardSaid : Prop := Claim7.holds Tryd.pinned (.plain (OpenSpec.upto policyWordsSpec)) policyWordsUptoCard
end Rows
end Go.Proofs.YtiipkbkoigcabaaDoor

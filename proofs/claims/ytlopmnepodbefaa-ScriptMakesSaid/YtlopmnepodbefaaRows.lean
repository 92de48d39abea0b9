/-
  No cell of these rows narrows 'for every input' (looked for: loops, veiled, ifaces, maps, wideKeys, modest, calm, conditions, laid).
  DERIVED. THE GIVEN ROWS OF THIS SEAT. 9 by the template 'for every input the law returns true; each argument reads behind the call as it read before'; 0 by the template 'total and deterministic' (their statements: YtlopmnepodbefaaTotals.lean).
  GIVEN WITH THE SEED: the statements are not yours to turn. If you find one false, say at which input.
  Laid BY PROGRAM, IN A SANDBOX (cutbox-rows.mjs): the forced cells as the released guide's own fill.sh prints them over the translation 1f4444e7e8fd3a26… (all of the seat's roots in one cut). By AI agents, Wed Nov 11 2026. No macro, syntax, notation, axiom, sorry.
-/
import Derived.Test.YtlopmnepodbefaaChecked
import GoSem.Claim
import GoSem.ClaimJoined
import GoSem.ClaimMapViews
import Derived.JoinedTies
import Derived.KernelRfl
namespace Go.Proofs.Ytlopmnepodbefaa
/- THE CELL 'sum', in the pinned program and in every row, IS THE sha256 OF THE DUMP (.gsa) THAT YtlopmnepodbefaaProg.lean LOADS. Nothing in Lean hashes anything: it is a label: what it is worth is what the hold of that sum in a sandbox is worth. -/
noncomputable def Try.pinned : Pinned := { name := "ytlopmnepodbefaa", sum := "1f4444e7e8fd3a2633e8003fb1e1e8de953507b6fb428e2f26071a051cd0ca03", checked := Try.checked }
namespace Rows
def none {H : Type} : Left H := { results := [], args := [] }

/-- 'sporranlaw24.AuditSums': WHATEVER THE INPUT: true; the input reads as it did. -/
def auditSumsSpec : ChangeSpec := { name := "auditSums", fn := fun _ => fun
  | [d] => { results := [.lit (.bool true)], args := [d] }
  | _ => none }
def auditSumsRow : OpenClaim := { program := "ytlopmnepodbefaa", sum := "1f4444e7e8fd3a2633e8003fb1e1e8de953507b6fb428e2f26071a051cd0ca03", func := "sporran/sporranlaw24.AuditSums", spec := "auditSums", apart := false }
def AuditSumsSaid : Prop := auditSumsRow.holds Try.pinned (OpenSpec.ofChange auditSumsSpec)

/-- ITS FALSE NEIGHBOUR: 'it returns false'. Refute it at one input. -/
def auditSumsWrong : ChangeSpec := { name := "auditSums", fn := fun _ => fun
  | [d] => { results := [.lit (.bool false)], args := [d] }
  | _ => none }
def AuditSumsWrongFalsely : Prop := auditSumsRow.holds Try.pinned (OpenSpec.ofChange auditSumsWrong)

/-- 'sporranlaw02.SipScales': WHATEVER THE INPUT: true; the input reads as it did. -/
def sipScalesSpec : ChangeSpec := { name := "sipScales", fn := fun _ => fun
  | [d1, d2] => { results := [.lit (.bool true)], args := [d1, d2] }
  | _ => none }
def sipScalesRow : OpenClaim := { program := "ytlopmnepodbefaa", sum := "1f4444e7e8fd3a2633e8003fb1e1e8de953507b6fb428e2f26071a051cd0ca03", func := "sporran/sporranlaw02.SipScales", spec := "sipScales", apart := false }
def SipScalesSaid : Prop := sipScalesRow.holds Try.pinned (OpenSpec.ofChange sipScalesSpec)

/-- ITS FALSE NEIGHBOUR: 'it returns false'. Refute it at one input. -/
def sipScalesWrong : ChangeSpec := { name := "sipScales", fn := fun _ => fun
  | [d1, d2] => { results := [.lit (.bool false)], args := [d1, d2] }
  | _ => none }
def SipScalesWrongFalsely : Prop := sipScalesRow.holds Try.pinned (OpenSpec.ofChange sipScalesWrong)

/-- 'sporranlaw02.SipBelow': WHATEVER THE INPUT: true; the input reads as it did. -/
def sipBelowSpec : ChangeSpec := { name := "sipBelow", fn := fun _ => fun
  | [d1, d2, d3] => { results := [.lit (.bool true)], args := [d1, d2, d3] }
  | _ => none }
def sipBelowRow : OpenClaim := { program := "ytlopmnepodbefaa", sum := "1f4444e7e8fd3a2633e8003fb1e1e8de953507b6fb428e2f26071a051cd0ca03", func := "sporran/sporranlaw02.SipBelow", spec := "sipBelow", apart := false }
def SipBelowSaid : Prop := sipBelowRow.holds Try.pinned (OpenSpec.ofChange sipBelowSpec)

/-- ITS FALSE NEIGHBOUR: 'it returns false'. Refute it at one input. -/
def sipBelowWrong : ChangeSpec := { name := "sipBelow", fn := fun _ => fun
  | [d1, d2, d3] => { results := [.lit (.bool false)], args := [d1, d2, d3] }
  | _ => none }
def SipBelowWrongFalsely : Prop := sipBelowRow.holds Try.pinned (OpenSpec.ofChange sipBelowWrong)

/-- 'sporranlaw13.ScriptSizes': WHATEVER THE INPUT: true; the input reads as it did. -/
def scriptSizesSpec : ChangeSpec := { name := "scriptSizes", fn := fun _ => fun
  | [d1, d2] => { results := [.lit (.bool true)], args := [d1, d2] }
  | _ => none }
def scriptSizesRow : OpenClaim := { program := "ytlopmnepodbefaa", sum := "1f4444e7e8fd3a2633e8003fb1e1e8de953507b6fb428e2f26071a051cd0ca03", func := "sporran/sporranlaw13.ScriptSizes", spec := "scriptSizes", apart := false }
def ScriptSizesSaid : Prop := scriptSizesRow.holds Try.pinned (OpenSpec.ofChange scriptSizesSpec)

/-- ITS FALSE NEIGHBOUR: 'it returns false'. Refute it at one input. -/
def scriptSizesWrong : ChangeSpec := { name := "scriptSizes", fn := fun _ => fun
  | [d1, d2] => { results := [.lit (.bool false)], args := [d1, d2] }
  | _ => none }
def ScriptSizesWrongFalsely : Prop := scriptSizesRow.holds Try.pinned (OpenSpec.ofChange scriptSizesWrong)

/-- 'sporranlaw13.ScriptClasses': WHATEVER THE INPUT: true; the input reads as it did. -/
def scriptClassesSpec : ChangeSpec := { name := "scriptClasses", fn := fun _ => fun
  | [d] => { results := [.lit (.bool true)], args := [d] }
  | _ => none }
def scriptClassesRow : OpenClaim := { program := "ytlopmnepodbefaa", sum := "1f4444e7e8fd3a2633e8003fb1e1e8de953507b6fb428e2f26071a051cd0ca03", func := "sporran/sporranlaw13.ScriptClasses", spec := "scriptClasses", apart := false }
def ScriptClassesSaid : Prop := scriptClassesRow.holds Try.pinned (OpenSpec.ofChange scriptClassesSpec)

/-- ITS FALSE NEIGHBOUR: 'it returns false'. Refute it at one input. -/
def scriptClassesWrong : ChangeSpec := { name := "scriptClasses", fn := fun _ => fun
  | [d] => { results := [.lit (.bool false)], args := [d] }
  | _ => none }
def ScriptClassesWrongFalsely : Prop := scriptClassesRow.holds Try.pinned (OpenSpec.ofChange scriptClassesWrong)

/-- 'sporranlaw02.SipEnds': WHATEVER THE INPUT: true; the input reads as it did. -/
def sipEndsSpec : ChangeSpec := { name := "sipEnds", fn := fun _ => fun
  | [d1, d2, d3] => { results := [.lit (.bool true)], args := [d1, d2, d3] }
  | _ => none }
def sipEndsRow : OpenClaim := { program := "ytlopmnepodbefaa", sum := "1f4444e7e8fd3a2633e8003fb1e1e8de953507b6fb428e2f26071a051cd0ca03", func := "sporran/sporranlaw02.SipEnds", spec := "sipEnds", unfollowed := true, recurses := true, apart := false }
def SipEndsSaid : Prop := sipEndsRow.holds Try.pinned (OpenSpec.ofChange sipEndsSpec)

/-- ITS FALSE NEIGHBOUR: 'it returns false'. Refute it at one input. -/
def sipEndsWrong : ChangeSpec := { name := "sipEnds", fn := fun _ => fun
  | [d1, d2, d3] => { results := [.lit (.bool false)], args := [d1, d2, d3] }
  | _ => none }
def SipEndsWrongFalsely : Prop := sipEndsRow.holds Try.pinned (OpenSpec.ofChange sipEndsWrong)

/-- 'sporranlaw02.SipSums': WHATEVER THE INPUT: true; the input reads as it did. -/
def sipSumsSpec : ChangeSpec := { name := "sipSums", fn := fun _ => fun
  | [d1, d2, d3] => { results := [.lit (.bool true)], args := [d1, d2, d3] }
  | _ => none }
def sipSumsRow : OpenClaim := { program := "ytlopmnepodbefaa", sum := "1f4444e7e8fd3a2633e8003fb1e1e8de953507b6fb428e2f26071a051cd0ca03", func := "sporran/sporranlaw02.SipSums", spec := "sipSums", unfollowed := true, recurses := true, apart := false }
def SipSumsSaid : Prop := sipSumsRow.holds Try.pinned (OpenSpec.ofChange sipSumsSpec)

/-- ITS FALSE NEIGHBOUR: 'it returns false'. Refute it at one input. -/
def sipSumsWrong : ChangeSpec := { name := "sipSums", fn := fun _ => fun
  | [d1, d2, d3] => { results := [.lit (.bool false)], args := [d1, d2, d3] }
  | _ => none }
def SipSumsWrongFalsely : Prop := sipSumsRow.holds Try.pinned (OpenSpec.ofChange sipSumsWrong)

/-- 'sporranlaw13.ScriptMakes': WHATEVER THE INPUT: true; the input reads as it did. -/
def scriptMakesSpec : ChangeSpec := { name := "scriptMakes", fn := fun _ => fun
  | [d1, d2] => { results := [.lit (.bool true)], args := [d1, d2] }
  | _ => none }
def scriptMakesRow : OpenClaim := { program := "ytlopmnepodbefaa", sum := "1f4444e7e8fd3a2633e8003fb1e1e8de953507b6fb428e2f26071a051cd0ca03", func := "sporran/sporranlaw13.ScriptMakes", spec := "scriptMakes", apart := false }
def ScriptMakesSaid : Prop := scriptMakesRow.holds Try.pinned (OpenSpec.ofChange scriptMakesSpec)

/-- ITS FALSE NEIGHBOUR: 'it returns false'. Refute it at one input. -/
def scriptMakesWrong : ChangeSpec := { name := "scriptMakes", fn := fun _ => fun
  | [d1, d2] => { results := [.lit (.bool false)], args := [d1, d2] }
  | _ => none }
def ScriptMakesWrongFalsely : Prop := scriptMakesRow.holds Try.pinned (OpenSpec.ofChange scriptMakesWrong)

/-- 'sporranlaw13.ScriptBack': WHATEVER THE INPUT: true; the input reads as it did. -/
def scriptBackSpec : ChangeSpec := { name := "scriptBack", fn := fun _ => fun
  | [d1, d2, d3] => { results := [.lit (.bool true)], args := [d1, d2, d3] }
  | _ => none }
def scriptBackRow : OpenClaim := { program := "ytlopmnepodbefaa", sum := "1f4444e7e8fd3a2633e8003fb1e1e8de953507b6fb428e2f26071a051cd0ca03", func := "sporran/sporranlaw13.ScriptBack", spec := "scriptBack", apart := false }
def ScriptBackSaid : Prop := scriptBackRow.holds Try.pinned (OpenSpec.ofChange scriptBackSpec)

/-- ITS FALSE NEIGHBOUR: 'it returns false'. Refute it at one input. -/
def scriptBackWrong : ChangeSpec := { name := "scriptBack", fn := fun _ => fun
  | [d1, d2, d3] => { results := [.lit (.bool false)], args := [d1, d2, d3] }
  | _ => none }
def ScriptBackWrongFalsely : Prop := scriptBackRow.holds Try.pinned (OpenSpec.ofChange scriptBackWrong)

/- THE SECOND FORM. 'bulk': how many values and letters a reading holds, each counted each time it is reached (what is shared counts as often as it is met; a slice's spare places count too). A statement '..UptoSaid' is the law's where the arguments, and the package variables that the reading takes, are together of bulk at most 1048576: NARROWER than '..Said'. Prove '..Said' where nothing that the law and all that it calls make is longer than what came in: it says more and counts as full. Else prove '..UptoSaid'. A law counts once. -/
mutual
def uptoBulk {H : Type} : DataW H → Nat
  | .lit (.string bytes) => bytes.length + 1
  | .lit _ => 1
  | .nil => 1
  | .ptr d => uptoBulk d + 1
  | .slice elems spare => uptoBulkAll elems + uptoBulkAll spare + 1
  | .agg parts => uptoBulkAll parts + 1
  | .iface _ d => uptoBulk d + 1
  | .map entries => uptoBulkEntries entries + 1
  | .held _ => 1
def uptoBulkAll {H : Type} : List (DataW H) → Nat
  | [] => 0
  | d :: r => uptoBulk d + uptoBulkAll r
def uptoBulkEntries {H : Type} : List (Lit × DataW H) → Nat
  | [] => 0
  | x :: r => uptoBulkEntry x + uptoBulkEntries r
def uptoBulkEntry {H : Type} : Lit × DataW H → Nat
  | (.string bytes, d) => bytes.length + uptoBulk d + 1
  | (_, d) => uptoBulk d + 1
 end
def uptoSmall : (H : Type) → List (DataW H) → Bool := fun _ ds => decide (uptoBulkAll ds ≤ 1048576)
def OpenSpec.upto (s : _root_.Go.ChangeSpec) : _root_.Go.OpenSpec := { _root_.Go.OpenSpec.ofChange s with cond := some uptoSmall }

/-- 'sporranlaw24.AuditSums', WHERE WHAT IT READS IS OF BULK AT MOST 1048576: true; the input reads as it did. -/
def auditSumsUptoRow : OpenClaim := { program := "ytlopmnepodbefaa", sum := "1f4444e7e8fd3a2633e8003fb1e1e8de953507b6fb428e2f26071a051cd0ca03", func := "sporran/sporranlaw24.AuditSums", spec := "auditSums", apart := false, narrowed := true }
def AuditSumsUptoSaid : Prop := auditSumsUptoRow.holds Try.pinned (OpenSpec.upto auditSumsSpec)

/-- 'sporranlaw02.SipScales', WHERE WHAT IT READS IS OF BULK AT MOST 1048576: true; the input reads as it did. -/
def sipScalesUptoRow : OpenClaim := { program := "ytlopmnepodbefaa", sum := "1f4444e7e8fd3a2633e8003fb1e1e8de953507b6fb428e2f26071a051cd0ca03", func := "sporran/sporranlaw02.SipScales", spec := "sipScales", apart := false, narrowed := true }
def SipScalesUptoSaid : Prop := sipScalesUptoRow.holds Try.pinned (OpenSpec.upto sipScalesSpec)

/-- 'sporranlaw02.SipBelow', WHERE WHAT IT READS IS OF BULK AT MOST 1048576: true; the input reads as it did. -/
def sipBelowUptoRow : OpenClaim := { program := "ytlopmnepodbefaa", sum := "1f4444e7e8fd3a2633e8003fb1e1e8de953507b6fb428e2f26071a051cd0ca03", func := "sporran/sporranlaw02.SipBelow", spec := "sipBelow", apart := false, narrowed := true }
def SipBelowUptoSaid : Prop := sipBelowUptoRow.holds Try.pinned (OpenSpec.upto sipBelowSpec)

/-- 'sporranlaw13.ScriptSizes', WHERE WHAT IT READS IS OF BULK AT MOST 1048576: true; the input reads as it did. -/
def scriptSizesUptoRow : OpenClaim := { program := "ytlopmnepodbefaa", sum := "1f4444e7e8fd3a2633e8003fb1e1e8de953507b6fb428e2f26071a051cd0ca03", func := "sporran/sporranlaw13.ScriptSizes", spec := "scriptSizes", apart := false, narrowed := true }
def ScriptSizesUptoSaid : Prop := scriptSizesUptoRow.holds Try.pinned (OpenSpec.upto scriptSizesSpec)

/-- 'sporranlaw13.ScriptClasses', WHERE WHAT IT READS IS OF BULK AT MOST 1048576: true; the input reads as it did. -/
def scriptClassesUptoRow : OpenClaim := { program := "ytlopmnepodbefaa", sum := "1f4444e7e8fd3a2633e8003fb1e1e8de953507b6fb428e2f26071a051cd0ca03", func := "sporran/sporranlaw13.ScriptClasses", spec := "scriptClasses", apart := false, narrowed := true }
def ScriptClassesUptoSaid : Prop := scriptClassesUptoRow.holds Try.pinned (OpenSpec.upto scriptClassesSpec)

/-- 'sporranlaw02.SipEnds', WHERE WHAT IT READS IS OF BULK AT MOST 1048576: true; the input reads as it did. -/
def sipEndsUptoRow : OpenClaim := { program := "ytlopmnepodbefaa", sum := "1f4444e7e8fd3a2633e8003fb1e1e8de953507b6fb428e2f26071a051cd0ca03", func := "sporran/sporranlaw02.SipEnds", spec := "sipEnds", unfollowed := true, recurses := true, apart := false, narrowed := true }
def SipEndsUptoSaid : Prop := sipEndsUptoRow.holds Try.pinned (OpenSpec.upto sipEndsSpec)

/-- 'sporranlaw02.SipSums', WHERE WHAT IT READS IS OF BULK AT MOST 1048576: true; the input reads as it did. -/
def sipSumsUptoRow : OpenClaim := { program := "ytlopmnepodbefaa", sum := "1f4444e7e8fd3a2633e8003fb1e1e8de953507b6fb428e2f26071a051cd0ca03", func := "sporran/sporranlaw02.SipSums", spec := "sipSums", unfollowed := true, recurses := true, apart := false, narrowed := true }
def SipSumsUptoSaid : Prop := sipSumsUptoRow.holds Try.pinned (OpenSpec.upto sipSumsSpec)

/-- 'sporranlaw13.ScriptMakes', WHERE WHAT IT READS IS OF BULK AT MOST 1048576: true; the input reads as it did. -/
def scriptMakesUptoRow : OpenClaim := { program := "ytlopmnepodbefaa", sum := "1f4444e7e8fd3a2633e8003fb1e1e8de953507b6fb428e2f26071a051cd0ca03", func := "sporran/sporranlaw13.ScriptMakes", spec := "scriptMakes", apart := false, narrowed := true }
def ScriptMakesUptoSaid : Prop := scriptMakesUptoRow.holds Try.pinned (OpenSpec.upto scriptMakesSpec)

/-- 'sporranlaw13.ScriptBack', WHERE WHAT IT READS IS OF BULK AT MOST 1048576: true; the input reads as it did. -/
def scriptBackUptoRow : OpenClaim := { program := "ytlopmnepodbefaa", sum := "1f4444e7e8fd3a2633e8003fb1e1e8de953507b6fb428e2f26071a051cd0ca03", func := "sporran/sporranlaw13.ScriptBack", spec := "scriptBack", apart := false, narrowed := true }
def ScriptBackUptoSaid : Prop := scriptBackUptoRow.holds Try.pinned (OpenSpec.upto scriptBackSpec)

end Rows
end Go.Proofs.Ytlopmnepodbefaa

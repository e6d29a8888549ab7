/-
  NARROWER THAN 'FOR EVERY INPUT', by the rows' own cells (each row's printed sentence says how): Names: laid · Gathers: laid · Inlined: laid · Blocked: laid.
  DERIVED. THE GIVEN ROWS OF THIS SEAT. 4 by the template 'for every input the law returns true; each argument reads behind the call as it read before'; 0 by the template 'total and deterministic' (their statements: YtbioecifiogffaaDoorTotals.lean).
  GIVEN WITH THE SEED: the statements are not yours to turn. If you find one false, say at which input.
  Laid BY PROGRAM, IN A SANDBOX (cutbox-rows.mjs): the forced cells as the released guide's own fill.sh prints them over the translation c8436a46931ba15c… (all of the seat's roots in one cut). By AI agents, Wed Nov 11 2026. No macro, syntax, notation, axiom, sorry.
-/
import Derived.Test.YtbioecifiogffaaDoorChecked
import GoSem.PinnedTables
import GoSem.Claim
import GoSem.ClaimJoined
import GoSem.ClaimMapViews
import Derived.JoinedTies
import Derived.KernelRfl
namespace Go.Proofs.YtbioecifiogffaaDoor
/- THE CELL 'sum', in the pinned program and in every row, IS THE sha256 OF THE DUMP (.gsa) THAT YtbioecifiogffaaDoorProg.lean LOADS. Nothing in Lean hashes anything: it is a label: what it is worth is what the hold of that sum in a sandbox is worth. -/
noncomputable def Tryd.pinned : Pinned := { name := "ytbioecifiogffaadoor", sum := "c8436a46931ba15ccdfcc8686a5bfa34a7b830c2beff4296c565f2a9a4ec491d", checked := Tryd.checked }
namespace Rows
def none {H : Type} : Left H := { results := [], args := [] }

/- WHAT THE LISTED PACKAGE-LEVEL VARIABLES READ AS WHEN THE CALL BEGINS. Each datum BY PROGRAM (the guide's laid-datum.mjs) off the statement by which the dump's own 'gosem.cut.vars' lays the variable. In a bare row this is a premise. The card (YtbioecifiogffaaDoorCards.lean) ties it to the program's text. -/
def laid_prose_api_ErrLong {H : Type} : DataW H := .iface "*errors.errorString" (.ptr (.agg [.lit (.string [116, 104, 101, 32, 116, 101, 120, 116, 32, 105, 115, 32, 116, 111, 111, 32, 108, 111, 110, 103])]))
def laid_prose_api_ErrIdle {H : Type} : DataW H := .iface "*errors.errorString" (.ptr (.agg [.lit (.string [110, 111, 116, 104, 105, 110, 103, 32, 99, 111, 109, 101, 115, 32, 97, 110, 121, 32, 109, 111, 114, 101])]))
def laid_prose_api_ErrSink {H : Type} : DataW H := .iface "*errors.errorString" (.ptr (.agg [.lit (.string [116, 104, 101, 32, 115, 105, 110, 107, 32, 116, 97, 107, 101, 115, 32, 119, 104, 97, 116, 32, 119, 97, 115, 32, 110, 111, 116, 32, 111, 102, 102, 101, 114, 101, 100])]))
def laid_errors_errorType {H : Type} : DataW H := .iface "internal/reflectlite.rtype" (.agg [.ptr (.lit (.string [101, 114, 114, 111, 114]))])
def laid_unicode_utf8_acceptRanges {H : Type} : DataW H := .agg [.agg [.lit (.int .u8 128), .lit (.int .u8 191)], .agg [.lit (.int .u8 160), .lit (.int .u8 191)], .agg [.lit (.int .u8 128), .lit (.int .u8 159)], .agg [.lit (.int .u8 144), .lit (.int .u8 191)], .agg [.lit (.int .u8 128), .lit (.int .u8 143)], .agg [.lit (.int .u8 0), .lit (.int .u8 0)], .agg [.lit (.int .u8 0), .lit (.int .u8 0)], .agg [.lit (.int .u8 0), .lit (.int .u8 0)], .agg [.lit (.int .u8 0), .lit (.int .u8 0)], .agg [.lit (.int .u8 0), .lit (.int .u8 0)], .agg [.lit (.int .u8 0), .lit (.int .u8 0)], .agg [.lit (.int .u8 0), .lit (.int .u8 0)], .agg [.lit (.int .u8 0), .lit (.int .u8 0)], .agg [.lit (.int .u8 0), .lit (.int .u8 0)], .agg [.lit (.int .u8 0), .lit (.int .u8 0)], .agg [.lit (.int .u8 0), .lit (.int .u8 0)]]
/-- One of Go's own tables, pinned by name: the form's constant. -/
def laid_unicode_utf8_first : DataW Unit := Go.Pinned.utf8First

/-- 'proselaw.Names': WHATEVER THE INPUT: true; the input reads as it did. -/
def namesSpec : ChangeSpec := { name := "names", fn := fun _ => fun
  | [] => { results := [.lit (.bool true)], args := [] }
  | _ => none }
def namesRow : OpenClaim := { program := "ytbioecifiogffaadoor", sum := "c8436a46931ba15ccdfcc8686a5bfa34a7b830c2beff4296c565f2a9a4ec491d", func := "prose/proselaw.Names", spec := "names", named := ["prose/api.ErrLong", "prose/api.ErrIdle", "prose/api.ErrSink"], apart := false, laid := [("prose/api.ErrLong", laid_prose_api_ErrLong), ("prose/api.ErrIdle", laid_prose_api_ErrIdle), ("prose/api.ErrSink", laid_prose_api_ErrSink)] }
def NamesSaid : Prop := namesRow.holds Tryd.pinned (OpenSpec.ofChange namesSpec)

/-- ITS FALSE NEIGHBOUR: 'it returns false'. Refute it at one input. -/
def namesWrong : ChangeSpec := { name := "names", fn := fun _ => fun
  | [] => { results := [.lit (.bool false)], args := [] }
  | _ => none }
def NamesWrongFalsely : Prop := namesRow.holds Tryd.pinned (OpenSpec.ofChange namesWrong)

/-- 'proselaw.Gathers': WHATEVER THE INPUT: true; the input reads as it did. -/
def gathersSpec : ChangeSpec := { name := "gathers", fn := fun _ => fun
  | [d] => { results := [.lit (.bool true)], args := [d] }
  | _ => none }
def gathersRow : OpenClaim := { program := "ytbioecifiogffaadoor", sum := "c8436a46931ba15ccdfcc8686a5bfa34a7b830c2beff4296c565f2a9a4ec491d", func := "prose/proselaw.Gathers", spec := "gathers", inPlace := ["internal/abi.NoEscape", "internal/reflectlite.ValueOf", "(internal/reflectlite.Value).Type", "(internal/reflectlite.Value).IsNil", "internal/reflectlite.TypeOf", "(internal/reflectlite.Value).Elem", "(internal/reflectlite.Value).Set"], unfollowed := true, recurses := true, named := ["prose/api.ErrLong", "prose/api.ErrIdle", "prose/api.ErrSink", "errors.errorType"], apart := false, laid := [("errors.errorType", laid_errors_errorType), ("prose/api.ErrLong", laid_prose_api_ErrLong), ("prose/api.ErrIdle", laid_prose_api_ErrIdle), ("prose/api.ErrSink", laid_prose_api_ErrSink)] }
def GathersSaid : Prop := gathersRow.holds Tryd.pinned (OpenSpec.ofChange gathersSpec)

/-- ITS FALSE NEIGHBOUR: 'it returns false'. Refute it at one input. -/
def gathersWrong : ChangeSpec := { name := "gathers", fn := fun _ => fun
  | [d] => { results := [.lit (.bool false)], args := [d] }
  | _ => none }
def GathersWrongFalsely : Prop := gathersRow.holds Tryd.pinned (OpenSpec.ofChange gathersWrong)

/-- 'proselaw.Inlined': WHATEVER THE INPUT: true; the input reads as it did. -/
def inlinedSpec : ChangeSpec := { name := "inlined", fn := fun _ => fun
  | [d] => { results := [.lit (.bool true)], args := [d] }
  | _ => none }
def inlinedRow : OpenClaim := { program := "ytbioecifiogffaadoor", sum := "c8436a46931ba15ccdfcc8686a5bfa34a7b830c2beff4296c565f2a9a4ec491d", func := "prose/proselaw.Inlined", spec := "inlined", inPlace := ["internal/abi.NoEscape", "internal/bytealg.IndexByteString", "internal/bytealg.IndexString", "internal/bytealg.CountString", "internal/bytealg.MakeNoZero"], recurses := true, named := ["internal/bytealg.MaxLen", "unicode/utf8.first", "unicode/utf8.acceptRanges"], apart := false, laid := [("unicode/utf8.acceptRanges", laid_unicode_utf8_acceptRanges), ("unicode/utf8.first", laid_unicode_utf8_first)] }
def InlinedSaid : Prop := inlinedRow.holds Tryd.pinned (OpenSpec.ofChange inlinedSpec)

/-- ITS FALSE NEIGHBOUR: 'it returns false'. Refute it at one input. -/
def inlinedWrong : ChangeSpec := { name := "inlined", fn := fun _ => fun
  | [d] => { results := [.lit (.bool false)], args := [d] }
  | _ => none }
def InlinedWrongFalsely : Prop := inlinedRow.holds Tryd.pinned (OpenSpec.ofChange inlinedWrong)

/-- 'proselaw.Blocked': WHATEVER THE INPUT: true; the input reads as it did. -/
def blockedSpec : ChangeSpec := { name := "blocked", fn := fun _ => fun
  | [d] => { results := [.lit (.bool true)], args := [d] }
  | _ => none }
def blockedRow : OpenClaim := { program := "ytbioecifiogffaadoor", sum := "c8436a46931ba15ccdfcc8686a5bfa34a7b830c2beff4296c565f2a9a4ec491d", func := "prose/proselaw.Blocked", spec := "blocked", inPlace := ["internal/abi.NoEscape", "internal/bytealg.CountString", "internal/bytealg.IndexByteString", "internal/bytealg.IndexString", "internal/bytealg.MakeNoZero"], unfollowed := true, recurses := true, named := ["unicode/utf8.first", "unicode/utf8.acceptRanges", "internal/bytealg.MaxLen"], apart := false, laid := [("unicode/utf8.acceptRanges", laid_unicode_utf8_acceptRanges), ("unicode/utf8.first", laid_unicode_utf8_first)] }
def BlockedSaid : Prop := blockedRow.holds Tryd.pinned (OpenSpec.ofChange blockedSpec)

/-- ITS FALSE NEIGHBOUR: 'it returns false'. Refute it at one input. -/
def blockedWrong : ChangeSpec := { name := "blocked", fn := fun _ => fun
  | [d] => { results := [.lit (.bool false)], args := [d] }
  | _ => none }
def BlockedWrongFalsely : Prop := blockedRow.holds Tryd.pinned (OpenSpec.ofChange blockedWrong)

/- THE SECOND FORM. 'bulk': how many values and letters a reading holds, each counted each time it is reached (what is shared counts as often as it is met; a slice's spare places count too). A statement '..UptoSaid' is the law's where the arguments, and the package variables that the reading takes, are together of bulk at most 1048576: NARROWER than '..Said'. Prove '..Said' where nothing that the law and all that it calls make is longer than what came in: it says more and counts as full. Else prove '..UptoSaid'. A law counts once. -/
mutual
def uptoBulk {H : Type} : DataW H → Nat
  | .lit (.string bytes) => bytes.length + 1
  | .lit _ => 1
  | .nil => 1
  | .ptr d => uptoBulk d + 1
  | .slice elems spare => uptoBulkAll elems + uptoBulkAll spare + 1
  | .agg parts => uptoBulkAll parts + 1
  | .iface _ d => uptoBulk d + 1
  | .map entries => uptoBulkEntries entries + 1
  | .held _ => 1
def uptoBulkAll {H : Type} : List (DataW H) → Nat
  | [] => 0
  | d :: r => uptoBulk d + uptoBulkAll r
def uptoBulkEntries {H : Type} : List (Lit × DataW H) → Nat
  | [] => 0
  | x :: r => uptoBulkEntry x + uptoBulkEntries r
def uptoBulkEntry {H : Type} : Lit × DataW H → Nat
  | (.string bytes, d) => bytes.length + uptoBulk d + 1
  | (_, d) => uptoBulk d + 1
 end
def uptoSmall : (H : Type) → List (DataW H) → Bool := fun _ ds => decide (uptoBulkAll ds ≤ 1048576)
def OpenSpec.upto (s : _root_.Go.ChangeSpec) : _root_.Go.OpenSpec := { _root_.Go.OpenSpec.ofChange s with cond := some uptoSmall }

/-- 'proselaw.Names', WHERE WHAT IT READS IS OF BULK AT MOST 1048576: true; the input reads as it did. -/
def namesUptoRow : OpenClaim := { program := "ytbioecifiogffaadoor", sum := "c8436a46931ba15ccdfcc8686a5bfa34a7b830c2beff4296c565f2a9a4ec491d", func := "prose/proselaw.Names", spec := "names", named := ["prose/api.ErrLong", "prose/api.ErrIdle", "prose/api.ErrSink"], apart := false, laid := [("prose/api.ErrLong", laid_prose_api_ErrLong), ("prose/api.ErrIdle", laid_prose_api_ErrIdle), ("prose/api.ErrSink", laid_prose_api_ErrSink)], narrowed := true }
def NamesUptoSaid : Prop := namesUptoRow.holds Tryd.pinned (OpenSpec.upto namesSpec)

/-- 'proselaw.Gathers', WHERE WHAT IT READS IS OF BULK AT MOST 1048576: true; the input reads as it did. -/
def gathersUptoRow : OpenClaim := { program := "ytbioecifiogffaadoor", sum := "c8436a46931ba15ccdfcc8686a5bfa34a7b830c2beff4296c565f2a9a4ec491d", func := "prose/proselaw.Gathers", spec := "gathers", inPlace := ["internal/abi.NoEscape", "internal/reflectlite.ValueOf", "(internal/reflectlite.Value).Type", "(internal/reflectlite.Value).IsNil", "internal/reflectlite.TypeOf", "(internal/reflectlite.Value).Elem", "(internal/reflectlite.Value).Set"], unfollowed := true, recurses := true, named := ["prose/api.ErrLong", "prose/api.ErrIdle", "prose/api.ErrSink", "errors.errorType"], apart := false, laid := [("errors.errorType", laid_errors_errorType), ("prose/api.ErrLong", laid_prose_api_ErrLong), ("prose/api.ErrIdle", laid_prose_api_ErrIdle), ("prose/api.ErrSink", laid_prose_api_ErrSink)], narrowed := true }
def GathersUptoSaid : Prop := gathersUptoRow.holds Tryd.pinned (OpenSpec.upto gathersSpec)

/-- 'proselaw.Inlined', WHERE WHAT IT READS IS OF BULK AT MOST 1048576: true; the input reads as it did. -/
def inlinedUptoRow : OpenClaim := { program := "ytbioecifiogffaadoor", sum := "c8436a46931ba15ccdfcc8686a5bfa34a7b830c2beff4296c565f2a9a4ec491d", func := "prose/proselaw.Inlined", spec := "inlined", inPlace := ["internal/abi.NoEscape", "internal/bytealg.IndexByteString", "internal/bytealg.IndexString", "internal/bytealg.CountString", "internal/bytealg.MakeNoZero"], recurses := true, named := ["internal/bytealg.MaxLen", "unicode/utf8.first", "unicode/utf8.acceptRanges"], apart := false, laid := [("unicode/utf8.acceptRanges", laid_unicode_utf8_acceptRanges), ("unicode/utf8.first", laid_unicode_utf8_first)], narrowed := true }
def InlinedUptoSaid : Prop := inlinedUptoRow.holds Tryd.pinned (OpenSpec.upto inlinedSpec)

/-- 'proselaw.Blocked', WHERE WHAT IT READS IS OF BULK AT MOST 1048576: true; the input reads as it did. -/
def blockedUptoRow : OpenClaim := { program := "ytbioecifiogffaadoor", sum := "c8436a46931ba15ccdfcc8686a5bfa34a7b830c2beff4296c565f2a9a4ec491d", func := "prose/proselaw.Blocked", spec := "blocked", inPlace := ["internal/abi.NoEscape", "internal/bytealg.CountString", "internal/bytealg.IndexByteString", "internal/bytealg.IndexString", "internal/bytealg.MakeNoZero"], unfollowed := true, recurses := true, named := ["unicode/utf8.first", "unicode/utf8.acceptRanges", "internal/bytealg.MaxLen"], apart := false, laid := [("unicode/utf8.acceptRanges", laid_unicode_utf8_acceptRanges), ("unicode/utf8.first", laid_unicode_utf8_first)], narrowed := true }
def BlockedUptoSaid : Prop := blockedUptoRow.holds Tryd.pinned (OpenSpec.upto blockedSpec)

end Rows
end Go.Proofs.YtbioecifiogffaaDoor

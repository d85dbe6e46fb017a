/-
  NARROWER THAN 'FOR EVERY INPUT', by the rows' own cells (each row's printed sentence says how): SpkiChecks: laid.
  DERIVED. THE GIVEN ROWS OF THIS SEAT. 1 by the template 'for every input the law returns true; each argument reads behind the call as it read before'; 0 by the template 'total and deterministic' (their statements: YtmpklnhmempmgaaGreatDoorTotals.lean).
  GIVEN WITH THE SEED: the statements are not yours to turn. If you find one false, say at which input.
  Laid BY PROGRAM, IN A SANDBOX (cutbox-rows.mjs): the forced cells as the released guide's own fill.sh prints them over the translation 581577f787a52973… (all of the seat's roots in one cut). By AI agents, Wed Nov 11 2026. No macro, syntax, notation, axiom, sorry.
-/
import Derived.Test.YtmpklnhmempmgaaGreatDoorChecked
import GoSem.Claim
import GoSem.ClaimJoined
import GoSem.ClaimMapViews
import Derived.JoinedTies
import Derived.KernelRfl
namespace Go.Proofs.YtmpklnhmempmgaaGreatDoor
/- THE CELL 'sum', in the pinned program and in every row, IS THE sha256 OF THE DUMP (.gsa) THAT YtmpklnhmempmgaaGreatDoorProg.lean LOADS. Nothing in Lean hashes anything: it is a label: what it is worth is what the hold of that sum in a sandbox is worth. -/
noncomputable def Tryz.pinned : Pinned := { name := "ytmpklnhmempmgaagreatdoor", sum := "581577f787a52973068381bbf840c3376dcd6286e0d2a32d18b20db537dabbf2", checked := Tryz.checked }
namespace Rows
def none {H : Type} : Left H := { results := [], args := [] }

/- WHAT THE LISTED PACKAGE-LEVEL VARIABLES READ AS WHEN THE CALL BEGINS. Each datum BY PROGRAM (the guide's laid-datum.mjs) off the statement by which the dump's own 'gosem.cut.vars' lays the variable. In a bare row this is a premise. The card (YtmpklnhmempmgaaGreatDoorCards.lean) ties it to the program's text. -/
def laid_signet_ed_primeLimbs {H : Type} : DataW H := .agg [.lit (.int .u32 4294967277), .lit (.int .u32 4294967295), .lit (.int .u32 4294967295), .lit (.int .u32 4294967295), .lit (.int .u32 4294967295), .lit (.int .u32 4294967295), .lit (.int .u32 4294967295), .lit (.int .u32 2147483647)]
def laid_signet_ed_curveLimbs {H : Type} : DataW H := .agg [.lit (.int .u32 324630691), .lit (.int .u32 1978355146), .lit (.int .u32 1094834347), .lit (.int .u32 7342669), .lit (.int .u32 2004478104), .lit (.int .u32 2361868409), .lit (.int .u32 728759923), .lit (.int .u32 1375956206)]
def laid_signet_ed_rootLimbs {H : Type} : DataW H := .agg [.lit (.int .u32 3052494653), .lit (.int .u32 991028440), .lit (.int .u32 1389370247), .lit (.int .u32 3502041081), .lit (.int .u32 3255052376), .lit (.int .u32 3568500582), .lit (.int .u32 2956861684), .lit (.int .u32 1417468799)]

/-- 'signetlaw14.SpkiChecks': WHATEVER THE INPUT: true; the input reads as it did. -/
def spkiChecksSpec : ChangeSpec := { name := "spkiChecks", fn := fun _ => fun
  | [d] => { results := [.lit (.bool true)], args := [d] }
  | _ => none }
def spkiChecksRow : OpenClaim := { program := "ytmpklnhmempmgaagreatdoor", sum := "581577f787a52973068381bbf840c3376dcd6286e0d2a32d18b20db537dabbf2", func := "signet/signetlaw14.SpkiChecks", spec := "spkiChecks", named := ["signet/ed.primeLimbs", "math/bits.overflowError", "signet/ed.curveLimbs", "signet/ed.rootLimbs"], apart := false, laid := [("signet/ed.primeLimbs", laid_signet_ed_primeLimbs), ("signet/ed.curveLimbs", laid_signet_ed_curveLimbs), ("signet/ed.rootLimbs", laid_signet_ed_rootLimbs)] }
def SpkiChecksSaid : Prop := spkiChecksRow.holds Tryz.pinned (OpenSpec.ofChange spkiChecksSpec)

/-- ITS FALSE NEIGHBOUR: 'it returns false'. Refute it at one input. -/
def spkiChecksWrong : ChangeSpec := { name := "spkiChecks", fn := fun _ => fun
  | [d] => { results := [.lit (.bool false)], args := [d] }
  | _ => none }
def SpkiChecksWrongFalsely : Prop := spkiChecksRow.holds Tryz.pinned (OpenSpec.ofChange spkiChecksWrong)

/- THE SECOND FORM. 'bulk': how many values and letters a reading holds, each counted each time it is reached (what is shared counts as often as it is met; a slice's spare places count too). A statement '..UptoSaid' is the law's where the arguments, and the package variables that the reading takes, are together of bulk at most 1048576: NARROWER than '..Said'. Prove '..Said' where nothing that the law and all that it calls make is longer than what came in: it says more and counts as full. Else prove '..UptoSaid'. A law counts once. -/
mutual
def uptoBulk {H : Type} : DataW H → Nat
  | .lit (.string bytes) => bytes.length + 1
  | .lit _ => 1
  | .nil => 1
  | .ptr d => uptoBulk d + 1
  | .slice elems spare => uptoBulkAll elems + uptoBulkAll spare + 1
  | .agg parts => uptoBulkAll parts + 1
  | .iface _ d => uptoBulk d + 1
  | .map entries => uptoBulkEntries entries + 1
  | .held _ => 1
def uptoBulkAll {H : Type} : List (DataW H) → Nat
  | [] => 0
  | d :: r => uptoBulk d + uptoBulkAll r
def uptoBulkEntries {H : Type} : List (Lit × DataW H) → Nat
  | [] => 0
  | x :: r => uptoBulkEntry x + uptoBulkEntries r
def uptoBulkEntry {H : Type} : Lit × DataW H → Nat
  | (.string bytes, d) => bytes.length + uptoBulk d + 1
  | (_, d) => uptoBulk d + 1
 end
def uptoSmall : (H : Type) → List (DataW H) → Bool := fun _ ds => decide (uptoBulkAll ds ≤ 1048576)
def OpenSpec.upto (s : _root_.Go.ChangeSpec) : _root_.Go.OpenSpec := { _root_.Go.OpenSpec.ofChange s with cond := some uptoSmall }

/-- 'signetlaw14.SpkiChecks', WHERE WHAT IT READS IS OF BULK AT MOST 1048576: true; the input reads as it did. -/
def spkiChecksUptoRow : OpenClaim := { program := "ytmpklnhmempmgaagreatdoor", sum := "581577f787a52973068381bbf840c3376dcd6286e0d2a32d18b20db537dabbf2", func := "signet/signetlaw14.SpkiChecks", spec := "spkiChecks", named := ["signet/ed.primeLimbs", "math/bits.overflowError", "signet/ed.curveLimbs", "signet/ed.rootLimbs"], apart := false, laid := [("signet/ed.primeLimbs", laid_signet_ed_primeLimbs), ("signet/ed.curveLimbs", laid_signet_ed_curveLimbs), ("signet/ed.rootLimbs", laid_signet_ed_rootLimbs)], narrowed := true }
def SpkiChecksUptoSaid : Prop := spkiChecksUptoRow.holds Tryz.pinned (OpenSpec.upto spkiChecksSpec)

end Rows
end Go.Proofs.YtmpklnhmempmgaaGreatDoor

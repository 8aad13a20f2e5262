/-
  No cell of these rows narrows 'for every input' (looked for: loops, veiled, ifaces, maps, wideKeys, modest, calm, conditions, laid).
  DERIVED. THE GIVEN ROWS OF THIS SEAT. 3 by the template 'for every input the law returns true; each argument reads behind the call as it read before'; 0 by the template 'total and deterministic' (their statements: YtlffhifgddfibaaTotals.lean).
  GIVEN WITH THE SEED: the statements are not yours to turn. If you find one false, say at which input.
  Laid BY PROGRAM, IN A SANDBOX (cutbox-rows.mjs): the forced cells as the released guide's own fill.sh prints them over the translation 88aa9de02bdd5a39… (all of the seat's roots in one cut). By AI agents, Wed Nov 11 2026. No macro, syntax, notation, axiom, sorry.
-/
import Derived.Test.YtlffhifgddfibaaChecked
import GoSem.Claim
import GoSem.ClaimJoined
import GoSem.ClaimMapViews
import Derived.JoinedTies
import Derived.KernelRfl
namespace Go.Proofs.Ytlffhifgddfibaa
/- THE CELL 'sum', in the pinned program and in every row, IS THE sha256 OF THE DUMP (.gsa) THAT YtlffhifgddfibaaProg.lean LOADS. Nothing in Lean hashes anything: it is a label: what it is worth is what the hold of that sum in a sandbox is worth. -/
noncomputable def Try.pinned : Pinned := { name := "ytlffhifgddfibaa", sum := "88aa9de02bdd5a39405f6585007b6cd8a257bcdb1e4ad34e3cb8179833f1a92d", checked := Try.checked }
namespace Rows
def none {H : Type} : Left H := { results := [], args := [] }

/-- 'skeinlaw12.CtFull': WHATEVER THE INPUT: true; the input reads as it did. -/
def ctFullSpec : ChangeSpec := { name := "ctFull", fn := fun _ => fun
  | [d1, d2, d3] => { results := [.lit (.bool true)], args := [d1, d2, d3] }
  | _ => none }
def ctFullRow : OpenClaim := { program := "ytlffhifgddfibaa", sum := "88aa9de02bdd5a39405f6585007b6cd8a257bcdb1e4ad34e3cb8179833f1a92d", func := "skein/skeinlaw12.CtFull", spec := "ctFull", unfollowed := true, recurses := true, plainKeys := false, apart := false }
def CtFullSaid : Prop := ctFullRow.holds Try.pinned (OpenSpec.ofChange ctFullSpec)

/-- ITS FALSE NEIGHBOUR: 'it returns false'. Refute it at one input. -/
def ctFullWrong : ChangeSpec := { name := "ctFull", fn := fun _ => fun
  | [d1, d2, d3] => { results := [.lit (.bool false)], args := [d1, d2, d3] }
  | _ => none }
def CtFullWrongFalsely : Prop := ctFullRow.holds Try.pinned (OpenSpec.ofChange ctFullWrong)

/-- 'skeinlaw12.CtDoes': WHATEVER THE INPUT: true; the input reads as it did. -/
def ctDoesSpec : ChangeSpec := { name := "ctDoes", fn := fun _ => fun
  | [d1, d2] => { results := [.lit (.bool true)], args := [d1, d2] }
  | _ => none }
def ctDoesRow : OpenClaim := { program := "ytlffhifgddfibaa", sum := "88aa9de02bdd5a39405f6585007b6cd8a257bcdb1e4ad34e3cb8179833f1a92d", func := "skein/skeinlaw12.CtDoes", spec := "ctDoes", unfollowed := true, recurses := true, plainKeys := false, apart := false }
def CtDoesSaid : Prop := ctDoesRow.holds Try.pinned (OpenSpec.ofChange ctDoesSpec)

/-- ITS FALSE NEIGHBOUR: 'it returns false'. Refute it at one input. -/
def ctDoesWrong : ChangeSpec := { name := "ctDoes", fn := fun _ => fun
  | [d1, d2] => { results := [.lit (.bool false)], args := [d1, d2] }
  | _ => none }
def CtDoesWrongFalsely : Prop := ctDoesRow.holds Try.pinned (OpenSpec.ofChange ctDoesWrong)

/-- 'skeinlaw12.CtNobody': WHATEVER THE INPUT: true; the input reads as it did. -/
def ctNobodySpec : ChangeSpec := { name := "ctNobody", fn := fun _ => fun
  | [d1, d2, d3] => { results := [.lit (.bool true)], args := [d1, d2, d3] }
  | _ => none }
def ctNobodyRow : OpenClaim := { program := "ytlffhifgddfibaa", sum := "88aa9de02bdd5a39405f6585007b6cd8a257bcdb1e4ad34e3cb8179833f1a92d", func := "skein/skeinlaw12.CtNobody", spec := "ctNobody", unfollowed := true, recurses := true, plainKeys := false, apart := false }
def CtNobodySaid : Prop := ctNobodyRow.holds Try.pinned (OpenSpec.ofChange ctNobodySpec)

/-- ITS FALSE NEIGHBOUR: 'it returns false'. Refute it at one input. -/
def ctNobodyWrong : ChangeSpec := { name := "ctNobody", fn := fun _ => fun
  | [d1, d2, d3] => { results := [.lit (.bool false)], args := [d1, d2, d3] }
  | _ => none }
def CtNobodyWrongFalsely : Prop := ctNobodyRow.holds Try.pinned (OpenSpec.ofChange ctNobodyWrong)

/- THE SECOND FORM. 'bulk': how many values and letters a reading holds, each counted each time it is reached (what is shared counts as often as it is met; a slice's spare places count too). A statement '..UptoSaid' is the law's where the arguments, and the package variables that the reading takes, are together of bulk at most 1048576: NARROWER than '..Said'. Prove '..Said' where nothing that the law and all that it calls make is longer than what came in: it says more and counts as full. Else prove '..UptoSaid'. A law counts once. -/
mutual
def uptoBulk {H : Type} : DataW H → Nat
  | .lit (.string bytes) => bytes.length + 1
  | .lit _ => 1
  | .nil => 1
  | .ptr d => uptoBulk d + 1
  | .slice elems spare => uptoBulkAll elems + uptoBulkAll spare + 1
  | .agg parts => uptoBulkAll parts + 1
  | .iface _ d => uptoBulk d + 1
  | .map entries => uptoBulkEntries entries + 1
  | .held _ => 1
def uptoBulkAll {H : Type} : List (DataW H) → Nat
  | [] => 0
  | d :: r => uptoBulk d + uptoBulkAll r
def uptoBulkEntries {H : Type} : List (Lit × DataW H) → Nat
  | [] => 0
  | x :: r => uptoBulkEntry x + uptoBulkEntries r
def uptoBulkEntry {H : Type} : Lit × DataW H → Nat
  | (.string bytes, d) => bytes.length + uptoBulk d + 1
  | (_, d) => uptoBulk d + 1
 end
def uptoSmall : (H : Type) → List (DataW H) → Bool := fun _ ds => decide (uptoBulkAll ds ≤ 1048576)
def OpenSpec.upto (s : _root_.Go.ChangeSpec) : _root_.Go.OpenSpec := { _root_.Go.OpenSpec.ofChange s with cond := some uptoSmall }

/-- 'skeinlaw12.CtFull', WHERE WHAT IT READS IS OF BULK AT MOST 1048576: true; the input reads as it did. -/
def ctFullUptoRow : OpenClaim := { program := "ytlffhifgddfibaa", sum := "88aa9de02bdd5a39405f6585007b6cd8a257bcdb1e4ad34e3cb8179833f1a92d", func := "skein/skeinlaw12.CtFull", spec := "ctFull", unfollowed := true, recurses := true, plainKeys := false, apart := false, narrowed := true }
def CtFullUptoSaid : Prop := ctFullUptoRow.holds Try.pinned (OpenSpec.upto ctFullSpec)

/-- 'skeinlaw12.CtDoes', WHERE WHAT IT READS IS OF BULK AT MOST 1048576: true; the input reads as it did. -/
def ctDoesUptoRow : OpenClaim := { program := "ytlffhifgddfibaa", sum := "88aa9de02bdd5a39405f6585007b6cd8a257bcdb1e4ad34e3cb8179833f1a92d", func := "skein/skeinlaw12.CtDoes", spec := "ctDoes", unfollowed := true, recurses := true, plainKeys := false, apart := false, narrowed := true }
def CtDoesUptoSaid : Prop := ctDoesUptoRow.holds Try.pinned (OpenSpec.upto ctDoesSpec)

/-- 'skeinlaw12.CtNobody', WHERE WHAT IT READS IS OF BULK AT MOST 1048576: true; the input reads as it did. -/
def ctNobodyUptoRow : OpenClaim := { program := "ytlffhifgddfibaa", sum := "88aa9de02bdd5a39405f6585007b6cd8a257bcdb1e4ad34e3cb8179833f1a92d", func := "skein/skeinlaw12.CtNobody", spec := "ctNobody", unfollowed := true, recurses := true, plainKeys := false, apart := false, narrowed := true }
def CtNobodyUptoSaid : Prop := ctNobodyUptoRow.holds Try.pinned (OpenSpec.upto ctNobodySpec)

end Rows
end Go.Proofs.Ytlffhifgddfibaa

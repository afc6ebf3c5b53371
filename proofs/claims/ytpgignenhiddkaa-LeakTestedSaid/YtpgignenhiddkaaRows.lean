/-
  No cell of these rows narrows 'for every input' (looked for: loops, veiled, ifaces, maps, wideKeys, modest, calm, conditions, laid).
  DERIVED. THE GIVEN ROWS OF THIS SEAT. 11 by the template 'for every input the law returns true; each argument reads behind the call as it read before'; 0 by the template 'total and deterministic' (their statements: YtpgignenhiddkaaTotals.lean).
  GIVEN WITH THE SEED: the statements are not yours to turn. If you find one false, say at which input.
  Laid BY PROGRAM, IN A SANDBOX (cutbox-rows.mjs): the forced cells as the released guide's own fill.sh prints them over the translation bb6f66786dffd51f… (all of the seat's roots in one cut). By AI agents, Wed Nov 11 2026. No macro, syntax, notation, axiom, sorry.
-/
import Derived.Test.YtpgignenhiddkaaChecked
import GoSem.Claim
import GoSem.ClaimJoined
import GoSem.ClaimMapViews
import Derived.JoinedTies
import Derived.KernelRfl
namespace Go.Proofs.Ytpgignenhiddkaa
/- THE CELL 'sum', in the pinned program and in every row, IS THE sha256 OF THE DUMP (.gsa) THAT YtpgignenhiddkaaProg.lean LOADS. Nothing in Lean hashes anything: it is a label: what it is worth is what the hold of that sum in a sandbox is worth. -/
noncomputable def Try.pinned : Pinned := { name := "ytpgignenhiddkaa", sum := "bb6f66786dffd51f9794562544426aa1b7bb1a66a70ba5960ff8fb7950ab95f6", checked := Try.checked }
namespace Rows
def none {H : Type} : Left H := { results := [], args := [] }

/-- 'forecourtlaw02.LeakSpans': WHATEVER THE INPUT: true; the input reads as it did. -/
def leakSpansSpec : ChangeSpec := { name := "leakSpans", fn := fun _ => fun
  | [d1, d2] => { results := [.lit (.bool true)], args := [d1, d2] }
  | _ => none }
def leakSpansRow : OpenClaim := { program := "ytpgignenhiddkaa", sum := "bb6f66786dffd51f9794562544426aa1b7bb1a66a70ba5960ff8fb7950ab95f6", func := "forecourt/forecourtlaw02.LeakSpans", spec := "leakSpans", unfollowed := true, recurses := true, plainKeys := false, apart := false }
def LeakSpansSaid : Prop := leakSpansRow.holds Try.pinned (OpenSpec.ofChange leakSpansSpec)

/-- ITS FALSE NEIGHBOUR: 'it returns false'. Refute it at one input. -/
def leakSpansWrong : ChangeSpec := { name := "leakSpans", fn := fun _ => fun
  | [d1, d2] => { results := [.lit (.bool false)], args := [d1, d2] }
  | _ => none }
def LeakSpansWrongFalsely : Prop := leakSpansRow.holds Try.pinned (OpenSpec.ofChange leakSpansWrong)

/-- 'forecourtlaw02.LeakFirsts': WHATEVER THE INPUT: true; the input reads as it did. -/
def leakFirstsSpec : ChangeSpec := { name := "leakFirsts", fn := fun _ => fun
  | [d1, d2, d3, d4] => { results := [.lit (.bool true)], args := [d1, d2, d3, d4] }
  | _ => none }
def leakFirstsRow : OpenClaim := { program := "ytpgignenhiddkaa", sum := "bb6f66786dffd51f9794562544426aa1b7bb1a66a70ba5960ff8fb7950ab95f6", func := "forecourt/forecourtlaw02.LeakFirsts", spec := "leakFirsts", unfollowed := true, recurses := true, plainKeys := false, apart := false }
def LeakFirstsSaid : Prop := leakFirstsRow.holds Try.pinned (OpenSpec.ofChange leakFirstsSpec)

/-- ITS FALSE NEIGHBOUR: 'it returns false'. Refute it at one input. -/
def leakFirstsWrong : ChangeSpec := { name := "leakFirsts", fn := fun _ => fun
  | [d1, d2, d3, d4] => { results := [.lit (.bool false)], args := [d1, d2, d3, d4] }
  | _ => none }
def LeakFirstsWrongFalsely : Prop := leakFirstsRow.holds Try.pinned (OpenSpec.ofChange leakFirstsWrong)

/-- 'forecourtlaw02.LeakFound': WHATEVER THE INPUT: true; the input reads as it did. -/
def leakFoundSpec : ChangeSpec := { name := "leakFound", fn := fun _ => fun
  | [d1, d2, d3, d4] => { results := [.lit (.bool true)], args := [d1, d2, d3, d4] }
  | _ => none }
def leakFoundRow : OpenClaim := { program := "ytpgignenhiddkaa", sum := "bb6f66786dffd51f9794562544426aa1b7bb1a66a70ba5960ff8fb7950ab95f6", func := "forecourt/forecourtlaw02.LeakFound", spec := "leakFound", unfollowed := true, recurses := true, plainKeys := false, apart := false }
def LeakFoundSaid : Prop := leakFoundRow.holds Try.pinned (OpenSpec.ofChange leakFoundSpec)

/-- ITS FALSE NEIGHBOUR: 'it returns false'. Refute it at one input. -/
def leakFoundWrong : ChangeSpec := { name := "leakFound", fn := fun _ => fun
  | [d1, d2, d3, d4] => { results := [.lit (.bool false)], args := [d1, d2, d3, d4] }
  | _ => none }
def LeakFoundWrongFalsely : Prop := leakFoundRow.holds Try.pinned (OpenSpec.ofChange leakFoundWrong)

/-- 'forecourtlaw02.LeakNarrower': WHATEVER THE INPUT: true; the input reads as it did. -/
def leakNarrowerSpec : ChangeSpec := { name := "leakNarrower", fn := fun _ => fun
  | [d1, d2, d3, d4, d5, d6] => { results := [.lit (.bool true)], args := [d1, d2, d3, d4, d5, d6] }
  | _ => none }
def leakNarrowerRow : OpenClaim := { program := "ytpgignenhiddkaa", sum := "bb6f66786dffd51f9794562544426aa1b7bb1a66a70ba5960ff8fb7950ab95f6", func := "forecourt/forecourtlaw02.LeakNarrower", spec := "leakNarrower", unfollowed := true, recurses := true, plainKeys := false, apart := false }
def LeakNarrowerSaid : Prop := leakNarrowerRow.holds Try.pinned (OpenSpec.ofChange leakNarrowerSpec)

/-- ITS FALSE NEIGHBOUR: 'it returns false'. Refute it at one input. -/
def leakNarrowerWrong : ChangeSpec := { name := "leakNarrower", fn := fun _ => fun
  | [d1, d2, d3, d4, d5, d6] => { results := [.lit (.bool false)], args := [d1, d2, d3, d4, d5, d6] }
  | _ => none }
def LeakNarrowerWrongFalsely : Prop := leakNarrowerRow.holds Try.pinned (OpenSpec.ofChange leakNarrowerWrong)

/-- 'forecourtlaw02.LeakTurned': WHATEVER THE INPUT: true; the input reads as it did. -/
def leakTurnedSpec : ChangeSpec := { name := "leakTurned", fn := fun _ => fun
  | [d1, d2] => { results := [.lit (.bool true)], args := [d1, d2] }
  | _ => none }
def leakTurnedRow : OpenClaim := { program := "ytpgignenhiddkaa", sum := "bb6f66786dffd51f9794562544426aa1b7bb1a66a70ba5960ff8fb7950ab95f6", func := "forecourt/forecourtlaw02.LeakTurned", spec := "leakTurned", unfollowed := true, recurses := true, plainKeys := false, apart := false }
def LeakTurnedSaid : Prop := leakTurnedRow.holds Try.pinned (OpenSpec.ofChange leakTurnedSpec)

/-- ITS FALSE NEIGHBOUR: 'it returns false'. Refute it at one input. -/
def leakTurnedWrong : ChangeSpec := { name := "leakTurned", fn := fun _ => fun
  | [d1, d2] => { results := [.lit (.bool false)], args := [d1, d2] }
  | _ => none }
def LeakTurnedWrongFalsely : Prop := leakTurnedRow.holds Try.pinned (OpenSpec.ofChange leakTurnedWrong)

/-- 'forecourtlaw02.LeakKnown': WHATEVER THE INPUT: true; the input reads as it did. -/
def leakKnownSpec : ChangeSpec := { name := "leakKnown", fn := fun _ => fun
  | [] => { results := [.lit (.bool true)], args := [] }
  | _ => none }
def leakKnownRow : OpenClaim := { program := "ytpgignenhiddkaa", sum := "bb6f66786dffd51f9794562544426aa1b7bb1a66a70ba5960ff8fb7950ab95f6", func := "forecourt/forecourtlaw02.LeakKnown", spec := "leakKnown", unfollowed := true, recurses := true, plainKeys := false, apart := false }
def LeakKnownSaid : Prop := leakKnownRow.holds Try.pinned (OpenSpec.ofChange leakKnownSpec)

/-- ITS FALSE NEIGHBOUR: 'it returns false'. Refute it at one input. -/
def leakKnownWrong : ChangeSpec := { name := "leakKnown", fn := fun _ => fun
  | [] => { results := [.lit (.bool false)], args := [] }
  | _ => none }
def LeakKnownWrongFalsely : Prop := leakKnownRow.holds Try.pinned (OpenSpec.ofChange leakKnownWrong)

/-- 'forecourtlaw02.LeakRates': WHATEVER THE INPUT: true; the input reads as it did. -/
def leakRatesSpec : ChangeSpec := { name := "leakRates", fn := fun _ => fun
  | [d1, d2, d3] => { results := [.lit (.bool true)], args := [d1, d2, d3] }
  | _ => none }
def leakRatesRow : OpenClaim := { program := "ytpgignenhiddkaa", sum := "bb6f66786dffd51f9794562544426aa1b7bb1a66a70ba5960ff8fb7950ab95f6", func := "forecourt/forecourtlaw02.LeakRates", spec := "leakRates", unfollowed := true, recurses := true, plainKeys := false, apart := false }
def LeakRatesSaid : Prop := leakRatesRow.holds Try.pinned (OpenSpec.ofChange leakRatesSpec)

/-- ITS FALSE NEIGHBOUR: 'it returns false'. Refute it at one input. -/
def leakRatesWrong : ChangeSpec := { name := "leakRates", fn := fun _ => fun
  | [d1, d2, d3] => { results := [.lit (.bool false)], args := [d1, d2, d3] }
  | _ => none }
def LeakRatesWrongFalsely : Prop := leakRatesRow.holds Try.pinned (OpenSpec.ofChange leakRatesWrong)

/-- 'forecourtlaw02.LeakReached': WHATEVER THE INPUT: true; the input reads as it did. -/
def leakReachedSpec : ChangeSpec := { name := "leakReached", fn := fun _ => fun
  | [d1, d2] => { results := [.lit (.bool true)], args := [d1, d2] }
  | _ => none }
def leakReachedRow : OpenClaim := { program := "ytpgignenhiddkaa", sum := "bb6f66786dffd51f9794562544426aa1b7bb1a66a70ba5960ff8fb7950ab95f6", func := "forecourt/forecourtlaw02.LeakReached", spec := "leakReached", unfollowed := true, recurses := true, plainKeys := false, apart := false }
def LeakReachedSaid : Prop := leakReachedRow.holds Try.pinned (OpenSpec.ofChange leakReachedSpec)

/-- ITS FALSE NEIGHBOUR: 'it returns false'. Refute it at one input. -/
def leakReachedWrong : ChangeSpec := { name := "leakReached", fn := fun _ => fun
  | [d1, d2] => { results := [.lit (.bool false)], args := [d1, d2] }
  | _ => none }
def LeakReachedWrongFalsely : Prop := leakReachedRow.holds Try.pinned (OpenSpec.ofChange leakReachedWrong)

/-- 'forecourtlaw02.LeakBounded': WHATEVER THE INPUT: true; the input reads as it did. -/
def leakBoundedSpec : ChangeSpec := { name := "leakBounded", fn := fun _ => fun
  | [d1, d2, d3] => { results := [.lit (.bool true)], args := [d1, d2, d3] }
  | _ => none }
def leakBoundedRow : OpenClaim := { program := "ytpgignenhiddkaa", sum := "bb6f66786dffd51f9794562544426aa1b7bb1a66a70ba5960ff8fb7950ab95f6", func := "forecourt/forecourtlaw02.LeakBounded", spec := "leakBounded", unfollowed := true, recurses := true, plainKeys := false, apart := false }
def LeakBoundedSaid : Prop := leakBoundedRow.holds Try.pinned (OpenSpec.ofChange leakBoundedSpec)

/-- ITS FALSE NEIGHBOUR: 'it returns false'. Refute it at one input. -/
def leakBoundedWrong : ChangeSpec := { name := "leakBounded", fn := fun _ => fun
  | [d1, d2, d3] => { results := [.lit (.bool false)], args := [d1, d2, d3] }
  | _ => none }
def LeakBoundedWrongFalsely : Prop := leakBoundedRow.holds Try.pinned (OpenSpec.ofChange leakBoundedWrong)

/-- 'forecourtlaw02.LeakParts': WHATEVER THE INPUT: true; the input reads as it did. -/
def leakPartsSpec : ChangeSpec := { name := "leakParts", fn := fun _ => fun
  | [d1, d2, d3, d4] => { results := [.lit (.bool true)], args := [d1, d2, d3, d4] }
  | _ => none }
def leakPartsRow : OpenClaim := { program := "ytpgignenhiddkaa", sum := "bb6f66786dffd51f9794562544426aa1b7bb1a66a70ba5960ff8fb7950ab95f6", func := "forecourt/forecourtlaw02.LeakParts", spec := "leakParts", unfollowed := true, recurses := true, plainKeys := false, apart := false }
def LeakPartsSaid : Prop := leakPartsRow.holds Try.pinned (OpenSpec.ofChange leakPartsSpec)

/-- ITS FALSE NEIGHBOUR: 'it returns false'. Refute it at one input. -/
def leakPartsWrong : ChangeSpec := { name := "leakParts", fn := fun _ => fun
  | [d1, d2, d3, d4] => { results := [.lit (.bool false)], args := [d1, d2, d3, d4] }
  | _ => none }
def LeakPartsWrongFalsely : Prop := leakPartsRow.holds Try.pinned (OpenSpec.ofChange leakPartsWrong)

/-- 'forecourtlaw02.LeakTested': WHATEVER THE INPUT: true; the input reads as it did. -/
def leakTestedSpec : ChangeSpec := { name := "leakTested", fn := fun _ => fun
  | [d1, d2, d3, d4, d5, d6] => { results := [.lit (.bool true)], args := [d1, d2, d3, d4, d5, d6] }
  | _ => none }
def leakTestedRow : OpenClaim := { program := "ytpgignenhiddkaa", sum := "bb6f66786dffd51f9794562544426aa1b7bb1a66a70ba5960ff8fb7950ab95f6", func := "forecourt/forecourtlaw02.LeakTested", spec := "leakTested", unfollowed := true, recurses := true, plainKeys := false, apart := false }
def LeakTestedSaid : Prop := leakTestedRow.holds Try.pinned (OpenSpec.ofChange leakTestedSpec)

/-- ITS FALSE NEIGHBOUR: 'it returns false'. Refute it at one input. -/
def leakTestedWrong : ChangeSpec := { name := "leakTested", fn := fun _ => fun
  | [d1, d2, d3, d4, d5, d6] => { results := [.lit (.bool false)], args := [d1, d2, d3, d4, d5, d6] }
  | _ => none }
def LeakTestedWrongFalsely : Prop := leakTestedRow.holds Try.pinned (OpenSpec.ofChange leakTestedWrong)

/- THE SECOND FORM. 'bulk': how many values and letters a reading holds, each counted each time it is reached (what is shared counts as often as it is met; a slice's spare places count too). A statement '..UptoSaid' is the law's where the arguments, and the package variables that the reading takes, are together of bulk at most 1048576: NARROWER than '..Said'. Prove '..Said' where nothing that the law and all that it calls make is longer than what came in: it says more and counts as full. Else prove '..UptoSaid'. A law counts once. -/
mutual
def uptoBulk {H : Type} : DataW H → Nat
  | .lit (.string bytes) => bytes.length + 1
  | .lit _ => 1
  | .nil => 1
  | .ptr d => uptoBulk d + 1
  | .slice elems spare => uptoBulkAll elems + uptoBulkAll spare + 1
  | .agg parts => uptoBulkAll parts + 1
  | .iface _ d => uptoBulk d + 1
  | .map entries => uptoBulkEntries entries + 1
  | .held _ => 1
def uptoBulkAll {H : Type} : List (DataW H) → Nat
  | [] => 0
  | d :: r => uptoBulk d + uptoBulkAll r
def uptoBulkEntries {H : Type} : List (Lit × DataW H) → Nat
  | [] => 0
  | x :: r => uptoBulkEntry x + uptoBulkEntries r
def uptoBulkEntry {H : Type} : Lit × DataW H → Nat
  | (.string bytes, d) => bytes.length + uptoBulk d + 1
  | (_, d) => uptoBulk d + 1
 end
def uptoSmall : (H : Type) → List (DataW H) → Bool := fun _ ds => decide (uptoBulkAll ds ≤ 1048576)
def OpenSpec.upto (s : _root_.Go.ChangeSpec) : _root_.Go.OpenSpec := { _root_.Go.OpenSpec.ofChange s with cond := some uptoSmall }

/-- 'forecourtlaw02.LeakSpans', WHERE WHAT IT READS IS OF BULK AT MOST 1048576: true; the input reads as it did. -/
def leakSpansUptoRow : OpenClaim := { program := "ytpgignenhiddkaa", sum := "bb6f66786dffd51f9794562544426aa1b7bb1a66a70ba5960ff8fb7950ab95f6", func := "forecourt/forecourtlaw02.LeakSpans", spec := "leakSpans", unfollowed := true, recurses := true, plainKeys := false, apart := false, narrowed := true }
def LeakSpansUptoSaid : Prop := leakSpansUptoRow.holds Try.pinned (OpenSpec.upto leakSpansSpec)

/-- 'forecourtlaw02.LeakFirsts', WHERE WHAT IT READS IS OF BULK AT MOST 1048576: true; the input reads as it did. -/
def leakFirstsUptoRow : OpenClaim := { program := "ytpgignenhiddkaa", sum := "bb6f66786dffd51f9794562544426aa1b7bb1a66a70ba5960ff8fb7950ab95f6", func := "forecourt/forecourtlaw02.LeakFirsts", spec := "leakFirsts", unfollowed := true, recurses := true, plainKeys := false, apart := false, narrowed := true }
def LeakFirstsUptoSaid : Prop := leakFirstsUptoRow.holds Try.pinned (OpenSpec.upto leakFirstsSpec)

/-- 'forecourtlaw02.LeakFound', WHERE WHAT IT READS IS OF BULK AT MOST 1048576: true; the input reads as it did. -/
def leakFoundUptoRow : OpenClaim := { program := "ytpgignenhiddkaa", sum := "bb6f66786dffd51f9794562544426aa1b7bb1a66a70ba5960ff8fb7950ab95f6", func := "forecourt/forecourtlaw02.LeakFound", spec := "leakFound", unfollowed := true, recurses := true, plainKeys := false, apart := false, narrowed := true }
def LeakFoundUptoSaid : Prop := leakFoundUptoRow.holds Try.pinned (OpenSpec.upto leakFoundSpec)

/-- 'forecourtlaw02.LeakNarrower', WHERE WHAT IT READS IS OF BULK AT MOST 1048576: true; the input reads as it did. -/
def leakNarrowerUptoRow : OpenClaim := { program := "ytpgignenhiddkaa", sum := "bb6f66786dffd51f9794562544426aa1b7bb1a66a70ba5960ff8fb7950ab95f6", func := "forecourt/forecourtlaw02.LeakNarrower", spec := "leakNarrower", unfollowed := true, recurses := true, plainKeys := false, apart := false, narrowed := true }
def LeakNarrowerUptoSaid : Prop := leakNarrowerUptoRow.holds Try.pinned (OpenSpec.upto leakNarrowerSpec)

/-- 'forecourtlaw02.LeakTurned', WHERE WHAT IT READS IS OF BULK AT MOST 1048576: true; the input reads as it did. -/
def leakTurnedUptoRow : OpenClaim := { program := "ytpgignenhiddkaa", sum := "bb6f66786dffd51f9794562544426aa1b7bb1a66a70ba5960ff8fb7950ab95f6", func := "forecourt/forecourtlaw02.LeakTurned", spec := "leakTurned", unfollowed := true, recurses := true, plainKeys := false, apart := false, narrowed := true }
def LeakTurnedUptoSaid : Prop := leakTurnedUptoRow.holds Try.pinned (OpenSpec.upto leakTurnedSpec)

/-- 'forecourtlaw02.LeakKnown', WHERE WHAT IT READS IS OF BULK AT MOST 1048576: true; the input reads as it did. -/
def leakKnownUptoRow : OpenClaim := { program := "ytpgignenhiddkaa", sum := "bb6f66786dffd51f9794562544426aa1b7bb1a66a70ba5960ff8fb7950ab95f6", func := "forecourt/forecourtlaw02.LeakKnown", spec := "leakKnown", unfollowed := true, recurses := true, plainKeys := false, apart := false, narrowed := true }
def LeakKnownUptoSaid : Prop := leakKnownUptoRow.holds Try.pinned (OpenSpec.upto leakKnownSpec)

/-- 'forecourtlaw02.LeakRates', WHERE WHAT IT READS IS OF BULK AT MOST 1048576: true; the input reads as it did. -/
def leakRatesUptoRow : OpenClaim := { program := "ytpgignenhiddkaa", sum := "bb6f66786dffd51f9794562544426aa1b7bb1a66a70ba5960ff8fb7950ab95f6", func := "forecourt/forecourtlaw02.LeakRates", spec := "leakRates", unfollowed := true, recurses := true, plainKeys := false, apart := false, narrowed := true }
def LeakRatesUptoSaid : Prop := leakRatesUptoRow.holds Try.pinned (OpenSpec.upto leakRatesSpec)

/-- 'forecourtlaw02.LeakReached', WHERE WHAT IT READS IS OF BULK AT MOST 1048576: true; the input reads as it did. -/
def leakReachedUptoRow : OpenClaim := { program := "ytpgignenhiddkaa", sum := "bb6f66786dffd51f9794562544426aa1b7bb1a66a70ba5960ff8fb7950ab95f6", func := "forecourt/forecourtlaw02.LeakReached", spec := "leakReached", unfollowed := true, recurses := true, plainKeys := false, apart := false, narrowed := true }
def LeakReachedUptoSaid : Prop := leakReachedUptoRow.holds Try.pinned (OpenSpec.upto leakReachedSpec)

/-- 'forecourtlaw02.LeakBounded', WHERE WHAT IT READS IS OF BULK AT MOST 1048576: true; the input reads as it did. -/
def leakBoundedUptoRow : OpenClaim := { program := "ytpgignenhiddkaa", sum := "bb6f66786dffd51f9794562544426aa1b7bb1a66a70ba5960ff8fb7950ab95f6", func := "forecourt/forecourtlaw02.LeakBounded", spec := "leakBounded", unfollowed := true, recurses := true, plainKeys := false, apart := false, narrowed := true }
def LeakBoundedUptoSaid : Prop := leakBoundedUptoRow.holds Try.pinned (OpenSpec.upto leakBoundedSpec)

/-- 'forecourtlaw02.LeakParts', WHERE WHAT IT READS IS OF BULK AT MOST 1048576: true; the input reads as it did. -/
def leakPartsUptoRow : OpenClaim := { program := "ytpgignenhiddkaa", sum := "bb6f66786dffd51f9794562544426aa1b7bb1a66a70ba5960ff8fb7950ab95f6", func := "forecourt/forecourtlaw02.LeakParts", spec := "leakParts", unfollowed := true, recurses := true, plainKeys := false, apart := false, narrowed := true }
def LeakPartsUptoSaid : Prop := leakPartsUptoRow.holds Try.pinned (OpenSpec.upto leakPartsSpec)

/-- 'forecourtlaw02.LeakTested', WHERE WHAT IT READS IS OF BULK AT MOST 1048576: true; the input reads as it did. -/
def leakTestedUptoRow : OpenClaim := { program := "ytpgignenhiddkaa", sum := "bb6f66786dffd51f9794562544426aa1b7bb1a66a70ba5960ff8fb7950ab95f6", func := "forecourt/forecourtlaw02.LeakTested", spec := "leakTested", unfollowed := true, recurses := true, plainKeys := false, apart := false, narrowed := true }
def LeakTestedUptoSaid : Prop := leakTestedUptoRow.holds Try.pinned (OpenSpec.upto leakTestedSpec)

end Rows
end Go.Proofs.Ytpgignenhiddkaa

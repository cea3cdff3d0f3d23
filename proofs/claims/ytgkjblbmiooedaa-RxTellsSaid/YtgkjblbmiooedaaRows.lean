/-
  No cell of these rows narrows 'for every input' (looked for: loops, veiled, ifaces, maps, wideKeys, modest, calm, conditions, laid).
  DERIVED. THE GIVEN ROWS OF THIS SEAT. 6 by the template 'for every input the law returns true; each argument reads behind the call as it read before'; 0 by the template 'total and deterministic' (their statements: YtgkjblbmiooedaaTotals.lean).
  GIVEN WITH THE SEED: the statements are not yours to turn. If you find one false, say at which input.
  Laid BY PROGRAM, IN A SANDBOX (cutbox-rows.mjs): the forced cells as the released guide's own fill.sh prints them over the translation ce77f93cc8e48df0… (all of the seat's roots in one cut). By AI agents, Wed Nov 11 2026. No macro, syntax, notation, axiom, sorry.
-/
import Derived.Test.YtgkjblbmiooedaaChecked
import GoSem.Claim
import GoSem.ClaimJoined
import GoSem.ClaimMapViews
import Derived.JoinedTies
import Derived.KernelRfl
namespace Go.Proofs.Ytgkjblbmiooedaa
/- THE CELL 'sum', in the pinned program and in every row, IS THE sha256 OF THE DUMP (.gsa) THAT YtgkjblbmiooedaaProg.lean LOADS. Nothing in Lean hashes anything: it is a label: what it is worth is what the hold of that sum in a sandbox is worth. -/
noncomputable def Try.pinned : Pinned := { name := "ytgkjblbmiooedaa", sum := "ce77f93cc8e48df011542896a0f5a577989a89657fa7de76e5911edd581fee28", checked := Try.checked }
namespace Rows
def none {H : Type} : Left H := { results := [], args := [] }

/-- 'cornicelaw04.RxJoins': WHATEVER THE INPUT: true; the input reads as it did. -/
def rxJoinsSpec : ChangeSpec := { name := "rxJoins", fn := fun _ => fun
  | [d1, d2] => { results := [.lit (.bool true)], args := [d1, d2] }
  | _ => none }
def rxJoinsRow : OpenClaim := { program := "ytgkjblbmiooedaa", sum := "ce77f93cc8e48df011542896a0f5a577989a89657fa7de76e5911edd581fee28", func := "cornice/cornicelaw04.RxJoins", spec := "rxJoins", unfollowed := true, recurses := true, plainKeys := false, apart := false }
def RxJoinsSaid : Prop := rxJoinsRow.holds Try.pinned (OpenSpec.ofChange rxJoinsSpec)

/-- ITS FALSE NEIGHBOUR: 'it returns false'. Refute it at one input. -/
def rxJoinsWrong : ChangeSpec := { name := "rxJoins", fn := fun _ => fun
  | [d1, d2] => { results := [.lit (.bool false)], args := [d1, d2] }
  | _ => none }
def RxJoinsWrongFalsely : Prop := rxJoinsRow.holds Try.pinned (OpenSpec.ofChange rxJoinsWrong)

/-- 'cornicelaw04.RxNorm': WHATEVER THE INPUT: true; the input reads as it did. -/
def rxNormSpec : ChangeSpec := { name := "rxNorm", fn := fun _ => fun
  | [d] => { results := [.lit (.bool true)], args := [d] }
  | _ => none }
def rxNormRow : OpenClaim := { program := "ytgkjblbmiooedaa", sum := "ce77f93cc8e48df011542896a0f5a577989a89657fa7de76e5911edd581fee28", func := "cornice/cornicelaw04.RxNorm", spec := "rxNorm", unfollowed := true, recurses := true, plainKeys := false, apart := false }
def RxNormSaid : Prop := rxNormRow.holds Try.pinned (OpenSpec.ofChange rxNormSpec)

/-- ITS FALSE NEIGHBOUR: 'it returns false'. Refute it at one input. -/
def rxNormWrong : ChangeSpec := { name := "rxNorm", fn := fun _ => fun
  | [d] => { results := [.lit (.bool false)], args := [d] }
  | _ => none }
def RxNormWrongFalsely : Prop := rxNormRow.holds Try.pinned (OpenSpec.ofChange rxNormWrong)

/-- 'cornicelaw04.RxBack': WHATEVER THE INPUT: true; the input reads as it did. -/
def rxBackSpec : ChangeSpec := { name := "rxBack", fn := fun _ => fun
  | [d] => { results := [.lit (.bool true)], args := [d] }
  | _ => none }
def rxBackRow : OpenClaim := { program := "ytgkjblbmiooedaa", sum := "ce77f93cc8e48df011542896a0f5a577989a89657fa7de76e5911edd581fee28", func := "cornice/cornicelaw04.RxBack", spec := "rxBack", unfollowed := true, recurses := true, plainKeys := false, apart := false }
def RxBackSaid : Prop := rxBackRow.holds Try.pinned (OpenSpec.ofChange rxBackSpec)

/-- ITS FALSE NEIGHBOUR: 'it returns false'. Refute it at one input. -/
def rxBackWrong : ChangeSpec := { name := "rxBack", fn := fun _ => fun
  | [d] => { results := [.lit (.bool false)], args := [d] }
  | _ => none }
def RxBackWrongFalsely : Prop := rxBackRow.holds Try.pinned (OpenSpec.ofChange rxBackWrong)

/-- 'cornicelaw04.RxMay': WHATEVER THE INPUT: true; the input reads as it did. -/
def rxMaySpec : ChangeSpec := { name := "rxMay", fn := fun _ => fun
  | [d1, d2, d3] => { results := [.lit (.bool true)], args := [d1, d2, d3] }
  | _ => none }
def rxMayRow : OpenClaim := { program := "ytgkjblbmiooedaa", sum := "ce77f93cc8e48df011542896a0f5a577989a89657fa7de76e5911edd581fee28", func := "cornice/cornicelaw04.RxMay", spec := "rxMay", unfollowed := true, recurses := true, plainKeys := false, apart := false }
def RxMaySaid : Prop := rxMayRow.holds Try.pinned (OpenSpec.ofChange rxMaySpec)

/-- ITS FALSE NEIGHBOUR: 'it returns false'. Refute it at one input. -/
def rxMayWrong : ChangeSpec := { name := "rxMay", fn := fun _ => fun
  | [d1, d2, d3] => { results := [.lit (.bool false)], args := [d1, d2, d3] }
  | _ => none }
def RxMayWrongFalsely : Prop := rxMayRow.holds Try.pinned (OpenSpec.ofChange rxMayWrong)

/-- 'cornicelaw04.RxTells': WHATEVER THE INPUT: true; the input reads as it did. -/
def rxTellsSpec : ChangeSpec := { name := "rxTells", fn := fun _ => fun
  | [d1, d2] => { results := [.lit (.bool true)], args := [d1, d2] }
  | _ => none }
def rxTellsRow : OpenClaim := { program := "ytgkjblbmiooedaa", sum := "ce77f93cc8e48df011542896a0f5a577989a89657fa7de76e5911edd581fee28", func := "cornice/cornicelaw04.RxTells", spec := "rxTells", unfollowed := true, recurses := true, plainKeys := false, apart := false }
def RxTellsSaid : Prop := rxTellsRow.holds Try.pinned (OpenSpec.ofChange rxTellsSpec)

/-- ITS FALSE NEIGHBOUR: 'it returns false'. Refute it at one input. -/
def rxTellsWrong : ChangeSpec := { name := "rxTells", fn := fun _ => fun
  | [d1, d2] => { results := [.lit (.bool false)], args := [d1, d2] }
  | _ => none }
def RxTellsWrongFalsely : Prop := rxTellsRow.holds Try.pinned (OpenSpec.ofChange rxTellsWrong)

/-- 'cornicelaw04.RxCounts': WHATEVER THE INPUT: true; the input reads as it did. -/
def rxCountsSpec : ChangeSpec := { name := "rxCounts", fn := fun _ => fun
  | [d] => { results := [.lit (.bool true)], args := [d] }
  | _ => none }
def rxCountsRow : OpenClaim := { program := "ytgkjblbmiooedaa", sum := "ce77f93cc8e48df011542896a0f5a577989a89657fa7de76e5911edd581fee28", func := "cornice/cornicelaw04.RxCounts", spec := "rxCounts", unfollowed := true, recurses := true, plainKeys := false, apart := false }
def RxCountsSaid : Prop := rxCountsRow.holds Try.pinned (OpenSpec.ofChange rxCountsSpec)

/-- ITS FALSE NEIGHBOUR: 'it returns false'. Refute it at one input. -/
def rxCountsWrong : ChangeSpec := { name := "rxCounts", fn := fun _ => fun
  | [d] => { results := [.lit (.bool false)], args := [d] }
  | _ => none }
def RxCountsWrongFalsely : Prop := rxCountsRow.holds Try.pinned (OpenSpec.ofChange rxCountsWrong)

/- THE SECOND FORM. 'bulk': how many values and letters a reading holds, each counted each time it is reached (what is shared counts as often as it is met; a slice's spare places count too). A statement '..UptoSaid' is the law's where the arguments, and the package variables that the reading takes, are together of bulk at most 1048576: NARROWER than '..Said'. Prove '..Said' where nothing that the law and all that it calls make is longer than what came in: it says more and counts as full. Else prove '..UptoSaid'. A law counts once. -/
mutual
def uptoBulk {H : Type} : DataW H → Nat
  | .lit (.string bytes) => bytes.length + 1
  | .lit _ => 1
  | .nil => 1
  | .ptr d => uptoBulk d + 1
  | .slice elems spare => uptoBulkAll elems + uptoBulkAll spare + 1
  | .agg parts => uptoBulkAll parts + 1
  | .iface _ d => uptoBulk d + 1
  | .map entries => uptoBulkEntries entries + 1
  | .held _ => 1
def uptoBulkAll {H : Type} : List (DataW H) → Nat
  | [] => 0
  | d :: r => uptoBulk d + uptoBulkAll r
def uptoBulkEntries {H : Type} : List (Lit × DataW H) → Nat
  | [] => 0
  | x :: r => uptoBulkEntry x + uptoBulkEntries r
def uptoBulkEntry {H : Type} : Lit × DataW H → Nat
  | (.string bytes, d) => bytes.length + uptoBulk d + 1
  | (_, d) => uptoBulk d + 1
 end
def uptoSmall : (H : Type) → List (DataW H) → Bool := fun _ ds => decide (uptoBulkAll ds ≤ 1048576)
def OpenSpec.upto (s : _root_.Go.ChangeSpec) : _root_.Go.OpenSpec := { _root_.Go.OpenSpec.ofChange s with cond := some uptoSmall }

/-- 'cornicelaw04.RxJoins', WHERE WHAT IT READS IS OF BULK AT MOST 1048576: true; the input reads as it did. -/
def rxJoinsUptoRow : OpenClaim := { program := "ytgkjblbmiooedaa", sum := "ce77f93cc8e48df011542896a0f5a577989a89657fa7de76e5911edd581fee28", func := "cornice/cornicelaw04.RxJoins", spec := "rxJoins", unfollowed := true, recurses := true, plainKeys := false, apart := false, narrowed := true }
def RxJoinsUptoSaid : Prop := rxJoinsUptoRow.holds Try.pinned (OpenSpec.upto rxJoinsSpec)

/-- 'cornicelaw04.RxNorm', WHERE WHAT IT READS IS OF BULK AT MOST 1048576: true; the input reads as it did. -/
def rxNormUptoRow : OpenClaim := { program := "ytgkjblbmiooedaa", sum := "ce77f93cc8e48df011542896a0f5a577989a89657fa7de76e5911edd581fee28", func := "cornice/cornicelaw04.RxNorm", spec := "rxNorm", unfollowed := true, recurses := true, plainKeys := false, apart := false, narrowed := true }
def RxNormUptoSaid : Prop := rxNormUptoRow.holds Try.pinned (OpenSpec.upto rxNormSpec)

/-- 'cornicelaw04.RxBack', WHERE WHAT IT READS IS OF BULK AT MOST 1048576: true; the input reads as it did. -/
def rxBackUptoRow : OpenClaim := { program := "ytgkjblbmiooedaa", sum := "ce77f93cc8e48df011542896a0f5a577989a89657fa7de76e5911edd581fee28", func := "cornice/cornicelaw04.RxBack", spec := "rxBack", unfollowed := true, recurses := true, plainKeys := false, apart := false, narrowed := true }
def RxBackUptoSaid : Prop := rxBackUptoRow.holds Try.pinned (OpenSpec.upto rxBackSpec)

/-- 'cornicelaw04.RxMay', WHERE WHAT IT READS IS OF BULK AT MOST 1048576: true; the input reads as it did. -/
def rxMayUptoRow : OpenClaim := { program := "ytgkjblbmiooedaa", sum := "ce77f93cc8e48df011542896a0f5a577989a89657fa7de76e5911edd581fee28", func := "cornice/cornicelaw04.RxMay", spec := "rxMay", unfollowed := true, recurses := true, plainKeys := false, apart := false, narrowed := true }
def RxMayUptoSaid : Prop := rxMayUptoRow.holds Try.pinned (OpenSpec.upto rxMaySpec)

/-- 'cornicelaw04.RxTells', WHERE WHAT IT READS IS OF BULK AT MOST 1048576: true; the input reads as it did. -/
def rxTellsUptoRow : OpenClaim := { program := "ytgkjblbmiooedaa", sum := "ce77f93cc8e48df011542896a0f5a577989a89657fa7de76e5911edd581fee28", func := "cornice/cornicelaw04.RxTells", spec := "rxTells", unfollowed := true, recurses := true, plainKeys := false, apart := false, narrowed := true }
def RxTellsUptoSaid : Prop := rxTellsUptoRow.holds Try.pinned (OpenSpec.upto rxTellsSpec)

/-- 'cornicelaw04.RxCounts', WHERE WHAT IT READS IS OF BULK AT MOST 1048576: true; the input reads as it did. -/
def rxCountsUptoRow : OpenClaim := { program := "ytgkjblbmiooedaa", sum := "ce77f93cc8e48df011542896a0f5a577989a89657fa7de76e5911edd581fee28", func := "cornice/cornicelaw04.RxCounts", spec := "rxCounts", unfollowed := true, recurses := true, plainKeys := false, apart := false, narrowed := true }
def RxCountsUptoSaid : Prop := rxCountsUptoRow.holds Try.pinned (OpenSpec.upto rxCountsSpec)

end Rows
end Go.Proofs.Ytgkjblbmiooedaa

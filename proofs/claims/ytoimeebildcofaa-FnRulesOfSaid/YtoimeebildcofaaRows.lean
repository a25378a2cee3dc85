/-
  No cell of these rows narrows 'for every input' (looked for: loops, veiled, ifaces, maps, wideKeys, modest, calm, conditions, laid).
  DERIVED. THE GIVEN ROWS OF THIS SEAT. 4 by the template 'for every input the law returns true; each argument reads behind the call as it read before'; 0 by the template 'total and deterministic' (their statements: YtoimeebildcofaaTotals.lean).
  GIVEN WITH THE SEED: the statements are not yours to turn. If you find one false, say at which input.
  Laid BY PROGRAM, IN A SANDBOX (cutbox-rows.mjs): the forced cells as the released guide's own fill.sh prints them over the translation e81713084f0a1b46… (all of the seat's roots in one cut). By AI agents, Wed Nov 11 2026. No macro, syntax, notation, axiom, sorry.
-/
import Derived.Test.YtoimeebildcofaaChecked
import GoSem.Claim
import GoSem.ClaimJoined
import GoSem.ClaimMapViews
import Derived.JoinedTies
import Derived.KernelRfl
namespace Go.Proofs.Ytoimeebildcofaa
/- THE CELL 'sum', in the pinned program and in every row, IS THE sha256 OF THE DUMP (.gsa) THAT YtoimeebildcofaaProg.lean LOADS. Nothing in Lean hashes anything: it is a label: what it is worth is what the hold of that sum in a sandbox is worth. -/
noncomputable def Try.pinned : Pinned := { name := "ytoimeebildcofaa", sum := "e81713084f0a1b4676fc1ba8dff7927eb781d0fd93eedd27731887e42d368542", checked := Try.checked }
namespace Rows
def none {H : Type} : Left H := { results := [], args := [] }

/-- 'laws.FnExactTableDrop': WHATEVER THE INPUT: true; the input reads as it did. -/
def fnExactTableDropSpec : ChangeSpec := { name := "fnExactTableDrop", fn := fun _ => fun
  | [d1, d2] => { results := [.lit (.bool true)], args := [d1, d2] }
  | _ => none }
def fnExactTableDropRow : OpenClaim := { program := "ytoimeebildcofaa", sum := "e81713084f0a1b4676fc1ba8dff7927eb781d0fd93eedd27731887e42d368542", func := "loop.example/steerage/laws.FnExactTableDrop", spec := "fnExactTableDrop", inPlace := ["internal/abi.NoEscape", "internal/bytealg.MakeNoZero"], apart := false }
def FnExactTableDropSaid : Prop := fnExactTableDropRow.holds Try.pinned (OpenSpec.ofChange fnExactTableDropSpec)

/-- ITS FALSE NEIGHBOUR: 'it returns false'. Refute it at one input. -/
def fnExactTableDropWrong : ChangeSpec := { name := "fnExactTableDrop", fn := fun _ => fun
  | [d1, d2] => { results := [.lit (.bool false)], args := [d1, d2] }
  | _ => none }
def FnExactTableDropWrongFalsely : Prop := fnExactTableDropRow.holds Try.pinned (OpenSpec.ofChange fnExactTableDropWrong)

/-- 'laws.FnTableDrop': WHATEVER THE INPUT: true; the input reads as it did. -/
def fnTableDropSpec : ChangeSpec := { name := "fnTableDrop", fn := fun _ => fun
  | [d] => { results := [.lit (.bool true)], args := [d] }
  | _ => none }
def fnTableDropRow : OpenClaim := { program := "ytoimeebildcofaa", sum := "e81713084f0a1b4676fc1ba8dff7927eb781d0fd93eedd27731887e42d368542", func := "loop.example/steerage/laws.FnTableDrop", spec := "fnTableDrop", inPlace := ["internal/abi.NoEscape", "internal/bytealg.MakeNoZero"], apart := false }
def FnTableDropSaid : Prop := fnTableDropRow.holds Try.pinned (OpenSpec.ofChange fnTableDropSpec)

/-- ITS FALSE NEIGHBOUR: 'it returns false'. Refute it at one input. -/
def fnTableDropWrong : ChangeSpec := { name := "fnTableDrop", fn := fun _ => fun
  | [d] => { results := [.lit (.bool false)], args := [d] }
  | _ => none }
def FnTableDropWrongFalsely : Prop := fnTableDropRow.holds Try.pinned (OpenSpec.ofChange fnTableDropWrong)

/-- 'laws.FnExactRulesTidy': WHATEVER THE INPUT: true; the input reads as it did. -/
def fnExactRulesTidySpec : ChangeSpec := { name := "fnExactRulesTidy", fn := fun _ => fun
  | [d] => { results := [.lit (.bool true)], args := [d] }
  | _ => none }
def fnExactRulesTidyRow : OpenClaim := { program := "ytoimeebildcofaa", sum := "e81713084f0a1b4676fc1ba8dff7927eb781d0fd93eedd27731887e42d368542", func := "loop.example/steerage/laws.FnExactRulesTidy", spec := "fnExactRulesTidy", unfollowed := true, recurses := true, apart := false }
def FnExactRulesTidySaid : Prop := fnExactRulesTidyRow.holds Try.pinned (OpenSpec.ofChange fnExactRulesTidySpec)

/-- ITS FALSE NEIGHBOUR: 'it returns false'. Refute it at one input. -/
def fnExactRulesTidyWrong : ChangeSpec := { name := "fnExactRulesTidy", fn := fun _ => fun
  | [d] => { results := [.lit (.bool false)], args := [d] }
  | _ => none }
def FnExactRulesTidyWrongFalsely : Prop := fnExactRulesTidyRow.holds Try.pinned (OpenSpec.ofChange fnExactRulesTidyWrong)

/-- 'laws.FnRulesOf': WHATEVER THE INPUT: true; the input reads as it did. -/
def fnRulesOfSpec : ChangeSpec := { name := "fnRulesOf", fn := fun _ => fun
  | [d] => { results := [.lit (.bool true)], args := [d] }
  | _ => none }
def fnRulesOfRow : OpenClaim := { program := "ytoimeebildcofaa", sum := "e81713084f0a1b4676fc1ba8dff7927eb781d0fd93eedd27731887e42d368542", func := "loop.example/steerage/laws.FnRulesOf", spec := "fnRulesOf", unfollowed := true, recurses := true, apart := false }
def FnRulesOfSaid : Prop := fnRulesOfRow.holds Try.pinned (OpenSpec.ofChange fnRulesOfSpec)

/-- ITS FALSE NEIGHBOUR: 'it returns false'. Refute it at one input. -/
def fnRulesOfWrong : ChangeSpec := { name := "fnRulesOf", fn := fun _ => fun
  | [d] => { results := [.lit (.bool false)], args := [d] }
  | _ => none }
def FnRulesOfWrongFalsely : Prop := fnRulesOfRow.holds Try.pinned (OpenSpec.ofChange fnRulesOfWrong)

/- THE SECOND FORM. 'bulk': how many values and letters a reading holds, each counted each time it is reached (what is shared counts as often as it is met; a slice's spare places count too). A statement '..UptoSaid' is the law's where the arguments, and the package variables that the reading takes, are together of bulk at most 1048576: NARROWER than '..Said'. Prove '..Said' where nothing that the law and all that it calls make is longer than what came in: it says more and counts as full. Else prove '..UptoSaid'. A law counts once. -/
mutual
def uptoBulk {H : Type} : DataW H → Nat
  | .lit (.string bytes) => bytes.length + 1
  | .lit _ => 1
  | .nil => 1
  | .ptr d => uptoBulk d + 1
  | .slice elems spare => uptoBulkAll elems + uptoBulkAll spare + 1
  | .agg parts => uptoBulkAll parts + 1
  | .iface _ d => uptoBulk d + 1
  | .map entries => uptoBulkEntries entries + 1
  | .held _ => 1
def uptoBulkAll {H : Type} : List (DataW H) → Nat
  | [] => 0
  | d :: r => uptoBulk d + uptoBulkAll r
def uptoBulkEntries {H : Type} : List (Lit × DataW H) → Nat
  | [] => 0
  | x :: r => uptoBulkEntry x + uptoBulkEntries r
def uptoBulkEntry {H : Type} : Lit × DataW H → Nat
  | (.string bytes, d) => bytes.length + uptoBulk d + 1
  | (_, d) => uptoBulk d + 1
 end
def uptoSmall : (H : Type) → List (DataW H) → Bool := fun _ ds => decide (uptoBulkAll ds ≤ 1048576)
def OpenSpec.upto (s : _root_.Go.ChangeSpec) : _root_.Go.OpenSpec := { _root_.Go.OpenSpec.ofChange s with cond := some uptoSmall }

/-- 'laws.FnExactTableDrop', WHERE WHAT IT READS IS OF BULK AT MOST 1048576: true; the input reads as it did. -/
def fnExactTableDropUptoRow : OpenClaim := { program := "ytoimeebildcofaa", sum := "e81713084f0a1b4676fc1ba8dff7927eb781d0fd93eedd27731887e42d368542", func := "loop.example/steerage/laws.FnExactTableDrop", spec := "fnExactTableDrop", inPlace := ["internal/abi.NoEscape", "internal/bytealg.MakeNoZero"], apart := false, narrowed := true }
def FnExactTableDropUptoSaid : Prop := fnExactTableDropUptoRow.holds Try.pinned (OpenSpec.upto fnExactTableDropSpec)

/-- 'laws.FnTableDrop', WHERE WHAT IT READS IS OF BULK AT MOST 1048576: true; the input reads as it did. -/
def fnTableDropUptoRow : OpenClaim := { program := "ytoimeebildcofaa", sum := "e81713084f0a1b4676fc1ba8dff7927eb781d0fd93eedd27731887e42d368542", func := "loop.example/steerage/laws.FnTableDrop", spec := "fnTableDrop", inPlace := ["internal/abi.NoEscape", "internal/bytealg.MakeNoZero"], apart := false, narrowed := true }
def FnTableDropUptoSaid : Prop := fnTableDropUptoRow.holds Try.pinned (OpenSpec.upto fnTableDropSpec)

/-- 'laws.FnExactRulesTidy', WHERE WHAT IT READS IS OF BULK AT MOST 1048576: true; the input reads as it did. -/
def fnExactRulesTidyUptoRow : OpenClaim := { program := "ytoimeebildcofaa", sum := "e81713084f0a1b4676fc1ba8dff7927eb781d0fd93eedd27731887e42d368542", func := "loop.example/steerage/laws.FnExactRulesTidy", spec := "fnExactRulesTidy", unfollowed := true, recurses := true, apart := false, narrowed := true }
def FnExactRulesTidyUptoSaid : Prop := fnExactRulesTidyUptoRow.holds Try.pinned (OpenSpec.upto fnExactRulesTidySpec)

/-- 'laws.FnRulesOf', WHERE WHAT IT READS IS OF BULK AT MOST 1048576: true; the input reads as it did. -/
def fnRulesOfUptoRow : OpenClaim := { program := "ytoimeebildcofaa", sum := "e81713084f0a1b4676fc1ba8dff7927eb781d0fd93eedd27731887e42d368542", func := "loop.example/steerage/laws.FnRulesOf", spec := "fnRulesOf", unfollowed := true, recurses := true, apart := false, narrowed := true }
def FnRulesOfUptoSaid : Prop := fnRulesOfUptoRow.holds Try.pinned (OpenSpec.upto fnRulesOfSpec)

end Rows
end Go.Proofs.Ytoimeebildcofaa

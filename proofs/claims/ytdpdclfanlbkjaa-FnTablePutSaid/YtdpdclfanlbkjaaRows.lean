/-
  No cell of these rows narrows 'for every input' (looked for: loops, veiled, ifaces, maps, wideKeys, modest, calm, conditions, laid).
  DERIVED. THE GIVEN ROWS OF THIS SEAT. 11 by the template 'for every input the law returns true; each argument reads behind the call as it read before'; 0 by the template 'total and deterministic' (their statements: YtdpdclfanlbkjaaTotals.lean).
  GIVEN WITH THE SEED: the statements are not yours to turn. If you find one false, say at which input.
  Laid BY PROGRAM, IN A SANDBOX (cutbox-rows.mjs): the forced cells as the released guide's own fill.sh prints them over the translation 9a0cb0ca5a3a3e74… (all of the seat's roots in one cut). By AI agents, Wed Nov 11 2026. No macro, syntax, notation, axiom, sorry.
-/
import Derived.Test.YtdpdclfanlbkjaaChecked
import GoSem.Claim
import GoSem.ClaimJoined
import GoSem.ClaimMapViews
import Derived.JoinedTies
import Derived.KernelRfl
namespace Go.Proofs.Ytdpdclfanlbkjaa
/- THE CELL 'sum', in the pinned program and in every row, IS THE sha256 OF THE DUMP (.gsa) THAT YtdpdclfanlbkjaaProg.lean LOADS. Nothing in Lean hashes anything: it is a label: what it is worth is what the hold of that sum in a sandbox is worth. -/
noncomputable def Try.pinned : Pinned := { name := "ytdpdclfanlbkjaa", sum := "9a0cb0ca5a3a3e74e57eec6d92ed972b06c9fea5292577e65292e9a3636d3c29", checked := Try.checked }
namespace Rows
def none {H : Type} : Left H := { results := [], args := [] }

/-- 'laws.FnExactFramePut': WHATEVER THE INPUT: true; the input reads as it did. -/
def fnExactFramePutSpec : ChangeSpec := { name := "fnExactFramePut", fn := fun _ => fun
  | [d] => { results := [.lit (.bool true)], args := [d] }
  | _ => none }
def fnExactFramePutRow : OpenClaim := { program := "ytdpdclfanlbkjaa", sum := "9a0cb0ca5a3a3e74e57eec6d92ed972b06c9fea5292577e65292e9a3636d3c29", func := "loop.example/steerage/laws.FnExactFramePut", spec := "fnExactFramePut", apart := false }
def FnExactFramePutSaid : Prop := fnExactFramePutRow.holds Try.pinned (OpenSpec.ofChange fnExactFramePutSpec)

/-- ITS FALSE NEIGHBOUR: 'it returns false'. Refute it at one input. -/
def fnExactFramePutWrong : ChangeSpec := { name := "fnExactFramePut", fn := fun _ => fun
  | [d] => { results := [.lit (.bool false)], args := [d] }
  | _ => none }
def FnExactFramePutWrongFalsely : Prop := fnExactFramePutRow.holds Try.pinned (OpenSpec.ofChange fnExactFramePutWrong)

/-- 'laws.FnExactRulesOk': WHATEVER THE INPUT: true; the input reads as it did. -/
def fnExactRulesOkSpec : ChangeSpec := { name := "fnExactRulesOk", fn := fun _ => fun
  | [d] => { results := [.lit (.bool true)], args := [d] }
  | _ => none }
def fnExactRulesOkRow : OpenClaim := { program := "ytdpdclfanlbkjaa", sum := "9a0cb0ca5a3a3e74e57eec6d92ed972b06c9fea5292577e65292e9a3636d3c29", func := "loop.example/steerage/laws.FnExactRulesOk", spec := "fnExactRulesOk", unfollowed := true, recurses := true, apart := false }
def FnExactRulesOkSaid : Prop := fnExactRulesOkRow.holds Try.pinned (OpenSpec.ofChange fnExactRulesOkSpec)

/-- ITS FALSE NEIGHBOUR: 'it returns false'. Refute it at one input. -/
def fnExactRulesOkWrong : ChangeSpec := { name := "fnExactRulesOk", fn := fun _ => fun
  | [d] => { results := [.lit (.bool false)], args := [d] }
  | _ => none }
def FnExactRulesOkWrongFalsely : Prop := fnExactRulesOkRow.holds Try.pinned (OpenSpec.ofChange fnExactRulesOkWrong)

/-- 'laws.FnExactFrameCut': WHATEVER THE INPUT: true; the input reads as it did. -/
def fnExactFrameCutSpec : ChangeSpec := { name := "fnExactFrameCut", fn := fun _ => fun
  | [d] => { results := [.lit (.bool true)], args := [d] }
  | _ => none }
def fnExactFrameCutRow : OpenClaim := { program := "ytdpdclfanlbkjaa", sum := "9a0cb0ca5a3a3e74e57eec6d92ed972b06c9fea5292577e65292e9a3636d3c29", func := "loop.example/steerage/laws.FnExactFrameCut", spec := "fnExactFrameCut", apart := false }
def FnExactFrameCutSaid : Prop := fnExactFrameCutRow.holds Try.pinned (OpenSpec.ofChange fnExactFrameCutSpec)

/-- ITS FALSE NEIGHBOUR: 'it returns false'. Refute it at one input. -/
def fnExactFrameCutWrong : ChangeSpec := { name := "fnExactFrameCut", fn := fun _ => fun
  | [d] => { results := [.lit (.bool false)], args := [d] }
  | _ => none }
def FnExactFrameCutWrongFalsely : Prop := fnExactFrameCutRow.holds Try.pinned (OpenSpec.ofChange fnExactFrameCutWrong)

/-- 'laws.FnFramePut': WHATEVER THE INPUT: true; the input reads as it did. -/
def fnFramePutSpec : ChangeSpec := { name := "fnFramePut", fn := fun _ => fun
  | [d] => { results := [.lit (.bool true)], args := [d] }
  | _ => none }
def fnFramePutRow : OpenClaim := { program := "ytdpdclfanlbkjaa", sum := "9a0cb0ca5a3a3e74e57eec6d92ed972b06c9fea5292577e65292e9a3636d3c29", func := "loop.example/steerage/laws.FnFramePut", spec := "fnFramePut", apart := false }
def FnFramePutSaid : Prop := fnFramePutRow.holds Try.pinned (OpenSpec.ofChange fnFramePutSpec)

/-- ITS FALSE NEIGHBOUR: 'it returns false'. Refute it at one input. -/
def fnFramePutWrong : ChangeSpec := { name := "fnFramePut", fn := fun _ => fun
  | [d] => { results := [.lit (.bool false)], args := [d] }
  | _ => none }
def FnFramePutWrongFalsely : Prop := fnFramePutRow.holds Try.pinned (OpenSpec.ofChange fnFramePutWrong)

/-- 'laws.FnFrameCut': WHATEVER THE INPUT: true; the input reads as it did. -/
def fnFrameCutSpec : ChangeSpec := { name := "fnFrameCut", fn := fun _ => fun
  | [d1, d2] => { results := [.lit (.bool true)], args := [d1, d2] }
  | _ => none }
def fnFrameCutRow : OpenClaim := { program := "ytdpdclfanlbkjaa", sum := "9a0cb0ca5a3a3e74e57eec6d92ed972b06c9fea5292577e65292e9a3636d3c29", func := "loop.example/steerage/laws.FnFrameCut", spec := "fnFrameCut", apart := false }
def FnFrameCutSaid : Prop := fnFrameCutRow.holds Try.pinned (OpenSpec.ofChange fnFrameCutSpec)

/-- ITS FALSE NEIGHBOUR: 'it returns false'. Refute it at one input. -/
def fnFrameCutWrong : ChangeSpec := { name := "fnFrameCut", fn := fun _ => fun
  | [d1, d2] => { results := [.lit (.bool false)], args := [d1, d2] }
  | _ => none }
def FnFrameCutWrongFalsely : Prop := fnFrameCutRow.holds Try.pinned (OpenSpec.ofChange fnFrameCutWrong)

/-- 'laws.FnExactRulesOf': WHATEVER THE INPUT: true; the input reads as it did. -/
def fnExactRulesOfSpec : ChangeSpec := { name := "fnExactRulesOf", fn := fun _ => fun
  | [d1, d2] => { results := [.lit (.bool true)], args := [d1, d2] }
  | _ => none }
def fnExactRulesOfRow : OpenClaim := { program := "ytdpdclfanlbkjaa", sum := "9a0cb0ca5a3a3e74e57eec6d92ed972b06c9fea5292577e65292e9a3636d3c29", func := "loop.example/steerage/laws.FnExactRulesOf", spec := "fnExactRulesOf", unfollowed := true, recurses := true, apart := false }
def FnExactRulesOfSaid : Prop := fnExactRulesOfRow.holds Try.pinned (OpenSpec.ofChange fnExactRulesOfSpec)

/-- ITS FALSE NEIGHBOUR: 'it returns false'. Refute it at one input. -/
def fnExactRulesOfWrong : ChangeSpec := { name := "fnExactRulesOf", fn := fun _ => fun
  | [d1, d2] => { results := [.lit (.bool false)], args := [d1, d2] }
  | _ => none }
def FnExactRulesOfWrongFalsely : Prop := fnExactRulesOfRow.holds Try.pinned (OpenSpec.ofChange fnExactRulesOfWrong)

/-- 'laws.FnExactRulesProg': WHATEVER THE INPUT: true; the input reads as it did. -/
def fnExactRulesProgSpec : ChangeSpec := { name := "fnExactRulesProg", fn := fun _ => fun
  | [d] => { results := [.lit (.bool true)], args := [d] }
  | _ => none }
def fnExactRulesProgRow : OpenClaim := { program := "ytdpdclfanlbkjaa", sum := "9a0cb0ca5a3a3e74e57eec6d92ed972b06c9fea5292577e65292e9a3636d3c29", func := "loop.example/steerage/laws.FnExactRulesProg", spec := "fnExactRulesProg", unfollowed := true, recurses := true, apart := false }
def FnExactRulesProgSaid : Prop := fnExactRulesProgRow.holds Try.pinned (OpenSpec.ofChange fnExactRulesProgSpec)

/-- ITS FALSE NEIGHBOUR: 'it returns false'. Refute it at one input. -/
def fnExactRulesProgWrong : ChangeSpec := { name := "fnExactRulesProg", fn := fun _ => fun
  | [d] => { results := [.lit (.bool false)], args := [d] }
  | _ => none }
def FnExactRulesProgWrongFalsely : Prop := fnExactRulesProgRow.holds Try.pinned (OpenSpec.ofChange fnExactRulesProgWrong)

/-- 'laws.FnTablePut': WHATEVER THE INPUT: true; the input reads as it did. -/
def fnTablePutSpec : ChangeSpec := { name := "fnTablePut", fn := fun _ => fun
  | [d1, d2] => { results := [.lit (.bool true)], args := [d1, d2] }
  | _ => none }
def fnTablePutRow : OpenClaim := { program := "ytdpdclfanlbkjaa", sum := "9a0cb0ca5a3a3e74e57eec6d92ed972b06c9fea5292577e65292e9a3636d3c29", func := "loop.example/steerage/laws.FnTablePut", spec := "fnTablePut", apart := false }
def FnTablePutSaid : Prop := fnTablePutRow.holds Try.pinned (OpenSpec.ofChange fnTablePutSpec)

/-- ITS FALSE NEIGHBOUR: 'it returns false'. Refute it at one input. -/
def fnTablePutWrong : ChangeSpec := { name := "fnTablePut", fn := fun _ => fun
  | [d1, d2] => { results := [.lit (.bool false)], args := [d1, d2] }
  | _ => none }
def FnTablePutWrongFalsely : Prop := fnTablePutRow.holds Try.pinned (OpenSpec.ofChange fnTablePutWrong)

/-- 'laws.FnTableNew': WHATEVER THE INPUT: true; the input reads as it did. -/
def fnTableNewSpec : ChangeSpec := { name := "fnTableNew", fn := fun _ => fun
  | [d] => { results := [.lit (.bool true)], args := [d] }
  | _ => none }
def fnTableNewRow : OpenClaim := { program := "ytdpdclfanlbkjaa", sum := "9a0cb0ca5a3a3e74e57eec6d92ed972b06c9fea5292577e65292e9a3636d3c29", func := "loop.example/steerage/laws.FnTableNew", spec := "fnTableNew", inPlace := ["internal/abi.NoEscape", "internal/bytealg.MakeNoZero"], apart := false }
def FnTableNewSaid : Prop := fnTableNewRow.holds Try.pinned (OpenSpec.ofChange fnTableNewSpec)

/-- ITS FALSE NEIGHBOUR: 'it returns false'. Refute it at one input. -/
def fnTableNewWrong : ChangeSpec := { name := "fnTableNew", fn := fun _ => fun
  | [d] => { results := [.lit (.bool false)], args := [d] }
  | _ => none }
def FnTableNewWrongFalsely : Prop := fnTableNewRow.holds Try.pinned (OpenSpec.ofChange fnTableNewWrong)

/-- 'laws.FnExactTablePut': WHATEVER THE INPUT: true; the input reads as it did. -/
def fnExactTablePutSpec : ChangeSpec := { name := "fnExactTablePut", fn := fun _ => fun
  | [d1, d2, d3] => { results := [.lit (.bool true)], args := [d1, d2, d3] }
  | _ => none }
def fnExactTablePutRow : OpenClaim := { program := "ytdpdclfanlbkjaa", sum := "9a0cb0ca5a3a3e74e57eec6d92ed972b06c9fea5292577e65292e9a3636d3c29", func := "loop.example/steerage/laws.FnExactTablePut", spec := "fnExactTablePut", apart := false }
def FnExactTablePutSaid : Prop := fnExactTablePutRow.holds Try.pinned (OpenSpec.ofChange fnExactTablePutSpec)

/-- ITS FALSE NEIGHBOUR: 'it returns false'. Refute it at one input. -/
def fnExactTablePutWrong : ChangeSpec := { name := "fnExactTablePut", fn := fun _ => fun
  | [d1, d2, d3] => { results := [.lit (.bool false)], args := [d1, d2, d3] }
  | _ => none }
def FnExactTablePutWrongFalsely : Prop := fnExactTablePutRow.holds Try.pinned (OpenSpec.ofChange fnExactTablePutWrong)

/-- 'laws.FnExactTableNew': WHATEVER THE INPUT: true; the input reads as it did. -/
def fnExactTableNewSpec : ChangeSpec := { name := "fnExactTableNew", fn := fun _ => fun
  | [d1, d2, d3] => { results := [.lit (.bool true)], args := [d1, d2, d3] }
  | _ => none }
def fnExactTableNewRow : OpenClaim := { program := "ytdpdclfanlbkjaa", sum := "9a0cb0ca5a3a3e74e57eec6d92ed972b06c9fea5292577e65292e9a3636d3c29", func := "loop.example/steerage/laws.FnExactTableNew", spec := "fnExactTableNew", inPlace := ["internal/abi.NoEscape", "internal/bytealg.MakeNoZero"], apart := false }
def FnExactTableNewSaid : Prop := fnExactTableNewRow.holds Try.pinned (OpenSpec.ofChange fnExactTableNewSpec)

/-- ITS FALSE NEIGHBOUR: 'it returns false'. Refute it at one input. -/
def fnExactTableNewWrong : ChangeSpec := { name := "fnExactTableNew", fn := fun _ => fun
  | [d1, d2, d3] => { results := [.lit (.bool false)], args := [d1, d2, d3] }
  | _ => none }
def FnExactTableNewWrongFalsely : Prop := fnExactTableNewRow.holds Try.pinned (OpenSpec.ofChange fnExactTableNewWrong)

/- THE SECOND FORM. 'bulk': how many values and letters a reading holds, each counted each time it is reached (what is shared counts as often as it is met; a slice's spare places count too). A statement '..UptoSaid' is the law's where the arguments, and the package variables that the reading takes, are together of bulk at most 1048576: NARROWER than '..Said'. Prove '..Said' where nothing that the law and all that it calls make is longer than what came in: it says more and counts as full. Else prove '..UptoSaid'. A law counts once. -/
mutual
def uptoBulk {H : Type} : DataW H → Nat
  | .lit (.string bytes) => bytes.length + 1
  | .lit _ => 1
  | .nil => 1
  | .ptr d => uptoBulk d + 1
  | .slice elems spare => uptoBulkAll elems + uptoBulkAll spare + 1
  | .agg parts => uptoBulkAll parts + 1
  | .iface _ d => uptoBulk d + 1
  | .map entries => uptoBulkEntries entries + 1
  | .held _ => 1
def uptoBulkAll {H : Type} : List (DataW H) → Nat
  | [] => 0
  | d :: r => uptoBulk d + uptoBulkAll r
def uptoBulkEntries {H : Type} : List (Lit × DataW H) → Nat
  | [] => 0
  | x :: r => uptoBulkEntry x + uptoBulkEntries r
def uptoBulkEntry {H : Type} : Lit × DataW H → Nat
  | (.string bytes, d) => bytes.length + uptoBulk d + 1
  | (_, d) => uptoBulk d + 1
 end
def uptoSmall : (H : Type) → List (DataW H) → Bool := fun _ ds => decide (uptoBulkAll ds ≤ 1048576)
def OpenSpec.upto (s : _root_.Go.ChangeSpec) : _root_.Go.OpenSpec := { _root_.Go.OpenSpec.ofChange s with cond := some uptoSmall }

/-- 'laws.FnExactFramePut', WHERE WHAT IT READS IS OF BULK AT MOST 1048576: true; the input reads as it did. -/
def fnExactFramePutUptoRow : OpenClaim := { program := "ytdpdclfanlbkjaa", sum := "9a0cb0ca5a3a3e74e57eec6d92ed972b06c9fea5292577e65292e9a3636d3c29", func := "loop.example/steerage/laws.FnExactFramePut", spec := "fnExactFramePut", apart := false, narrowed := true }
def FnExactFramePutUptoSaid : Prop := fnExactFramePutUptoRow.holds Try.pinned (OpenSpec.upto fnExactFramePutSpec)

/-- 'laws.FnExactRulesOk', WHERE WHAT IT READS IS OF BULK AT MOST 1048576: true; the input reads as it did. -/
def fnExactRulesOkUptoRow : OpenClaim := { program := "ytdpdclfanlbkjaa", sum := "9a0cb0ca5a3a3e74e57eec6d92ed972b06c9fea5292577e65292e9a3636d3c29", func := "loop.example/steerage/laws.FnExactRulesOk", spec := "fnExactRulesOk", unfollowed := true, recurses := true, apart := false, narrowed := true }
def FnExactRulesOkUptoSaid : Prop := fnExactRulesOkUptoRow.holds Try.pinned (OpenSpec.upto fnExactRulesOkSpec)

/-- 'laws.FnExactFrameCut', WHERE WHAT IT READS IS OF BULK AT MOST 1048576: true; the input reads as it did. -/
def fnExactFrameCutUptoRow : OpenClaim := { program := "ytdpdclfanlbkjaa", sum := "9a0cb0ca5a3a3e74e57eec6d92ed972b06c9fea5292577e65292e9a3636d3c29", func := "loop.example/steerage/laws.FnExactFrameCut", spec := "fnExactFrameCut", apart := false, narrowed := true }
def FnExactFrameCutUptoSaid : Prop := fnExactFrameCutUptoRow.holds Try.pinned (OpenSpec.upto fnExactFrameCutSpec)

/-- 'laws.FnFramePut', WHERE WHAT IT READS IS OF BULK AT MOST 1048576: true; the input reads as it did. -/
def fnFramePutUptoRow : OpenClaim := { program := "ytdpdclfanlbkjaa", sum := "9a0cb0ca5a3a3e74e57eec6d92ed972b06c9fea5292577e65292e9a3636d3c29", func := "loop.example/steerage/laws.FnFramePut", spec := "fnFramePut", apart := false, narrowed := true }
def FnFramePutUptoSaid : Prop := fnFramePutUptoRow.holds Try.pinned (OpenSpec.upto fnFramePutSpec)

/-- 'laws.FnFrameCut', WHERE WHAT IT READS IS OF BULK AT MOST 1048576: true; the input reads as it did. -/
def fnFrameCutUptoRow : OpenClaim := { program := "ytdpdclfanlbkjaa", sum := "9a0cb0ca5a3a3e74e57eec6d92ed972b06c9fea5292577e65292e9a3636d3c29", func := "loop.example/steerage/laws.FnFrameCut", spec := "fnFrameCut", apart := false, narrowed := true }
def FnFrameCutUptoSaid : Prop := fnFrameCutUptoRow.holds Try.pinned (OpenSpec.upto fnFrameCutSpec)

/-- 'laws.FnExactRulesOf', WHERE WHAT IT READS IS OF BULK AT MOST 1048576: true; the input reads as it did. -/
def fnExactRulesOfUptoRow : OpenClaim := { program := "ytdpdclfanlbkjaa", sum := "9a0cb0ca5a3a3e74e57eec6d92ed972b06c9fea5292577e65292e9a3636d3c29", func := "loop.example/steerage/laws.FnExactRulesOf", spec := "fnExactRulesOf", unfollowed := true, recurses := true, apart := false, narrowed := true }
def FnExactRulesOfUptoSaid : Prop := fnExactRulesOfUptoRow.holds Try.pinned (OpenSpec.upto fnExactRulesOfSpec)

/-- 'laws.FnExactRulesProg', WHERE WHAT IT READS IS OF BULK AT MOST 1048576: true; the input reads as it did. -/
def fnExactRulesProgUptoRow : OpenClaim := { program := "ytdpdclfanlbkjaa", sum := "9a0cb0ca5a3a3e74e57eec6d92ed972b06c9fea5292577e65292e9a3636d3c29", func := "loop.example/steerage/laws.FnExactRulesProg", spec := "fnExactRulesProg", unfollowed := true, recurses := true, apart := false, narrowed := true }
def FnExactRulesProgUptoSaid : Prop := fnExactRulesProgUptoRow.holds Try.pinned (OpenSpec.upto fnExactRulesProgSpec)

/-- 'laws.FnTablePut', WHERE WHAT IT READS IS OF BULK AT MOST 1048576: true; the input reads as it did. -/
def fnTablePutUptoRow : OpenClaim := { program := "ytdpdclfanlbkjaa", sum := "9a0cb0ca5a3a3e74e57eec6d92ed972b06c9fea5292577e65292e9a3636d3c29", func := "loop.example/steerage/laws.FnTablePut", spec := "fnTablePut", apart := false, narrowed := true }
def FnTablePutUptoSaid : Prop := fnTablePutUptoRow.holds Try.pinned (OpenSpec.upto fnTablePutSpec)

/-- 'laws.FnTableNew', WHERE WHAT IT READS IS OF BULK AT MOST 1048576: true; the input reads as it did. -/
def fnTableNewUptoRow : OpenClaim := { program := "ytdpdclfanlbkjaa", sum := "9a0cb0ca5a3a3e74e57eec6d92ed972b06c9fea5292577e65292e9a3636d3c29", func := "loop.example/steerage/laws.FnTableNew", spec := "fnTableNew", inPlace := ["internal/abi.NoEscape", "internal/bytealg.MakeNoZero"], apart := false, narrowed := true }
def FnTableNewUptoSaid : Prop := fnTableNewUptoRow.holds Try.pinned (OpenSpec.upto fnTableNewSpec)

/-- 'laws.FnExactTablePut', WHERE WHAT IT READS IS OF BULK AT MOST 1048576: true; the input reads as it did. -/
def fnExactTablePutUptoRow : OpenClaim := { program := "ytdpdclfanlbkjaa", sum := "9a0cb0ca5a3a3e74e57eec6d92ed972b06c9fea5292577e65292e9a3636d3c29", func := "loop.example/steerage/laws.FnExactTablePut", spec := "fnExactTablePut", apart := false, narrowed := true }
def FnExactTablePutUptoSaid : Prop := fnExactTablePutUptoRow.holds Try.pinned (OpenSpec.upto fnExactTablePutSpec)

/-- 'laws.FnExactTableNew', WHERE WHAT IT READS IS OF BULK AT MOST 1048576: true; the input reads as it did. -/
def fnExactTableNewUptoRow : OpenClaim := { program := "ytdpdclfanlbkjaa", sum := "9a0cb0ca5a3a3e74e57eec6d92ed972b06c9fea5292577e65292e9a3636d3c29", func := "loop.example/steerage/laws.FnExactTableNew", spec := "fnExactTableNew", inPlace := ["internal/abi.NoEscape", "internal/bytealg.MakeNoZero"], apart := false, narrowed := true }
def FnExactTableNewUptoSaid : Prop := fnExactTableNewUptoRow.holds Try.pinned (OpenSpec.upto fnExactTableNewSpec)

end Rows
end Go.Proofs.Ytdpdclfanlbkjaa

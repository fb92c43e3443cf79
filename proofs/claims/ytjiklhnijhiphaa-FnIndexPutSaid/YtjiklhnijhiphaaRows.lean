/-
  No cell of these rows narrows 'for every input' (looked for: loops, veiled, ifaces, maps, wideKeys, modest, calm, conditions, laid).
  DERIVED. THE GIVEN ROWS OF THIS SEAT. 12 by the template 'for every input the law returns true; each argument reads behind the call as it read before'; 0 by the template 'total and deterministic' (their statements: YtjiklhnijhiphaaTotals.lean).
  GIVEN WITH THE SEED: the statements are not yours to turn. If you find one false, say at which input.
  Laid BY PROGRAM, IN A SANDBOX (cutbox-rows.mjs): the forced cells as the released guide's own fill.sh prints them over the translation 527628fafd595f44… (all of the seat's roots in one cut). By AI agents, Wed Nov 11 2026. No macro, syntax, notation, axiom, sorry.
-/
import Derived.Test.YtjiklhnijhiphaaChecked
import GoSem.Claim
import GoSem.ClaimJoined
import GoSem.ClaimMapViews
import Derived.JoinedTies
import Derived.KernelRfl
namespace Go.Proofs.Ytjiklhnijhiphaa
/- THE CELL 'sum', in the pinned program and in every row, IS THE sha256 OF THE DUMP (.gsa) THAT YtjiklhnijhiphaaProg.lean LOADS. Nothing in Lean hashes anything: it is a label: what it is worth is what the hold of that sum in a sandbox is worth. -/
noncomputable def Try.pinned : Pinned := { name := "ytjiklhnijhiphaa", sum := "527628fafd595f4470959a2790e41e011e976c51146364777ff80a53e73961a9", checked := Try.checked }
namespace Rows
def none {H : Type} : Left H := { results := [], args := [] }

/-- 'laws.FnExactIndexOk': WHATEVER THE INPUT: true; the input reads as it did. -/
def fnExactIndexOkSpec : ChangeSpec := { name := "fnExactIndexOk", fn := fun _ => fun
  | [d] => { results := [.lit (.bool true)], args := [d] }
  | _ => none }
def fnExactIndexOkRow : OpenClaim := { program := "ytjiklhnijhiphaa", sum := "527628fafd595f4470959a2790e41e011e976c51146364777ff80a53e73961a9", func := "loop.example/custumal/laws.FnExactIndexOk", spec := "fnExactIndexOk", apart := false }
def FnExactIndexOkSaid : Prop := fnExactIndexOkRow.holds Try.pinned (OpenSpec.ofChange fnExactIndexOkSpec)

/-- ITS FALSE NEIGHBOUR: 'it returns false'. Refute it at one input. -/
def fnExactIndexOkWrong : ChangeSpec := { name := "fnExactIndexOk", fn := fun _ => fun
  | [d] => { results := [.lit (.bool false)], args := [d] }
  | _ => none }
def FnExactIndexOkWrongFalsely : Prop := fnExactIndexOkRow.holds Try.pinned (OpenSpec.ofChange fnExactIndexOkWrong)

/-- 'laws.FnExactIndexOnce': WHATEVER THE INPUT: true; the input reads as it did. -/
def fnExactIndexOnceSpec : ChangeSpec := { name := "fnExactIndexOnce", fn := fun _ => fun
  | [d] => { results := [.lit (.bool true)], args := [d] }
  | _ => none }
def fnExactIndexOnceRow : OpenClaim := { program := "ytjiklhnijhiphaa", sum := "527628fafd595f4470959a2790e41e011e976c51146364777ff80a53e73961a9", func := "loop.example/custumal/laws.FnExactIndexOnce", spec := "fnExactIndexOnce", apart := false }
def FnExactIndexOnceSaid : Prop := fnExactIndexOnceRow.holds Try.pinned (OpenSpec.ofChange fnExactIndexOnceSpec)

/-- ITS FALSE NEIGHBOUR: 'it returns false'. Refute it at one input. -/
def fnExactIndexOnceWrong : ChangeSpec := { name := "fnExactIndexOnce", fn := fun _ => fun
  | [d] => { results := [.lit (.bool false)], args := [d] }
  | _ => none }
def FnExactIndexOnceWrongFalsely : Prop := fnExactIndexOnceRow.holds Try.pinned (OpenSpec.ofChange fnExactIndexOnceWrong)

/-- 'laws.FnIndexAll': WHATEVER THE INPUT: true; the input reads as it did. -/
def fnIndexAllSpec : ChangeSpec := { name := "fnIndexAll", fn := fun _ => fun
  | [d] => { results := [.lit (.bool true)], args := [d] }
  | _ => none }
def fnIndexAllRow : OpenClaim := { program := "ytjiklhnijhiphaa", sum := "527628fafd595f4470959a2790e41e011e976c51146364777ff80a53e73961a9", func := "loop.example/custumal/laws.FnIndexAll", spec := "fnIndexAll", unfollowed := true, recurses := true, apart := false }
def FnIndexAllSaid : Prop := fnIndexAllRow.holds Try.pinned (OpenSpec.ofChange fnIndexAllSpec)

/-- ITS FALSE NEIGHBOUR: 'it returns false'. Refute it at one input. -/
def fnIndexAllWrong : ChangeSpec := { name := "fnIndexAll", fn := fun _ => fun
  | [d] => { results := [.lit (.bool false)], args := [d] }
  | _ => none }
def FnIndexAllWrongFalsely : Prop := fnIndexAllRow.holds Try.pinned (OpenSpec.ofChange fnIndexAllWrong)

/-- 'laws.FnIndexOnce': WHATEVER THE INPUT: true; the input reads as it did. -/
def fnIndexOnceSpec : ChangeSpec := { name := "fnIndexOnce", fn := fun _ => fun
  | [d] => { results := [.lit (.bool true)], args := [d] }
  | _ => none }
def fnIndexOnceRow : OpenClaim := { program := "ytjiklhnijhiphaa", sum := "527628fafd595f4470959a2790e41e011e976c51146364777ff80a53e73961a9", func := "loop.example/custumal/laws.FnIndexOnce", spec := "fnIndexOnce", unfollowed := true, recurses := true, apart := false }
def FnIndexOnceSaid : Prop := fnIndexOnceRow.holds Try.pinned (OpenSpec.ofChange fnIndexOnceSpec)

/-- ITS FALSE NEIGHBOUR: 'it returns false'. Refute it at one input. -/
def fnIndexOnceWrong : ChangeSpec := { name := "fnIndexOnce", fn := fun _ => fun
  | [d] => { results := [.lit (.bool false)], args := [d] }
  | _ => none }
def FnIndexOnceWrongFalsely : Prop := fnIndexOnceRow.holds Try.pinned (OpenSpec.ofChange fnIndexOnceWrong)

/-- 'laws.FnIndexSpan': WHATEVER THE INPUT: true; the input reads as it did. -/
def fnIndexSpanSpec : ChangeSpec := { name := "fnIndexSpan", fn := fun _ => fun
  | [d] => { results := [.lit (.bool true)], args := [d] }
  | _ => none }
def fnIndexSpanRow : OpenClaim := { program := "ytjiklhnijhiphaa", sum := "527628fafd595f4470959a2790e41e011e976c51146364777ff80a53e73961a9", func := "loop.example/custumal/laws.FnIndexSpan", spec := "fnIndexSpan", unfollowed := true, recurses := true, apart := false }
def FnIndexSpanSaid : Prop := fnIndexSpanRow.holds Try.pinned (OpenSpec.ofChange fnIndexSpanSpec)

/-- ITS FALSE NEIGHBOUR: 'it returns false'. Refute it at one input. -/
def fnIndexSpanWrong : ChangeSpec := { name := "fnIndexSpan", fn := fun _ => fun
  | [d] => { results := [.lit (.bool false)], args := [d] }
  | _ => none }
def FnIndexSpanWrongFalsely : Prop := fnIndexSpanRow.holds Try.pinned (OpenSpec.ofChange fnIndexSpanWrong)

/-- 'laws.FnExactCondOk': WHATEVER THE INPUT: true; the input reads as it did. -/
def fnExactCondOkSpec : ChangeSpec := { name := "fnExactCondOk", fn := fun _ => fun
  | [d1, d2] => { results := [.lit (.bool true)], args := [d1, d2] }
  | _ => none }
def fnExactCondOkRow : OpenClaim := { program := "ytjiklhnijhiphaa", sum := "527628fafd595f4470959a2790e41e011e976c51146364777ff80a53e73961a9", func := "loop.example/custumal/laws.FnExactCondOk", spec := "fnExactCondOk", unfollowed := true, recurses := true, apart := false }
def FnExactCondOkSaid : Prop := fnExactCondOkRow.holds Try.pinned (OpenSpec.ofChange fnExactCondOkSpec)

/-- ITS FALSE NEIGHBOUR: 'it returns false'. Refute it at one input. -/
def fnExactCondOkWrong : ChangeSpec := { name := "fnExactCondOk", fn := fun _ => fun
  | [d1, d2] => { results := [.lit (.bool false)], args := [d1, d2] }
  | _ => none }
def FnExactCondOkWrongFalsely : Prop := fnExactCondOkRow.holds Try.pinned (OpenSpec.ofChange fnExactCondOkWrong)

/-- 'laws.FnExactIndexFind': WHATEVER THE INPUT: true; the input reads as it did. -/
def fnExactIndexFindSpec : ChangeSpec := { name := "fnExactIndexFind", fn := fun _ => fun
  | [d1, d2] => { results := [.lit (.bool true)], args := [d1, d2] }
  | _ => none }
def fnExactIndexFindRow : OpenClaim := { program := "ytjiklhnijhiphaa", sum := "527628fafd595f4470959a2790e41e011e976c51146364777ff80a53e73961a9", func := "loop.example/custumal/laws.FnExactIndexFind", spec := "fnExactIndexFind", unfollowed := true, recurses := true, apart := false }
def FnExactIndexFindSaid : Prop := fnExactIndexFindRow.holds Try.pinned (OpenSpec.ofChange fnExactIndexFindSpec)

/-- ITS FALSE NEIGHBOUR: 'it returns false'. Refute it at one input. -/
def fnExactIndexFindWrong : ChangeSpec := { name := "fnExactIndexFind", fn := fun _ => fun
  | [d1, d2] => { results := [.lit (.bool false)], args := [d1, d2] }
  | _ => none }
def FnExactIndexFindWrongFalsely : Prop := fnExactIndexFindRow.holds Try.pinned (OpenSpec.ofChange fnExactIndexFindWrong)

/-- 'laws.FnExactIndexSpan': WHATEVER THE INPUT: true; the input reads as it did. -/
def fnExactIndexSpanSpec : ChangeSpec := { name := "fnExactIndexSpan", fn := fun _ => fun
  | [d1, d2, d3] => { results := [.lit (.bool true)], args := [d1, d2, d3] }
  | _ => none }
def fnExactIndexSpanRow : OpenClaim := { program := "ytjiklhnijhiphaa", sum := "527628fafd595f4470959a2790e41e011e976c51146364777ff80a53e73961a9", func := "loop.example/custumal/laws.FnExactIndexSpan", spec := "fnExactIndexSpan", unfollowed := true, recurses := true, apart := false }
def FnExactIndexSpanSaid : Prop := fnExactIndexSpanRow.holds Try.pinned (OpenSpec.ofChange fnExactIndexSpanSpec)

/-- ITS FALSE NEIGHBOUR: 'it returns false'. Refute it at one input. -/
def fnExactIndexSpanWrong : ChangeSpec := { name := "fnExactIndexSpan", fn := fun _ => fun
  | [d1, d2, d3] => { results := [.lit (.bool false)], args := [d1, d2, d3] }
  | _ => none }
def FnExactIndexSpanWrongFalsely : Prop := fnExactIndexSpanRow.holds Try.pinned (OpenSpec.ofChange fnExactIndexSpanWrong)

/-- 'laws.FnExactIndexOff': WHATEVER THE INPUT: true; the input reads as it did. -/
def fnExactIndexOffSpec : ChangeSpec := { name := "fnExactIndexOff", fn := fun _ => fun
  | [d1, d2] => { results := [.lit (.bool true)], args := [d1, d2] }
  | _ => none }
def fnExactIndexOffRow : OpenClaim := { program := "ytjiklhnijhiphaa", sum := "527628fafd595f4470959a2790e41e011e976c51146364777ff80a53e73961a9", func := "loop.example/custumal/laws.FnExactIndexOff", spec := "fnExactIndexOff", apart := false }
def FnExactIndexOffSaid : Prop := fnExactIndexOffRow.holds Try.pinned (OpenSpec.ofChange fnExactIndexOffSpec)

/-- ITS FALSE NEIGHBOUR: 'it returns false'. Refute it at one input. -/
def fnExactIndexOffWrong : ChangeSpec := { name := "fnExactIndexOff", fn := fun _ => fun
  | [d1, d2] => { results := [.lit (.bool false)], args := [d1, d2] }
  | _ => none }
def FnExactIndexOffWrongFalsely : Prop := fnExactIndexOffRow.holds Try.pinned (OpenSpec.ofChange fnExactIndexOffWrong)

/-- 'laws.FnExactIndexPut': WHATEVER THE INPUT: true; the input reads as it did. -/
def fnExactIndexPutSpec : ChangeSpec := { name := "fnExactIndexPut", fn := fun _ => fun
  | [d1, d2] => { results := [.lit (.bool true)], args := [d1, d2] }
  | _ => none }
def fnExactIndexPutRow : OpenClaim := { program := "ytjiklhnijhiphaa", sum := "527628fafd595f4470959a2790e41e011e976c51146364777ff80a53e73961a9", func := "loop.example/custumal/laws.FnExactIndexPut", spec := "fnExactIndexPut", inPlace := ["slices.overlaps[loop.example/custumal/impl.Entry]"], apart := false }
def FnExactIndexPutSaid : Prop := fnExactIndexPutRow.holds Try.pinned (OpenSpec.ofChange fnExactIndexPutSpec)

/-- ITS FALSE NEIGHBOUR: 'it returns false'. Refute it at one input. -/
def fnExactIndexPutWrong : ChangeSpec := { name := "fnExactIndexPut", fn := fun _ => fun
  | [d1, d2] => { results := [.lit (.bool false)], args := [d1, d2] }
  | _ => none }
def FnExactIndexPutWrongFalsely : Prop := fnExactIndexPutRow.holds Try.pinned (OpenSpec.ofChange fnExactIndexPutWrong)

/-- 'laws.FnIndexOff': WHATEVER THE INPUT: true; the input reads as it did. -/
def fnIndexOffSpec : ChangeSpec := { name := "fnIndexOff", fn := fun _ => fun
  | [d] => { results := [.lit (.bool true)], args := [d] }
  | _ => none }
def fnIndexOffRow : OpenClaim := { program := "ytjiklhnijhiphaa", sum := "527628fafd595f4470959a2790e41e011e976c51146364777ff80a53e73961a9", func := "loop.example/custumal/laws.FnIndexOff", spec := "fnIndexOff", inPlace := ["slices.overlaps[loop.example/custumal/impl.Entry]"], unfollowed := true, recurses := true, apart := false }
def FnIndexOffSaid : Prop := fnIndexOffRow.holds Try.pinned (OpenSpec.ofChange fnIndexOffSpec)

/-- ITS FALSE NEIGHBOUR: 'it returns false'. Refute it at one input. -/
def fnIndexOffWrong : ChangeSpec := { name := "fnIndexOff", fn := fun _ => fun
  | [d] => { results := [.lit (.bool false)], args := [d] }
  | _ => none }
def FnIndexOffWrongFalsely : Prop := fnIndexOffRow.holds Try.pinned (OpenSpec.ofChange fnIndexOffWrong)

/-- 'laws.FnIndexPut': WHATEVER THE INPUT: true; the input reads as it did. -/
def fnIndexPutSpec : ChangeSpec := { name := "fnIndexPut", fn := fun _ => fun
  | [d] => { results := [.lit (.bool true)], args := [d] }
  | _ => none }
def fnIndexPutRow : OpenClaim := { program := "ytjiklhnijhiphaa", sum := "527628fafd595f4470959a2790e41e011e976c51146364777ff80a53e73961a9", func := "loop.example/custumal/laws.FnIndexPut", spec := "fnIndexPut", inPlace := ["slices.overlaps[loop.example/custumal/impl.Entry]"], unfollowed := true, recurses := true, apart := false }
def FnIndexPutSaid : Prop := fnIndexPutRow.holds Try.pinned (OpenSpec.ofChange fnIndexPutSpec)

/-- ITS FALSE NEIGHBOUR: 'it returns false'. Refute it at one input. -/
def fnIndexPutWrong : ChangeSpec := { name := "fnIndexPut", fn := fun _ => fun
  | [d] => { results := [.lit (.bool false)], args := [d] }
  | _ => none }
def FnIndexPutWrongFalsely : Prop := fnIndexPutRow.holds Try.pinned (OpenSpec.ofChange fnIndexPutWrong)

/- THE SECOND FORM. 'bulk': how many values and letters a reading holds, each counted each time it is reached (what is shared counts as often as it is met; a slice's spare places count too). A statement '..UptoSaid' is the law's where the arguments, and the package variables that the reading takes, are together of bulk at most 1048576: NARROWER than '..Said'. Prove '..Said' where nothing that the law and all that it calls make is longer than what came in: it says more and counts as full. Else prove '..UptoSaid'. A law counts once. -/
mutual
def uptoBulk {H : Type} : DataW H → Nat
  | .lit (.string bytes) => bytes.length + 1
  | .lit _ => 1
  | .nil => 1
  | .ptr d => uptoBulk d + 1
  | .slice elems spare => uptoBulkAll elems + uptoBulkAll spare + 1
  | .agg parts => uptoBulkAll parts + 1
  | .iface _ d => uptoBulk d + 1
  | .map entries => uptoBulkEntries entries + 1
  | .held _ => 1
def uptoBulkAll {H : Type} : List (DataW H) → Nat
  | [] => 0
  | d :: r => uptoBulk d + uptoBulkAll r
def uptoBulkEntries {H : Type} : List (Lit × DataW H) → Nat
  | [] => 0
  | x :: r => uptoBulkEntry x + uptoBulkEntries r
def uptoBulkEntry {H : Type} : Lit × DataW H → Nat
  | (.string bytes, d) => bytes.length + uptoBulk d + 1
  | (_, d) => uptoBulk d + 1
 end
def uptoSmall : (H : Type) → List (DataW H) → Bool := fun _ ds => decide (uptoBulkAll ds ≤ 1048576)
def OpenSpec.upto (s : _root_.Go.ChangeSpec) : _root_.Go.OpenSpec := { _root_.Go.OpenSpec.ofChange s with cond := some uptoSmall }

/-- 'laws.FnExactIndexOk', WHERE WHAT IT READS IS OF BULK AT MOST 1048576: true; the input reads as it did. -/
def fnExactIndexOkUptoRow : OpenClaim := { program := "ytjiklhnijhiphaa", sum := "527628fafd595f4470959a2790e41e011e976c51146364777ff80a53e73961a9", func := "loop.example/custumal/laws.FnExactIndexOk", spec := "fnExactIndexOk", apart := false, narrowed := true }
def FnExactIndexOkUptoSaid : Prop := fnExactIndexOkUptoRow.holds Try.pinned (OpenSpec.upto fnExactIndexOkSpec)

/-- 'laws.FnExactIndexOnce', WHERE WHAT IT READS IS OF BULK AT MOST 1048576: true; the input reads as it did. -/
def fnExactIndexOnceUptoRow : OpenClaim := { program := "ytjiklhnijhiphaa", sum := "527628fafd595f4470959a2790e41e011e976c51146364777ff80a53e73961a9", func := "loop.example/custumal/laws.FnExactIndexOnce", spec := "fnExactIndexOnce", apart := false, narrowed := true }
def FnExactIndexOnceUptoSaid : Prop := fnExactIndexOnceUptoRow.holds Try.pinned (OpenSpec.upto fnExactIndexOnceSpec)

/-- 'laws.FnIndexAll', WHERE WHAT IT READS IS OF BULK AT MOST 1048576: true; the input reads as it did. -/
def fnIndexAllUptoRow : OpenClaim := { program := "ytjiklhnijhiphaa", sum := "527628fafd595f4470959a2790e41e011e976c51146364777ff80a53e73961a9", func := "loop.example/custumal/laws.FnIndexAll", spec := "fnIndexAll", unfollowed := true, recurses := true, apart := false, narrowed := true }
def FnIndexAllUptoSaid : Prop := fnIndexAllUptoRow.holds Try.pinned (OpenSpec.upto fnIndexAllSpec)

/-- 'laws.FnIndexOnce', WHERE WHAT IT READS IS OF BULK AT MOST 1048576: true; the input reads as it did. -/
def fnIndexOnceUptoRow : OpenClaim := { program := "ytjiklhnijhiphaa", sum := "527628fafd595f4470959a2790e41e011e976c51146364777ff80a53e73961a9", func := "loop.example/custumal/laws.FnIndexOnce", spec := "fnIndexOnce", unfollowed := true, recurses := true, apart := false, narrowed := true }
def FnIndexOnceUptoSaid : Prop := fnIndexOnceUptoRow.holds Try.pinned (OpenSpec.upto fnIndexOnceSpec)

/-- 'laws.FnIndexSpan', WHERE WHAT IT READS IS OF BULK AT MOST 1048576: true; the input reads as it did. -/
def fnIndexSpanUptoRow : OpenClaim := { program := "ytjiklhnijhiphaa", sum := "527628fafd595f4470959a2790e41e011e976c51146364777ff80a53e73961a9", func := "loop.example/custumal/laws.FnIndexSpan", spec := "fnIndexSpan", unfollowed := true, recurses := true, apart := false, narrowed := true }
def FnIndexSpanUptoSaid : Prop := fnIndexSpanUptoRow.holds Try.pinned (OpenSpec.upto fnIndexSpanSpec)

/-- 'laws.FnExactCondOk', WHERE WHAT IT READS IS OF BULK AT MOST 1048576: true; the input reads as it did. -/
def fnExactCondOkUptoRow : OpenClaim := { program := "ytjiklhnijhiphaa", sum := "527628fafd595f4470959a2790e41e011e976c51146364777ff80a53e73961a9", func := "loop.example/custumal/laws.FnExactCondOk", spec := "fnExactCondOk", unfollowed := true, recurses := true, apart := false, narrowed := true }
def FnExactCondOkUptoSaid : Prop := fnExactCondOkUptoRow.holds Try.pinned (OpenSpec.upto fnExactCondOkSpec)

/-- 'laws.FnExactIndexFind', WHERE WHAT IT READS IS OF BULK AT MOST 1048576: true; the input reads as it did. -/
def fnExactIndexFindUptoRow : OpenClaim := { program := "ytjiklhnijhiphaa", sum := "527628fafd595f4470959a2790e41e011e976c51146364777ff80a53e73961a9", func := "loop.example/custumal/laws.FnExactIndexFind", spec := "fnExactIndexFind", unfollowed := true, recurses := true, apart := false, narrowed := true }
def FnExactIndexFindUptoSaid : Prop := fnExactIndexFindUptoRow.holds Try.pinned (OpenSpec.upto fnExactIndexFindSpec)

/-- 'laws.FnExactIndexSpan', WHERE WHAT IT READS IS OF BULK AT MOST 1048576: true; the input reads as it did. -/
def fnExactIndexSpanUptoRow : OpenClaim := { program := "ytjiklhnijhiphaa", sum := "527628fafd595f4470959a2790e41e011e976c51146364777ff80a53e73961a9", func := "loop.example/custumal/laws.FnExactIndexSpan", spec := "fnExactIndexSpan", unfollowed := true, recurses := true, apart := false, narrowed := true }
def FnExactIndexSpanUptoSaid : Prop := fnExactIndexSpanUptoRow.holds Try.pinned (OpenSpec.upto fnExactIndexSpanSpec)

/-- 'laws.FnExactIndexOff', WHERE WHAT IT READS IS OF BULK AT MOST 1048576: true; the input reads as it did. -/
def fnExactIndexOffUptoRow : OpenClaim := { program := "ytjiklhnijhiphaa", sum := "527628fafd595f4470959a2790e41e011e976c51146364777ff80a53e73961a9", func := "loop.example/custumal/laws.FnExactIndexOff", spec := "fnExactIndexOff", apart := false, narrowed := true }
def FnExactIndexOffUptoSaid : Prop := fnExactIndexOffUptoRow.holds Try.pinned (OpenSpec.upto fnExactIndexOffSpec)

/-- 'laws.FnExactIndexPut', WHERE WHAT IT READS IS OF BULK AT MOST 1048576: true; the input reads as it did. -/
def fnExactIndexPutUptoRow : OpenClaim := { program := "ytjiklhnijhiphaa", sum := "527628fafd595f4470959a2790e41e011e976c51146364777ff80a53e73961a9", func := "loop.example/custumal/laws.FnExactIndexPut", spec := "fnExactIndexPut", inPlace := ["slices.overlaps[loop.example/custumal/impl.Entry]"], apart := false, narrowed := true }
def FnExactIndexPutUptoSaid : Prop := fnExactIndexPutUptoRow.holds Try.pinned (OpenSpec.upto fnExactIndexPutSpec)

/-- 'laws.FnIndexOff', WHERE WHAT IT READS IS OF BULK AT MOST 1048576: true; the input reads as it did. -/
def fnIndexOffUptoRow : OpenClaim := { program := "ytjiklhnijhiphaa", sum := "527628fafd595f4470959a2790e41e011e976c51146364777ff80a53e73961a9", func := "loop.example/custumal/laws.FnIndexOff", spec := "fnIndexOff", inPlace := ["slices.overlaps[loop.example/custumal/impl.Entry]"], unfollowed := true, recurses := true, apart := false, narrowed := true }
def FnIndexOffUptoSaid : Prop := fnIndexOffUptoRow.holds Try.pinned (OpenSpec.upto fnIndexOffSpec)

/-- 'laws.FnIndexPut', WHERE WHAT IT READS IS OF BULK AT MOST 1048576: true; the input reads as it did. -/
def fnIndexPutUptoRow : OpenClaim := { program := "ytjiklhnijhiphaa", sum := "527628fafd595f4470959a2790e41e011e976c51146364777ff80a53e73961a9", func := "loop.example/custumal/laws.FnIndexPut", spec := "fnIndexPut", inPlace := ["slices.overlaps[loop.example/custumal/impl.Entry]"], unfollowed := true, recurses := true, apart := false, narrowed := true }
def FnIndexPutUptoSaid : Prop := fnIndexPutUptoRow.holds Try.pinned (OpenSpec.upto fnIndexPutSpec)

end Rows
end Go.Proofs.Ytjiklhnijhiphaa

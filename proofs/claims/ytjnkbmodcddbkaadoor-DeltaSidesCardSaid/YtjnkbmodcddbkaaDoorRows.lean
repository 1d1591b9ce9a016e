/-
  NARROWER THAN 'FOR EVERY INPUT', by the rows' own cells (each row's printed sentence says how): DeltaMerges: loops, laid · StatParts: loops, laid · StatMore: loops, laid · DeltaSides: loops, laid · DeltaBack: loops, laid.
  DERIVED. THE GIVEN ROWS OF THIS SEAT. 5 by the template 'for every input the law returns true; each argument reads behind the call as it read before'; 0 by the template 'total and deterministic' (their statements: YtjnkbmodcddbkaaDoorTotals.lean).
  GIVEN WITH THE SEED: the statements are not yours to turn. If you find one false, say at which input.
  Laid BY PROGRAM, IN A SANDBOX (cutbox-rows.mjs): the forced cells as the released guide's own fill.sh prints them over the translation 6a558e693ea49453… (all of the seat's roots in one cut). By AI agents, Wed Nov 11 2026. No macro, syntax, notation, axiom, sorry.
-/
import Derived.Test.YtjnkbmodcddbkaaDoorChecked
import GoSem.PinnedTables
import GoSem.Claim
import GoSem.ClaimJoined
import GoSem.ClaimMapViews
import Derived.JoinedTies
import Derived.KernelRfl
namespace Go.Proofs.YtjnkbmodcddbkaaDoor
/- THE CELL 'sum', in the pinned program and in every row, IS THE sha256 OF THE DUMP (.gsa) THAT YtjnkbmodcddbkaaDoorProg.lean LOADS. Nothing in Lean hashes anything: it is a label: what it is worth is what the hold of that sum in a sandbox is worth. -/
noncomputable def Tryd.pinned : Pinned := { name := "ytjnkbmodcddbkaadoor", sum := "6a558e693ea49453c4fa0642963925fee956d5ec437e4842e28efc9b6c53dcc1", checked := Tryd.checked }
namespace Rows
def none {H : Type} : Left H := { results := [], args := [] }

/- WHAT THE LISTED PACKAGE-LEVEL VARIABLES READ AS WHEN THE CALL BEGINS. Each datum BY PROGRAM (the guide's laid-datum.mjs) off the statement by which the dump's own 'gosem.cut.vars' lays the variable. In a bare row this is a premise. The card (YtjnkbmodcddbkaaDoorCards.lean) ties it to the program's text. -/
def laid_unicode_utf8_acceptRanges {H : Type} : DataW H := .agg [.agg [.lit (.int .u8 128), .lit (.int .u8 191)], .agg [.lit (.int .u8 160), .lit (.int .u8 191)], .agg [.lit (.int .u8 128), .lit (.int .u8 159)], .agg [.lit (.int .u8 144), .lit (.int .u8 191)], .agg [.lit (.int .u8 128), .lit (.int .u8 143)], .agg [.lit (.int .u8 0), .lit (.int .u8 0)], .agg [.lit (.int .u8 0), .lit (.int .u8 0)], .agg [.lit (.int .u8 0), .lit (.int .u8 0)], .agg [.lit (.int .u8 0), .lit (.int .u8 0)], .agg [.lit (.int .u8 0), .lit (.int .u8 0)], .agg [.lit (.int .u8 0), .lit (.int .u8 0)], .agg [.lit (.int .u8 0), .lit (.int .u8 0)], .agg [.lit (.int .u8 0), .lit (.int .u8 0)], .agg [.lit (.int .u8 0), .lit (.int .u8 0)], .agg [.lit (.int .u8 0), .lit (.int .u8 0)], .agg [.lit (.int .u8 0), .lit (.int .u8 0)]]
/-- One of Go's own tables, pinned by name: the form's constant. -/
def laid_unicode_utf8_first : DataW Unit := Go.Pinned.utf8First

/-- 'fastilaw11.DeltaMerges': WHATEVER THE INPUT: true; the input reads as it did. -/
def deltaMergesSpec : ChangeSpec := { name := "deltaMerges", fn := fun _ => fun
  | [d1, d2, d3] => { results := [.lit (.bool true)], args := [d1, d2, d3] }
  | _ => none }
def deltaMergesRow : OpenClaim := { program := "ytjnkbmodcddbkaadoor", sum := "6a558e693ea49453c4fa0642963925fee956d5ec437e4842e28efc9b6c53dcc1", func := "fasti/fastilaw11.DeltaMerges", spec := "deltaMerges", inPlace := ["internal/bytealg.abigen_runtime_cmpstring", "slices.overlaps[fasti/api.Trie]"], unfollowed := true, recurses := true, named := ["unicode/utf8.first", "unicode/utf8.acceptRanges"], loops := true, apart := false, laid := [("unicode/utf8.acceptRanges", laid_unicode_utf8_acceptRanges), ("unicode/utf8.first", laid_unicode_utf8_first)] }
def DeltaMergesSaid : Prop := deltaMergesRow.holds Tryd.pinned (OpenSpec.ofChange deltaMergesSpec)

/-- ITS FALSE NEIGHBOUR: 'it returns false'. Refute it at one input. -/
def deltaMergesWrong : ChangeSpec := { name := "deltaMerges", fn := fun _ => fun
  | [d1, d2, d3] => { results := [.lit (.bool false)], args := [d1, d2, d3] }
  | _ => none }
def DeltaMergesWrongFalsely : Prop := deltaMergesRow.holds Tryd.pinned (OpenSpec.ofChange deltaMergesWrong)

/-- 'fastilaw32.StatParts': WHATEVER THE INPUT: true; the input reads as it did. -/
def statPartsSpec : ChangeSpec := { name := "statParts", fn := fun _ => fun
  | [d] => { results := [.lit (.bool true)], args := [d] }
  | _ => none }
def statPartsRow : OpenClaim := { program := "ytjnkbmodcddbkaadoor", sum := "6a558e693ea49453c4fa0642963925fee956d5ec437e4842e28efc9b6c53dcc1", func := "fasti/fastilaw32.StatParts", spec := "statParts", inPlace := ["internal/bytealg.abigen_runtime_cmpstring", "slices.overlaps[fasti/api.Trie]"], unfollowed := true, recurses := true, named := ["unicode/utf8.first", "unicode/utf8.acceptRanges"], loops := true, apart := false, laid := [("unicode/utf8.acceptRanges", laid_unicode_utf8_acceptRanges), ("unicode/utf8.first", laid_unicode_utf8_first)] }
def StatPartsSaid : Prop := statPartsRow.holds Tryd.pinned (OpenSpec.ofChange statPartsSpec)

/-- ITS FALSE NEIGHBOUR: 'it returns false'. Refute it at one input. -/
def statPartsWrong : ChangeSpec := { name := "statParts", fn := fun _ => fun
  | [d] => { results := [.lit (.bool false)], args := [d] }
  | _ => none }
def StatPartsWrongFalsely : Prop := statPartsRow.holds Tryd.pinned (OpenSpec.ofChange statPartsWrong)

/-- 'fastilaw32.StatMore': WHATEVER THE INPUT: true; the input reads as it did. -/
def statMoreSpec : ChangeSpec := { name := "statMore", fn := fun _ => fun
  | [d1, d2, d3] => { results := [.lit (.bool true)], args := [d1, d2, d3] }
  | _ => none }
def statMoreRow : OpenClaim := { program := "ytjnkbmodcddbkaadoor", sum := "6a558e693ea49453c4fa0642963925fee956d5ec437e4842e28efc9b6c53dcc1", func := "fasti/fastilaw32.StatMore", spec := "statMore", inPlace := ["internal/bytealg.abigen_runtime_cmpstring", "slices.overlaps[fasti/api.Trie]"], unfollowed := true, recurses := true, named := ["unicode/utf8.first", "unicode/utf8.acceptRanges"], loops := true, apart := false, laid := [("unicode/utf8.acceptRanges", laid_unicode_utf8_acceptRanges), ("unicode/utf8.first", laid_unicode_utf8_first)] }
def StatMoreSaid : Prop := statMoreRow.holds Tryd.pinned (OpenSpec.ofChange statMoreSpec)

/-- ITS FALSE NEIGHBOUR: 'it returns false'. Refute it at one input. -/
def statMoreWrong : ChangeSpec := { name := "statMore", fn := fun _ => fun
  | [d1, d2, d3] => { results := [.lit (.bool false)], args := [d1, d2, d3] }
  | _ => none }
def StatMoreWrongFalsely : Prop := statMoreRow.holds Tryd.pinned (OpenSpec.ofChange statMoreWrong)

/-- 'fastilaw11.DeltaSides': WHATEVER THE INPUT: true; the input reads as it did. -/
def deltaSidesSpec : ChangeSpec := { name := "deltaSides", fn := fun _ => fun
  | [d1, d2, d3] => { results := [.lit (.bool true)], args := [d1, d2, d3] }
  | _ => none }
def deltaSidesRow : OpenClaim := { program := "ytjnkbmodcddbkaadoor", sum := "6a558e693ea49453c4fa0642963925fee956d5ec437e4842e28efc9b6c53dcc1", func := "fasti/fastilaw11.DeltaSides", spec := "deltaSides", inPlace := ["internal/bytealg.abigen_runtime_cmpstring", "slices.overlaps[fasti/api.Trie]"], unfollowed := true, recurses := true, named := ["unicode/utf8.first", "unicode/utf8.acceptRanges"], loops := true, apart := false, laid := [("unicode/utf8.acceptRanges", laid_unicode_utf8_acceptRanges), ("unicode/utf8.first", laid_unicode_utf8_first)] }
def DeltaSidesSaid : Prop := deltaSidesRow.holds Tryd.pinned (OpenSpec.ofChange deltaSidesSpec)

/-- ITS FALSE NEIGHBOUR: 'it returns false'. Refute it at one input. -/
def deltaSidesWrong : ChangeSpec := { name := "deltaSides", fn := fun _ => fun
  | [d1, d2, d3] => { results := [.lit (.bool false)], args := [d1, d2, d3] }
  | _ => none }
def DeltaSidesWrongFalsely : Prop := deltaSidesRow.holds Tryd.pinned (OpenSpec.ofChange deltaSidesWrong)

/-- 'fastilaw11.DeltaBack': WHATEVER THE INPUT: true; the input reads as it did. -/
def deltaBackSpec : ChangeSpec := { name := "deltaBack", fn := fun _ => fun
  | [d1, d2] => { results := [.lit (.bool true)], args := [d1, d2] }
  | _ => none }
def deltaBackRow : OpenClaim := { program := "ytjnkbmodcddbkaadoor", sum := "6a558e693ea49453c4fa0642963925fee956d5ec437e4842e28efc9b6c53dcc1", func := "fasti/fastilaw11.DeltaBack", spec := "deltaBack", inPlace := ["internal/bytealg.abigen_runtime_cmpstring", "slices.overlaps[fasti/api.Trie]"], unfollowed := true, recurses := true, named := ["unicode/utf8.first", "unicode/utf8.acceptRanges"], loops := true, apart := false, laid := [("unicode/utf8.acceptRanges", laid_unicode_utf8_acceptRanges), ("unicode/utf8.first", laid_unicode_utf8_first)] }
def DeltaBackSaid : Prop := deltaBackRow.holds Tryd.pinned (OpenSpec.ofChange deltaBackSpec)

/-- ITS FALSE NEIGHBOUR: 'it returns false'. Refute it at one input. -/
def deltaBackWrong : ChangeSpec := { name := "deltaBack", fn := fun _ => fun
  | [d1, d2] => { results := [.lit (.bool false)], args := [d1, d2] }
  | _ => none }
def DeltaBackWrongFalsely : Prop := deltaBackRow.holds Tryd.pinned (OpenSpec.ofChange deltaBackWrong)

/- THE SECOND FORM. 'bulk': how many values and letters a reading holds, each counted each time it is reached (what is shared counts as often as it is met; a slice's spare places count too). A statement '..UptoSaid' is the law's where the arguments, and the package variables that the reading takes, are together of bulk at most 1048576: NARROWER than '..Said'. Prove '..Said' where nothing that the law and all that it calls make is longer than what came in: it says more and counts as full. Else prove '..UptoSaid'. A law counts once. -/
mutual
def uptoBulk {H : Type} : DataW H → Nat
  | .lit (.string bytes) => bytes.length + 1
  | .lit _ => 1
  | .nil => 1
  | .ptr d => uptoBulk d + 1
  | .slice elems spare => uptoBulkAll elems + uptoBulkAll spare + 1
  | .agg parts => uptoBulkAll parts + 1
  | .iface _ d => uptoBulk d + 1
  | .map entries => uptoBulkEntries entries + 1
  | .held _ => 1
def uptoBulkAll {H : Type} : List (DataW H) → Nat
  | [] => 0
  | d :: r => uptoBulk d + uptoBulkAll r
def uptoBulkEntries {H : Type} : List (Lit × DataW H) → Nat
  | [] => 0
  | x :: r => uptoBulkEntry x + uptoBulkEntries r
def uptoBulkEntry {H : Type} : Lit × DataW H → Nat
  | (.string bytes, d) => bytes.length + uptoBulk d + 1
  | (_, d) => uptoBulk d + 1
 end
def uptoSmall : (H : Type) → List (DataW H) → Bool := fun _ ds => decide (uptoBulkAll ds ≤ 1048576)
def OpenSpec.upto (s : _root_.Go.ChangeSpec) : _root_.Go.OpenSpec := { _root_.Go.OpenSpec.ofChange s with cond := some uptoSmall }

/-- 'fastilaw11.DeltaMerges', WHERE WHAT IT READS IS OF BULK AT MOST 1048576: true; the input reads as it did. -/
def deltaMergesUptoRow : OpenClaim := { program := "ytjnkbmodcddbkaadoor", sum := "6a558e693ea49453c4fa0642963925fee956d5ec437e4842e28efc9b6c53dcc1", func := "fasti/fastilaw11.DeltaMerges", spec := "deltaMerges", inPlace := ["internal/bytealg.abigen_runtime_cmpstring", "slices.overlaps[fasti/api.Trie]"], unfollowed := true, recurses := true, named := ["unicode/utf8.first", "unicode/utf8.acceptRanges"], loops := true, apart := false, laid := [("unicode/utf8.acceptRanges", laid_unicode_utf8_acceptRanges), ("unicode/utf8.first", laid_unicode_utf8_first)], narrowed := true }
def DeltaMergesUptoSaid : Prop := deltaMergesUptoRow.holds Tryd.pinned (OpenSpec.upto deltaMergesSpec)

/-- 'fastilaw32.StatParts', WHERE WHAT IT READS IS OF BULK AT MOST 1048576: true; the input reads as it did. -/
def statPartsUptoRow : OpenClaim := { program := "ytjnkbmodcddbkaadoor", sum := "6a558e693ea49453c4fa0642963925fee956d5ec437e4842e28efc9b6c53dcc1", func := "fasti/fastilaw32.StatParts", spec := "statParts", inPlace := ["internal/bytealg.abigen_runtime_cmpstring", "slices.overlaps[fasti/api.Trie]"], unfollowed := true, recurses := true, named := ["unicode/utf8.first", "unicode/utf8.acceptRanges"], loops := true, apart := false, laid := [("unicode/utf8.acceptRanges", laid_unicode_utf8_acceptRanges), ("unicode/utf8.first", laid_unicode_utf8_first)], narrowed := true }
def StatPartsUptoSaid : Prop := statPartsUptoRow.holds Tryd.pinned (OpenSpec.upto statPartsSpec)

/-- 'fastilaw32.StatMore', WHERE WHAT IT READS IS OF BULK AT MOST 1048576: true; the input reads as it did. -/
def statMoreUptoRow : OpenClaim := { program := "ytjnkbmodcddbkaadoor", sum := "6a558e693ea49453c4fa0642963925fee956d5ec437e4842e28efc9b6c53dcc1", func := "fasti/fastilaw32.StatMore", spec := "statMore", inPlace := ["internal/bytealg.abigen_runtime_cmpstring", "slices.overlaps[fasti/api.Trie]"], unfollowed := true, recurses := true, named := ["unicode/utf8.first", "unicode/utf8.acceptRanges"], loops := true, apart := false, laid := [("unicode/utf8.acceptRanges", laid_unicode_utf8_acceptRanges), ("unicode/utf8.first", laid_unicode_utf8_first)], narrowed := true }
def StatMoreUptoSaid : Prop := statMoreUptoRow.holds Tryd.pinned (OpenSpec.upto statMoreSpec)

/-- 'fastilaw11.DeltaSides', WHERE WHAT IT READS IS OF BULK AT MOST 1048576: true; the input reads as it did. -/
def deltaSidesUptoRow : OpenClaim := { program := "ytjnkbmodcddbkaadoor", sum := "6a558e693ea49453c4fa0642963925fee956d5ec437e4842e28efc9b6c53dcc1", func := "fasti/fastilaw11.DeltaSides", spec := "deltaSides", inPlace := ["internal/bytealg.abigen_runtime_cmpstring", "slices.overlaps[fasti/api.Trie]"], unfollowed := true, recurses := true, named := ["unicode/utf8.first", "unicode/utf8.acceptRanges"], loops := true, apart := false, laid := [("unicode/utf8.acceptRanges", laid_unicode_utf8_acceptRanges), ("unicode/utf8.first", laid_unicode_utf8_first)], narrowed := true }
def DeltaSidesUptoSaid : Prop := deltaSidesUptoRow.holds Tryd.pinned (OpenSpec.upto deltaSidesSpec)

/-- 'fastilaw11.DeltaBack', WHERE WHAT IT READS IS OF BULK AT MOST 1048576: true; the input reads as it did. -/
def deltaBackUptoRow : OpenClaim := { program := "ytjnkbmodcddbkaadoor", sum := "6a558e693ea49453c4fa0642963925fee956d5ec437e4842e28efc9b6c53dcc1", func := "fasti/fastilaw11.DeltaBack", spec := "deltaBack", inPlace := ["internal/bytealg.abigen_runtime_cmpstring", "slices.overlaps[fasti/api.Trie]"], unfollowed := true, recurses := true, named := ["unicode/utf8.first", "unicode/utf8.acceptRanges"], loops := true, apart := false, laid := [("unicode/utf8.acceptRanges", laid_unicode_utf8_acceptRanges), ("unicode/utf8.first", laid_unicode_utf8_first)], narrowed := true }
def DeltaBackUptoSaid : Prop := deltaBackUptoRow.holds Tryd.pinned (OpenSpec.upto deltaBackSpec)

end Rows
end Go.Proofs.YtjnkbmodcddbkaaDoor

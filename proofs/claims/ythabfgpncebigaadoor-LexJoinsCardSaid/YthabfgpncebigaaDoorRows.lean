/-
  NARROWER THAN 'FOR EVERY INPUT', by the rows' own cells (each row's printed sentence says how): LexParses: laid · LexCovers: laid · LexJoins: laid · LexAll: laid · LexParts: laid.
  DERIVED. THE GIVEN ROWS OF THIS SEAT. 5 by the template 'for every input the law returns true; each argument reads behind the call as it read before'; 0 by the template 'total and deterministic' (their statements: YthabfgpncebigaaDoorTotals.lean).
  GIVEN WITH THE SEED: the statements are not yours to turn. If you find one false, say at which input.
  Laid BY PROGRAM, IN A SANDBOX (cutbox-rows.mjs): the forced cells as the released guide's own fill.sh prints them over the translation 011224a89f734211… (all of the seat's roots in one cut). By AI agents, Wed Nov 11 2026. No macro, syntax, notation, axiom, sorry.
-/
import Derived.Test.YthabfgpncebigaaDoorChecked
import GoSem.PinnedTables
import GoSem.Claim
import GoSem.ClaimJoined
import GoSem.ClaimMapViews
import Derived.JoinedTies
import Derived.KernelRfl
namespace Go.Proofs.YthabfgpncebigaaDoor
/- THE CELL 'sum', in the pinned program and in every row, IS THE sha256 OF THE DUMP (.gsa) THAT YthabfgpncebigaaDoorProg.lean LOADS. Nothing in Lean hashes anything: it is a label: what it is worth is what the hold of that sum in a sandbox is worth. -/
noncomputable def Tryd.pinned : Pinned := { name := "ythabfgpncebigaadoor", sum := "011224a89f7342116ba1a1cce5606e1d3815e5391da668a29819bb201e5989e6", checked := Tryd.checked }
namespace Rows
def none {H : Type} : Left H := { results := [], args := [] }

/- WHAT THE LISTED PACKAGE-LEVEL VARIABLES READ AS WHEN THE CALL BEGINS. Each datum BY PROGRAM (the guide's laid-datum.mjs) off the statement by which the dump's own 'gosem.cut.vars' lays the variable. In a bare row this is a premise. The card (YthabfgpncebigaaDoorCards.lean) ties it to the program's text. -/
def laid_unicode_utf8_acceptRanges {H : Type} : DataW H := .agg [.agg [.lit (.int .u8 128), .lit (.int .u8 191)], .agg [.lit (.int .u8 160), .lit (.int .u8 191)], .agg [.lit (.int .u8 128), .lit (.int .u8 159)], .agg [.lit (.int .u8 144), .lit (.int .u8 191)], .agg [.lit (.int .u8 128), .lit (.int .u8 143)], .agg [.lit (.int .u8 0), .lit (.int .u8 0)], .agg [.lit (.int .u8 0), .lit (.int .u8 0)], .agg [.lit (.int .u8 0), .lit (.int .u8 0)], .agg [.lit (.int .u8 0), .lit (.int .u8 0)], .agg [.lit (.int .u8 0), .lit (.int .u8 0)], .agg [.lit (.int .u8 0), .lit (.int .u8 0)], .agg [.lit (.int .u8 0), .lit (.int .u8 0)], .agg [.lit (.int .u8 0), .lit (.int .u8 0)], .agg [.lit (.int .u8 0), .lit (.int .u8 0)], .agg [.lit (.int .u8 0), .lit (.int .u8 0)], .agg [.lit (.int .u8 0), .lit (.int .u8 0)]]
def laid_tabularium_utf_forms {H : Type} : DataW H := .agg [.agg [.lit (.int .i64 128), .lit (.int .i64 0), .lit (.int .i64 0)], .agg [.lit (.int .i64 2048), .lit (.int .i64 192), .lit (.int .i64 1)], .agg [.lit (.int .i64 65536), .lit (.int .i64 224), .lit (.int .i64 2)], .agg [.lit (.int .i64 1114112), .lit (.int .i64 240), .lit (.int .i64 3)]]
def laid_tabularium_num_next {H : Type} : DataW H := .agg [.agg [.lit (.int .i64 2), .lit (.int .i64 3), .lit (.int .i64 0), .lit (.int .i64 0), .lit (.int .i64 0), .lit (.int .i64 1)], .agg [.lit (.int .i64 2), .lit (.int .i64 3), .lit (.int .i64 0), .lit (.int .i64 0), .lit (.int .i64 0), .lit (.int .i64 0)], .agg [.lit (.int .i64 0), .lit (.int .i64 0), .lit (.int .i64 4), .lit (.int .i64 6), .lit (.int .i64 0), .lit (.int .i64 0)], .agg [.lit (.int .i64 3), .lit (.int .i64 3), .lit (.int .i64 4), .lit (.int .i64 6), .lit (.int .i64 0), .lit (.int .i64 0)], .agg [.lit (.int .i64 5), .lit (.int .i64 5), .lit (.int .i64 0), .lit (.int .i64 0), .lit (.int .i64 0), .lit (.int .i64 0)], .agg [.lit (.int .i64 5), .lit (.int .i64 5), .lit (.int .i64 0), .lit (.int .i64 6), .lit (.int .i64 0), .lit (.int .i64 0)], .agg [.lit (.int .i64 8), .lit (.int .i64 8), .lit (.int .i64 0), .lit (.int .i64 0), .lit (.int .i64 7), .lit (.int .i64 7)], .agg [.lit (.int .i64 8), .lit (.int .i64 8), .lit (.int .i64 0), .lit (.int .i64 0), .lit (.int .i64 0), .lit (.int .i64 0)], .agg [.lit (.int .i64 8), .lit (.int .i64 8), .lit (.int .i64 0), .lit (.int .i64 0), .lit (.int .i64 0), .lit (.int .i64 0)]]
def laid_tabularium_lex_signs {H : Type} : DataW H := .agg [.lit (.string [61, 61]), .lit (.string [33, 61]), .lit (.string [60, 61]), .lit (.string [62, 61]), .lit (.string [38, 38]), .lit (.string [124, 124]), .lit (.string [61]), .lit (.string [60]), .lit (.string [62]), .lit (.string [43]), .lit (.string [45]), .lit (.string [42]), .lit (.string [47]), .lit (.string [37]), .lit (.string [33]), .lit (.string [63]), .lit (.string [58]), .lit (.string [44]), .lit (.string [46]), .lit (.string [40]), .lit (.string [41]), .lit (.string [91]), .lit (.string [93]), .lit (.string [123]), .lit (.string [125])]
/-- One of Go's own tables, pinned by name: the form's constant. -/
def laid_unicode_utf8_first : DataW Unit := Go.Pinned.utf8First

/-- 'tabulariumlaw11.LexParses': WHATEVER THE INPUT: true; the input reads as it did. -/
def lexParsesSpec : ChangeSpec := { name := "lexParses", fn := fun _ => fun
  | [d] => { results := [.lit (.bool true)], args := [d] }
  | _ => none }
def lexParsesRow : OpenClaim := { program := "ythabfgpncebigaadoor", sum := "011224a89f7342116ba1a1cce5606e1d3815e5391da668a29819bb201e5989e6", func := "tabularium/tabulariumlaw11.LexParses", spec := "lexParses", inPlace := ["internal/bytealg.IndexByteString", "internal/bytealg.IndexString", "internal/abi.NoEscape"], unfollowed := true, recurses := true, named := ["tabularium/lex.signs", "internal/bytealg.MaxLen", "tabularium/num.next", "unicode/utf8.first", "unicode/utf8.acceptRanges", "tabularium/utf.forms"], apart := false, laid := [("unicode/utf8.acceptRanges", laid_unicode_utf8_acceptRanges), ("tabularium/utf.forms", laid_tabularium_utf_forms), ("tabularium/num.next", laid_tabularium_num_next), ("tabularium/lex.signs", laid_tabularium_lex_signs), ("unicode/utf8.first", laid_unicode_utf8_first)] }
def LexParsesSaid : Prop := lexParsesRow.holds Tryd.pinned (OpenSpec.ofChange lexParsesSpec)

/-- ITS FALSE NEIGHBOUR: 'it returns false'. Refute it at one input. -/
def lexParsesWrong : ChangeSpec := { name := "lexParses", fn := fun _ => fun
  | [d] => { results := [.lit (.bool false)], args := [d] }
  | _ => none }
def LexParsesWrongFalsely : Prop := lexParsesRow.holds Tryd.pinned (OpenSpec.ofChange lexParsesWrong)

/-- 'tabulariumlaw11.LexCovers': WHATEVER THE INPUT: true; the input reads as it did. -/
def lexCoversSpec : ChangeSpec := { name := "lexCovers", fn := fun _ => fun
  | [d] => { results := [.lit (.bool true)], args := [d] }
  | _ => none }
def lexCoversRow : OpenClaim := { program := "ythabfgpncebigaadoor", sum := "011224a89f7342116ba1a1cce5606e1d3815e5391da668a29819bb201e5989e6", func := "tabularium/tabulariumlaw11.LexCovers", spec := "lexCovers", inPlace := ["internal/bytealg.IndexByteString", "internal/bytealg.IndexString", "internal/abi.NoEscape"], unfollowed := true, recurses := true, named := ["tabularium/lex.signs", "internal/bytealg.MaxLen", "tabularium/num.next", "unicode/utf8.first", "unicode/utf8.acceptRanges", "tabularium/utf.forms"], apart := false, laid := [("unicode/utf8.acceptRanges", laid_unicode_utf8_acceptRanges), ("tabularium/utf.forms", laid_tabularium_utf_forms), ("tabularium/num.next", laid_tabularium_num_next), ("tabularium/lex.signs", laid_tabularium_lex_signs), ("unicode/utf8.first", laid_unicode_utf8_first)] }
def LexCoversSaid : Prop := lexCoversRow.holds Tryd.pinned (OpenSpec.ofChange lexCoversSpec)

/-- ITS FALSE NEIGHBOUR: 'it returns false'. Refute it at one input. -/
def lexCoversWrong : ChangeSpec := { name := "lexCovers", fn := fun _ => fun
  | [d] => { results := [.lit (.bool false)], args := [d] }
  | _ => none }
def LexCoversWrongFalsely : Prop := lexCoversRow.holds Tryd.pinned (OpenSpec.ofChange lexCoversWrong)

/-- 'tabulariumlaw11.LexJoins': WHATEVER THE INPUT: true; the input reads as it did. -/
def lexJoinsSpec : ChangeSpec := { name := "lexJoins", fn := fun _ => fun
  | [d] => { results := [.lit (.bool true)], args := [d] }
  | _ => none }
def lexJoinsRow : OpenClaim := { program := "ythabfgpncebigaadoor", sum := "011224a89f7342116ba1a1cce5606e1d3815e5391da668a29819bb201e5989e6", func := "tabularium/tabulariumlaw11.LexJoins", spec := "lexJoins", inPlace := ["internal/bytealg.IndexByteString", "internal/bytealg.IndexString", "internal/abi.NoEscape"], unfollowed := true, recurses := true, named := ["tabularium/lex.signs", "internal/bytealg.MaxLen", "tabularium/num.next", "unicode/utf8.first", "unicode/utf8.acceptRanges", "tabularium/utf.forms"], apart := false, laid := [("unicode/utf8.acceptRanges", laid_unicode_utf8_acceptRanges), ("tabularium/utf.forms", laid_tabularium_utf_forms), ("tabularium/num.next", laid_tabularium_num_next), ("tabularium/lex.signs", laid_tabularium_lex_signs), ("unicode/utf8.first", laid_unicode_utf8_first)] }
def LexJoinsSaid : Prop := lexJoinsRow.holds Tryd.pinned (OpenSpec.ofChange lexJoinsSpec)

/-- ITS FALSE NEIGHBOUR: 'it returns false'. Refute it at one input. -/
def lexJoinsWrong : ChangeSpec := { name := "lexJoins", fn := fun _ => fun
  | [d] => { results := [.lit (.bool false)], args := [d] }
  | _ => none }
def LexJoinsWrongFalsely : Prop := lexJoinsRow.holds Tryd.pinned (OpenSpec.ofChange lexJoinsWrong)

/-- 'tabulariumlaw11.LexAll': WHATEVER THE INPUT: true; the input reads as it did. -/
def lexAllSpec : ChangeSpec := { name := "lexAll", fn := fun _ => fun
  | [d1, d2] => { results := [.lit (.bool true)], args := [d1, d2] }
  | _ => none }
def lexAllRow : OpenClaim := { program := "ythabfgpncebigaadoor", sum := "011224a89f7342116ba1a1cce5606e1d3815e5391da668a29819bb201e5989e6", func := "tabularium/tabulariumlaw11.LexAll", spec := "lexAll", inPlace := ["internal/bytealg.IndexByteString", "internal/bytealg.IndexString", "internal/abi.NoEscape"], unfollowed := true, recurses := true, named := ["tabularium/lex.signs", "internal/bytealg.MaxLen", "tabularium/num.next", "unicode/utf8.first", "unicode/utf8.acceptRanges", "tabularium/utf.forms"], apart := false, laid := [("unicode/utf8.acceptRanges", laid_unicode_utf8_acceptRanges), ("tabularium/utf.forms", laid_tabularium_utf_forms), ("tabularium/num.next", laid_tabularium_num_next), ("tabularium/lex.signs", laid_tabularium_lex_signs), ("unicode/utf8.first", laid_unicode_utf8_first)] }
def LexAllSaid : Prop := lexAllRow.holds Tryd.pinned (OpenSpec.ofChange lexAllSpec)

/-- ITS FALSE NEIGHBOUR: 'it returns false'. Refute it at one input. -/
def lexAllWrong : ChangeSpec := { name := "lexAll", fn := fun _ => fun
  | [d1, d2] => { results := [.lit (.bool false)], args := [d1, d2] }
  | _ => none }
def LexAllWrongFalsely : Prop := lexAllRow.holds Tryd.pinned (OpenSpec.ofChange lexAllWrong)

/-- 'tabulariumlaw11.LexParts': WHATEVER THE INPUT: true; the input reads as it did. -/
def lexPartsSpec : ChangeSpec := { name := "lexParts", fn := fun _ => fun
  | [d1, d2] => { results := [.lit (.bool true)], args := [d1, d2] }
  | _ => none }
def lexPartsRow : OpenClaim := { program := "ythabfgpncebigaadoor", sum := "011224a89f7342116ba1a1cce5606e1d3815e5391da668a29819bb201e5989e6", func := "tabularium/tabulariumlaw11.LexParts", spec := "lexParts", inPlace := ["internal/bytealg.IndexByteString", "internal/bytealg.IndexString", "internal/abi.NoEscape"], unfollowed := true, recurses := true, named := ["tabularium/lex.signs", "internal/bytealg.MaxLen", "tabularium/num.next", "unicode/utf8.first", "unicode/utf8.acceptRanges", "tabularium/utf.forms"], apart := false, laid := [("unicode/utf8.acceptRanges", laid_unicode_utf8_acceptRanges), ("tabularium/utf.forms", laid_tabularium_utf_forms), ("tabularium/num.next", laid_tabularium_num_next), ("tabularium/lex.signs", laid_tabularium_lex_signs), ("unicode/utf8.first", laid_unicode_utf8_first)] }
def LexPartsSaid : Prop := lexPartsRow.holds Tryd.pinned (OpenSpec.ofChange lexPartsSpec)

/-- ITS FALSE NEIGHBOUR: 'it returns false'. Refute it at one input. -/
def lexPartsWrong : ChangeSpec := { name := "lexParts", fn := fun _ => fun
  | [d1, d2] => { results := [.lit (.bool false)], args := [d1, d2] }
  | _ => none }
def LexPartsWrongFalsely : Prop := lexPartsRow.holds Tryd.pinned (OpenSpec.ofChange lexPartsWrong)

/- THE SECOND FORM. 'bulk': how many values and letters a reading holds, each counted each time it is reached (what is shared counts as often as it is met; a slice's spare places count too). A statement '..UptoSaid' is the law's where the arguments, and the package variables that the reading takes, are together of bulk at most 1048576: NARROWER than '..Said'. Prove '..Said' where nothing that the law and all that it calls make is longer than what came in: it says more and counts as full. Else prove '..UptoSaid'. A law counts once. -/
mutual
def uptoBulk {H : Type} : DataW H → Nat
  | .lit (.string bytes) => bytes.length + 1
  | .lit _ => 1
  | .nil => 1
  | .ptr d => uptoBulk d + 1
  | .slice elems spare => uptoBulkAll elems + uptoBulkAll spare + 1
  | .agg parts => uptoBulkAll parts + 1
  | .iface _ d => uptoBulk d + 1
  | .map entries => uptoBulkEntries entries + 1
  | .held _ => 1
def uptoBulkAll {H : Type} : List (DataW H) → Nat
  | [] => 0
  | d :: r => uptoBulk d + uptoBulkAll r
def uptoBulkEntries {H : Type} : List (Lit × DataW H) → Nat
  | [] => 0
  | x :: r => uptoBulkEntry x + uptoBulkEntries r
def uptoBulkEntry {H : Type} : Lit × DataW H → Nat
  | (.string bytes, d) => bytes.length + uptoBulk d + 1
  | (_, d) => uptoBulk d + 1
 end
def uptoSmall : (H : Type) → List (DataW H) → Bool := fun _ ds => decide (uptoBulkAll ds ≤ 1048576)
def OpenSpec.upto (s : _root_.Go.ChangeSpec) : _root_.Go.OpenSpec := { _root_.Go.OpenSpec.ofChange s with cond := some uptoSmall }

/-- 'tabulariumlaw11.LexParses', WHERE WHAT IT READS IS OF BULK AT MOST 1048576: true; the input reads as it did. -/
def lexParsesUptoRow : OpenClaim := { program := "ythabfgpncebigaadoor", sum := "011224a89f7342116ba1a1cce5606e1d3815e5391da668a29819bb201e5989e6", func := "tabularium/tabulariumlaw11.LexParses", spec := "lexParses", inPlace := ["internal/bytealg.IndexByteString", "internal/bytealg.IndexString", "internal/abi.NoEscape"], unfollowed := true, recurses := true, named := ["tabularium/lex.signs", "internal/bytealg.MaxLen", "tabularium/num.next", "unicode/utf8.first", "unicode/utf8.acceptRanges", "tabularium/utf.forms"], apart := false, laid := [("unicode/utf8.acceptRanges", laid_unicode_utf8_acceptRanges), ("tabularium/utf.forms", laid_tabularium_utf_forms), ("tabularium/num.next", laid_tabularium_num_next), ("tabularium/lex.signs", laid_tabularium_lex_signs), ("unicode/utf8.first", laid_unicode_utf8_first)], narrowed := true }
def LexParsesUptoSaid : Prop := lexParsesUptoRow.holds Tryd.pinned (OpenSpec.upto lexParsesSpec)

/-- 'tabulariumlaw11.LexCovers', WHERE WHAT IT READS IS OF BULK AT MOST 1048576: true; the input reads as it did. -/
def lexCoversUptoRow : OpenClaim := { program := "ythabfgpncebigaadoor", sum := "011224a89f7342116ba1a1cce5606e1d3815e5391da668a29819bb201e5989e6", func := "tabularium/tabulariumlaw11.LexCovers", spec := "lexCovers", inPlace := ["internal/bytealg.IndexByteString", "internal/bytealg.IndexString", "internal/abi.NoEscape"], unfollowed := true, recurses := true, named := ["tabularium/lex.signs", "internal/bytealg.MaxLen", "tabularium/num.next", "unicode/utf8.first", "unicode/utf8.acceptRanges", "tabularium/utf.forms"], apart := false, laid := [("unicode/utf8.acceptRanges", laid_unicode_utf8_acceptRanges), ("tabularium/utf.forms", laid_tabularium_utf_forms), ("tabularium/num.next", laid_tabularium_num_next), ("tabularium/lex.signs", laid_tabularium_lex_signs), ("unicode/utf8.first", laid_unicode_utf8_first)], narrowed := true }
def LexCoversUptoSaid : Prop := lexCoversUptoRow.holds Tryd.pinned (OpenSpec.upto lexCoversSpec)

/-- 'tabulariumlaw11.LexJoins', WHERE WHAT IT READS IS OF BULK AT MOST 1048576: true; the input reads as it did. -/
def lexJoinsUptoRow : OpenClaim := { program := "ythabfgpncebigaadoor", sum := "011224a89f7342116ba1a1cce5606e1d3815e5391da668a29819bb201e5989e6", func := "tabularium/tabulariumlaw11.LexJoins", spec := "lexJoins", inPlace := ["internal/bytealg.IndexByteString", "internal/bytealg.IndexString", "internal/abi.NoEscape"], unfollowed := true, recurses := true, named := ["tabularium/lex.signs", "internal/bytealg.MaxLen", "tabularium/num.next", "unicode/utf8.first", "unicode/utf8.acceptRanges", "tabularium/utf.forms"], apart := false, laid := [("unicode/utf8.acceptRanges", laid_unicode_utf8_acceptRanges), ("tabularium/utf.forms", laid_tabularium_utf_forms), ("tabularium/num.next", laid_tabularium_num_next), ("tabularium/lex.signs", laid_tabularium_lex_signs), ("unicode/utf8.first", laid_unicode_utf8_first)], narrowed := true }
def LexJoinsUptoSaid : Prop := lexJoinsUptoRow.holds Tryd.pinned (OpenSpec.upto lexJoinsSpec)

/-- 'tabulariumlaw11.LexAll', WHERE WHAT IT READS IS OF BULK AT MOST 1048576: true; the input reads as it did. -/
def lexAllUptoRow : OpenClaim := { program := "ythabfgpncebigaadoor", sum := "011224a89f7342116ba1a1cce5606e1d3815e5391da668a29819bb201e5989e6", func := "tabularium/tabulariumlaw11.LexAll", spec := "lexAll", inPlace := ["internal/bytealg.IndexByteString", "internal/bytealg.IndexString", "internal/abi.NoEscape"], unfollowed := true, recurses := true, named := ["tabularium/lex.signs", "internal/bytealg.MaxLen", "tabularium/num.next", "unicode/utf8.first", "unicode/utf8.acceptRanges", "tabularium/utf.forms"], apart := false, laid := [("unicode/utf8.acceptRanges", laid_unicode_utf8_acceptRanges), ("tabularium/utf.forms", laid_tabularium_utf_forms), ("tabularium/num.next", laid_tabularium_num_next), ("tabularium/lex.signs", laid_tabularium_lex_signs), ("unicode/utf8.first", laid_unicode_utf8_first)], narrowed := true }
def LexAllUptoSaid : Prop := lexAllUptoRow.holds Tryd.pinned (OpenSpec.upto lexAllSpec)

/-- 'tabulariumlaw11.LexParts', WHERE WHAT IT READS IS OF BULK AT MOST 1048576: true; the input reads as it did. -/
def lexPartsUptoRow : OpenClaim := { program := "ythabfgpncebigaadoor", sum := "011224a89f7342116ba1a1cce5606e1d3815e5391da668a29819bb201e5989e6", func := "tabularium/tabulariumlaw11.LexParts", spec := "lexParts", inPlace := ["internal/bytealg.IndexByteString", "internal/bytealg.IndexString", "internal/abi.NoEscape"], unfollowed := true, recurses := true, named := ["tabularium/lex.signs", "internal/bytealg.MaxLen", "tabularium/num.next", "unicode/utf8.first", "unicode/utf8.acceptRanges", "tabularium/utf.forms"], apart := false, laid := [("unicode/utf8.acceptRanges", laid_unicode_utf8_acceptRanges), ("tabularium/utf.forms", laid_tabularium_utf_forms), ("tabularium/num.next", laid_tabularium_num_next), ("tabularium/lex.signs", laid_tabularium_lex_signs), ("unicode/utf8.first", laid_unicode_utf8_first)], narrowed := true }
def LexPartsUptoSaid : Prop := lexPartsUptoRow.holds Tryd.pinned (OpenSpec.upto lexPartsSpec)

end Rows
end Go.Proofs.YthabfgpncebigaaDoor

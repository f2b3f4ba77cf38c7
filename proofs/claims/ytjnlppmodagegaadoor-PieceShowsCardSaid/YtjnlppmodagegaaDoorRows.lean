/-
  NARROWER THAN 'FOR EVERY INPUT', by the rows' own cells (each row's printed sentence says how): SubjectBase: laid · SubjectTag: laid · SubjectSame: laid · PieceShows: laid · PieceBinds: laid · PieceHides: laid · PieceTexts: laid.
  DERIVED. THE GIVEN ROWS OF THIS SEAT. 7 by the template 'for every input the law returns true; each argument reads behind the call as it read before'; 0 by the template 'total and deterministic' (their statements: YtjnlppmodagegaaDoorTotals.lean).
  GIVEN WITH THE SEED: the statements are not yours to turn. If you find one false, say at which input.
  Laid BY PROGRAM, IN A SANDBOX (cutbox-rows.mjs): the forced cells as the released guide's own fill.sh prints them over the translation 86fc372fae89e063… (all of the seat's roots in one cut). By AI agents, Wed Nov 11 2026. No macro, syntax, notation, axiom, sorry.
-/
import Derived.Test.YtjnlppmodagegaaDoorChecked
import GoSem.PinnedTables
import GoSem.Claim
import GoSem.ClaimJoined
import GoSem.ClaimMapViews
import Derived.JoinedTies
import Derived.KernelRfl
namespace Go.Proofs.YtjnlppmodagegaaDoor
/- THE CELL 'sum', in the pinned program and in every row, IS THE sha256 OF THE DUMP (.gsa) THAT YtjnlppmodagegaaDoorProg.lean LOADS. Nothing in Lean hashes anything: it is a label: what it is worth is what the hold of that sum in a sandbox is worth. -/
noncomputable def Tryd.pinned : Pinned := { name := "ytjnlppmodagegaadoor", sum := "86fc372fae89e063c41ef61319e889b9d00dfb3c2e5874cbb0cbd996c4b8c3da", checked := Tryd.checked }
namespace Rows
def none {H : Type} : Left H := { results := [], args := [] }

/- WHAT THE LISTED PACKAGE-LEVEL VARIABLES READ AS WHEN THE CALL BEGINS. Each datum BY PROGRAM (the guide's laid-datum.mjs) off the statement by which the dump's own 'gosem.cut.vars' lays the variable. In a bare row this is a premise. The card (YtjnlppmodagegaaDoorCards.lean) ties it to the program's text. -/
def laid_unicode_utf8_acceptRanges {H : Type} : DataW H := .agg [.agg [.lit (.int .u8 128), .lit (.int .u8 191)], .agg [.lit (.int .u8 160), .lit (.int .u8 191)], .agg [.lit (.int .u8 128), .lit (.int .u8 159)], .agg [.lit (.int .u8 144), .lit (.int .u8 191)], .agg [.lit (.int .u8 128), .lit (.int .u8 143)], .agg [.lit (.int .u8 0), .lit (.int .u8 0)], .agg [.lit (.int .u8 0), .lit (.int .u8 0)], .agg [.lit (.int .u8 0), .lit (.int .u8 0)], .agg [.lit (.int .u8 0), .lit (.int .u8 0)], .agg [.lit (.int .u8 0), .lit (.int .u8 0)], .agg [.lit (.int .u8 0), .lit (.int .u8 0)], .agg [.lit (.int .u8 0), .lit (.int .u8 0)], .agg [.lit (.int .u8 0), .lit (.int .u8 0)], .agg [.lit (.int .u8 0), .lit (.int .u8 0)], .agg [.lit (.int .u8 0), .lit (.int .u8 0)], .agg [.lit (.int .u8 0), .lit (.int .u8 0)]]
def laid_missive_charset_windows {H : Type} : DataW H := .agg [.lit (.int .i32 8364), .lit (.int .i32 65533), .lit (.int .i32 8218), .lit (.int .i32 402), .lit (.int .i32 8222), .lit (.int .i32 8230), .lit (.int .i32 8224), .lit (.int .i32 8225), .lit (.int .i32 710), .lit (.int .i32 8240), .lit (.int .i32 352), .lit (.int .i32 8249), .lit (.int .i32 338), .lit (.int .i32 65533), .lit (.int .i32 381), .lit (.int .i32 65533), .lit (.int .i32 65533), .lit (.int .i32 8216), .lit (.int .i32 8217), .lit (.int .i32 8220), .lit (.int .i32 8221), .lit (.int .i32 8226), .lit (.int .i32 8211), .lit (.int .i32 8212), .lit (.int .i32 732), .lit (.int .i32 8482), .lit (.int .i32 353), .lit (.int .i32 8250), .lit (.int .i32 339), .lit (.int .i32 65533), .lit (.int .i32 382), .lit (.int .i32 376)]
/-- One of Go's own tables, pinned by name: the form's constant. -/
def laid_unicode_utf8_first : DataW Unit := Go.Pinned.utf8First
def laid_math_bits_deBruijn32tab {H : Type} : DataW H := .agg [.lit (.int .u8 0), .lit (.int .u8 1), .lit (.int .u8 28), .lit (.int .u8 2), .lit (.int .u8 29), .lit (.int .u8 14), .lit (.int .u8 24), .lit (.int .u8 3), .lit (.int .u8 30), .lit (.int .u8 22), .lit (.int .u8 20), .lit (.int .u8 15), .lit (.int .u8 25), .lit (.int .u8 17), .lit (.int .u8 4), .lit (.int .u8 8), .lit (.int .u8 31), .lit (.int .u8 27), .lit (.int .u8 13), .lit (.int .u8 23), .lit (.int .u8 21), .lit (.int .u8 19), .lit (.int .u8 16), .lit (.int .u8 7), .lit (.int .u8 26), .lit (.int .u8 12), .lit (.int .u8 18), .lit (.int .u8 6), .lit (.int .u8 11), .lit (.int .u8 5), .lit (.int .u8 10), .lit (.int .u8 9)]
def laid_math_bits_deBruijn64tab {H : Type} : DataW H := .agg [.lit (.int .u8 0), .lit (.int .u8 1), .lit (.int .u8 56), .lit (.int .u8 2), .lit (.int .u8 57), .lit (.int .u8 49), .lit (.int .u8 28), .lit (.int .u8 3), .lit (.int .u8 61), .lit (.int .u8 58), .lit (.int .u8 42), .lit (.int .u8 50), .lit (.int .u8 38), .lit (.int .u8 29), .lit (.int .u8 17), .lit (.int .u8 4), .lit (.int .u8 62), .lit (.int .u8 47), .lit (.int .u8 59), .lit (.int .u8 36), .lit (.int .u8 45), .lit (.int .u8 43), .lit (.int .u8 51), .lit (.int .u8 22), .lit (.int .u8 53), .lit (.int .u8 39), .lit (.int .u8 33), .lit (.int .u8 30), .lit (.int .u8 24), .lit (.int .u8 18), .lit (.int .u8 12), .lit (.int .u8 5), .lit (.int .u8 63), .lit (.int .u8 55), .lit (.int .u8 48), .lit (.int .u8 27), .lit (.int .u8 60), .lit (.int .u8 41), .lit (.int .u8 37), .lit (.int .u8 16), .lit (.int .u8 46), .lit (.int .u8 35), .lit (.int .u8 44), .lit (.int .u8 21), .lit (.int .u8 52), .lit (.int .u8 32), .lit (.int .u8 23), .lit (.int .u8 11), .lit (.int .u8 54), .lit (.int .u8 26), .lit (.int .u8 40), .lit (.int .u8 15), .lit (.int .u8 34), .lit (.int .u8 20), .lit (.int .u8 31), .lit (.int .u8 10), .lit (.int .u8 25), .lit (.int .u8 14), .lit (.int .u8 19), .lit (.int .u8 9), .lit (.int .u8 13), .lit (.int .u8 8), .lit (.int .u8 7), .lit (.int .u8 6)]
def laid_internal_strconv_uint64pow10 {H : Type} : DataW H := .agg [.lit (.int .u64 1), .lit (.int .u64 10), .lit (.int .u64 100), .lit (.int .u64 1000), .lit (.int .u64 10000), .lit (.int .u64 100000), .lit (.int .u64 1000000), .lit (.int .u64 10000000), .lit (.int .u64 100000000), .lit (.int .u64 1000000000), .lit (.int .u64 10000000000), .lit (.int .u64 100000000000), .lit (.int .u64 1000000000000), .lit (.int .u64 10000000000000), .lit (.int .u64 100000000000000), .lit (.int .u64 1000000000000000), .lit (.int .u64 10000000000000000), .lit (.int .u64 100000000000000000), .lit (.int .u64 1000000000000000000), .lit (.int .u64 10000000000000000000)]
def laid_missive_digest_constants {H : Type} : DataW H := .agg [.lit (.int .u32 1116352408), .lit (.int .u32 1899447441), .lit (.int .u32 3049323471), .lit (.int .u32 3921009573), .lit (.int .u32 961987163), .lit (.int .u32 1508970993), .lit (.int .u32 2453635748), .lit (.int .u32 2870763221), .lit (.int .u32 3624381080), .lit (.int .u32 310598401), .lit (.int .u32 607225278), .lit (.int .u32 1426881987), .lit (.int .u32 1925078388), .lit (.int .u32 2162078206), .lit (.int .u32 2614888103), .lit (.int .u32 3248222580), .lit (.int .u32 3835390401), .lit (.int .u32 4022224774), .lit (.int .u32 264347078), .lit (.int .u32 604807628), .lit (.int .u32 770255983), .lit (.int .u32 1249150122), .lit (.int .u32 1555081692), .lit (.int .u32 1996064986), .lit (.int .u32 2554220882), .lit (.int .u32 2821834349), .lit (.int .u32 2952996808), .lit (.int .u32 3210313671), .lit (.int .u32 3336571891), .lit (.int .u32 3584528711), .lit (.int .u32 113926993), .lit (.int .u32 338241895), .lit (.int .u32 666307205), .lit (.int .u32 773529912), .lit (.int .u32 1294757372), .lit (.int .u32 1396182291), .lit (.int .u32 1695183700), .lit (.int .u32 1986661051), .lit (.int .u32 2177026350), .lit (.int .u32 2456956037), .lit (.int .u32 2730485921), .lit (.int .u32 2820302411), .lit (.int .u32 3259730800), .lit (.int .u32 3345764771), .lit (.int .u32 3516065817), .lit (.int .u32 3600352804), .lit (.int .u32 4094571909), .lit (.int .u32 275423344), .lit (.int .u32 430227734), .lit (.int .u32 506948616), .lit (.int .u32 659060556), .lit (.int .u32 883997877), .lit (.int .u32 958139571), .lit (.int .u32 1322822218), .lit (.int .u32 1537002063), .lit (.int .u32 1747873779), .lit (.int .u32 1955562222), .lit (.int .u32 2024104815), .lit (.int .u32 2227730452), .lit (.int .u32 2361852424), .lit (.int .u32 2428436474), .lit (.int .u32 2756734187), .lit (.int .u32 3204031479), .lit (.int .u32 3329325298)]

/-- 'missivelaw15.SubjectBase': WHATEVER THE INPUT: true; the input reads as it did. -/
def subjectBaseSpec : ChangeSpec := { name := "subjectBase", fn := fun _ => fun
  | [d1, d2, d3] => { results := [.lit (.bool true)], args := [d1, d2, d3] }
  | _ => none }
def subjectBaseRow : OpenClaim := { program := "ytjnlppmodagegaadoor", sum := "86fc372fae89e063c41ef61319e889b9d00dfb3c2e5874cbb0cbd996c4b8c3da", func := "missive/missivelaw15.SubjectBase", spec := "subjectBase", inPlace := ["internal/abi.NoEscape", "internal/bytealg.MakeNoZero", "internal/bytealg.IndexByteString", "internal/bytealg.IndexString"], unfollowed := true, recurses := true, named := ["unicode/utf8.first", "unicode/utf8.acceptRanges", "missive/charset.windows", "internal/bytealg.MaxLen"], apart := false, laid := [("unicode/utf8.acceptRanges", laid_unicode_utf8_acceptRanges), ("missive/charset.windows", laid_missive_charset_windows), ("unicode/utf8.first", laid_unicode_utf8_first)] }
def SubjectBaseSaid : Prop := subjectBaseRow.holds Tryd.pinned (OpenSpec.ofChange subjectBaseSpec)

/-- ITS FALSE NEIGHBOUR: 'it returns false'. Refute it at one input. -/
def subjectBaseWrong : ChangeSpec := { name := "subjectBase", fn := fun _ => fun
  | [d1, d2, d3] => { results := [.lit (.bool false)], args := [d1, d2, d3] }
  | _ => none }
def SubjectBaseWrongFalsely : Prop := subjectBaseRow.holds Tryd.pinned (OpenSpec.ofChange subjectBaseWrong)

/-- 'missivelaw15.SubjectTag': WHATEVER THE INPUT: true; the input reads as it did. -/
def subjectTagSpec : ChangeSpec := { name := "subjectTag", fn := fun _ => fun
  | [d1, d2, d3] => { results := [.lit (.bool true)], args := [d1, d2, d3] }
  | _ => none }
def subjectTagRow : OpenClaim := { program := "ytjnlppmodagegaadoor", sum := "86fc372fae89e063c41ef61319e889b9d00dfb3c2e5874cbb0cbd996c4b8c3da", func := "missive/missivelaw15.SubjectTag", spec := "subjectTag", inPlace := ["internal/abi.NoEscape", "internal/bytealg.MakeNoZero", "internal/bytealg.IndexByteString", "internal/bytealg.IndexString"], unfollowed := true, recurses := true, named := ["unicode/utf8.first", "unicode/utf8.acceptRanges", "missive/charset.windows", "internal/bytealg.MaxLen"], apart := false, laid := [("unicode/utf8.acceptRanges", laid_unicode_utf8_acceptRanges), ("missive/charset.windows", laid_missive_charset_windows), ("unicode/utf8.first", laid_unicode_utf8_first)] }
def SubjectTagSaid : Prop := subjectTagRow.holds Tryd.pinned (OpenSpec.ofChange subjectTagSpec)

/-- ITS FALSE NEIGHBOUR: 'it returns false'. Refute it at one input. -/
def subjectTagWrong : ChangeSpec := { name := "subjectTag", fn := fun _ => fun
  | [d1, d2, d3] => { results := [.lit (.bool false)], args := [d1, d2, d3] }
  | _ => none }
def SubjectTagWrongFalsely : Prop := subjectTagRow.holds Tryd.pinned (OpenSpec.ofChange subjectTagWrong)

/-- 'missivelaw15.SubjectSame': WHATEVER THE INPUT: true; the input reads as it did. -/
def subjectSameSpec : ChangeSpec := { name := "subjectSame", fn := fun _ => fun
  | [d1, d2, d3] => { results := [.lit (.bool true)], args := [d1, d2, d3] }
  | _ => none }
def subjectSameRow : OpenClaim := { program := "ytjnlppmodagegaadoor", sum := "86fc372fae89e063c41ef61319e889b9d00dfb3c2e5874cbb0cbd996c4b8c3da", func := "missive/missivelaw15.SubjectSame", spec := "subjectSame", inPlace := ["internal/abi.NoEscape", "internal/bytealg.MakeNoZero", "internal/bytealg.IndexByteString", "internal/bytealg.IndexString"], unfollowed := true, recurses := true, named := ["unicode/utf8.first", "unicode/utf8.acceptRanges", "missive/charset.windows", "internal/bytealg.MaxLen"], apart := false, laid := [("unicode/utf8.acceptRanges", laid_unicode_utf8_acceptRanges), ("missive/charset.windows", laid_missive_charset_windows), ("unicode/utf8.first", laid_unicode_utf8_first)] }
def SubjectSameSaid : Prop := subjectSameRow.holds Tryd.pinned (OpenSpec.ofChange subjectSameSpec)

/-- ITS FALSE NEIGHBOUR: 'it returns false'. Refute it at one input. -/
def subjectSameWrong : ChangeSpec := { name := "subjectSame", fn := fun _ => fun
  | [d1, d2, d3] => { results := [.lit (.bool false)], args := [d1, d2, d3] }
  | _ => none }
def SubjectSameWrongFalsely : Prop := subjectSameRow.holds Tryd.pinned (OpenSpec.ofChange subjectSameWrong)

/-- 'missivelaw20.PieceShows': WHATEVER THE INPUT: true; the input reads as it did. -/
def pieceShowsSpec : ChangeSpec := { name := "pieceShows", fn := fun _ => fun
  | [d1, d2, d3, d4, d5, d6] => { results := [.lit (.bool true)], args := [d1, d2, d3, d4, d5, d6] }
  | _ => none }
def pieceShowsRow : OpenClaim := { program := "ytjnlppmodagegaadoor", sum := "86fc372fae89e063c41ef61319e889b9d00dfb3c2e5874cbb0cbd996c4b8c3da", func := "missive/missivelaw20.PieceShows", spec := "pieceShows", inPlace := ["internal/bytealg.IndexByteString", "internal/bytealg.IndexString", "internal/abi.NoEscape"], unfollowed := true, recurses := true, named := ["internal/bytealg.MaxLen", "internal/strconv.uint64pow10", "math/bits.deBruijn32tab", "math/bits.deBruijn64tab", "missive/digest.constants"], apart := false, laid := [("math/bits.deBruijn32tab", laid_math_bits_deBruijn32tab), ("math/bits.deBruijn64tab", laid_math_bits_deBruijn64tab), ("internal/strconv.uint64pow10", laid_internal_strconv_uint64pow10), ("missive/digest.constants", laid_missive_digest_constants)] }
def PieceShowsSaid : Prop := pieceShowsRow.holds Tryd.pinned (OpenSpec.ofChange pieceShowsSpec)

/-- ITS FALSE NEIGHBOUR: 'it returns false'. Refute it at one input. -/
def pieceShowsWrong : ChangeSpec := { name := "pieceShows", fn := fun _ => fun
  | [d1, d2, d3, d4, d5, d6] => { results := [.lit (.bool false)], args := [d1, d2, d3, d4, d5, d6] }
  | _ => none }
def PieceShowsWrongFalsely : Prop := pieceShowsRow.holds Tryd.pinned (OpenSpec.ofChange pieceShowsWrong)

/-- 'missivelaw20.PieceBinds': WHATEVER THE INPUT: true; the input reads as it did. -/
def pieceBindsSpec : ChangeSpec := { name := "pieceBinds", fn := fun _ => fun
  | [d1, d2, d3] => { results := [.lit (.bool true)], args := [d1, d2, d3] }
  | _ => none }
def pieceBindsRow : OpenClaim := { program := "ytjnlppmodagegaadoor", sum := "86fc372fae89e063c41ef61319e889b9d00dfb3c2e5874cbb0cbd996c4b8c3da", func := "missive/missivelaw20.PieceBinds", spec := "pieceBinds", inPlace := ["internal/bytealg.IndexByteString", "internal/bytealg.IndexString", "internal/abi.NoEscape"], unfollowed := true, recurses := true, named := ["internal/bytealg.MaxLen", "internal/strconv.uint64pow10", "math/bits.deBruijn32tab", "math/bits.deBruijn64tab", "missive/digest.constants"], apart := false, laid := [("math/bits.deBruijn32tab", laid_math_bits_deBruijn32tab), ("math/bits.deBruijn64tab", laid_math_bits_deBruijn64tab), ("internal/strconv.uint64pow10", laid_internal_strconv_uint64pow10), ("missive/digest.constants", laid_missive_digest_constants)] }
def PieceBindsSaid : Prop := pieceBindsRow.holds Tryd.pinned (OpenSpec.ofChange pieceBindsSpec)

/-- ITS FALSE NEIGHBOUR: 'it returns false'. Refute it at one input. -/
def pieceBindsWrong : ChangeSpec := { name := "pieceBinds", fn := fun _ => fun
  | [d1, d2, d3] => { results := [.lit (.bool false)], args := [d1, d2, d3] }
  | _ => none }
def PieceBindsWrongFalsely : Prop := pieceBindsRow.holds Tryd.pinned (OpenSpec.ofChange pieceBindsWrong)

/-- 'missivelaw20.PieceHides': WHATEVER THE INPUT: true; the input reads as it did. -/
def pieceHidesSpec : ChangeSpec := { name := "pieceHides", fn := fun _ => fun
  | [d1, d2, d3, d4] => { results := [.lit (.bool true)], args := [d1, d2, d3, d4] }
  | _ => none }
def pieceHidesRow : OpenClaim := { program := "ytjnlppmodagegaadoor", sum := "86fc372fae89e063c41ef61319e889b9d00dfb3c2e5874cbb0cbd996c4b8c3da", func := "missive/missivelaw20.PieceHides", spec := "pieceHides", inPlace := ["internal/bytealg.IndexByteString", "internal/bytealg.IndexString", "internal/abi.NoEscape"], unfollowed := true, recurses := true, named := ["internal/bytealg.MaxLen", "internal/strconv.uint64pow10", "math/bits.deBruijn32tab", "math/bits.deBruijn64tab", "missive/digest.constants"], apart := false, laid := [("math/bits.deBruijn32tab", laid_math_bits_deBruijn32tab), ("math/bits.deBruijn64tab", laid_math_bits_deBruijn64tab), ("internal/strconv.uint64pow10", laid_internal_strconv_uint64pow10), ("missive/digest.constants", laid_missive_digest_constants)] }
def PieceHidesSaid : Prop := pieceHidesRow.holds Tryd.pinned (OpenSpec.ofChange pieceHidesSpec)

/-- ITS FALSE NEIGHBOUR: 'it returns false'. Refute it at one input. -/
def pieceHidesWrong : ChangeSpec := { name := "pieceHides", fn := fun _ => fun
  | [d1, d2, d3, d4] => { results := [.lit (.bool false)], args := [d1, d2, d3, d4] }
  | _ => none }
def PieceHidesWrongFalsely : Prop := pieceHidesRow.holds Tryd.pinned (OpenSpec.ofChange pieceHidesWrong)

/-- 'missivelaw20.PieceTexts': WHATEVER THE INPUT: true; the input reads as it did. -/
def pieceTextsSpec : ChangeSpec := { name := "pieceTexts", fn := fun _ => fun
  | [d1, d2, d3, d4] => { results := [.lit (.bool true)], args := [d1, d2, d3, d4] }
  | _ => none }
def pieceTextsRow : OpenClaim := { program := "ytjnlppmodagegaadoor", sum := "86fc372fae89e063c41ef61319e889b9d00dfb3c2e5874cbb0cbd996c4b8c3da", func := "missive/missivelaw20.PieceTexts", spec := "pieceTexts", inPlace := ["internal/bytealg.IndexByteString", "internal/bytealg.IndexString", "internal/abi.NoEscape"], unfollowed := true, recurses := true, named := ["internal/bytealg.MaxLen", "internal/strconv.uint64pow10", "math/bits.deBruijn32tab", "math/bits.deBruijn64tab", "missive/digest.constants"], apart := false, laid := [("math/bits.deBruijn32tab", laid_math_bits_deBruijn32tab), ("math/bits.deBruijn64tab", laid_math_bits_deBruijn64tab), ("internal/strconv.uint64pow10", laid_internal_strconv_uint64pow10), ("missive/digest.constants", laid_missive_digest_constants)] }
def PieceTextsSaid : Prop := pieceTextsRow.holds Tryd.pinned (OpenSpec.ofChange pieceTextsSpec)

/-- ITS FALSE NEIGHBOUR: 'it returns false'. Refute it at one input. -/
def pieceTextsWrong : ChangeSpec := { name := "pieceTexts", fn := fun _ => fun
  | [d1, d2, d3, d4] => { results := [.lit (.bool false)], args := [d1, d2, d3, d4] }
  | _ => none }
def PieceTextsWrongFalsely : Prop := pieceTextsRow.holds Tryd.pinned (OpenSpec.ofChange pieceTextsWrong)

/- THE SECOND FORM. 'bulk': how many values and letters a reading holds, each counted each time it is reached (what is shared counts as often as it is met; a slice's spare places count too). A statement '..UptoSaid' is the law's where the arguments, and the package variables that the reading takes, are together of bulk at most 1048576: NARROWER than '..Said'. Prove '..Said' where nothing that the law and all that it calls make is longer than what came in: it says more and counts as full. Else prove '..UptoSaid'. A law counts once. -/
mutual
def uptoBulk {H : Type} : DataW H → Nat
  | .lit (.string bytes) => bytes.length + 1
  | .lit _ => 1
  | .nil => 1
  | .ptr d => uptoBulk d + 1
  | .slice elems spare => uptoBulkAll elems + uptoBulkAll spare + 1
  | .agg parts => uptoBulkAll parts + 1
  | .iface _ d => uptoBulk d + 1
  | .map entries => uptoBulkEntries entries + 1
  | .held _ => 1
def uptoBulkAll {H : Type} : List (DataW H) → Nat
  | [] => 0
  | d :: r => uptoBulk d + uptoBulkAll r
def uptoBulkEntries {H : Type} : List (Lit × DataW H) → Nat
  | [] => 0
  | x :: r => uptoBulkEntry x + uptoBulkEntries r
def uptoBulkEntry {H : Type} : Lit × DataW H → Nat
  | (.string bytes, d) => bytes.length + uptoBulk d + 1
  | (_, d) => uptoBulk d + 1
 end
def uptoSmall : (H : Type) → List (DataW H) → Bool := fun _ ds => decide (uptoBulkAll ds ≤ 1048576)
def OpenSpec.upto (s : _root_.Go.ChangeSpec) : _root_.Go.OpenSpec := { _root_.Go.OpenSpec.ofChange s with cond := some uptoSmall }

/-- 'missivelaw15.SubjectBase', WHERE WHAT IT READS IS OF BULK AT MOST 1048576: true; the input reads as it did. -/
def subjectBaseUptoRow : OpenClaim := { program := "ytjnlppmodagegaadoor", sum := "86fc372fae89e063c41ef61319e889b9d00dfb3c2e5874cbb0cbd996c4b8c3da", func := "missive/missivelaw15.SubjectBase", spec := "subjectBase", inPlace := ["internal/abi.NoEscape", "internal/bytealg.MakeNoZero", "internal/bytealg.IndexByteString", "internal/bytealg.IndexString"], unfollowed := true, recurses := true, named := ["unicode/utf8.first", "unicode/utf8.acceptRanges", "missive/charset.windows", "internal/bytealg.MaxLen"], apart := false, laid := [("unicode/utf8.acceptRanges", laid_unicode_utf8_acceptRanges), ("missive/charset.windows", laid_missive_charset_windows), ("unicode/utf8.first", laid_unicode_utf8_first)], narrowed := true }
def SubjectBaseUptoSaid : Prop := subjectBaseUptoRow.holds Tryd.pinned (OpenSpec.upto subjectBaseSpec)

/-- 'missivelaw15.SubjectTag', WHERE WHAT IT READS IS OF BULK AT MOST 1048576: true; the input reads as it did. -/
def subjectTagUptoRow : OpenClaim := { program := "ytjnlppmodagegaadoor", sum := "86fc372fae89e063c41ef61319e889b9d00dfb3c2e5874cbb0cbd996c4b8c3da", func := "missive/missivelaw15.SubjectTag", spec := "subjectTag", inPlace := ["internal/abi.NoEscape", "internal/bytealg.MakeNoZero", "internal/bytealg.IndexByteString", "internal/bytealg.IndexString"], unfollowed := true, recurses := true, named := ["unicode/utf8.first", "unicode/utf8.acceptRanges", "missive/charset.windows", "internal/bytealg.MaxLen"], apart := false, laid := [("unicode/utf8.acceptRanges", laid_unicode_utf8_acceptRanges), ("missive/charset.windows", laid_missive_charset_windows), ("unicode/utf8.first", laid_unicode_utf8_first)], narrowed := true }
def SubjectTagUptoSaid : Prop := subjectTagUptoRow.holds Tryd.pinned (OpenSpec.upto subjectTagSpec)

/-- 'missivelaw15.SubjectSame', WHERE WHAT IT READS IS OF BULK AT MOST 1048576: true; the input reads as it did. -/
def subjectSameUptoRow : OpenClaim := { program := "ytjnlppmodagegaadoor", sum := "86fc372fae89e063c41ef61319e889b9d00dfb3c2e5874cbb0cbd996c4b8c3da", func := "missive/missivelaw15.SubjectSame", spec := "subjectSame", inPlace := ["internal/abi.NoEscape", "internal/bytealg.MakeNoZero", "internal/bytealg.IndexByteString", "internal/bytealg.IndexString"], unfollowed := true, recurses := true, named := ["unicode/utf8.first", "unicode/utf8.acceptRanges", "missive/charset.windows", "internal/bytealg.MaxLen"], apart := false, laid := [("unicode/utf8.acceptRanges", laid_unicode_utf8_acceptRanges), ("missive/charset.windows", laid_missive_charset_windows), ("unicode/utf8.first", laid_unicode_utf8_first)], narrowed := true }
def SubjectSameUptoSaid : Prop := subjectSameUptoRow.holds Tryd.pinned (OpenSpec.upto subjectSameSpec)

/-- 'missivelaw20.PieceShows', WHERE WHAT IT READS IS OF BULK AT MOST 1048576: true; the input reads as it did. -/
def pieceShowsUptoRow : OpenClaim := { program := "ytjnlppmodagegaadoor", sum := "86fc372fae89e063c41ef61319e889b9d00dfb3c2e5874cbb0cbd996c4b8c3da", func := "missive/missivelaw20.PieceShows", spec := "pieceShows", inPlace := ["internal/bytealg.IndexByteString", "internal/bytealg.IndexString", "internal/abi.NoEscape"], unfollowed := true, recurses := true, named := ["internal/bytealg.MaxLen", "internal/strconv.uint64pow10", "math/bits.deBruijn32tab", "math/bits.deBruijn64tab", "missive/digest.constants"], apart := false, laid := [("math/bits.deBruijn32tab", laid_math_bits_deBruijn32tab), ("math/bits.deBruijn64tab", laid_math_bits_deBruijn64tab), ("internal/strconv.uint64pow10", laid_internal_strconv_uint64pow10), ("missive/digest.constants", laid_missive_digest_constants)], narrowed := true }
def PieceShowsUptoSaid : Prop := pieceShowsUptoRow.holds Tryd.pinned (OpenSpec.upto pieceShowsSpec)

/-- 'missivelaw20.PieceBinds', WHERE WHAT IT READS IS OF BULK AT MOST 1048576: true; the input reads as it did. -/
def pieceBindsUptoRow : OpenClaim := { program := "ytjnlppmodagegaadoor", sum := "86fc372fae89e063c41ef61319e889b9d00dfb3c2e5874cbb0cbd996c4b8c3da", func := "missive/missivelaw20.PieceBinds", spec := "pieceBinds", inPlace := ["internal/bytealg.IndexByteString", "internal/bytealg.IndexString", "internal/abi.NoEscape"], unfollowed := true, recurses := true, named := ["internal/bytealg.MaxLen", "internal/strconv.uint64pow10", "math/bits.deBruijn32tab", "math/bits.deBruijn64tab", "missive/digest.constants"], apart := false, laid := [("math/bits.deBruijn32tab", laid_math_bits_deBruijn32tab), ("math/bits.deBruijn64tab", laid_math_bits_deBruijn64tab), ("internal/strconv.uint64pow10", laid_internal_strconv_uint64pow10), ("missive/digest.constants", laid_missive_digest_constants)], narrowed := true }
def PieceBindsUptoSaid : Prop := pieceBindsUptoRow.holds Tryd.pinned (OpenSpec.upto pieceBindsSpec)

/-- 'missivelaw20.PieceHides', WHERE WHAT IT READS IS OF BULK AT MOST 1048576: true; the input reads as it did. -/
def pieceHidesUptoRow : OpenClaim := { program := "ytjnlppmodagegaadoor", sum := "86fc372fae89e063c41ef61319e889b9d00dfb3c2e5874cbb0cbd996c4b8c3da", func := "missive/missivelaw20.PieceHides", spec := "pieceHides", inPlace := ["internal/bytealg.IndexByteString", "internal/bytealg.IndexString", "internal/abi.NoEscape"], unfollowed := true, recurses := true, named := ["internal/bytealg.MaxLen", "internal/strconv.uint64pow10", "math/bits.deBruijn32tab", "math/bits.deBruijn64tab", "missive/digest.constants"], apart := false, laid := [("math/bits.deBruijn32tab", laid_math_bits_deBruijn32tab), ("math/bits.deBruijn64tab", laid_math_bits_deBruijn64tab), ("internal/strconv.uint64pow10", laid_internal_strconv_uint64pow10), ("missive/digest.constants", laid_missive_digest_constants)], narrowed := true }
def PieceHidesUptoSaid : Prop := pieceHidesUptoRow.holds Tryd.pinned (OpenSpec.upto pieceHidesSpec)

/-- 'missivelaw20.PieceTexts', WHERE WHAT IT READS IS OF BULK AT MOST 1048576: true; the input reads as it did. -/
def pieceTextsUptoRow : OpenClaim := { program := "ytjnlppmodagegaadoor", sum := "86fc372fae89e063c41ef61319e889b9d00dfb3c2e5874cbb0cbd996c4b8c3da", func := "missive/missivelaw20.PieceTexts", spec := "pieceTexts", inPlace := ["internal/bytealg.IndexByteString", "internal/bytealg.IndexString", "internal/abi.NoEscape"], unfollowed := true, recurses := true, named := ["internal/bytealg.MaxLen", "internal/strconv.uint64pow10", "math/bits.deBruijn32tab", "math/bits.deBruijn64tab", "missive/digest.constants"], apart := false, laid := [("math/bits.deBruijn32tab", laid_math_bits_deBruijn32tab), ("math/bits.deBruijn64tab", laid_math_bits_deBruijn64tab), ("internal/strconv.uint64pow10", laid_internal_strconv_uint64pow10), ("missive/digest.constants", laid_missive_digest_constants)], narrowed := true }
def PieceTextsUptoSaid : Prop := pieceTextsUptoRow.holds Tryd.pinned (OpenSpec.upto pieceTextsSpec)

end Rows
end Go.Proofs.YtjnlppmodagegaaDoor

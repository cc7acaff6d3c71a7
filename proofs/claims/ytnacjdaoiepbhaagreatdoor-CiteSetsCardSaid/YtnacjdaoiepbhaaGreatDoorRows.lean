/-
  NARROWER THAN 'FOR EVERY INPUT', by the rows' own cells (each row's printed sentence says how): CitePrints: laid · CiteParses: laid · CiteApart: laid · CiteMakes: laid · CiteResolves: laid · CiteOpens: laid · CiteSeen: laid · CiteOwn: laid · CiteStays: laid · CiteSets: laid.
  DERIVED. THE GIVEN ROWS OF THIS SEAT. 10 by the template 'for every input the law returns true; each argument reads behind the call as it read before'; 0 by the template 'total and deterministic' (their statements: YtnacjdaoiepbhaaGreatDoorTotals.lean).
  GIVEN WITH THE SEED: the statements are not yours to turn. If you find one false, say at which input.
  Laid BY PROGRAM, IN A SANDBOX (cutbox-rows.mjs): the forced cells as the released guide's own fill.sh prints them over the translation ab902d5947043426… (all of the seat's roots in one cut). By AI agents, Wed Nov 11 2026. No macro, syntax, notation, axiom, sorry.
-/
import Derived.Test.YtnacjdaoiepbhaaGreatDoorChecked
import GoSem.PinnedTables
import GoSem.Claim
import GoSem.ClaimJoined
import GoSem.ClaimMapViews
import Derived.JoinedTies
import Derived.KernelRfl
namespace Go.Proofs.YtnacjdaoiepbhaaGreatDoor
/- THE CELL 'sum', in the pinned program and in every row, IS THE sha256 OF THE DUMP (.gsa) THAT YtnacjdaoiepbhaaGreatDoorProg.lean LOADS. Nothing in Lean hashes anything: it is a label: what it is worth is what the hold of that sum in a sandbox is worth. -/
noncomputable def Tryz.pinned : Pinned := { name := "ytnacjdaoiepbhaagreatdoor", sum := "ab902d59470434265e95658087a50b18005fe592577d5af1b3d5d683ada3543f", checked := Tryz.checked }
namespace Rows
def none {H : Type} : Left H := { results := [], args := [] }

/- WHAT THE LISTED PACKAGE-LEVEL VARIABLES READ AS WHEN THE CALL BEGINS. Each datum BY PROGRAM (the guide's laid-datum.mjs) off the statement by which the dump's own 'gosem.cut.vars' lays the variable. In a bare row this is a premise. The card (YtnacjdaoiepbhaaGreatDoorCards.lean) ties it to the program's text. -/
def laid_math_bits_deBruijn32tab {H : Type} : DataW H := .agg [.lit (.int .u8 0), .lit (.int .u8 1), .lit (.int .u8 28), .lit (.int .u8 2), .lit (.int .u8 29), .lit (.int .u8 14), .lit (.int .u8 24), .lit (.int .u8 3), .lit (.int .u8 30), .lit (.int .u8 22), .lit (.int .u8 20), .lit (.int .u8 15), .lit (.int .u8 25), .lit (.int .u8 17), .lit (.int .u8 4), .lit (.int .u8 8), .lit (.int .u8 31), .lit (.int .u8 27), .lit (.int .u8 13), .lit (.int .u8 23), .lit (.int .u8 21), .lit (.int .u8 19), .lit (.int .u8 16), .lit (.int .u8 7), .lit (.int .u8 26), .lit (.int .u8 12), .lit (.int .u8 18), .lit (.int .u8 6), .lit (.int .u8 11), .lit (.int .u8 5), .lit (.int .u8 10), .lit (.int .u8 9)]
def laid_math_bits_deBruijn64tab {H : Type} : DataW H := .agg [.lit (.int .u8 0), .lit (.int .u8 1), .lit (.int .u8 56), .lit (.int .u8 2), .lit (.int .u8 57), .lit (.int .u8 49), .lit (.int .u8 28), .lit (.int .u8 3), .lit (.int .u8 61), .lit (.int .u8 58), .lit (.int .u8 42), .lit (.int .u8 50), .lit (.int .u8 38), .lit (.int .u8 29), .lit (.int .u8 17), .lit (.int .u8 4), .lit (.int .u8 62), .lit (.int .u8 47), .lit (.int .u8 59), .lit (.int .u8 36), .lit (.int .u8 45), .lit (.int .u8 43), .lit (.int .u8 51), .lit (.int .u8 22), .lit (.int .u8 53), .lit (.int .u8 39), .lit (.int .u8 33), .lit (.int .u8 30), .lit (.int .u8 24), .lit (.int .u8 18), .lit (.int .u8 12), .lit (.int .u8 5), .lit (.int .u8 63), .lit (.int .u8 55), .lit (.int .u8 48), .lit (.int .u8 27), .lit (.int .u8 60), .lit (.int .u8 41), .lit (.int .u8 37), .lit (.int .u8 16), .lit (.int .u8 46), .lit (.int .u8 35), .lit (.int .u8 44), .lit (.int .u8 21), .lit (.int .u8 52), .lit (.int .u8 32), .lit (.int .u8 23), .lit (.int .u8 11), .lit (.int .u8 54), .lit (.int .u8 26), .lit (.int .u8 40), .lit (.int .u8 15), .lit (.int .u8 34), .lit (.int .u8 20), .lit (.int .u8 31), .lit (.int .u8 10), .lit (.int .u8 25), .lit (.int .u8 14), .lit (.int .u8 19), .lit (.int .u8 9), .lit (.int .u8 13), .lit (.int .u8 8), .lit (.int .u8 7), .lit (.int .u8 6)]
def laid_internal_strconv_uint64pow10 {H : Type} : DataW H := .agg [.lit (.int .u64 1), .lit (.int .u64 10), .lit (.int .u64 100), .lit (.int .u64 1000), .lit (.int .u64 10000), .lit (.int .u64 100000), .lit (.int .u64 1000000), .lit (.int .u64 10000000), .lit (.int .u64 100000000), .lit (.int .u64 1000000000), .lit (.int .u64 10000000000), .lit (.int .u64 100000000000), .lit (.int .u64 1000000000000), .lit (.int .u64 10000000000000), .lit (.int .u64 100000000000000), .lit (.int .u64 1000000000000000), .lit (.int .u64 10000000000000000), .lit (.int .u64 100000000000000000), .lit (.int .u64 1000000000000000000), .lit (.int .u64 10000000000000000000)]
def laid_strconv_ErrRange {H : Type} : DataW H := .iface "*errors.errorString" (.ptr (.agg [.lit (.string [118, 97, 108, 117, 101, 32, 111, 117, 116, 32, 111, 102, 32, 114, 97, 110, 103, 101])]))
def laid_strconv_ErrSyntax {H : Type} : DataW H := .iface "*errors.errorString" (.ptr (.agg [.lit (.string [105, 110, 118, 97, 108, 105, 100, 32, 115, 121, 110, 116, 97, 120])]))
def laid_langdoc_num_limits {H : Type} : DataW H := .agg [.lit (.int .i64 (-1099511627776)), .lit (.int .i64 1099511627776)]
def laid_unicode_utf8_acceptRanges {H : Type} : DataW H := .agg [.agg [.lit (.int .u8 128), .lit (.int .u8 191)], .agg [.lit (.int .u8 160), .lit (.int .u8 191)], .agg [.lit (.int .u8 128), .lit (.int .u8 159)], .agg [.lit (.int .u8 144), .lit (.int .u8 191)], .agg [.lit (.int .u8 128), .lit (.int .u8 143)], .agg [.lit (.int .u8 0), .lit (.int .u8 0)], .agg [.lit (.int .u8 0), .lit (.int .u8 0)], .agg [.lit (.int .u8 0), .lit (.int .u8 0)], .agg [.lit (.int .u8 0), .lit (.int .u8 0)], .agg [.lit (.int .u8 0), .lit (.int .u8 0)], .agg [.lit (.int .u8 0), .lit (.int .u8 0)], .agg [.lit (.int .u8 0), .lit (.int .u8 0)], .agg [.lit (.int .u8 0), .lit (.int .u8 0)], .agg [.lit (.int .u8 0), .lit (.int .u8 0)], .agg [.lit (.int .u8 0), .lit (.int .u8 0)], .agg [.lit (.int .u8 0), .lit (.int .u8 0)]]
def laid_langdoc_replica_fields {H : Type} : DataW H := .agg [.lit (.int .i64 0), .lit (.int .i64 1), .lit (.int .i64 2)]
/-- One of Go's own tables, pinned by name: the form's constant. -/
def laid_unicode_utf8_first : DataW Unit := Go.Pinned.utf8First

/-- 'langdoclaw54.CitePrints': WHATEVER THE INPUT: true; the input reads as it did. -/
def citePrintsSpec : ChangeSpec := { name := "citePrints", fn := fun _ => fun
  | [d] => { results := [.lit (.bool true)], args := [d] }
  | _ => none }
def citePrintsRow : OpenClaim := { program := "ytnacjdaoiepbhaagreatdoor", sum := "ab902d59470434265e95658087a50b18005fe592577d5af1b3d5d683ada3543f", func := "langdoc/langdoclaw54.CitePrints", spec := "citePrints", unfollowed := true, recurses := true, named := ["internal/strconv.uint64pow10", "math/bits.deBruijn32tab", "math/bits.deBruijn64tab", "langdoc/num.limits", "strconv.ErrSyntax", "strconv.ErrRange"], plainKeys := false, apart := false, laid := [("math/bits.deBruijn32tab", laid_math_bits_deBruijn32tab), ("math/bits.deBruijn64tab", laid_math_bits_deBruijn64tab), ("internal/strconv.uint64pow10", laid_internal_strconv_uint64pow10), ("strconv.ErrRange", laid_strconv_ErrRange), ("strconv.ErrSyntax", laid_strconv_ErrSyntax), ("langdoc/num.limits", laid_langdoc_num_limits)] }
def CitePrintsSaid : Prop := citePrintsRow.holds Tryz.pinned (OpenSpec.ofChange citePrintsSpec)

/-- ITS FALSE NEIGHBOUR: 'it returns false'. Refute it at one input. -/
def citePrintsWrong : ChangeSpec := { name := "citePrints", fn := fun _ => fun
  | [d] => { results := [.lit (.bool false)], args := [d] }
  | _ => none }
def CitePrintsWrongFalsely : Prop := citePrintsRow.holds Tryz.pinned (OpenSpec.ofChange citePrintsWrong)

/-- 'langdoclaw54.CiteParses': WHATEVER THE INPUT: true; the input reads as it did. -/
def citeParsesSpec : ChangeSpec := { name := "citeParses", fn := fun _ => fun
  | [d] => { results := [.lit (.bool true)], args := [d] }
  | _ => none }
def citeParsesRow : OpenClaim := { program := "ytnacjdaoiepbhaagreatdoor", sum := "ab902d59470434265e95658087a50b18005fe592577d5af1b3d5d683ada3543f", func := "langdoc/langdoclaw54.CiteParses", spec := "citeParses", unfollowed := true, recurses := true, named := ["langdoc/num.limits", "strconv.ErrSyntax", "strconv.ErrRange", "internal/strconv.uint64pow10", "math/bits.deBruijn32tab", "math/bits.deBruijn64tab"], plainKeys := false, apart := false, laid := [("math/bits.deBruijn32tab", laid_math_bits_deBruijn32tab), ("math/bits.deBruijn64tab", laid_math_bits_deBruijn64tab), ("internal/strconv.uint64pow10", laid_internal_strconv_uint64pow10), ("strconv.ErrRange", laid_strconv_ErrRange), ("strconv.ErrSyntax", laid_strconv_ErrSyntax), ("langdoc/num.limits", laid_langdoc_num_limits)] }
def CiteParsesSaid : Prop := citeParsesRow.holds Tryz.pinned (OpenSpec.ofChange citeParsesSpec)

/-- ITS FALSE NEIGHBOUR: 'it returns false'. Refute it at one input. -/
def citeParsesWrong : ChangeSpec := { name := "citeParses", fn := fun _ => fun
  | [d] => { results := [.lit (.bool false)], args := [d] }
  | _ => none }
def CiteParsesWrongFalsely : Prop := citeParsesRow.holds Tryz.pinned (OpenSpec.ofChange citeParsesWrong)

/-- 'langdoclaw54.CiteApart': WHATEVER THE INPUT: true; the input reads as it did. -/
def citeApartSpec : ChangeSpec := { name := "citeApart", fn := fun _ => fun
  | [d1, d2, d3] => { results := [.lit (.bool true)], args := [d1, d2, d3] }
  | _ => none }
def citeApartRow : OpenClaim := { program := "ytnacjdaoiepbhaagreatdoor", sum := "ab902d59470434265e95658087a50b18005fe592577d5af1b3d5d683ada3543f", func := "langdoc/langdoclaw54.CiteApart", spec := "citeApart", unfollowed := true, recurses := true, named := ["internal/strconv.uint64pow10", "math/bits.deBruijn32tab", "math/bits.deBruijn64tab", "langdoc/num.limits", "strconv.ErrSyntax", "strconv.ErrRange"], plainKeys := false, apart := false, laid := [("math/bits.deBruijn32tab", laid_math_bits_deBruijn32tab), ("math/bits.deBruijn64tab", laid_math_bits_deBruijn64tab), ("internal/strconv.uint64pow10", laid_internal_strconv_uint64pow10), ("strconv.ErrRange", laid_strconv_ErrRange), ("strconv.ErrSyntax", laid_strconv_ErrSyntax), ("langdoc/num.limits", laid_langdoc_num_limits)] }
def CiteApartSaid : Prop := citeApartRow.holds Tryz.pinned (OpenSpec.ofChange citeApartSpec)

/-- ITS FALSE NEIGHBOUR: 'it returns false'. Refute it at one input. -/
def citeApartWrong : ChangeSpec := { name := "citeApart", fn := fun _ => fun
  | [d1, d2, d3] => { results := [.lit (.bool false)], args := [d1, d2, d3] }
  | _ => none }
def CiteApartWrongFalsely : Prop := citeApartRow.holds Tryz.pinned (OpenSpec.ofChange citeApartWrong)

/-- 'langdoclaw54.CiteMakes': WHATEVER THE INPUT: true; the input reads as it did. -/
def citeMakesSpec : ChangeSpec := { name := "citeMakes", fn := fun _ => fun
  | [d1, d2] => { results := [.lit (.bool true)], args := [d1, d2] }
  | _ => none }
def citeMakesRow : OpenClaim := { program := "ytnacjdaoiepbhaagreatdoor", sum := "ab902d59470434265e95658087a50b18005fe592577d5af1b3d5d683ada3543f", func := "langdoc/langdoclaw54.CiteMakes", spec := "citeMakes", unfollowed := true, recurses := true, named := ["langdoc/num.limits", "strconv.ErrSyntax", "strconv.ErrRange", "internal/strconv.uint64pow10", "math/bits.deBruijn32tab", "math/bits.deBruijn64tab"], plainKeys := false, apart := false, laid := [("math/bits.deBruijn32tab", laid_math_bits_deBruijn32tab), ("math/bits.deBruijn64tab", laid_math_bits_deBruijn64tab), ("internal/strconv.uint64pow10", laid_internal_strconv_uint64pow10), ("strconv.ErrRange", laid_strconv_ErrRange), ("strconv.ErrSyntax", laid_strconv_ErrSyntax), ("langdoc/num.limits", laid_langdoc_num_limits)] }
def CiteMakesSaid : Prop := citeMakesRow.holds Tryz.pinned (OpenSpec.ofChange citeMakesSpec)

/-- ITS FALSE NEIGHBOUR: 'it returns false'. Refute it at one input. -/
def citeMakesWrong : ChangeSpec := { name := "citeMakes", fn := fun _ => fun
  | [d1, d2] => { results := [.lit (.bool false)], args := [d1, d2] }
  | _ => none }
def CiteMakesWrongFalsely : Prop := citeMakesRow.holds Tryz.pinned (OpenSpec.ofChange citeMakesWrong)

/-- 'langdoclaw54.CiteResolves': WHATEVER THE INPUT: true; the input reads as it did. -/
def citeResolvesSpec : ChangeSpec := { name := "citeResolves", fn := fun _ => fun
  | [d1, d2] => { results := [.lit (.bool true)], args := [d1, d2] }
  | _ => none }
def citeResolvesRow : OpenClaim := { program := "ytnacjdaoiepbhaagreatdoor", sum := "ab902d59470434265e95658087a50b18005fe592577d5af1b3d5d683ada3543f", func := "langdoc/langdoclaw54.CiteResolves", spec := "citeResolves", unfollowed := true, recurses := true, named := ["langdoc/num.limits", "strconv.ErrSyntax", "strconv.ErrRange", "internal/strconv.uint64pow10", "math/bits.deBruijn32tab", "math/bits.deBruijn64tab"], plainKeys := false, apart := false, laid := [("math/bits.deBruijn32tab", laid_math_bits_deBruijn32tab), ("math/bits.deBruijn64tab", laid_math_bits_deBruijn64tab), ("internal/strconv.uint64pow10", laid_internal_strconv_uint64pow10), ("strconv.ErrRange", laid_strconv_ErrRange), ("strconv.ErrSyntax", laid_strconv_ErrSyntax), ("langdoc/num.limits", laid_langdoc_num_limits)] }
def CiteResolvesSaid : Prop := citeResolvesRow.holds Tryz.pinned (OpenSpec.ofChange citeResolvesSpec)

/-- ITS FALSE NEIGHBOUR: 'it returns false'. Refute it at one input. -/
def citeResolvesWrong : ChangeSpec := { name := "citeResolves", fn := fun _ => fun
  | [d1, d2] => { results := [.lit (.bool false)], args := [d1, d2] }
  | _ => none }
def CiteResolvesWrongFalsely : Prop := citeResolvesRow.holds Tryz.pinned (OpenSpec.ofChange citeResolvesWrong)

/-- 'langdoclaw54.CiteOpens': WHATEVER THE INPUT: true; the input reads as it did. -/
def citeOpensSpec : ChangeSpec := { name := "citeOpens", fn := fun _ => fun
  | [d1, d2, d3] => { results := [.lit (.bool true)], args := [d1, d2, d3] }
  | _ => none }
def citeOpensRow : OpenClaim := { program := "ytnacjdaoiepbhaagreatdoor", sum := "ab902d59470434265e95658087a50b18005fe592577d5af1b3d5d683ada3543f", func := "langdoc/langdoclaw54.CiteOpens", spec := "citeOpens", unfollowed := true, recurses := true, named := ["langdoc/num.limits", "strconv.ErrSyntax", "strconv.ErrRange", "internal/strconv.uint64pow10", "math/bits.deBruijn32tab", "math/bits.deBruijn64tab"], plainKeys := false, apart := false, laid := [("math/bits.deBruijn32tab", laid_math_bits_deBruijn32tab), ("math/bits.deBruijn64tab", laid_math_bits_deBruijn64tab), ("internal/strconv.uint64pow10", laid_internal_strconv_uint64pow10), ("strconv.ErrRange", laid_strconv_ErrRange), ("strconv.ErrSyntax", laid_strconv_ErrSyntax), ("langdoc/num.limits", laid_langdoc_num_limits)] }
def CiteOpensSaid : Prop := citeOpensRow.holds Tryz.pinned (OpenSpec.ofChange citeOpensSpec)

/-- ITS FALSE NEIGHBOUR: 'it returns false'. Refute it at one input. -/
def citeOpensWrong : ChangeSpec := { name := "citeOpens", fn := fun _ => fun
  | [d1, d2, d3] => { results := [.lit (.bool false)], args := [d1, d2, d3] }
  | _ => none }
def CiteOpensWrongFalsely : Prop := citeOpensRow.holds Tryz.pinned (OpenSpec.ofChange citeOpensWrong)

/-- 'langdoclaw54.CiteSeen': WHATEVER THE INPUT: true; the input reads as it did. -/
def citeSeenSpec : ChangeSpec := { name := "citeSeen", fn := fun _ => fun
  | [d1, d2, d3] => { results := [.lit (.bool true)], args := [d1, d2, d3] }
  | _ => none }
def citeSeenRow : OpenClaim := { program := "ytnacjdaoiepbhaagreatdoor", sum := "ab902d59470434265e95658087a50b18005fe592577d5af1b3d5d683ada3543f", func := "langdoc/langdoclaw54.CiteSeen", spec := "citeSeen", unfollowed := true, recurses := true, named := ["langdoc/num.limits", "strconv.ErrSyntax", "strconv.ErrRange", "internal/strconv.uint64pow10", "math/bits.deBruijn32tab", "math/bits.deBruijn64tab"], plainKeys := false, apart := false, laid := [("math/bits.deBruijn32tab", laid_math_bits_deBruijn32tab), ("math/bits.deBruijn64tab", laid_math_bits_deBruijn64tab), ("internal/strconv.uint64pow10", laid_internal_strconv_uint64pow10), ("strconv.ErrRange", laid_strconv_ErrRange), ("strconv.ErrSyntax", laid_strconv_ErrSyntax), ("langdoc/num.limits", laid_langdoc_num_limits)] }
def CiteSeenSaid : Prop := citeSeenRow.holds Tryz.pinned (OpenSpec.ofChange citeSeenSpec)

/-- ITS FALSE NEIGHBOUR: 'it returns false'. Refute it at one input. -/
def citeSeenWrong : ChangeSpec := { name := "citeSeen", fn := fun _ => fun
  | [d1, d2, d3] => { results := [.lit (.bool false)], args := [d1, d2, d3] }
  | _ => none }
def CiteSeenWrongFalsely : Prop := citeSeenRow.holds Tryz.pinned (OpenSpec.ofChange citeSeenWrong)

/-- 'langdoclaw54.CiteOwn': WHATEVER THE INPUT: true; the input reads as it did. -/
def citeOwnSpec : ChangeSpec := { name := "citeOwn", fn := fun _ => fun
  | [d1, d2] => { results := [.lit (.bool true)], args := [d1, d2] }
  | _ => none }
def citeOwnRow : OpenClaim := { program := "ytnacjdaoiepbhaagreatdoor", sum := "ab902d59470434265e95658087a50b18005fe592577d5af1b3d5d683ada3543f", func := "langdoc/langdoclaw54.CiteOwn", spec := "citeOwn", unfollowed := true, recurses := true, named := ["langdoc/num.limits", "strconv.ErrSyntax", "strconv.ErrRange", "internal/strconv.uint64pow10", "math/bits.deBruijn32tab", "math/bits.deBruijn64tab"], plainKeys := false, apart := false, laid := [("math/bits.deBruijn32tab", laid_math_bits_deBruijn32tab), ("math/bits.deBruijn64tab", laid_math_bits_deBruijn64tab), ("internal/strconv.uint64pow10", laid_internal_strconv_uint64pow10), ("strconv.ErrRange", laid_strconv_ErrRange), ("strconv.ErrSyntax", laid_strconv_ErrSyntax), ("langdoc/num.limits", laid_langdoc_num_limits)] }
def CiteOwnSaid : Prop := citeOwnRow.holds Tryz.pinned (OpenSpec.ofChange citeOwnSpec)

/-- ITS FALSE NEIGHBOUR: 'it returns false'. Refute it at one input. -/
def citeOwnWrong : ChangeSpec := { name := "citeOwn", fn := fun _ => fun
  | [d1, d2] => { results := [.lit (.bool false)], args := [d1, d2] }
  | _ => none }
def CiteOwnWrongFalsely : Prop := citeOwnRow.holds Tryz.pinned (OpenSpec.ofChange citeOwnWrong)

/-- 'langdoclaw54.CiteStays': WHATEVER THE INPUT: true; the input reads as it did. -/
def citeStaysSpec : ChangeSpec := { name := "citeStays", fn := fun _ => fun
  | [d1, d2, d3] => { results := [.lit (.bool true)], args := [d1, d2, d3] }
  | _ => none }
def citeStaysRow : OpenClaim := { program := "ytnacjdaoiepbhaagreatdoor", sum := "ab902d59470434265e95658087a50b18005fe592577d5af1b3d5d683ada3543f", func := "langdoc/langdoclaw54.CiteStays", spec := "citeStays", unfollowed := true, recurses := true, named := ["langdoc/num.limits", "strconv.ErrSyntax", "strconv.ErrRange", "internal/strconv.uint64pow10", "math/bits.deBruijn32tab", "math/bits.deBruijn64tab", "langdoc/replica.fields", "unicode/utf8.first", "unicode/utf8.acceptRanges"], plainKeys := false, apart := false, laid := [("math/bits.deBruijn32tab", laid_math_bits_deBruijn32tab), ("math/bits.deBruijn64tab", laid_math_bits_deBruijn64tab), ("internal/strconv.uint64pow10", laid_internal_strconv_uint64pow10), ("unicode/utf8.acceptRanges", laid_unicode_utf8_acceptRanges), ("strconv.ErrRange", laid_strconv_ErrRange), ("strconv.ErrSyntax", laid_strconv_ErrSyntax), ("langdoc/num.limits", laid_langdoc_num_limits), ("langdoc/replica.fields", laid_langdoc_replica_fields), ("unicode/utf8.first", laid_unicode_utf8_first)] }
def CiteStaysSaid : Prop := citeStaysRow.holds Tryz.pinned (OpenSpec.ofChange citeStaysSpec)

/-- ITS FALSE NEIGHBOUR: 'it returns false'. Refute it at one input. -/
def citeStaysWrong : ChangeSpec := { name := "citeStays", fn := fun _ => fun
  | [d1, d2, d3] => { results := [.lit (.bool false)], args := [d1, d2, d3] }
  | _ => none }
def CiteStaysWrongFalsely : Prop := citeStaysRow.holds Tryz.pinned (OpenSpec.ofChange citeStaysWrong)

/-- 'langdoclaw54.CiteSets': WHATEVER THE INPUT: true; the input reads as it did. -/
def citeSetsSpec : ChangeSpec := { name := "citeSets", fn := fun _ => fun
  | [d1, d2, d3] => { results := [.lit (.bool true)], args := [d1, d2, d3] }
  | _ => none }
def citeSetsRow : OpenClaim := { program := "ytnacjdaoiepbhaagreatdoor", sum := "ab902d59470434265e95658087a50b18005fe592577d5af1b3d5d683ada3543f", func := "langdoc/langdoclaw54.CiteSets", spec := "citeSets", unfollowed := true, recurses := true, named := ["langdoc/num.limits", "strconv.ErrSyntax", "strconv.ErrRange", "internal/strconv.uint64pow10", "math/bits.deBruijn32tab", "math/bits.deBruijn64tab", "langdoc/replica.fields", "unicode/utf8.first", "unicode/utf8.acceptRanges"], plainKeys := false, apart := false, laid := [("math/bits.deBruijn32tab", laid_math_bits_deBruijn32tab), ("math/bits.deBruijn64tab", laid_math_bits_deBruijn64tab), ("internal/strconv.uint64pow10", laid_internal_strconv_uint64pow10), ("unicode/utf8.acceptRanges", laid_unicode_utf8_acceptRanges), ("strconv.ErrRange", laid_strconv_ErrRange), ("strconv.ErrSyntax", laid_strconv_ErrSyntax), ("langdoc/num.limits", laid_langdoc_num_limits), ("langdoc/replica.fields", laid_langdoc_replica_fields), ("unicode/utf8.first", laid_unicode_utf8_first)] }
def CiteSetsSaid : Prop := citeSetsRow.holds Tryz.pinned (OpenSpec.ofChange citeSetsSpec)

/-- ITS FALSE NEIGHBOUR: 'it returns false'. Refute it at one input. -/
def citeSetsWrong : ChangeSpec := { name := "citeSets", fn := fun _ => fun
  | [d1, d2, d3] => { results := [.lit (.bool false)], args := [d1, d2, d3] }
  | _ => none }
def CiteSetsWrongFalsely : Prop := citeSetsRow.holds Tryz.pinned (OpenSpec.ofChange citeSetsWrong)

/- THE SECOND FORM. 'bulk': how many values and letters a reading holds, each counted each time it is reached (what is shared counts as often as it is met; a slice's spare places count too). A statement '..UptoSaid' is the law's where the arguments, and the package variables that the reading takes, are together of bulk at most 1048576: NARROWER than '..Said'. Prove '..Said' where nothing that the law and all that it calls make is longer than what came in: it says more and counts as full. Else prove '..UptoSaid'. A law counts once. -/
mutual
def uptoBulk {H : Type} : DataW H → Nat
  | .lit (.string bytes) => bytes.length + 1
  | .lit _ => 1
  | .nil => 1
  | .ptr d => uptoBulk d + 1
  | .slice elems spare => uptoBulkAll elems + uptoBulkAll spare + 1
  | .agg parts => uptoBulkAll parts + 1
  | .iface _ d => uptoBulk d + 1
  | .map entries => uptoBulkEntries entries + 1
  | .held _ => 1
def uptoBulkAll {H : Type} : List (DataW H) → Nat
  | [] => 0
  | d :: r => uptoBulk d + uptoBulkAll r
def uptoBulkEntries {H : Type} : List (Lit × DataW H) → Nat
  | [] => 0
  | x :: r => uptoBulkEntry x + uptoBulkEntries r
def uptoBulkEntry {H : Type} : Lit × DataW H → Nat
  | (.string bytes, d) => bytes.length + uptoBulk d + 1
  | (_, d) => uptoBulk d + 1
 end
def uptoSmall : (H : Type) → List (DataW H) → Bool := fun _ ds => decide (uptoBulkAll ds ≤ 1048576)
def OpenSpec.upto (s : _root_.Go.ChangeSpec) : _root_.Go.OpenSpec := { _root_.Go.OpenSpec.ofChange s with cond := some uptoSmall }

/-- 'langdoclaw54.CitePrints', WHERE WHAT IT READS IS OF BULK AT MOST 1048576: true; the input reads as it did. -/
def citePrintsUptoRow : OpenClaim := { program := "ytnacjdaoiepbhaagreatdoor", sum := "ab902d59470434265e95658087a50b18005fe592577d5af1b3d5d683ada3543f", func := "langdoc/langdoclaw54.CitePrints", spec := "citePrints", unfollowed := true, recurses := true, named := ["internal/strconv.uint64pow10", "math/bits.deBruijn32tab", "math/bits.deBruijn64tab", "langdoc/num.limits", "strconv.ErrSyntax", "strconv.ErrRange"], plainKeys := false, apart := false, laid := [("math/bits.deBruijn32tab", laid_math_bits_deBruijn32tab), ("math/bits.deBruijn64tab", laid_math_bits_deBruijn64tab), ("internal/strconv.uint64pow10", laid_internal_strconv_uint64pow10), ("strconv.ErrRange", laid_strconv_ErrRange), ("strconv.ErrSyntax", laid_strconv_ErrSyntax), ("langdoc/num.limits", laid_langdoc_num_limits)], narrowed := true }
def CitePrintsUptoSaid : Prop := citePrintsUptoRow.holds Tryz.pinned (OpenSpec.upto citePrintsSpec)

/-- 'langdoclaw54.CiteParses', WHERE WHAT IT READS IS OF BULK AT MOST 1048576: true; the input reads as it did. -/
def citeParsesUptoRow : OpenClaim := { program := "ytnacjdaoiepbhaagreatdoor", sum := "ab902d59470434265e95658087a50b18005fe592577d5af1b3d5d683ada3543f", func := "langdoc/langdoclaw54.CiteParses", spec := "citeParses", unfollowed := true, recurses := true, named := ["langdoc/num.limits", "strconv.ErrSyntax", "strconv.ErrRange", "internal/strconv.uint64pow10", "math/bits.deBruijn32tab", "math/bits.deBruijn64tab"], plainKeys := false, apart := false, laid := [("math/bits.deBruijn32tab", laid_math_bits_deBruijn32tab), ("math/bits.deBruijn64tab", laid_math_bits_deBruijn64tab), ("internal/strconv.uint64pow10", laid_internal_strconv_uint64pow10), ("strconv.ErrRange", laid_strconv_ErrRange), ("strconv.ErrSyntax", laid_strconv_ErrSyntax), ("langdoc/num.limits", laid_langdoc_num_limits)], narrowed := true }
def CiteParsesUptoSaid : Prop := citeParsesUptoRow.holds Tryz.pinned (OpenSpec.upto citeParsesSpec)

/-- 'langdoclaw54.CiteApart', WHERE WHAT IT READS IS OF BULK AT MOST 1048576: true; the input reads as it did. -/
def citeApartUptoRow : OpenClaim := { program := "ytnacjdaoiepbhaagreatdoor", sum := "ab902d59470434265e95658087a50b18005fe592577d5af1b3d5d683ada3543f", func := "langdoc/langdoclaw54.CiteApart", spec := "citeApart", unfollowed := true, recurses := true, named := ["internal/strconv.uint64pow10", "math/bits.deBruijn32tab", "math/bits.deBruijn64tab", "langdoc/num.limits", "strconv.ErrSyntax", "strconv.ErrRange"], plainKeys := false, apart := false, laid := [("math/bits.deBruijn32tab", laid_math_bits_deBruijn32tab), ("math/bits.deBruijn64tab", laid_math_bits_deBruijn64tab), ("internal/strconv.uint64pow10", laid_internal_strconv_uint64pow10), ("strconv.ErrRange", laid_strconv_ErrRange), ("strconv.ErrSyntax", laid_strconv_ErrSyntax), ("langdoc/num.limits", laid_langdoc_num_limits)], narrowed := true }
def CiteApartUptoSaid : Prop := citeApartUptoRow.holds Tryz.pinned (OpenSpec.upto citeApartSpec)

/-- 'langdoclaw54.CiteMakes', WHERE WHAT IT READS IS OF BULK AT MOST 1048576: true; the input reads as it did. -/
def citeMakesUptoRow : OpenClaim := { program := "ytnacjdaoiepbhaagreatdoor", sum := "ab902d59470434265e95658087a50b18005fe592577d5af1b3d5d683ada3543f", func := "langdoc/langdoclaw54.CiteMakes", spec := "citeMakes", unfollowed := true, recurses := true, named := ["langdoc/num.limits", "strconv.ErrSyntax", "strconv.ErrRange", "internal/strconv.uint64pow10", "math/bits.deBruijn32tab", "math/bits.deBruijn64tab"], plainKeys := false, apart := false, laid := [("math/bits.deBruijn32tab", laid_math_bits_deBruijn32tab), ("math/bits.deBruijn64tab", laid_math_bits_deBruijn64tab), ("internal/strconv.uint64pow10", laid_internal_strconv_uint64pow10), ("strconv.ErrRange", laid_strconv_ErrRange), ("strconv.ErrSyntax", laid_strconv_ErrSyntax), ("langdoc/num.limits", laid_langdoc_num_limits)], narrowed := true }
def CiteMakesUptoSaid : Prop := citeMakesUptoRow.holds Tryz.pinned (OpenSpec.upto citeMakesSpec)

/-- 'langdoclaw54.CiteResolves', WHERE WHAT IT READS IS OF BULK AT MOST 1048576: true; the input reads as it did. -/
def citeResolvesUptoRow : OpenClaim := { program := "ytnacjdaoiepbhaagreatdoor", sum := "ab902d59470434265e95658087a50b18005fe592577d5af1b3d5d683ada3543f", func := "langdoc/langdoclaw54.CiteResolves", spec := "citeResolves", unfollowed := true, recurses := true, named := ["langdoc/num.limits", "strconv.ErrSyntax", "strconv.ErrRange", "internal/strconv.uint64pow10", "math/bits.deBruijn32tab", "math/bits.deBruijn64tab"], plainKeys := false, apart := false, laid := [("math/bits.deBruijn32tab", laid_math_bits_deBruijn32tab), ("math/bits.deBruijn64tab", laid_math_bits_deBruijn64tab), ("internal/strconv.uint64pow10", laid_internal_strconv_uint64pow10), ("strconv.ErrRange", laid_strconv_ErrRange), ("strconv.ErrSyntax", laid_strconv_ErrSyntax), ("langdoc/num.limits", laid_langdoc_num_limits)], narrowed := true }
def CiteResolvesUptoSaid : Prop := citeResolvesUptoRow.holds Tryz.pinned (OpenSpec.upto citeResolvesSpec)

/-- 'langdoclaw54.CiteOpens', WHERE WHAT IT READS IS OF BULK AT MOST 1048576: true; the input reads as it did. -/
def citeOpensUptoRow : OpenClaim := { program := "ytnacjdaoiepbhaagreatdoor", sum := "ab902d59470434265e95658087a50b18005fe592577d5af1b3d5d683ada3543f", func := "langdoc/langdoclaw54.CiteOpens", spec := "citeOpens", unfollowed := true, recurses := true, named := ["langdoc/num.limits", "strconv.ErrSyntax", "strconv.ErrRange", "internal/strconv.uint64pow10", "math/bits.deBruijn32tab", "math/bits.deBruijn64tab"], plainKeys := false, apart := false, laid := [("math/bits.deBruijn32tab", laid_math_bits_deBruijn32tab), ("math/bits.deBruijn64tab", laid_math_bits_deBruijn64tab), ("internal/strconv.uint64pow10", laid_internal_strconv_uint64pow10), ("strconv.ErrRange", laid_strconv_ErrRange), ("strconv.ErrSyntax", laid_strconv_ErrSyntax), ("langdoc/num.limits", laid_langdoc_num_limits)], narrowed := true }
def CiteOpensUptoSaid : Prop := citeOpensUptoRow.holds Tryz.pinned (OpenSpec.upto citeOpensSpec)

/-- 'langdoclaw54.CiteSeen', WHERE WHAT IT READS IS OF BULK AT MOST 1048576: true; the input reads as it did. -/
def citeSeenUptoRow : OpenClaim := { program := "ytnacjdaoiepbhaagreatdoor", sum := "ab902d59470434265e95658087a50b18005fe592577d5af1b3d5d683ada3543f", func := "langdoc/langdoclaw54.CiteSeen", spec := "citeSeen", unfollowed := true, recurses := true, named := ["langdoc/num.limits", "strconv.ErrSyntax", "strconv.ErrRange", "internal/strconv.uint64pow10", "math/bits.deBruijn32tab", "math/bits.deBruijn64tab"], plainKeys := false, apart := false, laid := [("math/bits.deBruijn32tab", laid_math_bits_deBruijn32tab), ("math/bits.deBruijn64tab", laid_math_bits_deBruijn64tab), ("internal/strconv.uint64pow10", laid_internal_strconv_uint64pow10), ("strconv.ErrRange", laid_strconv_ErrRange), ("strconv.ErrSyntax", laid_strconv_ErrSyntax), ("langdoc/num.limits", laid_langdoc_num_limits)], narrowed := true }
def CiteSeenUptoSaid : Prop := citeSeenUptoRow.holds Tryz.pinned (OpenSpec.upto citeSeenSpec)

/-- 'langdoclaw54.CiteOwn', WHERE WHAT IT READS IS OF BULK AT MOST 1048576: true; the input reads as it did. -/
def citeOwnUptoRow : OpenClaim := { program := "ytnacjdaoiepbhaagreatdoor", sum := "ab902d59470434265e95658087a50b18005fe592577d5af1b3d5d683ada3543f", func := "langdoc/langdoclaw54.CiteOwn", spec := "citeOwn", unfollowed := true, recurses := true, named := ["langdoc/num.limits", "strconv.ErrSyntax", "strconv.ErrRange", "internal/strconv.uint64pow10", "math/bits.deBruijn32tab", "math/bits.deBruijn64tab"], plainKeys := false, apart := false, laid := [("math/bits.deBruijn32tab", laid_math_bits_deBruijn32tab), ("math/bits.deBruijn64tab", laid_math_bits_deBruijn64tab), ("internal/strconv.uint64pow10", laid_internal_strconv_uint64pow10), ("strconv.ErrRange", laid_strconv_ErrRange), ("strconv.ErrSyntax", laid_strconv_ErrSyntax), ("langdoc/num.limits", laid_langdoc_num_limits)], narrowed := true }
def CiteOwnUptoSaid : Prop := citeOwnUptoRow.holds Tryz.pinned (OpenSpec.upto citeOwnSpec)

/-- 'langdoclaw54.CiteStays', WHERE WHAT IT READS IS OF BULK AT MOST 1048576: true; the input reads as it did. -/
def citeStaysUptoRow : OpenClaim := { program := "ytnacjdaoiepbhaagreatdoor", sum := "ab902d59470434265e95658087a50b18005fe592577d5af1b3d5d683ada3543f", func := "langdoc/langdoclaw54.CiteStays", spec := "citeStays", unfollowed := true, recurses := true, named := ["langdoc/num.limits", "strconv.ErrSyntax", "strconv.ErrRange", "internal/strconv.uint64pow10", "math/bits.deBruijn32tab", "math/bits.deBruijn64tab", "langdoc/replica.fields", "unicode/utf8.first", "unicode/utf8.acceptRanges"], plainKeys := false, apart := false, laid := [("math/bits.deBruijn32tab", laid_math_bits_deBruijn32tab), ("math/bits.deBruijn64tab", laid_math_bits_deBruijn64tab), ("internal/strconv.uint64pow10", laid_internal_strconv_uint64pow10), ("unicode/utf8.acceptRanges", laid_unicode_utf8_acceptRanges), ("strconv.ErrRange", laid_strconv_ErrRange), ("strconv.ErrSyntax", laid_strconv_ErrSyntax), ("langdoc/num.limits", laid_langdoc_num_limits), ("langdoc/replica.fields", laid_langdoc_replica_fields), ("unicode/utf8.first", laid_unicode_utf8_first)], narrowed := true }
def CiteStaysUptoSaid : Prop := citeStaysUptoRow.holds Tryz.pinned (OpenSpec.upto citeStaysSpec)

/-- 'langdoclaw54.CiteSets', WHERE WHAT IT READS IS OF BULK AT MOST 1048576: true; the input reads as it did. -/
def citeSetsUptoRow : OpenClaim := { program := "ytnacjdaoiepbhaagreatdoor", sum := "ab902d59470434265e95658087a50b18005fe592577d5af1b3d5d683ada3543f", func := "langdoc/langdoclaw54.CiteSets", spec := "citeSets", unfollowed := true, recurses := true, named := ["langdoc/num.limits", "strconv.ErrSyntax", "strconv.ErrRange", "internal/strconv.uint64pow10", "math/bits.deBruijn32tab", "math/bits.deBruijn64tab", "langdoc/replica.fields", "unicode/utf8.first", "unicode/utf8.acceptRanges"], plainKeys := false, apart := false, laid := [("math/bits.deBruijn32tab", laid_math_bits_deBruijn32tab), ("math/bits.deBruijn64tab", laid_math_bits_deBruijn64tab), ("internal/strconv.uint64pow10", laid_internal_strconv_uint64pow10), ("unicode/utf8.acceptRanges", laid_unicode_utf8_acceptRanges), ("strconv.ErrRange", laid_strconv_ErrRange), ("strconv.ErrSyntax", laid_strconv_ErrSyntax), ("langdoc/num.limits", laid_langdoc_num_limits), ("langdoc/replica.fields", laid_langdoc_replica_fields), ("unicode/utf8.first", laid_unicode_utf8_first)], narrowed := true }
def CiteSetsUptoSaid : Prop := citeSetsUptoRow.holds Tryz.pinned (OpenSpec.upto citeSetsSpec)

end Rows
end Go.Proofs.YtnacjdaoiepbhaaGreatDoor

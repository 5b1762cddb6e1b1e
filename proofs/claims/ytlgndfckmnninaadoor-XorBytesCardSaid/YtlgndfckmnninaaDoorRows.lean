/-
  NARROWER THAN 'FOR EVERY INPUT', by the rows' own cells (each row's printed sentence says how): StampSmall: laid · StampPuts: laid · XorSmall: laid · XorPuts: laid · StampGets: laid · StampOnce: laid · StampBytes: laid · StampBack: laid · XorGets: laid · XorOnce: laid · XorBytes: laid.
  DERIVED. THE GIVEN ROWS OF THIS SEAT. 11 by the template 'for every input the law returns true; each argument reads behind the call as it read before'; 0 by the template 'total and deterministic' (their statements: YtlgndfckmnninaaDoorTotals.lean).
  GIVEN WITH THE SEED: the statements are not yours to turn. If you find one false, say at which input.
  Laid BY PROGRAM, IN A SANDBOX (cutbox-rows.mjs): the forced cells as the released guide's own fill.sh prints them over the translation 7ced1c799ae681d2… (all of the seat's roots in one cut). By AI agents, Wed Nov 11 2026. No macro, syntax, notation, axiom, sorry.
-/
import Derived.Test.YtlgndfckmnninaaDoorChecked
import GoSem.Claim
import GoSem.ClaimJoined
import GoSem.ClaimMapViews
import Derived.JoinedTies
import Derived.KernelRfl
namespace Go.Proofs.YtlgndfckmnninaaDoor
/- THE CELL 'sum', in the pinned program and in every row, IS THE sha256 OF THE DUMP (.gsa) THAT YtlgndfckmnninaaDoorProg.lean LOADS. Nothing in Lean hashes anything: it is a label: what it is worth is what the hold of that sum in a sandbox is worth. -/
noncomputable def Tryd.pinned : Pinned := { name := "ytlgndfckmnninaadoor", sum := "7ced1c799ae681d26cb581453a9a26b16b29c184f73fd0312f8382802cb4c2f1", checked := Tryd.checked }
namespace Rows
def none {H : Type} : Left H := { results := [], args := [] }

/- WHAT THE LISTED PACKAGE-LEVEL VARIABLES READ AS WHEN THE CALL BEGINS. Each datum BY PROGRAM (the guide's laid-datum.mjs) off the statement by which the dump's own 'gosem.cut.vars' lays the variable. In a bare row this is a premise. The card (YtlgndfckmnninaaDoorCards.lean) ties it to the program's text. -/
def laid_tidepole_stamp_classes {H : Type} : DataW H := .agg [.agg [.lit (.int .i64 0), .lit (.int .i64 1), .lit (.int .i64 0)], .agg [.lit (.int .i64 1), .lit (.int .i64 1), .lit (.int .i64 7)], .agg [.lit (.int .i64 2), .lit (.int .i64 1), .lit (.int .i64 12)], .agg [.lit (.int .i64 3), .lit (.int .i64 1), .lit (.int .i64 20)], .agg [.lit (.int .i64 4), .lit (.int .i64 0), .lit (.int .i64 48)]]
def laid_math_bits_deBruijn64tab {H : Type} : DataW H := .agg [.lit (.int .u8 0), .lit (.int .u8 1), .lit (.int .u8 56), .lit (.int .u8 2), .lit (.int .u8 57), .lit (.int .u8 49), .lit (.int .u8 28), .lit (.int .u8 3), .lit (.int .u8 61), .lit (.int .u8 58), .lit (.int .u8 42), .lit (.int .u8 50), .lit (.int .u8 38), .lit (.int .u8 29), .lit (.int .u8 17), .lit (.int .u8 4), .lit (.int .u8 62), .lit (.int .u8 47), .lit (.int .u8 59), .lit (.int .u8 36), .lit (.int .u8 45), .lit (.int .u8 43), .lit (.int .u8 51), .lit (.int .u8 22), .lit (.int .u8 53), .lit (.int .u8 39), .lit (.int .u8 33), .lit (.int .u8 30), .lit (.int .u8 24), .lit (.int .u8 18), .lit (.int .u8 12), .lit (.int .u8 5), .lit (.int .u8 63), .lit (.int .u8 55), .lit (.int .u8 48), .lit (.int .u8 27), .lit (.int .u8 60), .lit (.int .u8 41), .lit (.int .u8 37), .lit (.int .u8 16), .lit (.int .u8 46), .lit (.int .u8 35), .lit (.int .u8 44), .lit (.int .u8 21), .lit (.int .u8 52), .lit (.int .u8 32), .lit (.int .u8 23), .lit (.int .u8 11), .lit (.int .u8 54), .lit (.int .u8 26), .lit (.int .u8 40), .lit (.int .u8 15), .lit (.int .u8 34), .lit (.int .u8 20), .lit (.int .u8 31), .lit (.int .u8 10), .lit (.int .u8 25), .lit (.int .u8 14), .lit (.int .u8 19), .lit (.int .u8 9), .lit (.int .u8 13), .lit (.int .u8 8), .lit (.int .u8 7), .lit (.int .u8 6)]

/-- 'tidepolelaw06.StampSmall': WHATEVER THE INPUT: true; the input reads as it did. -/
def stampSmallSpec : ChangeSpec := { name := "stampSmall", fn := fun _ => fun
  | [d1, d2, d3] => { results := [.lit (.bool true)], args := [d1, d2, d3] }
  | _ => none }
def stampSmallRow : OpenClaim := { program := "ytlgndfckmnninaadoor", sum := "7ced1c799ae681d26cb581453a9a26b16b29c184f73fd0312f8382802cb4c2f1", func := "tidepole/tidepolelaw06.StampSmall", spec := "stampSmall", unfollowed := true, recurses := true, named := ["tidepole/stamp.classes"], apart := false, laid := [("tidepole/stamp.classes", laid_tidepole_stamp_classes)] }
def StampSmallSaid : Prop := stampSmallRow.holds Tryd.pinned (OpenSpec.ofChange stampSmallSpec)

/-- ITS FALSE NEIGHBOUR: 'it returns false'. Refute it at one input. -/
def stampSmallWrong : ChangeSpec := { name := "stampSmall", fn := fun _ => fun
  | [d1, d2, d3] => { results := [.lit (.bool false)], args := [d1, d2, d3] }
  | _ => none }
def StampSmallWrongFalsely : Prop := stampSmallRow.holds Tryd.pinned (OpenSpec.ofChange stampSmallWrong)

/-- 'tidepolelaw06.StampPuts': WHATEVER THE INPUT: true; the input reads as it did. -/
def stampPutsSpec : ChangeSpec := { name := "stampPuts", fn := fun _ => fun
  | [d1, d2, d3] => { results := [.lit (.bool true)], args := [d1, d2, d3] }
  | _ => none }
def stampPutsRow : OpenClaim := { program := "ytlgndfckmnninaadoor", sum := "7ced1c799ae681d26cb581453a9a26b16b29c184f73fd0312f8382802cb4c2f1", func := "tidepole/tidepolelaw06.StampPuts", spec := "stampPuts", unfollowed := true, recurses := true, named := ["tidepole/stamp.classes"], apart := false, laid := [("tidepole/stamp.classes", laid_tidepole_stamp_classes)] }
def StampPutsSaid : Prop := stampPutsRow.holds Tryd.pinned (OpenSpec.ofChange stampPutsSpec)

/-- ITS FALSE NEIGHBOUR: 'it returns false'. Refute it at one input. -/
def stampPutsWrong : ChangeSpec := { name := "stampPuts", fn := fun _ => fun
  | [d1, d2, d3] => { results := [.lit (.bool false)], args := [d1, d2, d3] }
  | _ => none }
def StampPutsWrongFalsely : Prop := stampPutsRow.holds Tryd.pinned (OpenSpec.ofChange stampPutsWrong)

/-- 'tidepolelaw07.XorSmall': WHATEVER THE INPUT: true; the input reads as it did. -/
def xorSmallSpec : ChangeSpec := { name := "xorSmall", fn := fun _ => fun
  | [d1, d2] => { results := [.lit (.bool true)], args := [d1, d2] }
  | _ => none }
def xorSmallRow : OpenClaim := { program := "ytlgndfckmnninaadoor", sum := "7ced1c799ae681d26cb581453a9a26b16b29c184f73fd0312f8382802cb4c2f1", func := "tidepole/tidepolelaw07.XorSmall", spec := "xorSmall", named := ["math/bits.deBruijn64tab"], apart := false, laid := [("math/bits.deBruijn64tab", laid_math_bits_deBruijn64tab)] }
def XorSmallSaid : Prop := xorSmallRow.holds Tryd.pinned (OpenSpec.ofChange xorSmallSpec)

/-- ITS FALSE NEIGHBOUR: 'it returns false'. Refute it at one input. -/
def xorSmallWrong : ChangeSpec := { name := "xorSmall", fn := fun _ => fun
  | [d1, d2] => { results := [.lit (.bool false)], args := [d1, d2] }
  | _ => none }
def XorSmallWrongFalsely : Prop := xorSmallRow.holds Tryd.pinned (OpenSpec.ofChange xorSmallWrong)

/-- 'tidepolelaw07.XorPuts': WHATEVER THE INPUT: true; the input reads as it did. -/
def xorPutsSpec : ChangeSpec := { name := "xorPuts", fn := fun _ => fun
  | [d1, d2, d3] => { results := [.lit (.bool true)], args := [d1, d2, d3] }
  | _ => none }
def xorPutsRow : OpenClaim := { program := "ytlgndfckmnninaadoor", sum := "7ced1c799ae681d26cb581453a9a26b16b29c184f73fd0312f8382802cb4c2f1", func := "tidepole/tidepolelaw07.XorPuts", spec := "xorPuts", named := ["math/bits.deBruijn64tab"], apart := false, laid := [("math/bits.deBruijn64tab", laid_math_bits_deBruijn64tab)] }
def XorPutsSaid : Prop := xorPutsRow.holds Tryd.pinned (OpenSpec.ofChange xorPutsSpec)

/-- ITS FALSE NEIGHBOUR: 'it returns false'. Refute it at one input. -/
def xorPutsWrong : ChangeSpec := { name := "xorPuts", fn := fun _ => fun
  | [d1, d2, d3] => { results := [.lit (.bool false)], args := [d1, d2, d3] }
  | _ => none }
def XorPutsWrongFalsely : Prop := xorPutsRow.holds Tryd.pinned (OpenSpec.ofChange xorPutsWrong)

/-- 'tidepolelaw06.StampGets': WHATEVER THE INPUT: true; the input reads as it did. -/
def stampGetsSpec : ChangeSpec := { name := "stampGets", fn := fun _ => fun
  | [d1, d2, d3] => { results := [.lit (.bool true)], args := [d1, d2, d3] }
  | _ => none }
def stampGetsRow : OpenClaim := { program := "ytlgndfckmnninaadoor", sum := "7ced1c799ae681d26cb581453a9a26b16b29c184f73fd0312f8382802cb4c2f1", func := "tidepole/tidepolelaw06.StampGets", spec := "stampGets", unfollowed := true, recurses := true, named := ["tidepole/stamp.classes"], apart := false, laid := [("tidepole/stamp.classes", laid_tidepole_stamp_classes)] }
def StampGetsSaid : Prop := stampGetsRow.holds Tryd.pinned (OpenSpec.ofChange stampGetsSpec)

/-- ITS FALSE NEIGHBOUR: 'it returns false'. Refute it at one input. -/
def stampGetsWrong : ChangeSpec := { name := "stampGets", fn := fun _ => fun
  | [d1, d2, d3] => { results := [.lit (.bool false)], args := [d1, d2, d3] }
  | _ => none }
def StampGetsWrongFalsely : Prop := stampGetsRow.holds Tryd.pinned (OpenSpec.ofChange stampGetsWrong)

/-- 'tidepolelaw06.StampOnce': WHATEVER THE INPUT: true; the input reads as it did. -/
def stampOnceSpec : ChangeSpec := { name := "stampOnce", fn := fun _ => fun
  | [d] => { results := [.lit (.bool true)], args := [d] }
  | _ => none }
def stampOnceRow : OpenClaim := { program := "ytlgndfckmnninaadoor", sum := "7ced1c799ae681d26cb581453a9a26b16b29c184f73fd0312f8382802cb4c2f1", func := "tidepole/tidepolelaw06.StampOnce", spec := "stampOnce", unfollowed := true, recurses := true, named := ["tidepole/stamp.classes"], apart := false, laid := [("tidepole/stamp.classes", laid_tidepole_stamp_classes)] }
def StampOnceSaid : Prop := stampOnceRow.holds Tryd.pinned (OpenSpec.ofChange stampOnceSpec)

/-- ITS FALSE NEIGHBOUR: 'it returns false'. Refute it at one input. -/
def stampOnceWrong : ChangeSpec := { name := "stampOnce", fn := fun _ => fun
  | [d] => { results := [.lit (.bool false)], args := [d] }
  | _ => none }
def StampOnceWrongFalsely : Prop := stampOnceRow.holds Tryd.pinned (OpenSpec.ofChange stampOnceWrong)

/-- 'tidepolelaw06.StampBytes': WHATEVER THE INPUT: true; the input reads as it did. -/
def stampBytesSpec : ChangeSpec := { name := "stampBytes", fn := fun _ => fun
  | [d1, d2, d3] => { results := [.lit (.bool true)], args := [d1, d2, d3] }
  | _ => none }
def stampBytesRow : OpenClaim := { program := "ytlgndfckmnninaadoor", sum := "7ced1c799ae681d26cb581453a9a26b16b29c184f73fd0312f8382802cb4c2f1", func := "tidepole/tidepolelaw06.StampBytes", spec := "stampBytes", unfollowed := true, recurses := true, named := ["tidepole/stamp.classes"], apart := false, laid := [("tidepole/stamp.classes", laid_tidepole_stamp_classes)] }
def StampBytesSaid : Prop := stampBytesRow.holds Tryd.pinned (OpenSpec.ofChange stampBytesSpec)

/-- ITS FALSE NEIGHBOUR: 'it returns false'. Refute it at one input. -/
def stampBytesWrong : ChangeSpec := { name := "stampBytes", fn := fun _ => fun
  | [d1, d2, d3] => { results := [.lit (.bool false)], args := [d1, d2, d3] }
  | _ => none }
def StampBytesWrongFalsely : Prop := stampBytesRow.holds Tryd.pinned (OpenSpec.ofChange stampBytesWrong)

/-- 'tidepolelaw06.StampBack': WHATEVER THE INPUT: true; the input reads as it did. -/
def stampBackSpec : ChangeSpec := { name := "stampBack", fn := fun _ => fun
  | [d1, d2] => { results := [.lit (.bool true)], args := [d1, d2] }
  | _ => none }
def stampBackRow : OpenClaim := { program := "ytlgndfckmnninaadoor", sum := "7ced1c799ae681d26cb581453a9a26b16b29c184f73fd0312f8382802cb4c2f1", func := "tidepole/tidepolelaw06.StampBack", spec := "stampBack", unfollowed := true, recurses := true, named := ["tidepole/stamp.classes"], apart := false, laid := [("tidepole/stamp.classes", laid_tidepole_stamp_classes)] }
def StampBackSaid : Prop := stampBackRow.holds Tryd.pinned (OpenSpec.ofChange stampBackSpec)

/-- ITS FALSE NEIGHBOUR: 'it returns false'. Refute it at one input. -/
def stampBackWrong : ChangeSpec := { name := "stampBack", fn := fun _ => fun
  | [d1, d2] => { results := [.lit (.bool false)], args := [d1, d2] }
  | _ => none }
def StampBackWrongFalsely : Prop := stampBackRow.holds Tryd.pinned (OpenSpec.ofChange stampBackWrong)

/-- 'tidepolelaw07.XorGets': WHATEVER THE INPUT: true; the input reads as it did. -/
def xorGetsSpec : ChangeSpec := { name := "xorGets", fn := fun _ => fun
  | [d1, d2, d3] => { results := [.lit (.bool true)], args := [d1, d2, d3] }
  | _ => none }
def xorGetsRow : OpenClaim := { program := "ytlgndfckmnninaadoor", sum := "7ced1c799ae681d26cb581453a9a26b16b29c184f73fd0312f8382802cb4c2f1", func := "tidepole/tidepolelaw07.XorGets", spec := "xorGets", named := ["math/bits.deBruijn64tab"], apart := false, laid := [("math/bits.deBruijn64tab", laid_math_bits_deBruijn64tab)] }
def XorGetsSaid : Prop := xorGetsRow.holds Tryd.pinned (OpenSpec.ofChange xorGetsSpec)

/-- ITS FALSE NEIGHBOUR: 'it returns false'. Refute it at one input. -/
def xorGetsWrong : ChangeSpec := { name := "xorGets", fn := fun _ => fun
  | [d1, d2, d3] => { results := [.lit (.bool false)], args := [d1, d2, d3] }
  | _ => none }
def XorGetsWrongFalsely : Prop := xorGetsRow.holds Tryd.pinned (OpenSpec.ofChange xorGetsWrong)

/-- 'tidepolelaw07.XorOnce': WHATEVER THE INPUT: true; the input reads as it did. -/
def xorOnceSpec : ChangeSpec := { name := "xorOnce", fn := fun _ => fun
  | [d] => { results := [.lit (.bool true)], args := [d] }
  | _ => none }
def xorOnceRow : OpenClaim := { program := "ytlgndfckmnninaadoor", sum := "7ced1c799ae681d26cb581453a9a26b16b29c184f73fd0312f8382802cb4c2f1", func := "tidepole/tidepolelaw07.XorOnce", spec := "xorOnce", named := ["math/bits.deBruijn64tab"], apart := false, laid := [("math/bits.deBruijn64tab", laid_math_bits_deBruijn64tab)] }
def XorOnceSaid : Prop := xorOnceRow.holds Tryd.pinned (OpenSpec.ofChange xorOnceSpec)

/-- ITS FALSE NEIGHBOUR: 'it returns false'. Refute it at one input. -/
def xorOnceWrong : ChangeSpec := { name := "xorOnce", fn := fun _ => fun
  | [d] => { results := [.lit (.bool false)], args := [d] }
  | _ => none }
def XorOnceWrongFalsely : Prop := xorOnceRow.holds Tryd.pinned (OpenSpec.ofChange xorOnceWrong)

/-- 'tidepolelaw07.XorBytes': WHATEVER THE INPUT: true; the input reads as it did. -/
def xorBytesSpec : ChangeSpec := { name := "xorBytes", fn := fun _ => fun
  | [d1, d2, d3] => { results := [.lit (.bool true)], args := [d1, d2, d3] }
  | _ => none }
def xorBytesRow : OpenClaim := { program := "ytlgndfckmnninaadoor", sum := "7ced1c799ae681d26cb581453a9a26b16b29c184f73fd0312f8382802cb4c2f1", func := "tidepole/tidepolelaw07.XorBytes", spec := "xorBytes", unfollowed := true, recurses := true, named := ["math/bits.deBruijn64tab"], apart := false, laid := [("math/bits.deBruijn64tab", laid_math_bits_deBruijn64tab)] }
def XorBytesSaid : Prop := xorBytesRow.holds Tryd.pinned (OpenSpec.ofChange xorBytesSpec)

/-- ITS FALSE NEIGHBOUR: 'it returns false'. Refute it at one input. -/
def xorBytesWrong : ChangeSpec := { name := "xorBytes", fn := fun _ => fun
  | [d1, d2, d3] => { results := [.lit (.bool false)], args := [d1, d2, d3] }
  | _ => none }
def XorBytesWrongFalsely : Prop := xorBytesRow.holds Tryd.pinned (OpenSpec.ofChange xorBytesWrong)

/- THE SECOND FORM. 'bulk': how many values and letters a reading holds, each counted each time it is reached (what is shared counts as often as it is met; a slice's spare places count too). A statement '..UptoSaid' is the law's where the arguments, and the package variables that the reading takes, are together of bulk at most 1048576: NARROWER than '..Said'. Prove '..Said' where nothing that the law and all that it calls make is longer than what came in: it says more and counts as full. Else prove '..UptoSaid'. A law counts once. -/
mutual
def uptoBulk {H : Type} : DataW H → Nat
  | .lit (.string bytes) => bytes.length + 1
  | .lit _ => 1
  | .nil => 1
  | .ptr d => uptoBulk d + 1
  | .slice elems spare => uptoBulkAll elems + uptoBulkAll spare + 1
  | .agg parts => uptoBulkAll parts + 1
  | .iface _ d => uptoBulk d + 1
  | .map entries => uptoBulkEntries entries + 1
  | .held _ => 1
def uptoBulkAll {H : Type} : List (DataW H) → Nat
  | [] => 0
  | d :: r => uptoBulk d + uptoBulkAll r
def uptoBulkEntries {H : Type} : List (Lit × DataW H) → Nat
  | [] => 0
  | x :: r => uptoBulkEntry x + uptoBulkEntries r
def uptoBulkEntry {H : Type} : Lit × DataW H → Nat
  | (.string bytes, d) => bytes.length + uptoBulk d + 1
  | (_, d) => uptoBulk d + 1
 end
def uptoSmall : (H : Type) → List (DataW H) → Bool := fun _ ds => decide (uptoBulkAll ds ≤ 1048576)
def OpenSpec.upto (s : _root_.Go.ChangeSpec) : _root_.Go.OpenSpec := { _root_.Go.OpenSpec.ofChange s with cond := some uptoSmall }

/-- 'tidepolelaw06.StampSmall', WHERE WHAT IT READS IS OF BULK AT MOST 1048576: true; the input reads as it did. -/
def stampSmallUptoRow : OpenClaim := { program := "ytlgndfckmnninaadoor", sum := "7ced1c799ae681d26cb581453a9a26b16b29c184f73fd0312f8382802cb4c2f1", func := "tidepole/tidepolelaw06.StampSmall", spec := "stampSmall", unfollowed := true, recurses := true, named := ["tidepole/stamp.classes"], apart := false, laid := [("tidepole/stamp.classes", laid_tidepole_stamp_classes)], narrowed := true }
def StampSmallUptoSaid : Prop := stampSmallUptoRow.holds Tryd.pinned (OpenSpec.upto stampSmallSpec)

/-- 'tidepolelaw06.StampPuts', WHERE WHAT IT READS IS OF BULK AT MOST 1048576: true; the input reads as it did. -/
def stampPutsUptoRow : OpenClaim := { program := "ytlgndfckmnninaadoor", sum := "7ced1c799ae681d26cb581453a9a26b16b29c184f73fd0312f8382802cb4c2f1", func := "tidepole/tidepolelaw06.StampPuts", spec := "stampPuts", unfollowed := true, recurses := true, named := ["tidepole/stamp.classes"], apart := false, laid := [("tidepole/stamp.classes", laid_tidepole_stamp_classes)], narrowed := true }
def StampPutsUptoSaid : Prop := stampPutsUptoRow.holds Tryd.pinned (OpenSpec.upto stampPutsSpec)

/-- 'tidepolelaw07.XorSmall', WHERE WHAT IT READS IS OF BULK AT MOST 1048576: true; the input reads as it did. -/
def xorSmallUptoRow : OpenClaim := { program := "ytlgndfckmnninaadoor", sum := "7ced1c799ae681d26cb581453a9a26b16b29c184f73fd0312f8382802cb4c2f1", func := "tidepole/tidepolelaw07.XorSmall", spec := "xorSmall", named := ["math/bits.deBruijn64tab"], apart := false, laid := [("math/bits.deBruijn64tab", laid_math_bits_deBruijn64tab)], narrowed := true }
def XorSmallUptoSaid : Prop := xorSmallUptoRow.holds Tryd.pinned (OpenSpec.upto xorSmallSpec)

/-- 'tidepolelaw07.XorPuts', WHERE WHAT IT READS IS OF BULK AT MOST 1048576: true; the input reads as it did. -/
def xorPutsUptoRow : OpenClaim := { program := "ytlgndfckmnninaadoor", sum := "7ced1c799ae681d26cb581453a9a26b16b29c184f73fd0312f8382802cb4c2f1", func := "tidepole/tidepolelaw07.XorPuts", spec := "xorPuts", named := ["math/bits.deBruijn64tab"], apart := false, laid := [("math/bits.deBruijn64tab", laid_math_bits_deBruijn64tab)], narrowed := true }
def XorPutsUptoSaid : Prop := xorPutsUptoRow.holds Tryd.pinned (OpenSpec.upto xorPutsSpec)

/-- 'tidepolelaw06.StampGets', WHERE WHAT IT READS IS OF BULK AT MOST 1048576: true; the input reads as it did. -/
def stampGetsUptoRow : OpenClaim := { program := "ytlgndfckmnninaadoor", sum := "7ced1c799ae681d26cb581453a9a26b16b29c184f73fd0312f8382802cb4c2f1", func := "tidepole/tidepolelaw06.StampGets", spec := "stampGets", unfollowed := true, recurses := true, named := ["tidepole/stamp.classes"], apart := false, laid := [("tidepole/stamp.classes", laid_tidepole_stamp_classes)], narrowed := true }
def StampGetsUptoSaid : Prop := stampGetsUptoRow.holds Tryd.pinned (OpenSpec.upto stampGetsSpec)

/-- 'tidepolelaw06.StampOnce', WHERE WHAT IT READS IS OF BULK AT MOST 1048576: true; the input reads as it did. -/
def stampOnceUptoRow : OpenClaim := { program := "ytlgndfckmnninaadoor", sum := "7ced1c799ae681d26cb581453a9a26b16b29c184f73fd0312f8382802cb4c2f1", func := "tidepole/tidepolelaw06.StampOnce", spec := "stampOnce", unfollowed := true, recurses := true, named := ["tidepole/stamp.classes"], apart := false, laid := [("tidepole/stamp.classes", laid_tidepole_stamp_classes)], narrowed := true }
def StampOnceUptoSaid : Prop := stampOnceUptoRow.holds Tryd.pinned (OpenSpec.upto stampOnceSpec)

/-- 'tidepolelaw06.StampBytes', WHERE WHAT IT READS IS OF BULK AT MOST 1048576: true; the input reads as it did. -/
def stampBytesUptoRow : OpenClaim := { program := "ytlgndfckmnninaadoor", sum := "7ced1c799ae681d26cb581453a9a26b16b29c184f73fd0312f8382802cb4c2f1", func := "tidepole/tidepolelaw06.StampBytes", spec := "stampBytes", unfollowed := true, recurses := true, named := ["tidepole/stamp.classes"], apart := false, laid := [("tidepole/stamp.classes", laid_tidepole_stamp_classes)], narrowed := true }
def StampBytesUptoSaid : Prop := stampBytesUptoRow.holds Tryd.pinned (OpenSpec.upto stampBytesSpec)

/-- 'tidepolelaw06.StampBack', WHERE WHAT IT READS IS OF BULK AT MOST 1048576: true; the input reads as it did. -/
def stampBackUptoRow : OpenClaim := { program := "ytlgndfckmnninaadoor", sum := "7ced1c799ae681d26cb581453a9a26b16b29c184f73fd0312f8382802cb4c2f1", func := "tidepole/tidepolelaw06.StampBack", spec := "stampBack", unfollowed := true, recurses := true, named := ["tidepole/stamp.classes"], apart := false, laid := [("tidepole/stamp.classes", laid_tidepole_stamp_classes)], narrowed := true }
def StampBackUptoSaid : Prop := stampBackUptoRow.holds Tryd.pinned (OpenSpec.upto stampBackSpec)

/-- 'tidepolelaw07.XorGets', WHERE WHAT IT READS IS OF BULK AT MOST 1048576: true; the input reads as it did. -/
def xorGetsUptoRow : OpenClaim := { program := "ytlgndfckmnninaadoor", sum := "7ced1c799ae681d26cb581453a9a26b16b29c184f73fd0312f8382802cb4c2f1", func := "tidepole/tidepolelaw07.XorGets", spec := "xorGets", named := ["math/bits.deBruijn64tab"], apart := false, laid := [("math/bits.deBruijn64tab", laid_math_bits_deBruijn64tab)], narrowed := true }
def XorGetsUptoSaid : Prop := xorGetsUptoRow.holds Tryd.pinned (OpenSpec.upto xorGetsSpec)

/-- 'tidepolelaw07.XorOnce', WHERE WHAT IT READS IS OF BULK AT MOST 1048576: true; the input reads as it did. -/
def xorOnceUptoRow : OpenClaim := { program := "ytlgndfckmnninaadoor", sum := "7ced1c799ae681d26cb581453a9a26b16b29c184f73fd0312f8382802cb4c2f1", func := "tidepole/tidepolelaw07.XorOnce", spec := "xorOnce", named := ["math/bits.deBruijn64tab"], apart := false, laid := [("math/bits.deBruijn64tab", laid_math_bits_deBruijn64tab)], narrowed := true }
def XorOnceUptoSaid : Prop := xorOnceUptoRow.holds Tryd.pinned (OpenSpec.upto xorOnceSpec)

/-- 'tidepolelaw07.XorBytes', WHERE WHAT IT READS IS OF BULK AT MOST 1048576: true; the input reads as it did. -/
def xorBytesUptoRow : OpenClaim := { program := "ytlgndfckmnninaadoor", sum := "7ced1c799ae681d26cb581453a9a26b16b29c184f73fd0312f8382802cb4c2f1", func := "tidepole/tidepolelaw07.XorBytes", spec := "xorBytes", unfollowed := true, recurses := true, named := ["math/bits.deBruijn64tab"], apart := false, laid := [("math/bits.deBruijn64tab", laid_math_bits_deBruijn64tab)], narrowed := true }
def XorBytesUptoSaid : Prop := xorBytesUptoRow.holds Tryd.pinned (OpenSpec.upto xorBytesSpec)

end Rows
end Go.Proofs.YtlgndfckmnninaaDoor

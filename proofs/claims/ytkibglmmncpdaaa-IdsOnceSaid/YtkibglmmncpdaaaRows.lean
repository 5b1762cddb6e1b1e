/-
  No cell of these rows narrows 'for every input' (looked for: loops, veiled, ifaces, maps, wideKeys, modest, calm, conditions, laid).
  DERIVED. THE GIVEN ROWS OF THIS SEAT. 8 by the template 'for every input the law returns true; each argument reads behind the call as it read before'; 0 by the template 'total and deterministic' (their statements: YtkibglmmncpdaaaTotals.lean).
  GIVEN WITH THE SEED: the statements are not yours to turn. If you find one false, say at which input.
  Laid BY PROGRAM, IN A SANDBOX (cutbox-rows.mjs): the forced cells as the released guide's own fill.sh prints them over the translation 2166d91b3d71cabb… (all of the seat's roots in one cut). By AI agents, Wed Nov 11 2026. No macro, syntax, notation, axiom, sorry.
-/
import Derived.Test.YtkibglmmncpdaaaChecked
import GoSem.Claim
import GoSem.ClaimJoined
import GoSem.ClaimMapViews
import Derived.JoinedTies
import Derived.KernelRfl
namespace Go.Proofs.Ytkibglmmncpdaaa
/- THE CELL 'sum', in the pinned program and in every row, IS THE sha256 OF THE DUMP (.gsa) THAT YtkibglmmncpdaaaProg.lean LOADS. Nothing in Lean hashes anything: it is a label: what it is worth is what the hold of that sum in a sandbox is worth. -/
noncomputable def Try.pinned : Pinned := { name := "ytkibglmmncpdaaa", sum := "2166d91b3d71cabba63cd8c30056434c77272adeb7d8350aa49bd8fbfe5c77ac", checked := Try.checked }
namespace Rows
def none {H : Type} : Left H := { results := [], args := [] }

/-- 'tidepolelaw01.VintPuts': WHATEVER THE INPUT: true; the input reads as it did. -/
def vintPutsSpec : ChangeSpec := { name := "vintPuts", fn := fun _ => fun
  | [d1, d2, d3] => { results := [.lit (.bool true)], args := [d1, d2, d3] }
  | _ => none }
def vintPutsRow : OpenClaim := { program := "ytkibglmmncpdaaa", sum := "2166d91b3d71cabba63cd8c30056434c77272adeb7d8350aa49bd8fbfe5c77ac", func := "tidepole/tidepolelaw01.VintPuts", spec := "vintPuts", unfollowed := true, recurses := true, apart := false }
def VintPutsSaid : Prop := vintPutsRow.holds Try.pinned (OpenSpec.ofChange vintPutsSpec)

/-- ITS FALSE NEIGHBOUR: 'it returns false'. Refute it at one input. -/
def vintPutsWrong : ChangeSpec := { name := "vintPuts", fn := fun _ => fun
  | [d1, d2, d3] => { results := [.lit (.bool false)], args := [d1, d2, d3] }
  | _ => none }
def VintPutsWrongFalsely : Prop := vintPutsRow.holds Try.pinned (OpenSpec.ofChange vintPutsWrong)

/-- 'tidepolelaw01.VintRises': WHATEVER THE INPUT: true; the input reads as it did. -/
def vintRisesSpec : ChangeSpec := { name := "vintRises", fn := fun _ => fun
  | [d1, d2] => { results := [.lit (.bool true)], args := [d1, d2] }
  | _ => none }
def vintRisesRow : OpenClaim := { program := "ytkibglmmncpdaaa", sum := "2166d91b3d71cabba63cd8c30056434c77272adeb7d8350aa49bd8fbfe5c77ac", func := "tidepole/tidepolelaw01.VintRises", spec := "vintRises", unfollowed := true, recurses := true, apart := false }
def VintRisesSaid : Prop := vintRisesRow.holds Try.pinned (OpenSpec.ofChange vintRisesSpec)

/-- ITS FALSE NEIGHBOUR: 'it returns false'. Refute it at one input. -/
def vintRisesWrong : ChangeSpec := { name := "vintRises", fn := fun _ => fun
  | [d1, d2] => { results := [.lit (.bool false)], args := [d1, d2] }
  | _ => none }
def VintRisesWrongFalsely : Prop := vintRisesRow.holds Try.pinned (OpenSpec.ofChange vintRisesWrong)

/-- 'tidepolelaw01.VintOnce': WHATEVER THE INPUT: true; the input reads as it did. -/
def vintOnceSpec : ChangeSpec := { name := "vintOnce", fn := fun _ => fun
  | [d] => { results := [.lit (.bool true)], args := [d] }
  | _ => none }
def vintOnceRow : OpenClaim := { program := "ytkibglmmncpdaaa", sum := "2166d91b3d71cabba63cd8c30056434c77272adeb7d8350aa49bd8fbfe5c77ac", func := "tidepole/tidepolelaw01.VintOnce", spec := "vintOnce", unfollowed := true, recurses := true, apart := false }
def VintOnceSaid : Prop := vintOnceRow.holds Try.pinned (OpenSpec.ofChange vintOnceSpec)

/-- ITS FALSE NEIGHBOUR: 'it returns false'. Refute it at one input. -/
def vintOnceWrong : ChangeSpec := { name := "vintOnce", fn := fun _ => fun
  | [d] => { results := [.lit (.bool false)], args := [d] }
  | _ => none }
def VintOnceWrongFalsely : Prop := vintOnceRow.holds Try.pinned (OpenSpec.ofChange vintOnceWrong)

/-- 'tidepolelaw01.VintBack': WHATEVER THE INPUT: true; the input reads as it did. -/
def vintBackSpec : ChangeSpec := { name := "vintBack", fn := fun _ => fun
  | [d1, d2, d3, d4] => { results := [.lit (.bool true)], args := [d1, d2, d3, d4] }
  | _ => none }
def vintBackRow : OpenClaim := { program := "ytkibglmmncpdaaa", sum := "2166d91b3d71cabba63cd8c30056434c77272adeb7d8350aa49bd8fbfe5c77ac", func := "tidepole/tidepolelaw01.VintBack", spec := "vintBack", unfollowed := true, recurses := true, apart := false }
def VintBackSaid : Prop := vintBackRow.holds Try.pinned (OpenSpec.ofChange vintBackSpec)

/-- ITS FALSE NEIGHBOUR: 'it returns false'. Refute it at one input. -/
def vintBackWrong : ChangeSpec := { name := "vintBack", fn := fun _ => fun
  | [d1, d2, d3, d4] => { results := [.lit (.bool false)], args := [d1, d2, d3, d4] }
  | _ => none }
def VintBackWrongFalsely : Prop := vintBackRow.holds Try.pinned (OpenSpec.ofChange vintBackWrong)

/-- 'tidepolelaw18.IdsOnce': WHATEVER THE INPUT: true; the input reads as it did. -/
def idsOnceSpec : ChangeSpec := { name := "idsOnce", fn := fun _ => fun
  | [d1, d2] => { results := [.lit (.bool true)], args := [d1, d2] }
  | _ => none }
def idsOnceRow : OpenClaim := { program := "ytkibglmmncpdaaa", sum := "2166d91b3d71cabba63cd8c30056434c77272adeb7d8350aa49bd8fbfe5c77ac", func := "tidepole/tidepolelaw18.IdsOnce", spec := "idsOnce", unfollowed := true, recurses := true, apart := false }
def IdsOnceSaid : Prop := idsOnceRow.holds Try.pinned (OpenSpec.ofChange idsOnceSpec)

/-- ITS FALSE NEIGHBOUR: 'it returns false'. Refute it at one input. -/
def idsOnceWrong : ChangeSpec := { name := "idsOnce", fn := fun _ => fun
  | [d1, d2] => { results := [.lit (.bool false)], args := [d1, d2] }
  | _ => none }
def IdsOnceWrongFalsely : Prop := idsOnceRow.holds Try.pinned (OpenSpec.ofChange idsOnceWrong)

/-- 'tidepolelaw18.IdsReads': WHATEVER THE INPUT: true; the input reads as it did. -/
def idsReadsSpec : ChangeSpec := { name := "idsReads", fn := fun _ => fun
  | [d] => { results := [.lit (.bool true)], args := [d] }
  | _ => none }
def idsReadsRow : OpenClaim := { program := "ytkibglmmncpdaaa", sum := "2166d91b3d71cabba63cd8c30056434c77272adeb7d8350aa49bd8fbfe5c77ac", func := "tidepole/tidepolelaw18.IdsReads", spec := "idsReads", unfollowed := true, recurses := true, apart := false }
def IdsReadsSaid : Prop := idsReadsRow.holds Try.pinned (OpenSpec.ofChange idsReadsSpec)

/-- ITS FALSE NEIGHBOUR: 'it returns false'. Refute it at one input. -/
def idsReadsWrong : ChangeSpec := { name := "idsReads", fn := fun _ => fun
  | [d] => { results := [.lit (.bool false)], args := [d] }
  | _ => none }
def IdsReadsWrongFalsely : Prop := idsReadsRow.holds Try.pinned (OpenSpec.ofChange idsReadsWrong)

/-- 'tidepolelaw18.IdsPlays': WHATEVER THE INPUT: true; the input reads as it did. -/
def idsPlaysSpec : ChangeSpec := { name := "idsPlays", fn := fun _ => fun
  | [d1, d2] => { results := [.lit (.bool true)], args := [d1, d2] }
  | _ => none }
def idsPlaysRow : OpenClaim := { program := "ytkibglmmncpdaaa", sum := "2166d91b3d71cabba63cd8c30056434c77272adeb7d8350aa49bd8fbfe5c77ac", func := "tidepole/tidepolelaw18.IdsPlays", spec := "idsPlays", unfollowed := true, recurses := true, apart := false }
def IdsPlaysSaid : Prop := idsPlaysRow.holds Try.pinned (OpenSpec.ofChange idsPlaysSpec)

/-- ITS FALSE NEIGHBOUR: 'it returns false'. Refute it at one input. -/
def idsPlaysWrong : ChangeSpec := { name := "idsPlays", fn := fun _ => fun
  | [d1, d2] => { results := [.lit (.bool false)], args := [d1, d2] }
  | _ => none }
def IdsPlaysWrongFalsely : Prop := idsPlaysRow.holds Try.pinned (OpenSpec.ofChange idsPlaysWrong)

/-- 'tidepolelaw18.IdsVoid': WHATEVER THE INPUT: true; the input reads as it did. -/
def idsVoidSpec : ChangeSpec := { name := "idsVoid", fn := fun _ => fun
  | [d] => { results := [.lit (.bool true)], args := [d] }
  | _ => none }
def idsVoidRow : OpenClaim := { program := "ytkibglmmncpdaaa", sum := "2166d91b3d71cabba63cd8c30056434c77272adeb7d8350aa49bd8fbfe5c77ac", func := "tidepole/tidepolelaw18.IdsVoid", spec := "idsVoid", unfollowed := true, recurses := true, apart := false }
def IdsVoidSaid : Prop := idsVoidRow.holds Try.pinned (OpenSpec.ofChange idsVoidSpec)

/-- ITS FALSE NEIGHBOUR: 'it returns false'. Refute it at one input. -/
def idsVoidWrong : ChangeSpec := { name := "idsVoid", fn := fun _ => fun
  | [d] => { results := [.lit (.bool false)], args := [d] }
  | _ => none }
def IdsVoidWrongFalsely : Prop := idsVoidRow.holds Try.pinned (OpenSpec.ofChange idsVoidWrong)

/- THE SECOND FORM. 'bulk': how many values and letters a reading holds, each counted each time it is reached (what is shared counts as often as it is met; a slice's spare places count too). A statement '..UptoSaid' is the law's where the arguments, and the package variables that the reading takes, are together of bulk at most 1048576: NARROWER than '..Said'. Prove '..Said' where nothing that the law and all that it calls make is longer than what came in: it says more and counts as full. Else prove '..UptoSaid'. A law counts once. -/
mutual
def uptoBulk {H : Type} : DataW H → Nat
  | .lit (.string bytes) => bytes.length + 1
  | .lit _ => 1
  | .nil => 1
  | .ptr d => uptoBulk d + 1
  | .slice elems spare => uptoBulkAll elems + uptoBulkAll spare + 1
  | .agg parts => uptoBulkAll parts + 1
  | .iface _ d => uptoBulk d + 1
  | .map entries => uptoBulkEntries entries + 1
  | .held _ => 1
def uptoBulkAll {H : Type} : List (DataW H) → Nat
  | [] => 0
  | d :: r => uptoBulk d + uptoBulkAll r
def uptoBulkEntries {H : Type} : List (Lit × DataW H) → Nat
  | [] => 0
  | x :: r => uptoBulkEntry x + uptoBulkEntries r
def uptoBulkEntry {H : Type} : Lit × DataW H → Nat
  | (.string bytes, d) => bytes.length + uptoBulk d + 1
  | (_, d) => uptoBulk d + 1
 end
def uptoSmall : (H : Type) → List (DataW H) → Bool := fun _ ds => decide (uptoBulkAll ds ≤ 1048576)
def OpenSpec.upto (s : _root_.Go.ChangeSpec) : _root_.Go.OpenSpec := { _root_.Go.OpenSpec.ofChange s with cond := some uptoSmall }

/-- 'tidepolelaw01.VintPuts', WHERE WHAT IT READS IS OF BULK AT MOST 1048576: true; the input reads as it did. -/
def vintPutsUptoRow : OpenClaim := { program := "ytkibglmmncpdaaa", sum := "2166d91b3d71cabba63cd8c30056434c77272adeb7d8350aa49bd8fbfe5c77ac", func := "tidepole/tidepolelaw01.VintPuts", spec := "vintPuts", unfollowed := true, recurses := true, apart := false, narrowed := true }
def VintPutsUptoSaid : Prop := vintPutsUptoRow.holds Try.pinned (OpenSpec.upto vintPutsSpec)

/-- 'tidepolelaw01.VintRises', WHERE WHAT IT READS IS OF BULK AT MOST 1048576: true; the input reads as it did. -/
def vintRisesUptoRow : OpenClaim := { program := "ytkibglmmncpdaaa", sum := "2166d91b3d71cabba63cd8c30056434c77272adeb7d8350aa49bd8fbfe5c77ac", func := "tidepole/tidepolelaw01.VintRises", spec := "vintRises", unfollowed := true, recurses := true, apart := false, narrowed := true }
def VintRisesUptoSaid : Prop := vintRisesUptoRow.holds Try.pinned (OpenSpec.upto vintRisesSpec)

/-- 'tidepolelaw01.VintOnce', WHERE WHAT IT READS IS OF BULK AT MOST 1048576: true; the input reads as it did. -/
def vintOnceUptoRow : OpenClaim := { program := "ytkibglmmncpdaaa", sum := "2166d91b3d71cabba63cd8c30056434c77272adeb7d8350aa49bd8fbfe5c77ac", func := "tidepole/tidepolelaw01.VintOnce", spec := "vintOnce", unfollowed := true, recurses := true, apart := false, narrowed := true }
def VintOnceUptoSaid : Prop := vintOnceUptoRow.holds Try.pinned (OpenSpec.upto vintOnceSpec)

/-- 'tidepolelaw01.VintBack', WHERE WHAT IT READS IS OF BULK AT MOST 1048576: true; the input reads as it did. -/
def vintBackUptoRow : OpenClaim := { program := "ytkibglmmncpdaaa", sum := "2166d91b3d71cabba63cd8c30056434c77272adeb7d8350aa49bd8fbfe5c77ac", func := "tidepole/tidepolelaw01.VintBack", spec := "vintBack", unfollowed := true, recurses := true, apart := false, narrowed := true }
def VintBackUptoSaid : Prop := vintBackUptoRow.holds Try.pinned (OpenSpec.upto vintBackSpec)

/-- 'tidepolelaw18.IdsOnce', WHERE WHAT IT READS IS OF BULK AT MOST 1048576: true; the input reads as it did. -/
def idsOnceUptoRow : OpenClaim := { program := "ytkibglmmncpdaaa", sum := "2166d91b3d71cabba63cd8c30056434c77272adeb7d8350aa49bd8fbfe5c77ac", func := "tidepole/tidepolelaw18.IdsOnce", spec := "idsOnce", unfollowed := true, recurses := true, apart := false, narrowed := true }
def IdsOnceUptoSaid : Prop := idsOnceUptoRow.holds Try.pinned (OpenSpec.upto idsOnceSpec)

/-- 'tidepolelaw18.IdsReads', WHERE WHAT IT READS IS OF BULK AT MOST 1048576: true; the input reads as it did. -/
def idsReadsUptoRow : OpenClaim := { program := "ytkibglmmncpdaaa", sum := "2166d91b3d71cabba63cd8c30056434c77272adeb7d8350aa49bd8fbfe5c77ac", func := "tidepole/tidepolelaw18.IdsReads", spec := "idsReads", unfollowed := true, recurses := true, apart := false, narrowed := true }
def IdsReadsUptoSaid : Prop := idsReadsUptoRow.holds Try.pinned (OpenSpec.upto idsReadsSpec)

/-- 'tidepolelaw18.IdsPlays', WHERE WHAT IT READS IS OF BULK AT MOST 1048576: true; the input reads as it did. -/
def idsPlaysUptoRow : OpenClaim := { program := "ytkibglmmncpdaaa", sum := "2166d91b3d71cabba63cd8c30056434c77272adeb7d8350aa49bd8fbfe5c77ac", func := "tidepole/tidepolelaw18.IdsPlays", spec := "idsPlays", unfollowed := true, recurses := true, apart := false, narrowed := true }
def IdsPlaysUptoSaid : Prop := idsPlaysUptoRow.holds Try.pinned (OpenSpec.upto idsPlaysSpec)

/-- 'tidepolelaw18.IdsVoid', WHERE WHAT IT READS IS OF BULK AT MOST 1048576: true; the input reads as it did. -/
def idsVoidUptoRow : OpenClaim := { program := "ytkibglmmncpdaaa", sum := "2166d91b3d71cabba63cd8c30056434c77272adeb7d8350aa49bd8fbfe5c77ac", func := "tidepole/tidepolelaw18.IdsVoid", spec := "idsVoid", unfollowed := true, recurses := true, apart := false, narrowed := true }
def IdsVoidUptoSaid : Prop := idsVoidUptoRow.holds Try.pinned (OpenSpec.upto idsVoidSpec)

end Rows
end Go.Proofs.Ytkibglmmncpdaaa

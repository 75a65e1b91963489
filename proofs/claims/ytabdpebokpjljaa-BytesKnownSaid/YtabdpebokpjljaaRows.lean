/-
  No cell of these rows narrows 'for every input' (looked for: loops, veiled, ifaces, maps, wideKeys, modest, calm, conditions, laid).
  DERIVED. THE GIVEN ROWS OF THIS SEAT. 17 by the template 'for every input the law returns true; each argument reads behind the call as it read before'; 0 by the template 'total and deterministic' (their statements: YtabdpebokpjljaaTotals.lean).
  GIVEN WITH THE SEED: the statements are not yours to turn. If you find one false, say at which input.
  Laid BY PROGRAM, IN A SANDBOX (cutbox-rows.mjs): the forced cells as the released guide's own fill.sh prints them over the translation 72270cf32d725652… (all of the seat's roots in one cut). By AI agents, Wed Nov 11 2026. No macro, syntax, notation, axiom, sorry.
-/
import Derived.Test.YtabdpebokpjljaaChecked
import GoSem.Claim
import GoSem.ClaimJoined
import GoSem.ClaimMapViews
import Derived.JoinedTies
import Derived.KernelRfl
namespace Go.Proofs.Ytabdpebokpjljaa
/- THE CELL 'sum', in the pinned program and in every row, IS THE sha256 OF THE DUMP (.gsa) THAT YtabdpebokpjljaaProg.lean LOADS. Nothing in Lean hashes anything: it is a label: what it is worth is what the hold of that sum in a sandbox is worth. -/
noncomputable def Try.pinned : Pinned := { name := "ytabdpebokpjljaa", sum := "72270cf32d7256523af439fb3acb94a20f1bb9cdef102e2212a5cf024af97762", checked := Try.checked }
namespace Rows
def none {H : Type} : Left H := { results := [], args := [] }

/-- 'caravanlaw10.FrameFull': WHATEVER THE INPUT: true; the input reads as it did. -/
def frameFullSpec : ChangeSpec := { name := "frameFull", fn := fun _ => fun
  | [d1, d2] => { results := [.lit (.bool true)], args := [d1, d2] }
  | _ => none }
def frameFullRow : OpenClaim := { program := "ytabdpebokpjljaa", sum := "72270cf32d7256523af439fb3acb94a20f1bb9cdef102e2212a5cf024af97762", func := "caravan/caravanlaw10.FrameFull", spec := "frameFull", unfollowed := true, recurses := true, apart := false }
def FrameFullSaid : Prop := frameFullRow.holds Try.pinned (OpenSpec.ofChange frameFullSpec)

/-- ITS FALSE NEIGHBOUR: 'it returns false'. Refute it at one input. -/
def frameFullWrong : ChangeSpec := { name := "frameFull", fn := fun _ => fun
  | [d1, d2] => { results := [.lit (.bool false)], args := [d1, d2] }
  | _ => none }
def FrameFullWrongFalsely : Prop := frameFullRow.holds Try.pinned (OpenSpec.ofChange frameFullWrong)

/-- 'caravanlaw10.FrameReads': WHATEVER THE INPUT: true; the input reads as it did. -/
def frameReadsSpec : ChangeSpec := { name := "frameReads", fn := fun _ => fun
  | [d] => { results := [.lit (.bool true)], args := [d] }
  | _ => none }
def frameReadsRow : OpenClaim := { program := "ytabdpebokpjljaa", sum := "72270cf32d7256523af439fb3acb94a20f1bb9cdef102e2212a5cf024af97762", func := "caravan/caravanlaw10.FrameReads", spec := "frameReads", unfollowed := true, recurses := true, apart := false }
def FrameReadsSaid : Prop := frameReadsRow.holds Try.pinned (OpenSpec.ofChange frameReadsSpec)

/-- ITS FALSE NEIGHBOUR: 'it returns false'. Refute it at one input. -/
def frameReadsWrong : ChangeSpec := { name := "frameReads", fn := fun _ => fun
  | [d] => { results := [.lit (.bool false)], args := [d] }
  | _ => none }
def FrameReadsWrongFalsely : Prop := frameReadsRow.holds Try.pinned (OpenSpec.ofChange frameReadsWrong)

/-- 'caravanlaw10.FrameBroken': WHATEVER THE INPUT: true; the input reads as it did. -/
def frameBrokenSpec : ChangeSpec := { name := "frameBroken", fn := fun _ => fun
  | [d1, d2] => { results := [.lit (.bool true)], args := [d1, d2] }
  | _ => none }
def frameBrokenRow : OpenClaim := { program := "ytabdpebokpjljaa", sum := "72270cf32d7256523af439fb3acb94a20f1bb9cdef102e2212a5cf024af97762", func := "caravan/caravanlaw10.FrameBroken", spec := "frameBroken", unfollowed := true, recurses := true, apart := false }
def FrameBrokenSaid : Prop := frameBrokenRow.holds Try.pinned (OpenSpec.ofChange frameBrokenSpec)

/-- ITS FALSE NEIGHBOUR: 'it returns false'. Refute it at one input. -/
def frameBrokenWrong : ChangeSpec := { name := "frameBroken", fn := fun _ => fun
  | [d1, d2] => { results := [.lit (.bool false)], args := [d1, d2] }
  | _ => none }
def FrameBrokenWrongFalsely : Prop := frameBrokenRow.holds Try.pinned (OpenSpec.ofChange frameBrokenWrong)

/-- 'caravanlaw04.BytesLay': WHATEVER THE INPUT: true; the input reads as it did. -/
def bytesLaySpec : ChangeSpec := { name := "bytesLay", fn := fun _ => fun
  | [d1, d2, d3] => { results := [.lit (.bool true)], args := [d1, d2, d3] }
  | _ => none }
def bytesLayRow : OpenClaim := { program := "ytabdpebokpjljaa", sum := "72270cf32d7256523af439fb3acb94a20f1bb9cdef102e2212a5cf024af97762", func := "caravan/caravanlaw04.BytesLay", spec := "bytesLay", apart := false }
def BytesLaySaid : Prop := bytesLayRow.holds Try.pinned (OpenSpec.ofChange bytesLaySpec)

/-- ITS FALSE NEIGHBOUR: 'it returns false'. Refute it at one input. -/
def bytesLayWrong : ChangeSpec := { name := "bytesLay", fn := fun _ => fun
  | [d1, d2, d3] => { results := [.lit (.bool false)], args := [d1, d2, d3] }
  | _ => none }
def BytesLayWrongFalsely : Prop := bytesLayRow.holds Try.pinned (OpenSpec.ofChange bytesLayWrong)

/-- 'caravanlaw04.BytesRows': WHATEVER THE INPUT: true; the input reads as it did. -/
def bytesRowsSpec : ChangeSpec := { name := "bytesRows", fn := fun _ => fun
  | [d1, d2, d3] => { results := [.lit (.bool true)], args := [d1, d2, d3] }
  | _ => none }
def bytesRowsRow : OpenClaim := { program := "ytabdpebokpjljaa", sum := "72270cf32d7256523af439fb3acb94a20f1bb9cdef102e2212a5cf024af97762", func := "caravan/caravanlaw04.BytesRows", spec := "bytesRows", unfollowed := true, recurses := true, apart := false }
def BytesRowsSaid : Prop := bytesRowsRow.holds Try.pinned (OpenSpec.ofChange bytesRowsSpec)

/-- ITS FALSE NEIGHBOUR: 'it returns false'. Refute it at one input. -/
def bytesRowsWrong : ChangeSpec := { name := "bytesRows", fn := fun _ => fun
  | [d1, d2, d3] => { results := [.lit (.bool false)], args := [d1, d2, d3] }
  | _ => none }
def BytesRowsWrongFalsely : Prop := bytesRowsRow.holds Try.pinned (OpenSpec.ofChange bytesRowsWrong)

/-- 'caravanlaw04.BytesLong': WHATEVER THE INPUT: true; the input reads as it did. -/
def bytesLongSpec : ChangeSpec := { name := "bytesLong", fn := fun _ => fun
  | [d1, d2] => { results := [.lit (.bool true)], args := [d1, d2] }
  | _ => none }
def bytesLongRow : OpenClaim := { program := "ytabdpebokpjljaa", sum := "72270cf32d7256523af439fb3acb94a20f1bb9cdef102e2212a5cf024af97762", func := "caravan/caravanlaw04.BytesLong", spec := "bytesLong", apart := false }
def BytesLongSaid : Prop := bytesLongRow.holds Try.pinned (OpenSpec.ofChange bytesLongSpec)

/-- ITS FALSE NEIGHBOUR: 'it returns false'. Refute it at one input. -/
def bytesLongWrong : ChangeSpec := { name := "bytesLong", fn := fun _ => fun
  | [d1, d2] => { results := [.lit (.bool false)], args := [d1, d2] }
  | _ => none }
def BytesLongWrongFalsely : Prop := bytesLongRow.holds Try.pinned (OpenSpec.ofChange bytesLongWrong)

/-- 'caravanlaw04.BytesKnown': WHATEVER THE INPUT: true; the input reads as it did. -/
def bytesKnownSpec : ChangeSpec := { name := "bytesKnown", fn := fun _ => fun
  | [] => { results := [.lit (.bool true)], args := [] }
  | _ => none }
def bytesKnownRow : OpenClaim := { program := "ytabdpebokpjljaa", sum := "72270cf32d7256523af439fb3acb94a20f1bb9cdef102e2212a5cf024af97762", func := "caravan/caravanlaw04.BytesKnown", spec := "bytesKnown", unfollowed := true, recurses := true, apart := false }
def BytesKnownSaid : Prop := bytesKnownRow.holds Try.pinned (OpenSpec.ofChange bytesKnownSpec)

/-- ITS FALSE NEIGHBOUR: 'it returns false'. Refute it at one input. -/
def bytesKnownWrong : ChangeSpec := { name := "bytesKnown", fn := fun _ => fun
  | [] => { results := [.lit (.bool false)], args := [] }
  | _ => none }
def BytesKnownWrongFalsely : Prop := bytesKnownRow.holds Try.pinned (OpenSpec.ofChange bytesKnownWrong)

/-- 'caravanlaw04.BytesCut': WHATEVER THE INPUT: true; the input reads as it did. -/
def bytesCutSpec : ChangeSpec := { name := "bytesCut", fn := fun _ => fun
  | [d1, d2] => { results := [.lit (.bool true)], args := [d1, d2] }
  | _ => none }
def bytesCutRow : OpenClaim := { program := "ytabdpebokpjljaa", sum := "72270cf32d7256523af439fb3acb94a20f1bb9cdef102e2212a5cf024af97762", func := "caravan/caravanlaw04.BytesCut", spec := "bytesCut", apart := false }
def BytesCutSaid : Prop := bytesCutRow.holds Try.pinned (OpenSpec.ofChange bytesCutSpec)

/-- ITS FALSE NEIGHBOUR: 'it returns false'. Refute it at one input. -/
def bytesCutWrong : ChangeSpec := { name := "bytesCut", fn := fun _ => fun
  | [d1, d2] => { results := [.lit (.bool false)], args := [d1, d2] }
  | _ => none }
def BytesCutWrongFalsely : Prop := bytesCutRow.holds Try.pinned (OpenSpec.ofChange bytesCutWrong)

/-- 'caravanlaw04.BytesOnce': WHATEVER THE INPUT: true; the input reads as it did. -/
def bytesOnceSpec : ChangeSpec := { name := "bytesOnce", fn := fun _ => fun
  | [d] => { results := [.lit (.bool true)], args := [d] }
  | _ => none }
def bytesOnceRow : OpenClaim := { program := "ytabdpebokpjljaa", sum := "72270cf32d7256523af439fb3acb94a20f1bb9cdef102e2212a5cf024af97762", func := "caravan/caravanlaw04.BytesOnce", spec := "bytesOnce", apart := false }
def BytesOnceSaid : Prop := bytesOnceRow.holds Try.pinned (OpenSpec.ofChange bytesOnceSpec)

/-- ITS FALSE NEIGHBOUR: 'it returns false'. Refute it at one input. -/
def bytesOnceWrong : ChangeSpec := { name := "bytesOnce", fn := fun _ => fun
  | [d] => { results := [.lit (.bool false)], args := [d] }
  | _ => none }
def BytesOnceWrongFalsely : Prop := bytesOnceRow.holds Try.pinned (OpenSpec.ofChange bytesOnceWrong)

/-- 'caravanlaw10.FramePuts': WHATEVER THE INPUT: true; the input reads as it did. -/
def framePutsSpec : ChangeSpec := { name := "framePuts", fn := fun _ => fun
  | [d1, d2] => { results := [.lit (.bool true)], args := [d1, d2] }
  | _ => none }
def framePutsRow : OpenClaim := { program := "ytabdpebokpjljaa", sum := "72270cf32d7256523af439fb3acb94a20f1bb9cdef102e2212a5cf024af97762", func := "caravan/caravanlaw10.FramePuts", spec := "framePuts", unfollowed := true, recurses := true, apart := false }
def FramePutsSaid : Prop := framePutsRow.holds Try.pinned (OpenSpec.ofChange framePutsSpec)

/-- ITS FALSE NEIGHBOUR: 'it returns false'. Refute it at one input. -/
def framePutsWrong : ChangeSpec := { name := "framePuts", fn := fun _ => fun
  | [d1, d2] => { results := [.lit (.bool false)], args := [d1, d2] }
  | _ => none }
def FramePutsWrongFalsely : Prop := framePutsRow.holds Try.pinned (OpenSpec.ofChange framePutsWrong)

/-- 'caravanlaw10.FrameLong': WHATEVER THE INPUT: true; the input reads as it did. -/
def frameLongSpec : ChangeSpec := { name := "frameLong", fn := fun _ => fun
  | [d1, d2, d3] => { results := [.lit (.bool true)], args := [d1, d2, d3] }
  | _ => none }
def frameLongRow : OpenClaim := { program := "ytabdpebokpjljaa", sum := "72270cf32d7256523af439fb3acb94a20f1bb9cdef102e2212a5cf024af97762", func := "caravan/caravanlaw10.FrameLong", spec := "frameLong", unfollowed := true, recurses := true, apart := false }
def FrameLongSaid : Prop := frameLongRow.holds Try.pinned (OpenSpec.ofChange frameLongSpec)

/-- ITS FALSE NEIGHBOUR: 'it returns false'. Refute it at one input. -/
def frameLongWrong : ChangeSpec := { name := "frameLong", fn := fun _ => fun
  | [d1, d2, d3] => { results := [.lit (.bool false)], args := [d1, d2, d3] }
  | _ => none }
def FrameLongWrongFalsely : Prop := frameLongRow.holds Try.pinned (OpenSpec.ofChange frameLongWrong)

/-- 'caravanlaw04.BytesTakes': WHATEVER THE INPUT: true; the input reads as it did. -/
def bytesTakesSpec : ChangeSpec := { name := "bytesTakes", fn := fun _ => fun
  | [d1, d2] => { results := [.lit (.bool true)], args := [d1, d2] }
  | _ => none }
def bytesTakesRow : OpenClaim := { program := "ytabdpebokpjljaa", sum := "72270cf32d7256523af439fb3acb94a20f1bb9cdef102e2212a5cf024af97762", func := "caravan/caravanlaw04.BytesTakes", spec := "bytesTakes", apart := false }
def BytesTakesSaid : Prop := bytesTakesRow.holds Try.pinned (OpenSpec.ofChange bytesTakesSpec)

/-- ITS FALSE NEIGHBOUR: 'it returns false'. Refute it at one input. -/
def bytesTakesWrong : ChangeSpec := { name := "bytesTakes", fn := fun _ => fun
  | [d1, d2] => { results := [.lit (.bool false)], args := [d1, d2] }
  | _ => none }
def BytesTakesWrongFalsely : Prop := bytesTakesRow.holds Try.pinned (OpenSpec.ofChange bytesTakesWrong)

/-- 'caravanlaw04.BytesBack': WHATEVER THE INPUT: true; the input reads as it did. -/
def bytesBackSpec : ChangeSpec := { name := "bytesBack", fn := fun _ => fun
  | [d1, d2] => { results := [.lit (.bool true)], args := [d1, d2] }
  | _ => none }
def bytesBackRow : OpenClaim := { program := "ytabdpebokpjljaa", sum := "72270cf32d7256523af439fb3acb94a20f1bb9cdef102e2212a5cf024af97762", func := "caravan/caravanlaw04.BytesBack", spec := "bytesBack", apart := false }
def BytesBackSaid : Prop := bytesBackRow.holds Try.pinned (OpenSpec.ofChange bytesBackSpec)

/-- ITS FALSE NEIGHBOUR: 'it returns false'. Refute it at one input. -/
def bytesBackWrong : ChangeSpec := { name := "bytesBack", fn := fun _ => fun
  | [d1, d2] => { results := [.lit (.bool false)], args := [d1, d2] }
  | _ => none }
def BytesBackWrongFalsely : Prop := bytesBackRow.holds Try.pinned (OpenSpec.ofChange bytesBackWrong)

/-- 'caravanlaw10.FrameBack': WHATEVER THE INPUT: true; the input reads as it did. -/
def frameBackSpec : ChangeSpec := { name := "frameBack", fn := fun _ => fun
  | [d1, d2, d3] => { results := [.lit (.bool true)], args := [d1, d2, d3] }
  | _ => none }
def frameBackRow : OpenClaim := { program := "ytabdpebokpjljaa", sum := "72270cf32d7256523af439fb3acb94a20f1bb9cdef102e2212a5cf024af97762", func := "caravan/caravanlaw10.FrameBack", spec := "frameBack", unfollowed := true, recurses := true, apart := false }
def FrameBackSaid : Prop := frameBackRow.holds Try.pinned (OpenSpec.ofChange frameBackSpec)

/-- ITS FALSE NEIGHBOUR: 'it returns false'. Refute it at one input. -/
def frameBackWrong : ChangeSpec := { name := "frameBack", fn := fun _ => fun
  | [d1, d2, d3] => { results := [.lit (.bool false)], args := [d1, d2, d3] }
  | _ => none }
def FrameBackWrongFalsely : Prop := frameBackRow.holds Try.pinned (OpenSpec.ofChange frameBackWrong)

/-- 'caravanlaw10.FrameAgain': WHATEVER THE INPUT: true; the input reads as it did. -/
def frameAgainSpec : ChangeSpec := { name := "frameAgain", fn := fun _ => fun
  | [d] => { results := [.lit (.bool true)], args := [d] }
  | _ => none }
def frameAgainRow : OpenClaim := { program := "ytabdpebokpjljaa", sum := "72270cf32d7256523af439fb3acb94a20f1bb9cdef102e2212a5cf024af97762", func := "caravan/caravanlaw10.FrameAgain", spec := "frameAgain", unfollowed := true, recurses := true, apart := false }
def FrameAgainSaid : Prop := frameAgainRow.holds Try.pinned (OpenSpec.ofChange frameAgainSpec)

/-- ITS FALSE NEIGHBOUR: 'it returns false'. Refute it at one input. -/
def frameAgainWrong : ChangeSpec := { name := "frameAgain", fn := fun _ => fun
  | [d] => { results := [.lit (.bool false)], args := [d] }
  | _ => none }
def FrameAgainWrongFalsely : Prop := frameAgainRow.holds Try.pinned (OpenSpec.ofChange frameAgainWrong)

/-- 'caravanlaw10.FrameKnown': WHATEVER THE INPUT: true; the input reads as it did. -/
def frameKnownSpec : ChangeSpec := { name := "frameKnown", fn := fun _ => fun
  | [] => { results := [.lit (.bool true)], args := [] }
  | _ => none }
def frameKnownRow : OpenClaim := { program := "ytabdpebokpjljaa", sum := "72270cf32d7256523af439fb3acb94a20f1bb9cdef102e2212a5cf024af97762", func := "caravan/caravanlaw10.FrameKnown", spec := "frameKnown", unfollowed := true, recurses := true, apart := false }
def FrameKnownSaid : Prop := frameKnownRow.holds Try.pinned (OpenSpec.ofChange frameKnownSpec)

/-- ITS FALSE NEIGHBOUR: 'it returns false'. Refute it at one input. -/
def frameKnownWrong : ChangeSpec := { name := "frameKnown", fn := fun _ => fun
  | [] => { results := [.lit (.bool false)], args := [] }
  | _ => none }
def FrameKnownWrongFalsely : Prop := frameKnownRow.holds Try.pinned (OpenSpec.ofChange frameKnownWrong)

/-- 'caravanlaw04.BytesTorn': WHATEVER THE INPUT: true; the input reads as it did. -/
def bytesTornSpec : ChangeSpec := { name := "bytesTorn", fn := fun _ => fun
  | [d1, d2] => { results := [.lit (.bool true)], args := [d1, d2] }
  | _ => none }
def bytesTornRow : OpenClaim := { program := "ytabdpebokpjljaa", sum := "72270cf32d7256523af439fb3acb94a20f1bb9cdef102e2212a5cf024af97762", func := "caravan/caravanlaw04.BytesTorn", spec := "bytesTorn", unfollowed := true, recurses := true, apart := false }
def BytesTornSaid : Prop := bytesTornRow.holds Try.pinned (OpenSpec.ofChange bytesTornSpec)

/-- ITS FALSE NEIGHBOUR: 'it returns false'. Refute it at one input. -/
def bytesTornWrong : ChangeSpec := { name := "bytesTorn", fn := fun _ => fun
  | [d1, d2] => { results := [.lit (.bool false)], args := [d1, d2] }
  | _ => none }
def BytesTornWrongFalsely : Prop := bytesTornRow.holds Try.pinned (OpenSpec.ofChange bytesTornWrong)

/- THE SECOND FORM. 'bulk': how many values and letters a reading holds, each counted each time it is reached (what is shared counts as often as it is met; a slice's spare places count too). A statement '..UptoSaid' is the law's where the arguments, and the package variables that the reading takes, are together of bulk at most 1048576: NARROWER than '..Said'. Prove '..Said' where nothing that the law and all that it calls make is longer than what came in: it says more and counts as full. Else prove '..UptoSaid'. A law counts once. -/
mutual
def uptoBulk {H : Type} : DataW H → Nat
  | .lit (.string bytes) => bytes.length + 1
  | .lit _ => 1
  | .nil => 1
  | .ptr d => uptoBulk d + 1
  | .slice elems spare => uptoBulkAll elems + uptoBulkAll spare + 1
  | .agg parts => uptoBulkAll parts + 1
  | .iface _ d => uptoBulk d + 1
  | .map entries => uptoBulkEntries entries + 1
  | .held _ => 1
def uptoBulkAll {H : Type} : List (DataW H) → Nat
  | [] => 0
  | d :: r => uptoBulk d + uptoBulkAll r
def uptoBulkEntries {H : Type} : List (Lit × DataW H) → Nat
  | [] => 0
  | x :: r => uptoBulkEntry x + uptoBulkEntries r
def uptoBulkEntry {H : Type} : Lit × DataW H → Nat
  | (.string bytes, d) => bytes.length + uptoBulk d + 1
  | (_, d) => uptoBulk d + 1
 end
def uptoSmall : (H : Type) → List (DataW H) → Bool := fun _ ds => decide (uptoBulkAll ds ≤ 1048576)
def OpenSpec.upto (s : _root_.Go.ChangeSpec) : _root_.Go.OpenSpec := { _root_.Go.OpenSpec.ofChange s with cond := some uptoSmall }

/-- 'caravanlaw10.FrameFull', WHERE WHAT IT READS IS OF BULK AT MOST 1048576: true; the input reads as it did. -/
def frameFullUptoRow : OpenClaim := { program := "ytabdpebokpjljaa", sum := "72270cf32d7256523af439fb3acb94a20f1bb9cdef102e2212a5cf024af97762", func := "caravan/caravanlaw10.FrameFull", spec := "frameFull", unfollowed := true, recurses := true, apart := false, narrowed := true }
def FrameFullUptoSaid : Prop := frameFullUptoRow.holds Try.pinned (OpenSpec.upto frameFullSpec)

/-- 'caravanlaw10.FrameReads', WHERE WHAT IT READS IS OF BULK AT MOST 1048576: true; the input reads as it did. -/
def frameReadsUptoRow : OpenClaim := { program := "ytabdpebokpjljaa", sum := "72270cf32d7256523af439fb3acb94a20f1bb9cdef102e2212a5cf024af97762", func := "caravan/caravanlaw10.FrameReads", spec := "frameReads", unfollowed := true, recurses := true, apart := false, narrowed := true }
def FrameReadsUptoSaid : Prop := frameReadsUptoRow.holds Try.pinned (OpenSpec.upto frameReadsSpec)

/-- 'caravanlaw10.FrameBroken', WHERE WHAT IT READS IS OF BULK AT MOST 1048576: true; the input reads as it did. -/
def frameBrokenUptoRow : OpenClaim := { program := "ytabdpebokpjljaa", sum := "72270cf32d7256523af439fb3acb94a20f1bb9cdef102e2212a5cf024af97762", func := "caravan/caravanlaw10.FrameBroken", spec := "frameBroken", unfollowed := true, recurses := true, apart := false, narrowed := true }
def FrameBrokenUptoSaid : Prop := frameBrokenUptoRow.holds Try.pinned (OpenSpec.upto frameBrokenSpec)

/-- 'caravanlaw04.BytesLay', WHERE WHAT IT READS IS OF BULK AT MOST 1048576: true; the input reads as it did. -/
def bytesLayUptoRow : OpenClaim := { program := "ytabdpebokpjljaa", sum := "72270cf32d7256523af439fb3acb94a20f1bb9cdef102e2212a5cf024af97762", func := "caravan/caravanlaw04.BytesLay", spec := "bytesLay", apart := false, narrowed := true }
def BytesLayUptoSaid : Prop := bytesLayUptoRow.holds Try.pinned (OpenSpec.upto bytesLaySpec)

/-- 'caravanlaw04.BytesRows', WHERE WHAT IT READS IS OF BULK AT MOST 1048576: true; the input reads as it did. -/
def bytesRowsUptoRow : OpenClaim := { program := "ytabdpebokpjljaa", sum := "72270cf32d7256523af439fb3acb94a20f1bb9cdef102e2212a5cf024af97762", func := "caravan/caravanlaw04.BytesRows", spec := "bytesRows", unfollowed := true, recurses := true, apart := false, narrowed := true }
def BytesRowsUptoSaid : Prop := bytesRowsUptoRow.holds Try.pinned (OpenSpec.upto bytesRowsSpec)

/-- 'caravanlaw04.BytesLong', WHERE WHAT IT READS IS OF BULK AT MOST 1048576: true; the input reads as it did. -/
def bytesLongUptoRow : OpenClaim := { program := "ytabdpebokpjljaa", sum := "72270cf32d7256523af439fb3acb94a20f1bb9cdef102e2212a5cf024af97762", func := "caravan/caravanlaw04.BytesLong", spec := "bytesLong", apart := false, narrowed := true }
def BytesLongUptoSaid : Prop := bytesLongUptoRow.holds Try.pinned (OpenSpec.upto bytesLongSpec)

/-- 'caravanlaw04.BytesKnown', WHERE WHAT IT READS IS OF BULK AT MOST 1048576: true; the input reads as it did. -/
def bytesKnownUptoRow : OpenClaim := { program := "ytabdpebokpjljaa", sum := "72270cf32d7256523af439fb3acb94a20f1bb9cdef102e2212a5cf024af97762", func := "caravan/caravanlaw04.BytesKnown", spec := "bytesKnown", unfollowed := true, recurses := true, apart := false, narrowed := true }
def BytesKnownUptoSaid : Prop := bytesKnownUptoRow.holds Try.pinned (OpenSpec.upto bytesKnownSpec)

/-- 'caravanlaw04.BytesCut', WHERE WHAT IT READS IS OF BULK AT MOST 1048576: true; the input reads as it did. -/
def bytesCutUptoRow : OpenClaim := { program := "ytabdpebokpjljaa", sum := "72270cf32d7256523af439fb3acb94a20f1bb9cdef102e2212a5cf024af97762", func := "caravan/caravanlaw04.BytesCut", spec := "bytesCut", apart := false, narrowed := true }
def BytesCutUptoSaid : Prop := bytesCutUptoRow.holds Try.pinned (OpenSpec.upto bytesCutSpec)

/-- 'caravanlaw04.BytesOnce', WHERE WHAT IT READS IS OF BULK AT MOST 1048576: true; the input reads as it did. -/
def bytesOnceUptoRow : OpenClaim := { program := "ytabdpebokpjljaa", sum := "72270cf32d7256523af439fb3acb94a20f1bb9cdef102e2212a5cf024af97762", func := "caravan/caravanlaw04.BytesOnce", spec := "bytesOnce", apart := false, narrowed := true }
def BytesOnceUptoSaid : Prop := bytesOnceUptoRow.holds Try.pinned (OpenSpec.upto bytesOnceSpec)

/-- 'caravanlaw10.FramePuts', WHERE WHAT IT READS IS OF BULK AT MOST 1048576: true; the input reads as it did. -/
def framePutsUptoRow : OpenClaim := { program := "ytabdpebokpjljaa", sum := "72270cf32d7256523af439fb3acb94a20f1bb9cdef102e2212a5cf024af97762", func := "caravan/caravanlaw10.FramePuts", spec := "framePuts", unfollowed := true, recurses := true, apart := false, narrowed := true }
def FramePutsUptoSaid : Prop := framePutsUptoRow.holds Try.pinned (OpenSpec.upto framePutsSpec)

/-- 'caravanlaw10.FrameLong', WHERE WHAT IT READS IS OF BULK AT MOST 1048576: true; the input reads as it did. -/
def frameLongUptoRow : OpenClaim := { program := "ytabdpebokpjljaa", sum := "72270cf32d7256523af439fb3acb94a20f1bb9cdef102e2212a5cf024af97762", func := "caravan/caravanlaw10.FrameLong", spec := "frameLong", unfollowed := true, recurses := true, apart := false, narrowed := true }
def FrameLongUptoSaid : Prop := frameLongUptoRow.holds Try.pinned (OpenSpec.upto frameLongSpec)

/-- 'caravanlaw04.BytesTakes', WHERE WHAT IT READS IS OF BULK AT MOST 1048576: true; the input reads as it did. -/
def bytesTakesUptoRow : OpenClaim := { program := "ytabdpebokpjljaa", sum := "72270cf32d7256523af439fb3acb94a20f1bb9cdef102e2212a5cf024af97762", func := "caravan/caravanlaw04.BytesTakes", spec := "bytesTakes", apart := false, narrowed := true }
def BytesTakesUptoSaid : Prop := bytesTakesUptoRow.holds Try.pinned (OpenSpec.upto bytesTakesSpec)

/-- 'caravanlaw04.BytesBack', WHERE WHAT IT READS IS OF BULK AT MOST 1048576: true; the input reads as it did. -/
def bytesBackUptoRow : OpenClaim := { program := "ytabdpebokpjljaa", sum := "72270cf32d7256523af439fb3acb94a20f1bb9cdef102e2212a5cf024af97762", func := "caravan/caravanlaw04.BytesBack", spec := "bytesBack", apart := false, narrowed := true }
def BytesBackUptoSaid : Prop := bytesBackUptoRow.holds Try.pinned (OpenSpec.upto bytesBackSpec)

/-- 'caravanlaw10.FrameBack', WHERE WHAT IT READS IS OF BULK AT MOST 1048576: true; the input reads as it did. -/
def frameBackUptoRow : OpenClaim := { program := "ytabdpebokpjljaa", sum := "72270cf32d7256523af439fb3acb94a20f1bb9cdef102e2212a5cf024af97762", func := "caravan/caravanlaw10.FrameBack", spec := "frameBack", unfollowed := true, recurses := true, apart := false, narrowed := true }
def FrameBackUptoSaid : Prop := frameBackUptoRow.holds Try.pinned (OpenSpec.upto frameBackSpec)

/-- 'caravanlaw10.FrameAgain', WHERE WHAT IT READS IS OF BULK AT MOST 1048576: true; the input reads as it did. -/
def frameAgainUptoRow : OpenClaim := { program := "ytabdpebokpjljaa", sum := "72270cf32d7256523af439fb3acb94a20f1bb9cdef102e2212a5cf024af97762", func := "caravan/caravanlaw10.FrameAgain", spec := "frameAgain", unfollowed := true, recurses := true, apart := false, narrowed := true }
def FrameAgainUptoSaid : Prop := frameAgainUptoRow.holds Try.pinned (OpenSpec.upto frameAgainSpec)

/-- 'caravanlaw10.FrameKnown', WHERE WHAT IT READS IS OF BULK AT MOST 1048576: true; the input reads as it did. -/
def frameKnownUptoRow : OpenClaim := { program := "ytabdpebokpjljaa", sum := "72270cf32d7256523af439fb3acb94a20f1bb9cdef102e2212a5cf024af97762", func := "caravan/caravanlaw10.FrameKnown", spec := "frameKnown", unfollowed := true, recurses := true, apart := false, narrowed := true }
def FrameKnownUptoSaid : Prop := frameKnownUptoRow.holds Try.pinned (OpenSpec.upto frameKnownSpec)

/-- 'caravanlaw04.BytesTorn', WHERE WHAT IT READS IS OF BULK AT MOST 1048576: true; the input reads as it did. -/
def bytesTornUptoRow : OpenClaim := { program := "ytabdpebokpjljaa", sum := "72270cf32d7256523af439fb3acb94a20f1bb9cdef102e2212a5cf024af97762", func := "caravan/caravanlaw04.BytesTorn", spec := "bytesTorn", unfollowed := true, recurses := true, apart := false, narrowed := true }
def BytesTornUptoSaid : Prop := bytesTornUptoRow.holds Try.pinned (OpenSpec.upto bytesTornSpec)

end Rows
end Go.Proofs.Ytabdpebokpjljaa

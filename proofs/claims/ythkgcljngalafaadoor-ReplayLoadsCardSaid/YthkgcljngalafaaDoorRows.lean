/-
  NARROWER THAN 'FOR EVERY INPUT', by the rows' own cells (each row's printed sentence says how): ReplayLoads: laid · ReplayOnce: laid · ReplayPlays: laid · ReplayLoops: laid.
  DERIVED. THE GIVEN ROWS OF THIS SEAT. 4 by the template 'for every input the law returns true; each argument reads behind the call as it read before'; 0 by the template 'total and deterministic' (their statements: YthkgcljngalafaaDoorTotals.lean).
  GIVEN WITH THE SEED: the statements are not yours to turn. If you find one false, say at which input.
  Laid BY PROGRAM, IN A SANDBOX (cutbox-rows.mjs): the forced cells as the released guide's own fill.sh prints them over the translation 5e9ff51886467425… (all of the seat's roots in one cut). By AI agents, Wed Nov 11 2026. No macro, syntax, notation, axiom, sorry.
-/
import Derived.Test.YthkgcljngalafaaDoorChecked
import GoSem.Claim
import GoSem.ClaimJoined
import GoSem.ClaimMapViews
import Derived.JoinedTies
import Derived.KernelRfl
namespace Go.Proofs.YthkgcljngalafaaDoor
/- THE CELL 'sum', in the pinned program and in every row, IS THE sha256 OF THE DUMP (.gsa) THAT YthkgcljngalafaaDoorProg.lean LOADS. Nothing in Lean hashes anything: it is a label: what it is worth is what the hold of that sum in a sandbox is worth. -/
noncomputable def Tryd.pinned : Pinned := { name := "ythkgcljngalafaadoor", sum := "5e9ff51886467425bbe446a94bdf73f57af020ca184b2e90941f93d5fc4e3516", checked := Tryd.checked }
namespace Rows
def none {H : Type} : Left H := { results := [], args := [] }

/- WHAT THE LISTED PACKAGE-LEVEL VARIABLES READ AS WHEN THE CALL BEGINS. Each datum BY PROGRAM (the guide's laid-datum.mjs) off the statement by which the dump's own 'gosem.cut.vars' lays the variable. In a bare row this is a premise. The card (YthkgcljngalafaaDoorCards.lean) ties it to the program's text. -/
def laid_watchword_watchwordref04_constants {H : Type} : DataW H := .slice [.lit (.int .i64 1116352408), .lit (.int .i64 1899447441), .lit (.int .i64 3049323471), .lit (.int .i64 3921009573), .lit (.int .i64 961987163), .lit (.int .i64 1508970993), .lit (.int .i64 2453635748), .lit (.int .i64 2870763221), .lit (.int .i64 3624381080), .lit (.int .i64 310598401), .lit (.int .i64 607225278), .lit (.int .i64 1426881987), .lit (.int .i64 1925078388), .lit (.int .i64 2162078206), .lit (.int .i64 2614888103), .lit (.int .i64 3248222580), .lit (.int .i64 3835390401), .lit (.int .i64 4022224774), .lit (.int .i64 264347078), .lit (.int .i64 604807628), .lit (.int .i64 770255983), .lit (.int .i64 1249150122), .lit (.int .i64 1555081692), .lit (.int .i64 1996064986), .lit (.int .i64 2554220882), .lit (.int .i64 2821834349), .lit (.int .i64 2952996808), .lit (.int .i64 3210313671), .lit (.int .i64 3336571891), .lit (.int .i64 3584528711), .lit (.int .i64 113926993), .lit (.int .i64 338241895), .lit (.int .i64 666307205), .lit (.int .i64 773529912), .lit (.int .i64 1294757372), .lit (.int .i64 1396182291), .lit (.int .i64 1695183700), .lit (.int .i64 1986661051), .lit (.int .i64 2177026350), .lit (.int .i64 2456956037), .lit (.int .i64 2730485921), .lit (.int .i64 2820302411), .lit (.int .i64 3259730800), .lit (.int .i64 3345764771), .lit (.int .i64 3516065817), .lit (.int .i64 3600352804), .lit (.int .i64 4094571909), .lit (.int .i64 275423344), .lit (.int .i64 430227734), .lit (.int .i64 506948616), .lit (.int .i64 659060556), .lit (.int .i64 883997877), .lit (.int .i64 958139571), .lit (.int .i64 1322822218), .lit (.int .i64 1537002063), .lit (.int .i64 1747873779), .lit (.int .i64 1955562222), .lit (.int .i64 2024104815), .lit (.int .i64 2227730452), .lit (.int .i64 2361852424), .lit (.int .i64 2428436474), .lit (.int .i64 2756734187), .lit (.int .i64 3204031479), .lit (.int .i64 3329325298)] []
def laid_watchword_sha_start {H : Type} : DataW H := .agg [.lit (.int .u32 1779033703), .lit (.int .u32 3144134277), .lit (.int .u32 1013904242), .lit (.int .u32 2773480762), .lit (.int .u32 1359893119), .lit (.int .u32 2600822924), .lit (.int .u32 528734635), .lit (.int .u32 1541459225)]
def laid_watchword_sha_constants {H : Type} : DataW H := .agg [.lit (.int .u32 1116352408), .lit (.int .u32 1899447441), .lit (.int .u32 3049323471), .lit (.int .u32 3921009573), .lit (.int .u32 961987163), .lit (.int .u32 1508970993), .lit (.int .u32 2453635748), .lit (.int .u32 2870763221), .lit (.int .u32 3624381080), .lit (.int .u32 310598401), .lit (.int .u32 607225278), .lit (.int .u32 1426881987), .lit (.int .u32 1925078388), .lit (.int .u32 2162078206), .lit (.int .u32 2614888103), .lit (.int .u32 3248222580), .lit (.int .u32 3835390401), .lit (.int .u32 4022224774), .lit (.int .u32 264347078), .lit (.int .u32 604807628), .lit (.int .u32 770255983), .lit (.int .u32 1249150122), .lit (.int .u32 1555081692), .lit (.int .u32 1996064986), .lit (.int .u32 2554220882), .lit (.int .u32 2821834349), .lit (.int .u32 2952996808), .lit (.int .u32 3210313671), .lit (.int .u32 3336571891), .lit (.int .u32 3584528711), .lit (.int .u32 113926993), .lit (.int .u32 338241895), .lit (.int .u32 666307205), .lit (.int .u32 773529912), .lit (.int .u32 1294757372), .lit (.int .u32 1396182291), .lit (.int .u32 1695183700), .lit (.int .u32 1986661051), .lit (.int .u32 2177026350), .lit (.int .u32 2456956037), .lit (.int .u32 2730485921), .lit (.int .u32 2820302411), .lit (.int .u32 3259730800), .lit (.int .u32 3345764771), .lit (.int .u32 3516065817), .lit (.int .u32 3600352804), .lit (.int .u32 4094571909), .lit (.int .u32 275423344), .lit (.int .u32 430227734), .lit (.int .u32 506948616), .lit (.int .u32 659060556), .lit (.int .u32 883997877), .lit (.int .u32 958139571), .lit (.int .u32 1322822218), .lit (.int .u32 1537002063), .lit (.int .u32 1747873779), .lit (.int .u32 1955562222), .lit (.int .u32 2024104815), .lit (.int .u32 2227730452), .lit (.int .u32 2361852424), .lit (.int .u32 2428436474), .lit (.int .u32 2756734187), .lit (.int .u32 3204031479), .lit (.int .u32 3329325298)]

/-- 'watchwordlaw43.ReplayLoads': WHATEVER THE INPUT: true; the input reads as it did. -/
def replayLoadsSpec : ChangeSpec := { name := "replayLoads", fn := fun _ => fun
  | [d] => { results := [.lit (.bool true)], args := [d] }
  | _ => none }
def replayLoadsRow : OpenClaim := { program := "ythkgcljngalafaadoor", sum := "5e9ff51886467425bbe446a94bdf73f57af020ca184b2e90941f93d5fc4e3516", func := "watchword/watchwordlaw43.ReplayLoads", spec := "replayLoads", inPlace := ["internal/bytealg.Compare"], unfollowed := true, recurses := true, named := ["watchword/sha.start", "watchword/sha.constants", "watchword/watchwordref04.constants"], plainKeys := false, apart := false, laid := [("watchword/watchwordref04.constants", laid_watchword_watchwordref04_constants), ("watchword/sha.start", laid_watchword_sha_start), ("watchword/sha.constants", laid_watchword_sha_constants)] }
def ReplayLoadsSaid : Prop := replayLoadsRow.holds Tryd.pinned (OpenSpec.ofChange replayLoadsSpec)

/-- ITS FALSE NEIGHBOUR: 'it returns false'. Refute it at one input. -/
def replayLoadsWrong : ChangeSpec := { name := "replayLoads", fn := fun _ => fun
  | [d] => { results := [.lit (.bool false)], args := [d] }
  | _ => none }
def ReplayLoadsWrongFalsely : Prop := replayLoadsRow.holds Tryd.pinned (OpenSpec.ofChange replayLoadsWrong)

/-- 'watchwordlaw43.ReplayOnce': WHATEVER THE INPUT: true; the input reads as it did. -/
def replayOnceSpec : ChangeSpec := { name := "replayOnce", fn := fun _ => fun
  | [d1, d2, d3] => { results := [.lit (.bool true)], args := [d1, d2, d3] }
  | _ => none }
def replayOnceRow : OpenClaim := { program := "ythkgcljngalafaadoor", sum := "5e9ff51886467425bbe446a94bdf73f57af020ca184b2e90941f93d5fc4e3516", func := "watchword/watchwordlaw43.ReplayOnce", spec := "replayOnce", inPlace := ["internal/bytealg.Compare"], unfollowed := true, recurses := true, named := ["watchword/sha.start", "watchword/sha.constants", "watchword/watchwordref04.constants"], plainKeys := false, apart := false, laid := [("watchword/watchwordref04.constants", laid_watchword_watchwordref04_constants), ("watchword/sha.start", laid_watchword_sha_start), ("watchword/sha.constants", laid_watchword_sha_constants)] }
def ReplayOnceSaid : Prop := replayOnceRow.holds Tryd.pinned (OpenSpec.ofChange replayOnceSpec)

/-- ITS FALSE NEIGHBOUR: 'it returns false'. Refute it at one input. -/
def replayOnceWrong : ChangeSpec := { name := "replayOnce", fn := fun _ => fun
  | [d1, d2, d3] => { results := [.lit (.bool false)], args := [d1, d2, d3] }
  | _ => none }
def ReplayOnceWrongFalsely : Prop := replayOnceRow.holds Tryd.pinned (OpenSpec.ofChange replayOnceWrong)

/-- 'watchwordlaw43.ReplayPlays': WHATEVER THE INPUT: true; the input reads as it did. -/
def replayPlaysSpec : ChangeSpec := { name := "replayPlays", fn := fun _ => fun
  | [d1, d2, d3] => { results := [.lit (.bool true)], args := [d1, d2, d3] }
  | _ => none }
def replayPlaysRow : OpenClaim := { program := "ythkgcljngalafaadoor", sum := "5e9ff51886467425bbe446a94bdf73f57af020ca184b2e90941f93d5fc4e3516", func := "watchword/watchwordlaw43.ReplayPlays", spec := "replayPlays", inPlace := ["internal/bytealg.Compare", "maps.clone"], unfollowed := true, recurses := true, named := ["watchword/sha.start", "watchword/sha.constants", "watchword/watchwordref04.constants"], plainKeys := false, apart := false, laid := [("watchword/watchwordref04.constants", laid_watchword_watchwordref04_constants), ("watchword/sha.start", laid_watchword_sha_start), ("watchword/sha.constants", laid_watchword_sha_constants)] }
def ReplayPlaysSaid : Prop := replayPlaysRow.holds Tryd.pinned (OpenSpec.ofChange replayPlaysSpec)

/-- ITS FALSE NEIGHBOUR: 'it returns false'. Refute it at one input. -/
def replayPlaysWrong : ChangeSpec := { name := "replayPlays", fn := fun _ => fun
  | [d1, d2, d3] => { results := [.lit (.bool false)], args := [d1, d2, d3] }
  | _ => none }
def ReplayPlaysWrongFalsely : Prop := replayPlaysRow.holds Tryd.pinned (OpenSpec.ofChange replayPlaysWrong)

/-- 'watchwordlaw43.ReplayLoops': WHATEVER THE INPUT: true; the input reads as it did. -/
def replayLoopsSpec : ChangeSpec := { name := "replayLoops", fn := fun _ => fun
  | [d1, d2, d3, d4] => { results := [.lit (.bool true)], args := [d1, d2, d3, d4] }
  | _ => none }
def replayLoopsRow : OpenClaim := { program := "ythkgcljngalafaadoor", sum := "5e9ff51886467425bbe446a94bdf73f57af020ca184b2e90941f93d5fc4e3516", func := "watchword/watchwordlaw43.ReplayLoops", spec := "replayLoops", inPlace := ["internal/bytealg.Compare", "maps.clone"], unfollowed := true, recurses := true, named := ["watchword/sha.start", "watchword/sha.constants", "watchword/watchwordref04.constants"], plainKeys := false, apart := false, laid := [("watchword/watchwordref04.constants", laid_watchword_watchwordref04_constants), ("watchword/sha.start", laid_watchword_sha_start), ("watchword/sha.constants", laid_watchword_sha_constants)] }
def ReplayLoopsSaid : Prop := replayLoopsRow.holds Tryd.pinned (OpenSpec.ofChange replayLoopsSpec)

/-- ITS FALSE NEIGHBOUR: 'it returns false'. Refute it at one input. -/
def replayLoopsWrong : ChangeSpec := { name := "replayLoops", fn := fun _ => fun
  | [d1, d2, d3, d4] => { results := [.lit (.bool false)], args := [d1, d2, d3, d4] }
  | _ => none }
def ReplayLoopsWrongFalsely : Prop := replayLoopsRow.holds Tryd.pinned (OpenSpec.ofChange replayLoopsWrong)

/- THE SECOND FORM. 'bulk': how many values and letters a reading holds, each counted each time it is reached (what is shared counts as often as it is met; a slice's spare places count too). A statement '..UptoSaid' is the law's where the arguments, and the package variables that the reading takes, are together of bulk at most 1048576: NARROWER than '..Said'. Prove '..Said' where nothing that the law and all that it calls make is longer than what came in: it says more and counts as full. Else prove '..UptoSaid'. A law counts once. -/
mutual
def uptoBulk {H : Type} : DataW H → Nat
  | .lit (.string bytes) => bytes.length + 1
  | .lit _ => 1
  | .nil => 1
  | .ptr d => uptoBulk d + 1
  | .slice elems spare => uptoBulkAll elems + uptoBulkAll spare + 1
  | .agg parts => uptoBulkAll parts + 1
  | .iface _ d => uptoBulk d + 1
  | .map entries => uptoBulkEntries entries + 1
  | .held _ => 1
def uptoBulkAll {H : Type} : List (DataW H) → Nat
  | [] => 0
  | d :: r => uptoBulk d + uptoBulkAll r
def uptoBulkEntries {H : Type} : List (Lit × DataW H) → Nat
  | [] => 0
  | x :: r => uptoBulkEntry x + uptoBulkEntries r
def uptoBulkEntry {H : Type} : Lit × DataW H → Nat
  | (.string bytes, d) => bytes.length + uptoBulk d + 1
  | (_, d) => uptoBulk d + 1
 end
def uptoSmall : (H : Type) → List (DataW H) → Bool := fun _ ds => decide (uptoBulkAll ds ≤ 1048576)
def OpenSpec.upto (s : _root_.Go.ChangeSpec) : _root_.Go.OpenSpec := { _root_.Go.OpenSpec.ofChange s with cond := some uptoSmall }

/-- 'watchwordlaw43.ReplayLoads', WHERE WHAT IT READS IS OF BULK AT MOST 1048576: true; the input reads as it did. -/
def replayLoadsUptoRow : OpenClaim := { program := "ythkgcljngalafaadoor", sum := "5e9ff51886467425bbe446a94bdf73f57af020ca184b2e90941f93d5fc4e3516", func := "watchword/watchwordlaw43.ReplayLoads", spec := "replayLoads", inPlace := ["internal/bytealg.Compare"], unfollowed := true, recurses := true, named := ["watchword/sha.start", "watchword/sha.constants", "watchword/watchwordref04.constants"], plainKeys := false, apart := false, laid := [("watchword/watchwordref04.constants", laid_watchword_watchwordref04_constants), ("watchword/sha.start", laid_watchword_sha_start), ("watchword/sha.constants", laid_watchword_sha_constants)], narrowed := true }
def ReplayLoadsUptoSaid : Prop := replayLoadsUptoRow.holds Tryd.pinned (OpenSpec.upto replayLoadsSpec)

/-- 'watchwordlaw43.ReplayOnce', WHERE WHAT IT READS IS OF BULK AT MOST 1048576: true; the input reads as it did. -/
def replayOnceUptoRow : OpenClaim := { program := "ythkgcljngalafaadoor", sum := "5e9ff51886467425bbe446a94bdf73f57af020ca184b2e90941f93d5fc4e3516", func := "watchword/watchwordlaw43.ReplayOnce", spec := "replayOnce", inPlace := ["internal/bytealg.Compare"], unfollowed := true, recurses := true, named := ["watchword/sha.start", "watchword/sha.constants", "watchword/watchwordref04.constants"], plainKeys := false, apart := false, laid := [("watchword/watchwordref04.constants", laid_watchword_watchwordref04_constants), ("watchword/sha.start", laid_watchword_sha_start), ("watchword/sha.constants", laid_watchword_sha_constants)], narrowed := true }
def ReplayOnceUptoSaid : Prop := replayOnceUptoRow.holds Tryd.pinned (OpenSpec.upto replayOnceSpec)

/-- 'watchwordlaw43.ReplayPlays', WHERE WHAT IT READS IS OF BULK AT MOST 1048576: true; the input reads as it did. -/
def replayPlaysUptoRow : OpenClaim := { program := "ythkgcljngalafaadoor", sum := "5e9ff51886467425bbe446a94bdf73f57af020ca184b2e90941f93d5fc4e3516", func := "watchword/watchwordlaw43.ReplayPlays", spec := "replayPlays", inPlace := ["internal/bytealg.Compare", "maps.clone"], unfollowed := true, recurses := true, named := ["watchword/sha.start", "watchword/sha.constants", "watchword/watchwordref04.constants"], plainKeys := false, apart := false, laid := [("watchword/watchwordref04.constants", laid_watchword_watchwordref04_constants), ("watchword/sha.start", laid_watchword_sha_start), ("watchword/sha.constants", laid_watchword_sha_constants)], narrowed := true }
def ReplayPlaysUptoSaid : Prop := replayPlaysUptoRow.holds Tryd.pinned (OpenSpec.upto replayPlaysSpec)

/-- 'watchwordlaw43.ReplayLoops', WHERE WHAT IT READS IS OF BULK AT MOST 1048576: true; the input reads as it did. -/
def replayLoopsUptoRow : OpenClaim := { program := "ythkgcljngalafaadoor", sum := "5e9ff51886467425bbe446a94bdf73f57af020ca184b2e90941f93d5fc4e3516", func := "watchword/watchwordlaw43.ReplayLoops", spec := "replayLoops", inPlace := ["internal/bytealg.Compare", "maps.clone"], unfollowed := true, recurses := true, named := ["watchword/sha.start", "watchword/sha.constants", "watchword/watchwordref04.constants"], plainKeys := false, apart := false, laid := [("watchword/watchwordref04.constants", laid_watchword_watchwordref04_constants), ("watchword/sha.start", laid_watchword_sha_start), ("watchword/sha.constants", laid_watchword_sha_constants)], narrowed := true }
def ReplayLoopsUptoSaid : Prop := replayLoopsUptoRow.holds Tryd.pinned (OpenSpec.upto replayLoopsSpec)

end Rows
end Go.Proofs.YthkgcljngalafaaDoor

/-
  No cell of these rows narrows 'for every input' (looked for: loops, veiled, ifaces, maps, wideKeys, modest, calm, conditions, laid).
  DERIVED. THE GIVEN ROWS OF THIS SEAT. 6 by the template 'for every input the law returns true; each argument reads behind the call as it read before'; 0 by the template 'total and deterministic' (their statements: YtnmmeccbpcichaaTotals.lean).
  GIVEN WITH THE SEED: the statements are not yours to turn. If you find one false, say at which input.
  Laid BY PROGRAM, IN A SANDBOX (cutbox-rows.mjs): the forced cells as the released guide's own fill.sh prints them over the translation 795b6e28a9ef5810… (all of the seat's roots in one cut). By AI agents, Wed Nov 11 2026. No macro, syntax, notation, axiom, sorry.
-/
import Derived.Test.YtnmmeccbpcichaaChecked
import GoSem.Claim
import GoSem.ClaimJoined
import GoSem.ClaimMapViews
import Derived.JoinedTies
import Derived.KernelRfl
namespace Go.Proofs.Ytnmmeccbpcichaa
/- THE CELL 'sum', in the pinned program and in every row, IS THE sha256 OF THE DUMP (.gsa) THAT YtnmmeccbpcichaaProg.lean LOADS. Nothing in Lean hashes anything: it is a label: what it is worth is what the hold of that sum in a sandbox is worth. -/
noncomputable def Try.pinned : Pinned := { name := "ytnmmeccbpcichaa", sum := "795b6e28a9ef581060d8ee405a4faa2462ae10dca0f0db3ef657bc218d1aab66", checked := Try.checked }
namespace Rows
def none {H : Type} : Left H := { results := [], args := [] }

/-- 'signpostlaw18.RecentOnce': WHATEVER THE INPUT: true; the input reads as it did. -/
def recentOnceSpec : ChangeSpec := { name := "recentOnce", fn := fun _ => fun
  | [d1, d2] => { results := [.lit (.bool true)], args := [d1, d2] }
  | _ => none }
def recentOnceRow : OpenClaim := { program := "ytnmmeccbpcichaa", sum := "795b6e28a9ef581060d8ee405a4faa2462ae10dca0f0db3ef657bc218d1aab66", func := "signpost/signpostlaw18.RecentOnce", spec := "recentOnce", unfollowed := true, recurses := true, plainKeys := false, apart := false }
def RecentOnceSaid : Prop := recentOnceRow.holds Try.pinned (OpenSpec.ofChange recentOnceSpec)

/-- ITS FALSE NEIGHBOUR: 'it returns false'. Refute it at one input. -/
def recentOnceWrong : ChangeSpec := { name := "recentOnce", fn := fun _ => fun
  | [d1, d2] => { results := [.lit (.bool false)], args := [d1, d2] }
  | _ => none }
def RecentOnceWrongFalsely : Prop := recentOnceRow.holds Try.pinned (OpenSpec.ofChange recentOnceWrong)

/-- 'signpostlaw18.RecentPlays': WHATEVER THE INPUT: true; the input reads as it did. -/
def recentPlaysSpec : ChangeSpec := { name := "recentPlays", fn := fun _ => fun
  | [d1, d2] => { results := [.lit (.bool true)], args := [d1, d2] }
  | _ => none }
def recentPlaysRow : OpenClaim := { program := "ytnmmeccbpcichaa", sum := "795b6e28a9ef581060d8ee405a4faa2462ae10dca0f0db3ef657bc218d1aab66", func := "signpost/signpostlaw18.RecentPlays", spec := "recentPlays", unfollowed := true, recurses := true, plainKeys := false, apart := false }
def RecentPlaysSaid : Prop := recentPlaysRow.holds Try.pinned (OpenSpec.ofChange recentPlaysSpec)

/-- ITS FALSE NEIGHBOUR: 'it returns false'. Refute it at one input. -/
def recentPlaysWrong : ChangeSpec := { name := "recentPlays", fn := fun _ => fun
  | [d1, d2] => { results := [.lit (.bool false)], args := [d1, d2] }
  | _ => none }
def RecentPlaysWrongFalsely : Prop := recentPlaysRow.holds Try.pinned (OpenSpec.ofChange recentPlaysWrong)

/-- 'signpostlaw18.RecentNobody': WHATEVER THE INPUT: true; the input reads as it did. -/
def recentNobodySpec : ChangeSpec := { name := "recentNobody", fn := fun _ => fun
  | [d] => { results := [.lit (.bool true)], args := [d] }
  | _ => none }
def recentNobodyRow : OpenClaim := { program := "ytnmmeccbpcichaa", sum := "795b6e28a9ef581060d8ee405a4faa2462ae10dca0f0db3ef657bc218d1aab66", func := "signpost/signpostlaw18.RecentNobody", spec := "recentNobody", unfollowed := true, recurses := true, plainKeys := false, apart := false }
def RecentNobodySaid : Prop := recentNobodyRow.holds Try.pinned (OpenSpec.ofChange recentNobodySpec)

/-- ITS FALSE NEIGHBOUR: 'it returns false'. Refute it at one input. -/
def recentNobodyWrong : ChangeSpec := { name := "recentNobody", fn := fun _ => fun
  | [d] => { results := [.lit (.bool false)], args := [d] }
  | _ => none }
def RecentNobodyWrongFalsely : Prop := recentNobodyRow.holds Try.pinned (OpenSpec.ofChange recentNobodyWrong)

/-- 'signpostlaw19.BucketPlays': WHATEVER THE INPUT: true; the input reads as it did. -/
def bucketPlaysSpec : ChangeSpec := { name := "bucketPlays", fn := fun _ => fun
  | [d1, d2, d3, d4] => { results := [.lit (.bool true)], args := [d1, d2, d3, d4] }
  | _ => none }
def bucketPlaysRow : OpenClaim := { program := "ytnmmeccbpcichaa", sum := "795b6e28a9ef581060d8ee405a4faa2462ae10dca0f0db3ef657bc218d1aab66", func := "signpost/signpostlaw19.BucketPlays", spec := "bucketPlays", unfollowed := true, recurses := true, plainKeys := false, apart := false }
def BucketPlaysSaid : Prop := bucketPlaysRow.holds Try.pinned (OpenSpec.ofChange bucketPlaysSpec)

/-- ITS FALSE NEIGHBOUR: 'it returns false'. Refute it at one input. -/
def bucketPlaysWrong : ChangeSpec := { name := "bucketPlays", fn := fun _ => fun
  | [d1, d2, d3, d4] => { results := [.lit (.bool false)], args := [d1, d2, d3, d4] }
  | _ => none }
def BucketPlaysWrongFalsely : Prop := bucketPlaysRow.holds Try.pinned (OpenSpec.ofChange bucketPlaysWrong)

/-- 'signpostlaw19.BucketNobody': WHATEVER THE INPUT: true; the input reads as it did. -/
def bucketNobodySpec : ChangeSpec := { name := "bucketNobody", fn := fun _ => fun
  | [d] => { results := [.lit (.bool true)], args := [d] }
  | _ => none }
def bucketNobodyRow : OpenClaim := { program := "ytnmmeccbpcichaa", sum := "795b6e28a9ef581060d8ee405a4faa2462ae10dca0f0db3ef657bc218d1aab66", func := "signpost/signpostlaw19.BucketNobody", spec := "bucketNobody", unfollowed := true, recurses := true, plainKeys := false, apart := false }
def BucketNobodySaid : Prop := bucketNobodyRow.holds Try.pinned (OpenSpec.ofChange bucketNobodySpec)

/-- ITS FALSE NEIGHBOUR: 'it returns false'. Refute it at one input. -/
def bucketNobodyWrong : ChangeSpec := { name := "bucketNobody", fn := fun _ => fun
  | [d] => { results := [.lit (.bool false)], args := [d] }
  | _ => none }
def BucketNobodyWrongFalsely : Prop := bucketNobodyRow.holds Try.pinned (OpenSpec.ofChange bucketNobodyWrong)

/-- 'signpostlaw19.BucketStays': WHATEVER THE INPUT: true; the input reads as it did. -/
def bucketStaysSpec : ChangeSpec := { name := "bucketStays", fn := fun _ => fun
  | [d1, d2, d3] => { results := [.lit (.bool true)], args := [d1, d2, d3] }
  | _ => none }
def bucketStaysRow : OpenClaim := { program := "ytnmmeccbpcichaa", sum := "795b6e28a9ef581060d8ee405a4faa2462ae10dca0f0db3ef657bc218d1aab66", func := "signpost/signpostlaw19.BucketStays", spec := "bucketStays", inPlace := ["internal/bytealg.Compare"], unfollowed := true, recurses := true, plainKeys := false, apart := false }
def BucketStaysSaid : Prop := bucketStaysRow.holds Try.pinned (OpenSpec.ofChange bucketStaysSpec)

/-- ITS FALSE NEIGHBOUR: 'it returns false'. Refute it at one input. -/
def bucketStaysWrong : ChangeSpec := { name := "bucketStays", fn := fun _ => fun
  | [d1, d2, d3] => { results := [.lit (.bool false)], args := [d1, d2, d3] }
  | _ => none }
def BucketStaysWrongFalsely : Prop := bucketStaysRow.holds Try.pinned (OpenSpec.ofChange bucketStaysWrong)

/- THE SECOND FORM. 'bulk': how many values and letters a reading holds, each counted each time it is reached (what is shared counts as often as it is met; a slice's spare places count too). A statement '..UptoSaid' is the law's where the arguments, and the package variables that the reading takes, are together of bulk at most 1048576: NARROWER than '..Said'. Prove '..Said' where nothing that the law and all that it calls make is longer than what came in: it says more and counts as full. Else prove '..UptoSaid'. A law counts once. -/
mutual
def uptoBulk {H : Type} : DataW H → Nat
  | .lit (.string bytes) => bytes.length + 1
  | .lit _ => 1
  | .nil => 1
  | .ptr d => uptoBulk d + 1
  | .slice elems spare => uptoBulkAll elems + uptoBulkAll spare + 1
  | .agg parts => uptoBulkAll parts + 1
  | .iface _ d => uptoBulk d + 1
  | .map entries => uptoBulkEntries entries + 1
  | .held _ => 1
def uptoBulkAll {H : Type} : List (DataW H) → Nat
  | [] => 0
  | d :: r => uptoBulk d + uptoBulkAll r
def uptoBulkEntries {H : Type} : List (Lit × DataW H) → Nat
  | [] => 0
  | x :: r => uptoBulkEntry x + uptoBulkEntries r
def uptoBulkEntry {H : Type} : Lit × DataW H → Nat
  | (.string bytes, d) => bytes.length + uptoBulk d + 1
  | (_, d) => uptoBulk d + 1
 end
def uptoSmall : (H : Type) → List (DataW H) → Bool := fun _ ds => decide (uptoBulkAll ds ≤ 1048576)
def OpenSpec.upto (s : _root_.Go.ChangeSpec) : _root_.Go.OpenSpec := { _root_.Go.OpenSpec.ofChange s with cond := some uptoSmall }

/-- 'signpostlaw18.RecentOnce', WHERE WHAT IT READS IS OF BULK AT MOST 1048576: true; the input reads as it did. -/
def recentOnceUptoRow : OpenClaim := { program := "ytnmmeccbpcichaa", sum := "795b6e28a9ef581060d8ee405a4faa2462ae10dca0f0db3ef657bc218d1aab66", func := "signpost/signpostlaw18.RecentOnce", spec := "recentOnce", unfollowed := true, recurses := true, plainKeys := false, apart := false, narrowed := true }
def RecentOnceUptoSaid : Prop := recentOnceUptoRow.holds Try.pinned (OpenSpec.upto recentOnceSpec)

/-- 'signpostlaw18.RecentPlays', WHERE WHAT IT READS IS OF BULK AT MOST 1048576: true; the input reads as it did. -/
def recentPlaysUptoRow : OpenClaim := { program := "ytnmmeccbpcichaa", sum := "795b6e28a9ef581060d8ee405a4faa2462ae10dca0f0db3ef657bc218d1aab66", func := "signpost/signpostlaw18.RecentPlays", spec := "recentPlays", unfollowed := true, recurses := true, plainKeys := false, apart := false, narrowed := true }
def RecentPlaysUptoSaid : Prop := recentPlaysUptoRow.holds Try.pinned (OpenSpec.upto recentPlaysSpec)

/-- 'signpostlaw18.RecentNobody', WHERE WHAT IT READS IS OF BULK AT MOST 1048576: true; the input reads as it did. -/
def recentNobodyUptoRow : OpenClaim := { program := "ytnmmeccbpcichaa", sum := "795b6e28a9ef581060d8ee405a4faa2462ae10dca0f0db3ef657bc218d1aab66", func := "signpost/signpostlaw18.RecentNobody", spec := "recentNobody", unfollowed := true, recurses := true, plainKeys := false, apart := false, narrowed := true }
def RecentNobodyUptoSaid : Prop := recentNobodyUptoRow.holds Try.pinned (OpenSpec.upto recentNobodySpec)

/-- 'signpostlaw19.BucketPlays', WHERE WHAT IT READS IS OF BULK AT MOST 1048576: true; the input reads as it did. -/
def bucketPlaysUptoRow : OpenClaim := { program := "ytnmmeccbpcichaa", sum := "795b6e28a9ef581060d8ee405a4faa2462ae10dca0f0db3ef657bc218d1aab66", func := "signpost/signpostlaw19.BucketPlays", spec := "bucketPlays", unfollowed := true, recurses := true, plainKeys := false, apart := false, narrowed := true }
def BucketPlaysUptoSaid : Prop := bucketPlaysUptoRow.holds Try.pinned (OpenSpec.upto bucketPlaysSpec)

/-- 'signpostlaw19.BucketNobody', WHERE WHAT IT READS IS OF BULK AT MOST 1048576: true; the input reads as it did. -/
def bucketNobodyUptoRow : OpenClaim := { program := "ytnmmeccbpcichaa", sum := "795b6e28a9ef581060d8ee405a4faa2462ae10dca0f0db3ef657bc218d1aab66", func := "signpost/signpostlaw19.BucketNobody", spec := "bucketNobody", unfollowed := true, recurses := true, plainKeys := false, apart := false, narrowed := true }
def BucketNobodyUptoSaid : Prop := bucketNobodyUptoRow.holds Try.pinned (OpenSpec.upto bucketNobodySpec)

/-- 'signpostlaw19.BucketStays', WHERE WHAT IT READS IS OF BULK AT MOST 1048576: true; the input reads as it did. -/
def bucketStaysUptoRow : OpenClaim := { program := "ytnmmeccbpcichaa", sum := "795b6e28a9ef581060d8ee405a4faa2462ae10dca0f0db3ef657bc218d1aab66", func := "signpost/signpostlaw19.BucketStays", spec := "bucketStays", inPlace := ["internal/bytealg.Compare"], unfollowed := true, recurses := true, plainKeys := false, apart := false, narrowed := true }
def BucketStaysUptoSaid : Prop := bucketStaysUptoRow.holds Try.pinned (OpenSpec.upto bucketStaysSpec)

end Rows
end Go.Proofs.Ytnmmeccbpcichaa

/-
  No cell of these rows narrows 'for every input' (looked for: loops, veiled, ifaces, maps, wideKeys, modest, calm, conditions, laid).
  DERIVED. THE GIVEN ROWS OF THIS SEAT. 11 by the template 'for every input the law returns true; each argument reads behind the call as it read before'; 0 by the template 'total and deterministic' (their statements: YtjdmbegmbffhfaaTotals.lean).
  GIVEN WITH THE SEED: the statements are not yours to turn. If you find one false, say at which input.
  Laid BY PROGRAM, IN A SANDBOX (cutbox-rows.mjs): the forced cells as the released guide's own fill.sh prints them over the translation 1df2e362d0057cb5… (all of the seat's roots in one cut). By AI agents, Wed Nov 11 2026. No macro, syntax, notation, axiom, sorry.
-/
import Derived.Test.YtjdmbegmbffhfaaChecked
import GoSem.Claim
import GoSem.ClaimJoined
import GoSem.ClaimMapViews
import Derived.JoinedTies
import Derived.KernelRfl
namespace Go.Proofs.Ytjdmbegmbffhfaa
/- THE CELL 'sum', in the pinned program and in every row, IS THE sha256 OF THE DUMP (.gsa) THAT YtjdmbegmbffhfaaProg.lean LOADS. Nothing in Lean hashes anything: it is a label: what it is worth is what the hold of that sum in a sandbox is worth. -/
noncomputable def Try.pinned : Pinned := { name := "ytjdmbegmbffhfaa", sum := "1df2e362d0057cb5654bd22a187e090aee5a8d00da8b22931f2e79120dfa5321", checked := Try.checked }
namespace Rows
def none {H : Type} : Left H := { results := [], args := [] }

/-- 'signpostlaw21.DecayLess': WHATEVER THE INPUT: true; the input reads as it did. -/
def decayLessSpec : ChangeSpec := { name := "decayLess", fn := fun _ => fun
  | [d1, d2, d3, d4, d5, d6] => { results := [.lit (.bool true)], args := [d1, d2, d3, d4, d5, d6] }
  | _ => none }
def decayLessRow : OpenClaim := { program := "ytjdmbegmbffhfaa", sum := "1df2e362d0057cb5654bd22a187e090aee5a8d00da8b22931f2e79120dfa5321", func := "signpost/signpostlaw21.DecayLess", spec := "decayLess", unfollowed := true, recurses := true, apart := false }
def DecayLessSaid : Prop := decayLessRow.holds Try.pinned (OpenSpec.ofChange decayLessSpec)

/-- ITS FALSE NEIGHBOUR: 'it returns false'. Refute it at one input. -/
def decayLessWrong : ChangeSpec := { name := "decayLess", fn := fun _ => fun
  | [d1, d2, d3, d4, d5, d6] => { results := [.lit (.bool false)], args := [d1, d2, d3, d4, d5, d6] }
  | _ => none }
def DecayLessWrongFalsely : Prop := decayLessRow.holds Try.pinned (OpenSpec.ofChange decayLessWrong)

/-- 'signpostlaw02.ShaSums': WHATEVER THE INPUT: true; the input reads as it did. -/
def shaSumsSpec : ChangeSpec := { name := "shaSums", fn := fun _ => fun
  | [d1, d2] => { results := [.lit (.bool true)], args := [d1, d2] }
  | _ => none }
def shaSumsRow : OpenClaim := { program := "ytjdmbegmbffhfaa", sum := "1df2e362d0057cb5654bd22a187e090aee5a8d00da8b22931f2e79120dfa5321", func := "signpost/signpostlaw02.ShaSums", spec := "shaSums", unfollowed := true, recurses := true, apart := false }
def ShaSumsSaid : Prop := shaSumsRow.holds Try.pinned (OpenSpec.ofChange shaSumsSpec)

/-- ITS FALSE NEIGHBOUR: 'it returns false'. Refute it at one input. -/
def shaSumsWrong : ChangeSpec := { name := "shaSums", fn := fun _ => fun
  | [d1, d2] => { results := [.lit (.bool false)], args := [d1, d2] }
  | _ => none }
def ShaSumsWrongFalsely : Prop := shaSumsRow.holds Try.pinned (OpenSpec.ofChange shaSumsWrong)

/-- 'signpostlaw02.ShaWhole': WHATEVER THE INPUT: true; the input reads as it did. -/
def shaWholeSpec : ChangeSpec := { name := "shaWhole", fn := fun _ => fun
  | [d] => { results := [.lit (.bool true)], args := [d] }
  | _ => none }
def shaWholeRow : OpenClaim := { program := "ytjdmbegmbffhfaa", sum := "1df2e362d0057cb5654bd22a187e090aee5a8d00da8b22931f2e79120dfa5321", func := "signpost/signpostlaw02.ShaWhole", spec := "shaWhole", unfollowed := true, recurses := true, apart := false }
def ShaWholeSaid : Prop := shaWholeRow.holds Try.pinned (OpenSpec.ofChange shaWholeSpec)

/-- ITS FALSE NEIGHBOUR: 'it returns false'. Refute it at one input. -/
def shaWholeWrong : ChangeSpec := { name := "shaWhole", fn := fun _ => fun
  | [d] => { results := [.lit (.bool false)], args := [d] }
  | _ => none }
def ShaWholeWrongFalsely : Prop := shaWholeRow.holds Try.pinned (OpenSpec.ofChange shaWholeWrong)

/-- 'signpostlaw02.ShaNobody': WHATEVER THE INPUT: true; the input reads as it did. -/
def shaNobodySpec : ChangeSpec := { name := "shaNobody", fn := fun _ => fun
  | [d] => { results := [.lit (.bool true)], args := [d] }
  | _ => none }
def shaNobodyRow : OpenClaim := { program := "ytjdmbegmbffhfaa", sum := "1df2e362d0057cb5654bd22a187e090aee5a8d00da8b22931f2e79120dfa5321", func := "signpost/signpostlaw02.ShaNobody", spec := "shaNobody", unfollowed := true, recurses := true, apart := false }
def ShaNobodySaid : Prop := shaNobodyRow.holds Try.pinned (OpenSpec.ofChange shaNobodySpec)

/-- ITS FALSE NEIGHBOUR: 'it returns false'. Refute it at one input. -/
def shaNobodyWrong : ChangeSpec := { name := "shaNobody", fn := fun _ => fun
  | [d] => { results := [.lit (.bool false)], args := [d] }
  | _ => none }
def ShaNobodyWrongFalsely : Prop := shaNobodyRow.holds Try.pinned (OpenSpec.ofChange shaNobodyWrong)

/-- 'signpostlaw03.IdentFar': WHATEVER THE INPUT: true; the input reads as it did. -/
def identFarSpec : ChangeSpec := { name := "identFar", fn := fun _ => fun
  | [d1, d2, d3] => { results := [.lit (.bool true)], args := [d1, d2, d3] }
  | _ => none }
def identFarRow : OpenClaim := { program := "ytjdmbegmbffhfaa", sum := "1df2e362d0057cb5654bd22a187e090aee5a8d00da8b22931f2e79120dfa5321", func := "signpost/signpostlaw03.IdentFar", spec := "identFar", inPlace := ["internal/bytealg.Compare"], unfollowed := true, recurses := true, apart := false }
def IdentFarSaid : Prop := identFarRow.holds Try.pinned (OpenSpec.ofChange identFarSpec)

/-- ITS FALSE NEIGHBOUR: 'it returns false'. Refute it at one input. -/
def identFarWrong : ChangeSpec := { name := "identFar", fn := fun _ => fun
  | [d1, d2, d3] => { results := [.lit (.bool false)], args := [d1, d2, d3] }
  | _ => none }
def IdentFarWrongFalsely : Prop := identFarRow.holds Try.pinned (OpenSpec.ofChange identFarWrong)

/-- 'signpostlaw03.IdentTexts': WHATEVER THE INPUT: true; the input reads as it did. -/
def identTextsSpec : ChangeSpec := { name := "identTexts", fn := fun _ => fun
  | [d1, d2] => { results := [.lit (.bool true)], args := [d1, d2] }
  | _ => none }
def identTextsRow : OpenClaim := { program := "ytjdmbegmbffhfaa", sum := "1df2e362d0057cb5654bd22a187e090aee5a8d00da8b22931f2e79120dfa5321", func := "signpost/signpostlaw03.IdentTexts", spec := "identTexts", unfollowed := true, recurses := true, apart := false }
def IdentTextsSaid : Prop := identTextsRow.holds Try.pinned (OpenSpec.ofChange identTextsSpec)

/-- ITS FALSE NEIGHBOUR: 'it returns false'. Refute it at one input. -/
def identTextsWrong : ChangeSpec := { name := "identTexts", fn := fun _ => fun
  | [d1, d2] => { results := [.lit (.bool false)], args := [d1, d2] }
  | _ => none }
def IdentTextsWrongFalsely : Prop := identTextsRow.holds Try.pinned (OpenSpec.ofChange identTextsWrong)

/-- 'signpostlaw03.IdentBits': WHATEVER THE INPUT: true; the input reads as it did. -/
def identBitsSpec : ChangeSpec := { name := "identBits", fn := fun _ => fun
  | [d1, d2, d3, d4] => { results := [.lit (.bool true)], args := [d1, d2, d3, d4] }
  | _ => none }
def identBitsRow : OpenClaim := { program := "ytjdmbegmbffhfaa", sum := "1df2e362d0057cb5654bd22a187e090aee5a8d00da8b22931f2e79120dfa5321", func := "signpost/signpostlaw03.IdentBits", spec := "identBits", inPlace := ["internal/bytealg.Compare"], unfollowed := true, recurses := true, apart := false }
def IdentBitsSaid : Prop := identBitsRow.holds Try.pinned (OpenSpec.ofChange identBitsSpec)

/-- ITS FALSE NEIGHBOUR: 'it returns false'. Refute it at one input. -/
def identBitsWrong : ChangeSpec := { name := "identBits", fn := fun _ => fun
  | [d1, d2, d3, d4] => { results := [.lit (.bool false)], args := [d1, d2, d3, d4] }
  | _ => none }
def IdentBitsWrongFalsely : Prop := identBitsRow.holds Try.pinned (OpenSpec.ofChange identBitsWrong)

/-- 'signpostlaw04.MetricOrder': WHATEVER THE INPUT: true; the input reads as it did. -/
def metricOrderSpec : ChangeSpec := { name := "metricOrder", fn := fun _ => fun
  | [d1, d2, d3, d4] => { results := [.lit (.bool true)], args := [d1, d2, d3, d4] }
  | _ => none }
def metricOrderRow : OpenClaim := { program := "ytjdmbegmbffhfaa", sum := "1df2e362d0057cb5654bd22a187e090aee5a8d00da8b22931f2e79120dfa5321", func := "signpost/signpostlaw04.MetricOrder", spec := "metricOrder", inPlace := ["internal/bytealg.Compare"], unfollowed := true, recurses := true, apart := false }
def MetricOrderSaid : Prop := metricOrderRow.holds Try.pinned (OpenSpec.ofChange metricOrderSpec)

/-- ITS FALSE NEIGHBOUR: 'it returns false'. Refute it at one input. -/
def metricOrderWrong : ChangeSpec := { name := "metricOrder", fn := fun _ => fun
  | [d1, d2, d3, d4] => { results := [.lit (.bool false)], args := [d1, d2, d3, d4] }
  | _ => none }
def MetricOrderWrongFalsely : Prop := metricOrderRow.holds Try.pinned (OpenSpec.ofChange metricOrderWrong)

/-- 'signpostlaw04.MetricSorts': WHATEVER THE INPUT: true; the input reads as it did. -/
def metricSortsSpec : ChangeSpec := { name := "metricSorts", fn := fun _ => fun
  | [d1, d2, d3, d4] => { results := [.lit (.bool true)], args := [d1, d2, d3, d4] }
  | _ => none }
def metricSortsRow : OpenClaim := { program := "ytjdmbegmbffhfaa", sum := "1df2e362d0057cb5654bd22a187e090aee5a8d00da8b22931f2e79120dfa5321", func := "signpost/signpostlaw04.MetricSorts", spec := "metricSorts", inPlace := ["internal/bytealg.Compare"], unfollowed := true, recurses := true, apart := false }
def MetricSortsSaid : Prop := metricSortsRow.holds Try.pinned (OpenSpec.ofChange metricSortsSpec)

/-- ITS FALSE NEIGHBOUR: 'it returns false'. Refute it at one input. -/
def metricSortsWrong : ChangeSpec := { name := "metricSorts", fn := fun _ => fun
  | [d1, d2, d3, d4] => { results := [.lit (.bool false)], args := [d1, d2, d3, d4] }
  | _ => none }
def MetricSortsWrongFalsely : Prop := metricSortsRow.holds Try.pinned (OpenSpec.ofChange metricSortsWrong)

/-- 'signpostlaw04.MetricLeast': WHATEVER THE INPUT: true; the input reads as it did. -/
def metricLeastSpec : ChangeSpec := { name := "metricLeast", fn := fun _ => fun
  | [d1, d2, d3] => { results := [.lit (.bool true)], args := [d1, d2, d3] }
  | _ => none }
def metricLeastRow : OpenClaim := { program := "ytjdmbegmbffhfaa", sum := "1df2e362d0057cb5654bd22a187e090aee5a8d00da8b22931f2e79120dfa5321", func := "signpost/signpostlaw04.MetricLeast", spec := "metricLeast", inPlace := ["internal/bytealg.Compare"], unfollowed := true, recurses := true, apart := false }
def MetricLeastSaid : Prop := metricLeastRow.holds Try.pinned (OpenSpec.ofChange metricLeastSpec)

/-- ITS FALSE NEIGHBOUR: 'it returns false'. Refute it at one input. -/
def metricLeastWrong : ChangeSpec := { name := "metricLeast", fn := fun _ => fun
  | [d1, d2, d3] => { results := [.lit (.bool false)], args := [d1, d2, d3] }
  | _ => none }
def MetricLeastWrongFalsely : Prop := metricLeastRow.holds Try.pinned (OpenSpec.ofChange metricLeastWrong)

/-- 'signpostlaw03.IdentSorts': WHATEVER THE INPUT: true; the input reads as it did. -/
def identSortsSpec : ChangeSpec := { name := "identSorts", fn := fun _ => fun
  | [d] => { results := [.lit (.bool true)], args := [d] }
  | _ => none }
def identSortsRow : OpenClaim := { program := "ytjdmbegmbffhfaa", sum := "1df2e362d0057cb5654bd22a187e090aee5a8d00da8b22931f2e79120dfa5321", func := "signpost/signpostlaw03.IdentSorts", spec := "identSorts", inPlace := ["internal/bytealg.Compare"], unfollowed := true, recurses := true, apart := false }
def IdentSortsSaid : Prop := identSortsRow.holds Try.pinned (OpenSpec.ofChange identSortsSpec)

/-- ITS FALSE NEIGHBOUR: 'it returns false'. Refute it at one input. -/
def identSortsWrong : ChangeSpec := { name := "identSorts", fn := fun _ => fun
  | [d] => { results := [.lit (.bool false)], args := [d] }
  | _ => none }
def IdentSortsWrongFalsely : Prop := identSortsRow.holds Try.pinned (OpenSpec.ofChange identSortsWrong)

/- THE SECOND FORM. 'bulk': how many values and letters a reading holds, each counted each time it is reached (what is shared counts as often as it is met; a slice's spare places count too). A statement '..UptoSaid' is the law's where the arguments, and the package variables that the reading takes, are together of bulk at most 1048576: NARROWER than '..Said'. Prove '..Said' where nothing that the law and all that it calls make is longer than what came in: it says more and counts as full. Else prove '..UptoSaid'. A law counts once. -/
mutual
def uptoBulk {H : Type} : DataW H → Nat
  | .lit (.string bytes) => bytes.length + 1
  | .lit _ => 1
  | .nil => 1
  | .ptr d => uptoBulk d + 1
  | .slice elems spare => uptoBulkAll elems + uptoBulkAll spare + 1
  | .agg parts => uptoBulkAll parts + 1
  | .iface _ d => uptoBulk d + 1
  | .map entries => uptoBulkEntries entries + 1
  | .held _ => 1
def uptoBulkAll {H : Type} : List (DataW H) → Nat
  | [] => 0
  | d :: r => uptoBulk d + uptoBulkAll r
def uptoBulkEntries {H : Type} : List (Lit × DataW H) → Nat
  | [] => 0
  | x :: r => uptoBulkEntry x + uptoBulkEntries r
def uptoBulkEntry {H : Type} : Lit × DataW H → Nat
  | (.string bytes, d) => bytes.length + uptoBulk d + 1
  | (_, d) => uptoBulk d + 1
 end
def uptoSmall : (H : Type) → List (DataW H) → Bool := fun _ ds => decide (uptoBulkAll ds ≤ 1048576)
def OpenSpec.upto (s : _root_.Go.ChangeSpec) : _root_.Go.OpenSpec := { _root_.Go.OpenSpec.ofChange s with cond := some uptoSmall }

/-- 'signpostlaw21.DecayLess', WHERE WHAT IT READS IS OF BULK AT MOST 1048576: true; the input reads as it did. -/
def decayLessUptoRow : OpenClaim := { program := "ytjdmbegmbffhfaa", sum := "1df2e362d0057cb5654bd22a187e090aee5a8d00da8b22931f2e79120dfa5321", func := "signpost/signpostlaw21.DecayLess", spec := "decayLess", unfollowed := true, recurses := true, apart := false, narrowed := true }
def DecayLessUptoSaid : Prop := decayLessUptoRow.holds Try.pinned (OpenSpec.upto decayLessSpec)

/-- 'signpostlaw02.ShaSums', WHERE WHAT IT READS IS OF BULK AT MOST 1048576: true; the input reads as it did. -/
def shaSumsUptoRow : OpenClaim := { program := "ytjdmbegmbffhfaa", sum := "1df2e362d0057cb5654bd22a187e090aee5a8d00da8b22931f2e79120dfa5321", func := "signpost/signpostlaw02.ShaSums", spec := "shaSums", unfollowed := true, recurses := true, apart := false, narrowed := true }
def ShaSumsUptoSaid : Prop := shaSumsUptoRow.holds Try.pinned (OpenSpec.upto shaSumsSpec)

/-- 'signpostlaw02.ShaWhole', WHERE WHAT IT READS IS OF BULK AT MOST 1048576: true; the input reads as it did. -/
def shaWholeUptoRow : OpenClaim := { program := "ytjdmbegmbffhfaa", sum := "1df2e362d0057cb5654bd22a187e090aee5a8d00da8b22931f2e79120dfa5321", func := "signpost/signpostlaw02.ShaWhole", spec := "shaWhole", unfollowed := true, recurses := true, apart := false, narrowed := true }
def ShaWholeUptoSaid : Prop := shaWholeUptoRow.holds Try.pinned (OpenSpec.upto shaWholeSpec)

/-- 'signpostlaw02.ShaNobody', WHERE WHAT IT READS IS OF BULK AT MOST 1048576: true; the input reads as it did. -/
def shaNobodyUptoRow : OpenClaim := { program := "ytjdmbegmbffhfaa", sum := "1df2e362d0057cb5654bd22a187e090aee5a8d00da8b22931f2e79120dfa5321", func := "signpost/signpostlaw02.ShaNobody", spec := "shaNobody", unfollowed := true, recurses := true, apart := false, narrowed := true }
def ShaNobodyUptoSaid : Prop := shaNobodyUptoRow.holds Try.pinned (OpenSpec.upto shaNobodySpec)

/-- 'signpostlaw03.IdentFar', WHERE WHAT IT READS IS OF BULK AT MOST 1048576: true; the input reads as it did. -/
def identFarUptoRow : OpenClaim := { program := "ytjdmbegmbffhfaa", sum := "1df2e362d0057cb5654bd22a187e090aee5a8d00da8b22931f2e79120dfa5321", func := "signpost/signpostlaw03.IdentFar", spec := "identFar", inPlace := ["internal/bytealg.Compare"], unfollowed := true, recurses := true, apart := false, narrowed := true }
def IdentFarUptoSaid : Prop := identFarUptoRow.holds Try.pinned (OpenSpec.upto identFarSpec)

/-- 'signpostlaw03.IdentTexts', WHERE WHAT IT READS IS OF BULK AT MOST 1048576: true; the input reads as it did. -/
def identTextsUptoRow : OpenClaim := { program := "ytjdmbegmbffhfaa", sum := "1df2e362d0057cb5654bd22a187e090aee5a8d00da8b22931f2e79120dfa5321", func := "signpost/signpostlaw03.IdentTexts", spec := "identTexts", unfollowed := true, recurses := true, apart := false, narrowed := true }
def IdentTextsUptoSaid : Prop := identTextsUptoRow.holds Try.pinned (OpenSpec.upto identTextsSpec)

/-- 'signpostlaw03.IdentBits', WHERE WHAT IT READS IS OF BULK AT MOST 1048576: true; the input reads as it did. -/
def identBitsUptoRow : OpenClaim := { program := "ytjdmbegmbffhfaa", sum := "1df2e362d0057cb5654bd22a187e090aee5a8d00da8b22931f2e79120dfa5321", func := "signpost/signpostlaw03.IdentBits", spec := "identBits", inPlace := ["internal/bytealg.Compare"], unfollowed := true, recurses := true, apart := false, narrowed := true }
def IdentBitsUptoSaid : Prop := identBitsUptoRow.holds Try.pinned (OpenSpec.upto identBitsSpec)

/-- 'signpostlaw04.MetricOrder', WHERE WHAT IT READS IS OF BULK AT MOST 1048576: true; the input reads as it did. -/
def metricOrderUptoRow : OpenClaim := { program := "ytjdmbegmbffhfaa", sum := "1df2e362d0057cb5654bd22a187e090aee5a8d00da8b22931f2e79120dfa5321", func := "signpost/signpostlaw04.MetricOrder", spec := "metricOrder", inPlace := ["internal/bytealg.Compare"], unfollowed := true, recurses := true, apart := false, narrowed := true }
def MetricOrderUptoSaid : Prop := metricOrderUptoRow.holds Try.pinned (OpenSpec.upto metricOrderSpec)

/-- 'signpostlaw04.MetricSorts', WHERE WHAT IT READS IS OF BULK AT MOST 1048576: true; the input reads as it did. -/
def metricSortsUptoRow : OpenClaim := { program := "ytjdmbegmbffhfaa", sum := "1df2e362d0057cb5654bd22a187e090aee5a8d00da8b22931f2e79120dfa5321", func := "signpost/signpostlaw04.MetricSorts", spec := "metricSorts", inPlace := ["internal/bytealg.Compare"], unfollowed := true, recurses := true, apart := false, narrowed := true }
def MetricSortsUptoSaid : Prop := metricSortsUptoRow.holds Try.pinned (OpenSpec.upto metricSortsSpec)

/-- 'signpostlaw04.MetricLeast', WHERE WHAT IT READS IS OF BULK AT MOST 1048576: true; the input reads as it did. -/
def metricLeastUptoRow : OpenClaim := { program := "ytjdmbegmbffhfaa", sum := "1df2e362d0057cb5654bd22a187e090aee5a8d00da8b22931f2e79120dfa5321", func := "signpost/signpostlaw04.MetricLeast", spec := "metricLeast", inPlace := ["internal/bytealg.Compare"], unfollowed := true, recurses := true, apart := false, narrowed := true }
def MetricLeastUptoSaid : Prop := metricLeastUptoRow.holds Try.pinned (OpenSpec.upto metricLeastSpec)

/-- 'signpostlaw03.IdentSorts', WHERE WHAT IT READS IS OF BULK AT MOST 1048576: true; the input reads as it did. -/
def identSortsUptoRow : OpenClaim := { program := "ytjdmbegmbffhfaa", sum := "1df2e362d0057cb5654bd22a187e090aee5a8d00da8b22931f2e79120dfa5321", func := "signpost/signpostlaw03.IdentSorts", spec := "identSorts", inPlace := ["internal/bytealg.Compare"], unfollowed := true, recurses := true, apart := false, narrowed := true }
def IdentSortsUptoSaid : Prop := identSortsUptoRow.holds Try.pinned (OpenSpec.upto identSortsSpec)

end Rows
end Go.Proofs.Ytjdmbegmbffhfaa

/-
  No cell of these rows narrows 'for every input' (looked for: loops, veiled, ifaces, maps, wideKeys, modest, calm, conditions, laid).
  DERIVED. THE GIVEN ROWS OF THIS SEAT. 5 by the template 'for every input the law returns true; each argument reads behind the call as it read before'; 0 by the template 'total and deterministic' (their statements: YtgdiajhegmdfgaaTotals.lean).
  GIVEN WITH THE SEED: the statements are not yours to turn. If you find one false, say at which input.
  Laid BY PROGRAM, IN A SANDBOX (cutbox-rows.mjs): the forced cells as the released guide's own fill.sh prints them over the translation 56a049cc441b9a4d… (all of the seat's roots in one cut). By AI agents, Wed Nov 11 2026. No macro, syntax, notation, axiom, sorry.
-/
import Derived.Test.YtgdiajhegmdfgaaChecked
import GoSem.Claim
import GoSem.ClaimJoined
import GoSem.ClaimMapViews
import Derived.JoinedTies
import Derived.KernelRfl
namespace Go.Proofs.Ytgdiajhegmdfgaa
/- THE CELL 'sum', in the pinned program and in every row, IS THE sha256 OF THE DUMP (.gsa) THAT YtgdiajhegmdfgaaProg.lean LOADS. Nothing in Lean hashes anything: it is a label: what it is worth is what the hold of that sum in a sandbox is worth. -/
noncomputable def Try.pinned : Pinned := { name := "ytgdiajhegmdfgaa", sum := "56a049cc441b9a4d3089e942d0538b0ea14996d6868f2f6a03da08b8d558649f", checked := Try.checked }
namespace Rows
def none {H : Type} : Left H := { results := [], args := [] }

/-- 'signpostlaw02.ShaWhole': WHATEVER THE INPUT: true; the input reads as it did. -/
def shaWholeSpec : ChangeSpec := { name := "shaWhole", fn := fun _ => fun
  | [d] => { results := [.lit (.bool true)], args := [d] }
  | _ => none }
def shaWholeRow : OpenClaim := { program := "ytgdiajhegmdfgaa", sum := "56a049cc441b9a4d3089e942d0538b0ea14996d6868f2f6a03da08b8d558649f", func := "signpost/signpostlaw02.ShaWhole", spec := "shaWhole", unfollowed := true, recurses := true, apart := false }
def ShaWholeSaid : Prop := shaWholeRow.holds Try.pinned (OpenSpec.ofChange shaWholeSpec)

/-- ITS FALSE NEIGHBOUR: 'it returns false'. Refute it at one input. -/
def shaWholeWrong : ChangeSpec := { name := "shaWhole", fn := fun _ => fun
  | [d] => { results := [.lit (.bool false)], args := [d] }
  | _ => none }
def ShaWholeWrongFalsely : Prop := shaWholeRow.holds Try.pinned (OpenSpec.ofChange shaWholeWrong)

/-- 'signpostlaw03.IdentSorts': WHATEVER THE INPUT: true; the input reads as it did. -/
def identSortsSpec : ChangeSpec := { name := "identSorts", fn := fun _ => fun
  | [d] => { results := [.lit (.bool true)], args := [d] }
  | _ => none }
def identSortsRow : OpenClaim := { program := "ytgdiajhegmdfgaa", sum := "56a049cc441b9a4d3089e942d0538b0ea14996d6868f2f6a03da08b8d558649f", func := "signpost/signpostlaw03.IdentSorts", spec := "identSorts", inPlace := ["internal/bytealg.Compare"], unfollowed := true, recurses := true, apart := false }
def IdentSortsSaid : Prop := identSortsRow.holds Try.pinned (OpenSpec.ofChange identSortsSpec)

/-- ITS FALSE NEIGHBOUR: 'it returns false'. Refute it at one input. -/
def identSortsWrong : ChangeSpec := { name := "identSorts", fn := fun _ => fun
  | [d] => { results := [.lit (.bool false)], args := [d] }
  | _ => none }
def IdentSortsWrongFalsely : Prop := identSortsRow.holds Try.pinned (OpenSpec.ofChange identSortsWrong)

/-- 'signpostlaw04.MetricOrder': WHATEVER THE INPUT: true; the input reads as it did. -/
def metricOrderSpec : ChangeSpec := { name := "metricOrder", fn := fun _ => fun
  | [d1, d2, d3, d4] => { results := [.lit (.bool true)], args := [d1, d2, d3, d4] }
  | _ => none }
def metricOrderRow : OpenClaim := { program := "ytgdiajhegmdfgaa", sum := "56a049cc441b9a4d3089e942d0538b0ea14996d6868f2f6a03da08b8d558649f", func := "signpost/signpostlaw04.MetricOrder", spec := "metricOrder", inPlace := ["internal/bytealg.Compare"], unfollowed := true, recurses := true, apart := false }
def MetricOrderSaid : Prop := metricOrderRow.holds Try.pinned (OpenSpec.ofChange metricOrderSpec)

/-- ITS FALSE NEIGHBOUR: 'it returns false'. Refute it at one input. -/
def metricOrderWrong : ChangeSpec := { name := "metricOrder", fn := fun _ => fun
  | [d1, d2, d3, d4] => { results := [.lit (.bool false)], args := [d1, d2, d3, d4] }
  | _ => none }
def MetricOrderWrongFalsely : Prop := metricOrderRow.holds Try.pinned (OpenSpec.ofChange metricOrderWrong)

/-- 'signpostlaw04.MetricSorts': WHATEVER THE INPUT: true; the input reads as it did. -/
def metricSortsSpec : ChangeSpec := { name := "metricSorts", fn := fun _ => fun
  | [d1, d2, d3, d4] => { results := [.lit (.bool true)], args := [d1, d2, d3, d4] }
  | _ => none }
def metricSortsRow : OpenClaim := { program := "ytgdiajhegmdfgaa", sum := "56a049cc441b9a4d3089e942d0538b0ea14996d6868f2f6a03da08b8d558649f", func := "signpost/signpostlaw04.MetricSorts", spec := "metricSorts", inPlace := ["internal/bytealg.Compare"], unfollowed := true, recurses := true, apart := false }
def MetricSortsSaid : Prop := metricSortsRow.holds Try.pinned (OpenSpec.ofChange metricSortsSpec)

/-- ITS FALSE NEIGHBOUR: 'it returns false'. Refute it at one input. -/
def metricSortsWrong : ChangeSpec := { name := "metricSorts", fn := fun _ => fun
  | [d1, d2, d3, d4] => { results := [.lit (.bool false)], args := [d1, d2, d3, d4] }
  | _ => none }
def MetricSortsWrongFalsely : Prop := metricSortsRow.holds Try.pinned (OpenSpec.ofChange metricSortsWrong)

/-- 'signpostlaw21.DecayTells': WHATEVER THE INPUT: true; the input reads as it did. -/
def decayTellsSpec : ChangeSpec := { name := "decayTells", fn := fun _ => fun
  | [d1, d2, d3, d4, d5, d6, d7, d8] => { results := [.lit (.bool true)], args := [d1, d2, d3, d4, d5, d6, d7, d8] }
  | _ => none }
def decayTellsRow : OpenClaim := { program := "ytgdiajhegmdfgaa", sum := "56a049cc441b9a4d3089e942d0538b0ea14996d6868f2f6a03da08b8d558649f", func := "signpost/signpostlaw21.DecayTells", spec := "decayTells", inPlace := ["internal/bytealg.Compare"], unfollowed := true, recurses := true, apart := false }
def DecayTellsSaid : Prop := decayTellsRow.holds Try.pinned (OpenSpec.ofChange decayTellsSpec)

/-- ITS FALSE NEIGHBOUR: 'it returns false'. Refute it at one input. -/
def decayTellsWrong : ChangeSpec := { name := "decayTells", fn := fun _ => fun
  | [d1, d2, d3, d4, d5, d6, d7, d8] => { results := [.lit (.bool false)], args := [d1, d2, d3, d4, d5, d6, d7, d8] }
  | _ => none }
def DecayTellsWrongFalsely : Prop := decayTellsRow.holds Try.pinned (OpenSpec.ofChange decayTellsWrong)

/- THE SECOND FORM. 'bulk': how many values and letters a reading holds, each counted each time it is reached (what is shared counts as often as it is met; a slice's spare places count too). A statement '..UptoSaid' is the law's where the arguments, and the package variables that the reading takes, are together of bulk at most 1048576: NARROWER than '..Said'. Prove '..Said' where nothing that the law and all that it calls make is longer than what came in: it says more and counts as full. Else prove '..UptoSaid'. A law counts once. -/
mutual
def uptoBulk {H : Type} : DataW H → Nat
  | .lit (.string bytes) => bytes.length + 1
  | .lit _ => 1
  | .nil => 1
  | .ptr d => uptoBulk d + 1
  | .slice elems spare => uptoBulkAll elems + uptoBulkAll spare + 1
  | .agg parts => uptoBulkAll parts + 1
  | .iface _ d => uptoBulk d + 1
  | .map entries => uptoBulkEntries entries + 1
  | .held _ => 1
def uptoBulkAll {H : Type} : List (DataW H) → Nat
  | [] => 0
  | d :: r => uptoBulk d + uptoBulkAll r
def uptoBulkEntries {H : Type} : List (Lit × DataW H) → Nat
  | [] => 0
  | x :: r => uptoBulkEntry x + uptoBulkEntries r
def uptoBulkEntry {H : Type} : Lit × DataW H → Nat
  | (.string bytes, d) => bytes.length + uptoBulk d + 1
  | (_, d) => uptoBulk d + 1
 end
def uptoSmall : (H : Type) → List (DataW H) → Bool := fun _ ds => decide (uptoBulkAll ds ≤ 1048576)
def OpenSpec.upto (s : _root_.Go.ChangeSpec) : _root_.Go.OpenSpec := { _root_.Go.OpenSpec.ofChange s with cond := some uptoSmall }

/-- 'signpostlaw02.ShaWhole', WHERE WHAT IT READS IS OF BULK AT MOST 1048576: true; the input reads as it did. -/
def shaWholeUptoRow : OpenClaim := { program := "ytgdiajhegmdfgaa", sum := "56a049cc441b9a4d3089e942d0538b0ea14996d6868f2f6a03da08b8d558649f", func := "signpost/signpostlaw02.ShaWhole", spec := "shaWhole", unfollowed := true, recurses := true, apart := false, narrowed := true }
def ShaWholeUptoSaid : Prop := shaWholeUptoRow.holds Try.pinned (OpenSpec.upto shaWholeSpec)

/-- 'signpostlaw03.IdentSorts', WHERE WHAT IT READS IS OF BULK AT MOST 1048576: true; the input reads as it did. -/
def identSortsUptoRow : OpenClaim := { program := "ytgdiajhegmdfgaa", sum := "56a049cc441b9a4d3089e942d0538b0ea14996d6868f2f6a03da08b8d558649f", func := "signpost/signpostlaw03.IdentSorts", spec := "identSorts", inPlace := ["internal/bytealg.Compare"], unfollowed := true, recurses := true, apart := false, narrowed := true }
def IdentSortsUptoSaid : Prop := identSortsUptoRow.holds Try.pinned (OpenSpec.upto identSortsSpec)

/-- 'signpostlaw04.MetricOrder', WHERE WHAT IT READS IS OF BULK AT MOST 1048576: true; the input reads as it did. -/
def metricOrderUptoRow : OpenClaim := { program := "ytgdiajhegmdfgaa", sum := "56a049cc441b9a4d3089e942d0538b0ea14996d6868f2f6a03da08b8d558649f", func := "signpost/signpostlaw04.MetricOrder", spec := "metricOrder", inPlace := ["internal/bytealg.Compare"], unfollowed := true, recurses := true, apart := false, narrowed := true }
def MetricOrderUptoSaid : Prop := metricOrderUptoRow.holds Try.pinned (OpenSpec.upto metricOrderSpec)

/-- 'signpostlaw04.MetricSorts', WHERE WHAT IT READS IS OF BULK AT MOST 1048576: true; the input reads as it did. -/
def metricSortsUptoRow : OpenClaim := { program := "ytgdiajhegmdfgaa", sum := "56a049cc441b9a4d3089e942d0538b0ea14996d6868f2f6a03da08b8d558649f", func := "signpost/signpostlaw04.MetricSorts", spec := "metricSorts", inPlace := ["internal/bytealg.Compare"], unfollowed := true, recurses := true, apart := false, narrowed := true }
def MetricSortsUptoSaid : Prop := metricSortsUptoRow.holds Try.pinned (OpenSpec.upto metricSortsSpec)

/-- 'signpostlaw21.DecayTells', WHERE WHAT IT READS IS OF BULK AT MOST 1048576: true; the input reads as it did. -/
def decayTellsUptoRow : OpenClaim := { program := "ytgdiajhegmdfgaa", sum := "56a049cc441b9a4d3089e942d0538b0ea14996d6868f2f6a03da08b8d558649f", func := "signpost/signpostlaw21.DecayTells", spec := "decayTells", inPlace := ["internal/bytealg.Compare"], unfollowed := true, recurses := true, apart := false, narrowed := true }
def DecayTellsUptoSaid : Prop := decayTellsUptoRow.holds Try.pinned (OpenSpec.upto decayTellsSpec)

end Rows
end Go.Proofs.Ytgdiajhegmdfgaa

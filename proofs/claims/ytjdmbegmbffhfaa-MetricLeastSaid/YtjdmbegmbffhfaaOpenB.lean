/-
  A slice of bytes read as data, opened. Conditions: as each theorem says.
-/
import Derived.Test.YtjdmbegmbffhfaaOpen
import Derived.Test.YtjdmbegmbffhfaaOctet
namespace Go.Proofs.Ytjdmbegmbffhfaa
open Go.ChangeShapes Go.WideShapes Go.ChangeAt Go.RowKit Go.Deep

section
variable {H : Type} {enc : TypeId × Value → H} {w : World} {base : Nat} {spare : Nat → Bool} {held : Bool}

theorem open_bytecell (n : Nat) (cs : List Value) (x : DataW H × List MemPlace) (h : DataW.trod enc Try.prog w base spare held n 5 cs = some x) : ∃ y : UInt8, [byteV y] = cs ∧ True := by
  obtain ⟨y, e, _, hw⟩ := DataW.trod_int Try.underlying5 h
  have hb := wf_u8 hw
  refine ⟨UInt8.ofNat y.toNat, ?_, trivial⟩
  rw [e]
  unfold byteV
  rw [UInt8.toNat_ofNat']
  have : ((y.toNat % 2 ^ 8 : Nat) : Int) = y := by omega
  rw [this]

theorem open_bytes {fuel : Nat} {A : Option Addr} {len cap : Nat} {x : DataW H × List MemPlace} (h : DataW.trod enc Try.prog w base spare held fuel 30 [.slice A len cap] = some x) :
    ∃ l : List UInt8, len = l.length ∧ len ≤ cap ∧ cap ≤ maxLen ∧ Bytes w A l := by
  obtain ⟨l, hl, hlc, hcm, hnone, _, hrow⟩ := open_rows (size := 1) (fun y : UInt8 => [byteV y]) (fun _ => True) Try.underlying30 (by kernel_rfl) (by omega) (fun _ _ => rfl) 0 open_bytecell h
  refine ⟨l, hl, hlc, hcm, fun ha => List.eq_nil_of_length_eq_zero (hl ▸ (hnone ha).1), fun ad ha j v hv => ?_⟩
  simp only [bytesV, List.getElem?_map, Option.map_eq_some_iff] at hv
  obtain ⟨y, hy, rfl⟩ := hv
  obtain ⟨ad', ha', _, hr⟩ := hrow j y hy
  obtain rfl : ad = ad' := Option.some.inj ((show some ad = A from ha.symm).trans ha')
  have := hr 0 _ rfl
  rwa [add_add, Nat.mul_one, Nat.add_zero] at this
end
end Go.Proofs.Ytjdmbegmbffhfaa

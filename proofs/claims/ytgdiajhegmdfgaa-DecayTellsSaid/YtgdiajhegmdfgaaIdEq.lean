/-
  Two arrays of bytes compared. Conditions: the type is an array of bytes.
-/
import Derived.Test.YtgdiajhegmdfgaaOctet
import Derived.ChangeKeysEq
import Derived.Laws.StructEq
import Derived.Laws.BytesArg
import Derived.Laws.IdiomStrings
namespace Go.Proofs.Ytgdiajhegmdfgaa
open Go.RowKit

section
variable {P : Program} (w : World)

theorem eqItems_bytes (d : Nat) {e : TypeId} (hu : P.underlying e = some (.int .u8)) (hp : P.plainKey e = true) (xs ys : List UInt8) : ∀ is : List Nat, (∀ i ∈ is, i < xs.length ∧ i < ys.length) →
    (Op.eqItems (d + 1) e 1 (bytesV xs).toArray (bytesV ys).toArray is).run P w = .ok (decide (∀ i ∈ is, xs[i]? = ys[i]?)) w
  | [], _ => by simp [Op.eqItems]
  | i :: is, h => by
    obtain ⟨h1, h2⟩ := h i (by simp)
    have px : (part e (bytesV xs).toArray (i * 1)).run P w = .ok (byteV xs[i]) w := run_part_plain w hp (by simp [bytesV, h1])
    have py : (part e (bytesV ys).toArray (i * 1)).run P w = .ok (byteV ys[i]) w := run_part_plain w hp (by simp [bytesV, h2])
    have pe : (Op.equalIn (d + 1) e (byteV xs[i]) (byteV ys[i])).run P w = .ok (((xs[i].toNat : Int)) == ((ys[i].toNat : Int))) w := run_equalIn_int w d e .u8 .u8 _ _ hu
    have ih := eqItems_bytes d hu hp xs ys is (fun j hj => h j (by simp [hj]))
    simp only [Op.eqItems, Sem.run_bind, px, py, pe, Result.andThen_ok]
    have hx : (((xs[i].toNat : Int)) == ((ys[i].toNat : Int))) = decide (xs[i] = ys[i]) := by
      rw [Bool.eq_iff_iff, beq_iff_eq, decide_eq_true_eq, ← UInt8.toNat_inj]
      omega
    rw [hx]
    by_cases he : xs[i] = ys[i]
    · simp only [he, decide_true, Bool.not_true, Bool.false_eq_true, if_false, ih]
      congr 1
      simp [h1, h2, he]
    · simp only [he, decide_false, Bool.not_false, if_true, Sem.run_pure]
      congr 1
      symm
      rw [decide_eq_false_iff_not]
      intro hall
      have := hall i (by simp)
      rw [List.getElem?_eq_getElem h1, List.getElem?_eq_getElem h2] at this
      exact he (Option.some.inj this)

theorem equalIn_bytes (d n : Nat) {t e : TypeId} (ht : P.underlying t = some (.array n e)) (hu : P.underlying e = some (.int .u8)) (hp : P.plainKey e = true) (hc : P.cellsOf e = 1) {i : TypeInfo} (hi : P.info? e = some i) (xs ys : List UInt8) (hx : xs.length = n) (hy : ys.length = n) :
    (Op.equalIn (d + 2) t (.agg (bytesV xs).toArray) (.agg (bytesV ys).toArray)).run P w = .ok (decide (xs = ys)) w := by
  have h1 := run_equalIn_array w (d + 1) (bytesV xs).toArray (bytesV ys).toArray ht hi
  rw [h1, hc, eqItems_bytes w d hu hp xs ys (List.range n) (fun i hi => by have := List.mem_range.1 hi; omega)]
  congr 1
  rw [Bool.eq_iff_iff]
  simp only [decide_eq_true_eq, List.mem_range]
  constructor
  · intro h
    apply List.ext_getElem?
    intro i
    by_cases hi : i < n
    · exact h i hi
    · rw [List.getElem?_eq_none (by omega), List.getElem?_eq_none (by omega)]
  · rintro rfl i _
    rfl

theorem eql_bytes (n : Nat) {t e : TypeId} (ht : P.underlying t = some (.array n e)) (hu : P.underlying e = some (.int .u8)) (hp : P.plainKey e = true) (hc : P.cellsOf e = 1) {i : TypeInfo} (hi : P.info? e = some i) (xs ys : List UInt8) (hx : xs.length = n) (hy : ys.length = n) :
    (binOp .eql t (.agg (bytesV xs).toArray) (.agg (bytesV ys).toArray)).run P w = .ok (.bool (decide (xs = ys))) w := by
  rw [run_eql_struct, equalIn_bytes w 9998 n ht hu hp hc hi xs ys hx hy]
  rfl
theorem neq_bytes (n : Nat) {t e : TypeId} (ht : P.underlying t = some (.array n e)) (hu : P.underlying e = some (.int .u8)) (hp : P.plainKey e = true) (hc : P.cellsOf e = 1) {i : TypeInfo} (hi : P.info? e = some i) (xs ys : List UInt8) (hx : xs.length = n) (hy : ys.length = n) :
    (binOp .neq t (.agg (bytesV xs).toArray) (.agg (bytesV ys).toArray)).run P w = .ok (.bool (!decide (xs = ys))) w := by
  rw [run_neq_struct, equalIn_bytes w 9998 n ht hu hp hc hi xs ys hx hy]
  rfl
end

theorem plainByte : Try.prog.plainKey 5 = true := by kernel_rfl
theorem cellsByte : Try.prog.cellsOf 5 = 1 := by kernel_rfl
theorem eql_ID (w : World) (xs ys : List UInt8) (hx : xs.length = 20) (hy : ys.length = 20) :
    (binOp .eql 34 (.agg (bytesV xs).toArray) (.agg (bytesV ys).toArray)).run Try.prog w = .ok (.bool (decide (xs = ys))) w :=
  (info_parts infoByte).elim fun _ hi => eql_bytes w 20 Try.underlying34 Try.underlying5 plainByte cellsByte hi.1 xs ys hx hy
theorem neq_ID (w : World) (xs ys : List UInt8) (hx : xs.length = 20) (hy : ys.length = 20) :
    (binOp .neq 34 (.agg (bytesV xs).toArray) (.agg (bytesV ys).toArray)).run Try.prog w = .ok (.bool (!decide (xs = ys))) w :=
  (info_parts infoByte).elim fun _ hi => neq_bytes w 20 Try.underlying34 Try.underlying5 plainByte cellsByte hi.1 xs ys hx hy

/-- string(b), of a slice of bytes. -/
theorem conv_bytes (w : World) (v : Value) (base : Nat) (l : List UInt8) (h : SLb w base v l) : (convert 23 9 v).run Try.prog w = .ok (.string ⟨l.toArray⟩) w := by
  obtain ⟨A, cap, rfl, _, _, hb⟩ := SLb.bytes h
  cases A with
  | none =>
    have h0 := hb.nil_ rfl
    subst h0
    exact run_convert_bytes_nil w 23 5 Try.underlying23 Try.underlying5 _ _ 9 Try.underlying9
  | some ad =>
    exact run_convert_bytes_back w 23 9 5 ad cap l Try.underlying23 Try.underlying5 Try.underlying9 fun j hj => hb.row ad rfl j _ (by simp [bytesV, hj, byteV])
end Go.Proofs.Ytgdiajhegmdfgaa

/- depend.signs: the table of signs, as it lies. -/
import Derived.Test.YtlkmmejlnohjhaaDoorDepGen
import Derived.Test.YtlkmmejlnohjhaaDoorOrWalk
import Derived.Deep.RegionHeld3
import Derived.Deep.DeepCutAuto
namespace Go.Proofs.YtlkmmejlnohjhaaDoor
open Go.RowKit

/-- the signs of what is asked of versions, as they lie -/
def signS (k : Nat) : ByteArray := ⟨(VP.signP (k : Int)).toArray⟩
def EnvS (w : World) : Prop := ∀ k, k < 6 → w.cell? ⟨1, k, none⟩ = some (.string (signS k))
theorem EnvS.below {w w' : World} (h : EnvS w) (hb : Below w.heap.size w w') : EnvS w' := fun k hk => kept hb (h k hk)

theorem arrLen : Tryd.prog.arrayLen 136 = 6 := by kernel_rfl
theorem arrSize (W : World) : (sizeOf (Tryd.prog.elem 136)).run Tryd.prog W = .ok 1 W := by kernel_rfl
theorem signs_at (W : World) (k : Nat) (h6 : k < 6) : (Instr.indexAt 136 (.pointer (some ⟨1, 0, none⟩)) (.int .i64 (k : Int))).run Tryd.prog W = .ok (.pointer (some ⟨1, k, none⟩)) W := by
  have h := run_indexAt_array (P := Tryd.prog) (w := W) 136 ⟨1, 0, none⟩ .i64 (k : Int) (by kernel_rfl)
  rw [arrLen, if_pos ⟨by omega, by omega⟩, arrSize] at h
  refine h.trans ?_
  show Result.ok (Value.pointer (some ((⟨1, 0, none⟩ : Addr).add (((k : Nat) : Int).toNat * 1)))) W = _
  rw [Int.toNat_natCast, Nat.mul_one, Go.WideShapes.add_plain, Nat.zero_add]

theorem signS_size (k : Nat) : (signS k).size ≤ 2 := by
  rw [size_eq_length]
  show (VP.signP (k : Int)).length ≤ 2
  unfold VP.signP
  (repeat' split) <;> simp
end Go.Proofs.YtlkmmejlnohjhaaDoor

/- The reference's Right says what the program's does: the plain part. -/
import Derived.Test.YtlkmmejlnohjhaaDoorRefNum
namespace Go.Proofs.YtlkmmejlnohjhaaDoor
open Go.RowKit

/-- which letters besides the reference lets by -/
def moreP (e : Int) (r : List UInt8) : List UInt8 := ([46, 43, 126] ++ (if 0 < e then [58] else [])) ++ (if r = [] then [] else [45])

theorem fin_all {p q : UInt8 → Bool} (h : ∀ i : Fin 256, p (UInt8.ofNat i.val) = q (UInt8.ofNat i.val)) : p = q := by
  funext c
  have := h ⟨c.toNat, c.toNat_lt⟩
  simpa using this
theorem allP_base : allP [46, 43, 126] = VP.ok0 := fin_all (by decide +kernel)
theorem allP_11 : allP (([46, 43, 126] ++ [58]) ++ [45]) = fun c => VP.ok0 c || c == 45 || (true && c == 58) := fin_all (by decide +kernel)
theorem allP_01 : allP (([46, 43, 126] ++ []) ++ [45]) = fun c => VP.ok0 c || c == 45 || (false && c == 58) := fin_all (by decide +kernel)
theorem allP_10 : allP (([46, 43, 126] ++ [58]) ++ []) = fun c => (VP.ok0 c || c == 45 || (true && c == 58)) && !(c == 45) := fin_all (by decide +kernel)
theorem allP_00 : allP (([46, 43, 126] ++ []) ++ []) = fun c => (VP.ok0 c || c == 45 || (false && c == 58)) && !(c == 45) := fin_all (by decide +kernel)

theorem all_and_not (p : UInt8 → Bool) (l : List UInt8) : (l.all fun c => p c && !(c == 45)) = (l.all p && !l.contains 45) := by
  induction l with
  | nil => rfl
  | cons c l ih =>
    rw [List.all_cons, List.all_cons, List.contains_cons, ih]
    have : ((45 : UInt8) == c) = (c == 45) := by rw [Bool.eq_iff_iff, beq_iff_eq, beq_iff_eq]; exact eq_comm
    rw [this]
    cases p c <;> cases (c == 45) <;> cases l.all p <;> cases l.contains 45 <;> rfl

theorem moreP_all (e : Int) (u r : List UInt8) : u.all (allP (moreP e r)) = (u.all (VP.ok1 e) && (r != [] || !u.contains 45)) := by
  unfold moreP
  by_cases he : 0 < e
  · have h1 : VP.ok1 e = fun c => VP.ok0 c || c == 45 || (true && c == 58) := by funext c; unfold VP.ok1; rw [decide_eq_true he]
    rw [if_pos he, h1]
    by_cases hr : r = []
    · rw [if_pos hr, allP_10, all_and_not, hr]; rfl
    · rw [if_neg hr, allP_11]
      have : (r != []) = true := by simpa using hr
      rw [this, Bool.true_or, Bool.and_true]
  · have h1 : VP.ok1 e = fun c => VP.ok0 c || c == 45 || (false && c == 58) := by funext c; unfold VP.ok1; rw [decide_eq_false he]
    rw [if_neg he, h1]
    by_cases hr : r = []
    · rw [if_pos hr, allP_00, all_and_not, hr]; rfl
    · rw [if_neg hr, allP_01]
      have : (r != []) = true := by simpa using hr
      rw [this, Bool.true_or, Bool.and_true]

/-- THE REFERENCE's RIGHT, test by test. -/
theorem right_ref (e : Int) (u r : List UInt8) : VP.rightP e u r = (inB e 0 999999999 && VP.startsDig u && u.all (allP (moreP e r)) && r.all (allP [46, 43, 126]) && decide ((VP.printP e u r).length ≤ 40)) := by
  rw [moreP_all, allP_base]
  unfold VP.rightP inB
  have : decide (e < 1000000000) = decide (e ≤ 999999999) := decide_eq_decide.2 (by omega)
  rw [this]
  cases decide (0 ≤ e) <;> cases decide (e ≤ 999999999) <;> cases VP.startsDig u <;> cases u.all (VP.ok1 e) <;> cases r.all VP.ok0 <;> cases (r != [] || !u.contains 45) <;> cases decide ((VP.printP e u r).length ≤ 40) <;> rfl
end Go.Proofs.YtlkmmejlnohjhaaDoor

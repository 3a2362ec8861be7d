/- Numbers as texts: a text that Number takes is what Itoa writes: plain. -/
import Derived.Test.YtpbbhjifgaeklaaGreatDoorSTK1
import Derived.Test.YtpbbhjifgaeklaaGreatDoorSTK10
import Derived.Lib.AtoiTie
import Derived.Lib.ItoaMem
namespace Go.Proofs.YtpbbhjifgaeklaaGreatDoor.VP

theorem dig_range {c : UInt8} (h : dig c = true) : 48 ≤ c.toNat ∧ c.toNat ≤ 57 := by
  unfold dig at h
  simp only [Bool.and_eq_true, decide_eq_true_eq] at h
  exact h
theorem decFrom_val (l : List UInt8) (h : l.all dig = true) (acc : Nat) : Go.Lib.decFrom acc l = some (l.foldl (fun n c => n * 10 + (c.toNat - 48)) acc) := by
  induction l generalizing acc with
  | nil => rfl
  | cons a l ih =>
    rw [List.all_cons, Bool.and_eq_true] at h
    have hr := dig_range h.1
    unfold Go.Lib.decFrom Go.Lib.digitVal
    rw [if_pos hr, List.foldl_cons]
    exact ih h.2 _
theorem atoi_dec (n : Nat) (hn : n < 10 ^ 9) : Go.Lib.atoiAll (Go.Lib.decDigits n) = .ok (n : Int) := by
  obtain ⟨h1, h2, h3, _⟩ := val_decDigits n
  have hl := Go.Lib.decDigits_length n
  have hk := nDigits_le 8 n hn
  rw [Go.Lib.atoiAll_short _ (by omega)]
  have : Go.Lib.atoi (Go.Lib.decDigits n) = some (n : Int) := by
    cases hd : Go.Lib.decDigits n with
    | nil => exact absurd hd h3
    | cons a l =>
      rw [hd] at h1 h2
      have hr := dig_range (c := a) (by rw [List.all_cons, Bool.and_eq_true] at h2; exact h2.1)
      have n45 : (a == 45) = false := by
        rw [beq_eq_false_iff_ne]; intro e; rw [e] at hr; exact absurd hr.1 (by decide)
      have n43 : (a == 43) = false := by
        rw [beq_eq_false_iff_ne]; intro e; rw [e] at hr; exact absurd hr.1 (by decide)
      show (if (a == 45) = true then (Go.Lib.decNat l).map (fun (m : Nat) => -(m : Int)) else if (a == 43) = true then (Go.Lib.decNat l).map (fun (m : Nat) => (m : Int)) else (Go.Lib.decNat (a :: l)).map (fun (m : Nat) => (m : Int))) = some (n : Int)
      rw [n45, n43]
      unfold Go.Lib.decNat
      rw [if_neg (by simp), if_neg (by simp), if_neg (by simp), decFrom_val _ h2, show (a :: l).foldl (fun n c => n * 10 + (c.toNat - 48)) 0 = n from h1]
      rfl
  rw [this]
  rfl
theorem itoa_dec (n : Nat) : Go.Lib.itoa (n : Int) = Go.Lib.decDigits n := Go.Lib.itoa_nonneg n
end Go.Proofs.YtpbbhjifgaeklaaGreatDoor.VP

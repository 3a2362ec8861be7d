/- The paths sorted: plain, and slices.Sort at a row of the call's own. -/
import Derived.Test.YtofogjfemlhffaaGreatDoorSPK18
import Derived.Test.YtofogjfemlhffaaGreatDoorSPK10
import Derived.Sort.OwnSorted
namespace Go.Proofs.YtofogjfemlhffaaGreatDoor
open Go Go.RowKit Go.Maps

def sortB (ps : List ByteArray) : List ByteArray := ((ps.map fun s => s.data.toList).mergeSort fun x y => decide (x ≤ y)).map fun l => ⟨l.toArray⟩
theorem sortB_perm (ps : List ByteArray) : (sortB ps).Perm ps := by
  have h := (List.mergeSort_perm (ps.map fun s => s.data.toList) fun x y => decide (x ≤ y)).map fun l => (⟨l.toArray⟩ : ByteArray)
  rw [List.map_map] at h
  have e : ps.map ((fun l => (⟨l.toArray⟩ : ByteArray)) ∘ fun s => s.data.toList) = ps := by
    conv => rhs; rw [← List.map_id ps]
    exact List.map_congr_left fun s _ => by cases s; simp
  rw [e] at h
  exact h
theorem sortB_len (ps : List ByteArray) : (sortB ps).length = ps.length := (sortB_perm ps).length_eq
theorem perm_sum {l L : List Nat} (h : l.Perm L) : l.sum = L.sum := by
  induction h with
  | nil => rfl
  | cons x _ ih => simp [ih]
  | swap x y l => simp; omega
  | trans _ _ a b => exact a.trans b
theorem joinP_sum : ∀ l : List (List UInt8), (VP.joinP [10] l).length + (if l = [] then 0 else 1) = (l.map fun s => s.length + 1).sum
  | [] => rfl
  | [x] => by simp [VP.joinP]
  | x :: y :: r => by
    have := joinP_sum (y :: r)
    rw [show VP.joinP [10] (x :: y :: r) = x ++ ([10] ++ VP.joinP [10] (y :: r)) from rfl, List.length_append, List.length_append]
    simp at this ⊢
    omega
def sumB (l : List ByteArray) : Nat := (l.map fun s => s.size + 1).sum
theorem lines_sum (l : List ByteArray) : (linesT l).size + (if l = [] then 0 else 1) = sumB l := by
  have := joinP_sum (l.map (·.data.toList))
  rw [size_eq_length]
  unfold sumB
  have e : (l.map (·.data.toList)).map (fun s => s.length + 1) = l.map fun s => s.size + 1 := by
    rw [List.map_map]
    exact List.map_congr_left fun s _ => by rw [size_eq_length]; rfl
  rw [e] at this
  rw [← this]
  show (VP.joinP [10] (l.map (·.data.toList))).length + _ = _
  cases l <;> simp
theorem lines_sort (l : List ByteArray) : (linesT (sortB l)).size = (linesT l).size := by
  have h := sortB_perm l
  have h1 := lines_sum l
  have h2 := lines_sum (sortB l)
  have h3 : sumB (sortB l) = sumB l := perm_sum (h.map _)
  have h4 : sortB l = [] ↔ l = [] := ⟨fun e => by rw [e] at h; exact h.nil_eq.symm, fun e => by rw [e] at h; rw [e]; exact h.eq_nil⟩
  by_cases hl : l = []
  · rw [if_pos hl] at h1
    rw [if_pos (h4.2 hl)] at h2
    omega
  · rw [if_neg hl] at h1
    rw [if_neg fun e => hl (h4.1 e)] at h2
    omega
theorem lines_app (a b : List ByteArray) : (linesT (a ++ b)).size ≤ (linesT a).size + (linesT b).size + 2 := by
  have h1 := lines_sum a
  have h2 := lines_sum b
  have h3 := lines_sum (a ++ b)
  have h4 : sumB (a ++ b) = sumB a + sumB b := by unfold sumB; rw [List.map_append, List.sum_append]
  split at h1 <;> split at h2 <;> omega

theorem sort_row (d B : Nat) (v : Value) (L : List ByteArray) (w : World) (h : RowD d B w v L) (hl : L.length ≤ 2000000) :
    Calls Tryz.prog 67 #[v] w fun E W => E = .returned (.tuple #[]) ∧ StrsAt W v (sortB L) ∧ w.grownBy W v.ownBlock := by
  rcases h.1.2 with ⟨rfl, he⟩ | ⟨g, cap, cur, rfl, hB, hb, h1, h2, h3, h4⟩
  · have hL : L = [] := by
      exact List.eq_nil_of_length_eq_zero he
    subst hL
    refine (Tryz.slices_Sort_string_none none 0 w).mono ?_
    rintro E W ⟨he, hw⟩
    subst hw
    exact ⟨he, by rw [show sortB [] = [] from (sortB_perm []).eq_nil]; exact SlC.nil _ _ _, rfl, rfl, rfl, Nat.le_refl _, fun _ _ _ => rfl⟩
  · have e1 : (L.map fun s => s.data.toList).map encStr = L.flatMap strC := by
      rw [flat_strs, List.map_map]
      exact List.map_congr_left fun s _ => by cases s; simp [encStr]
    have hlen : (L.map fun s => s.data.toList).length = L.length := List.length_map _
    have hH := holds_of_block (ss := L.map fun s => s.data.toList) hb (by rw [e1, hlen]; simpa using h4)
    refine ((hlen ▸ Tryz.slices_Sort_string g 0 cap (L.map fun s : ByteArray => s.data.toList) w hH (Array.getElem?_eq_some_iff.1 hb).1 (by rw [hlen]; omega))).mono ?_
    rintro E W ⟨he, n, os, hw⟩
    subst hw
    have ho := ownsRow_sorted (w := w) (n := n) (os := os) (ss := L.map fun s => s.data.toList) (ts := (L.map fun s => s.data.toList).mergeSort fun x y => decide (x ≤ y)) (List.length_mergeSort _) hB hb (by rw [hlen]; exact h1) h2 h3
    have e2 : ((L.map fun s => s.data.toList).mergeSort fun x y => decide (x ≤ y)).map encStr = (sortB L).flatMap strC := by
      rw [flat_strs]
      unfold sortB
      rw [List.map_map]
      exact List.map_congr_left fun s _ => rfl
    rw [e2, hlen, ← sortB_len L] at ho
    refine ⟨he, ?_, grownBy_sorted _⟩
    have := (row_strsUp ho (by rw [sortB_len]; omega)).1
    rwa [sortB_len] at this
end Go.Proofs.YtofogjfemlhffaaGreatDoor

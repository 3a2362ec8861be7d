/- One setting, put again and again: what lies there. Plain. -/
import Derived.Test.YtofogjfemlhffaaGreatDoorSPK21
namespace Go.Proofs.YtofogjfemlhffaaGreatDoor
open Go Go.RowKit Go.Maps

/-! paths as lines -/
theorem lines_back {l : List ByteArray} (hne : l ≠ []) (h : ∀ x ∈ l, x.size ≠ 0 ∧ (10 : UInt8) ∉ x.data.toList) : pathsT (linesT l) = l := by
  have hp := VP.pieces_join 10 [] [] (by simp) (by simp) [] (l.map (·.data.toList)) (by simpa using hne) (by simp) (fun x hx => by
    obtain ⟨y, hy, rfl⟩ := List.mem_map.1 hx
    exact (h y hy).2)
  have hpad : ∀ xs : List (List UInt8), VP.padP [] [] [] xs = xs := by
    intro xs
    induction xs with
    | nil => rfl
    | cons x r ih =>
      cases r with
      | nil => simp [VP.padP]
      | cons y r => simp only [VP.padP, List.nil_append, List.append_nil]; rw [ih]
  rw [hpad] at hp
  have h0 : (linesT l).size ≠ 0 := by
    cases l with
    | nil => exact absurd rfl hne
    | cons x r =>
      have hx := (h x (List.mem_cons_self ..)).1
      rw [size_eq_length] at hx ⊢
      show (VP.joinP [10] ((x :: r).map (·.data.toList))).length ≠ 0
      cases r with
      | nil => exact hx
      | cons y r =>
        rw [List.map_cons, List.map_cons, VP.joinP, List.length_append]
        omega
  unfold pathsT
  rw [if_neg h0]
  unfold piecesB
  have e : (linesT l).data.toList = VP.joinP [10] (l.map (·.data.toList)) := rfl
  have e2 : ([] ++ VP.joinP ([] ++ 10 :: []) (l.map (·.data.toList))) = VP.joinP [10] (l.map (·.data.toList)) := rfl
  rw [e2] at hp
  rw [e, hp, List.map_map]
  conv => rhs; rw [← List.map_id l]
  exact List.map_congr_left fun x _ => Lib.mk_data x
theorem path_no {p : ByteArray} (h : VP.pathP p.data.toList = true) : p.size ≠ 0 ∧ p.size ≤ 60 ∧ (10 : UInt8) ∉ p.data.toList := by
  unfold VP.pathP at h
  simp only [Bool.and_eq_true, decide_eq_true_eq, List.all_eq_true] at h
  obtain ⟨⟨⟨⟨h1, _⟩, h2⟩, h3⟩, _⟩ := h
  rw [size_eq_length]
  refine ⟨by omega, h3, fun h10 => ?_⟩
  have := (h1 10 h10).1
  exact absurd this (by decide)

theorem own1M_same (pn : ByteArray) (ps : List ByteArray) (M : Fm) : ∀ l : List ByteArray, (∀ n ∈ l, n = pn ∨ (leftM M ps n).length = (pathsM M n).length) → own1M pn ps l M = M
  | [], _ => rfl
  | n :: r, h => by
    rw [own1M, if_pos (h n (List.mem_cons_self ..))]
    exact own1M_same pn ps M r fun m hm => h m (List.mem_cons_of_mem _ hm)
end Go.Proofs.YtofogjfemlhffaaGreatDoor

/- The shelf's Drop. -/
import Derived.Test.YtpbbhjifgaeklaaGreatDoorSSK18
namespace Go.Proofs.YtpbbhjifgaeklaaGreatDoor
open Go Go.RowKit Go.Maps

theorem dropL_cons {α : Type} {l : List α} {k : Nat} {x : α} (h : l[k]? = some x) : l.drop k = x :: l.drop (k + 1) := by
  obtain ⟨hlt, e⟩ := List.getElem?_eq_some_iff.1 h
  rw [List.drop_eq_getElem_cons hlt, e]
/-- what is left of some lines is no longer than they were -/
theorem lines_sub {l L : List ByteArray} (h : l.Sublist L) : (linesT l).size ≤ (linesT L).size := by
  have key : ∀ {a b : List (List UInt8)}, a.Sublist b → (VP.joinP [10] a).length ≤ (VP.joinP [10] b).length := by
    intro a b hs
    induction hs with
    | slnil => exact Nat.le_refl _
    | cons x hs ih =>
      rename_i a b
      cases b with
      | nil =>
        cases hs
        simp [VP.joinP]
      | cons y r =>
        rw [show VP.joinP [10] (x :: y :: r) = x ++ ([10] ++ VP.joinP [10] (y :: r)) from rfl, List.length_append, List.length_append]
        omega
    | cons_cons x hs ih =>
      rename_i a b
      cases a with
      | nil =>
        cases b with
        | nil => exact Nat.le_refl _
        | cons y r =>
          rw [show VP.joinP [10] (x :: y :: r) = x ++ ([10] ++ VP.joinP [10] (y :: r)) from rfl, List.length_append, List.length_append]
          show x.length ≤ _
          omega
      | cons z s =>
        cases b with
        | nil => cases hs
        | cons y r =>
          rw [show VP.joinP [10] (x :: y :: r) = x ++ ([10] ++ VP.joinP [10] (y :: r)) from rfl, show VP.joinP [10] (x :: z :: s) = x ++ ([10] ++ VP.joinP [10] (z :: s)) from rfl, List.length_append, List.length_append, List.length_append, List.length_append]
          omega
  rw [size_eq_length, size_eq_length]
  exact key (h.map _)
theorem join_pieces_of (c : UInt8) : ∀ l : List UInt8, VP.joinP [c] (VP.pieces c l) = l
  | [] => rfl
  | x :: l => by
    have ih := join_pieces_of c l
    rw [VP.pieces]
    split
    · rename_i hx
      cases hp : VP.pieces c l with
      | nil => exact absurd hp (VP.pieces_ne c l)
      | cons y r =>
        rw [hp] at ih
        rw [VP.joinP, ih, hx]
        rfl
    · cases hp : VP.pieces c l with
      | nil => exact absurd hp (VP.pieces_ne c l)
      | cons y r =>
        rw [hp] at ih
        simp only
        cases r with
        | nil =>
          show x :: y = x :: l
          rw [show y = l from ih]
        | cons z s =>
          show x :: (y ++ ([c] ++ VP.joinP [c] (z :: s))) = x :: l
          rw [show y ++ ([c] ++ VP.joinP [c] (z :: s)) = l from ih]
theorem lines_pieces (t : ByteArray) : linesT (piecesB 10 t) = t := by
  unfold linesT piecesB
  rw [List.map_map, show ((fun x : ByteArray => x.data.toList) ∘ fun l : List UInt8 => (⟨l.toArray⟩ : ByteArray)) = id from rfl, List.map_id, join_pieces_of]
  (try exact Lib.mk_data t)
theorem lines_paths {X : Nat} {D : Dk} (hf : FitD X D) (n : ByteArray) : (linesT (pathsD D n)).size ≤ X := by
  unfold pathsD
  cases hg : getF D.now (owP ++ n) with
  | none => exact Nat.zero_le _
  | some t =>
    show (linesT (pathsT t)).size ≤ X
    unfold pathsT
    split
    · exact Nat.zero_le _
    · rw [lines_pieces]
      exact (hf _ _ hg).2

theorem RowD.slice {d B : Nat} {W : World} {v : Value} {L : List ByteArray} (h : RowD d B W v L) : ∃ A n c, v = .slice A n c := by
  rcases h.1.2 with ⟨rfl, _⟩ | ⟨g, cap, cur, rfl, _⟩
  · exact ⟨_, _, _, rfl⟩
  · exact ⟨_, _, _, rfl⟩
theorem RowOf.blk {B : Nat} {W : World} {v : Value} {L : List ByteArray} (h : RowOf B W v L) {k : Nat} {x : ByteArray} (hx : L[k]? = some x) : ∃ g, v = .slice (some ⟨g, 0, none⟩) L.length L.length ∧ B ≤ g ∧ Blk 9 W g (L.map Value.string).toArray := by
  rcases h with ⟨rfl, _⟩ | h
  · cases hx
  · exact h
/-- the paths' row stays: the addresses, and what lies there -/
def RowQ (d n m : Nat) (A : Option Addr) (L : List ByteArray) (W : World) : Prop := ∀ (k : Nat) (x : ByteArray), L[k]? = some x → ∃ g, A = some ⟨g, 0, none⟩ ∧ Blk 9 W g (L.map Value.string).toArray ∧ ¬ foot W d g ∧ n ≤ g ∧ g < m
theorem RowQ.off {d n m : Nat} {A : Option Addr} {L : List ByteArray} {W W' : World} (h : RowQ d n m A L W) (ho : Off d W W') : RowQ d n m A L W' := fun k x hx => by
  obtain ⟨g, hA, hb, hf, h1, h2⟩ := h k x hx
  exact ⟨g, hA, hb.off ho hf, not_foot ho hb.lt hf, h1, h2⟩
theorem RowQ.grown {d n m : Nat} {A : Option Addr} {L : List ByteArray} {W W' : World} {r : Option Nat} (h : RowQ d n m A L W) (hg : W.grownBy W' r) (hd : d < W.heap.size) (hr : ∀ g, r = some g → m ≤ g ∧ ¬ foot W d g) : RowQ d n m A L W' := fun k x hx => by
  obtain ⟨g, hA, hb, hf, h1, h2⟩ := h k x hx
  refine ⟨g, hA, hb.grown hg fun e => ?_, fun hf' => hf ((foot_grown hg hd fun g e => (hr g e).2).1 hf'), h1, h2⟩
  have := (hr g e).1
  omega
end Go.Proofs.YtpbbhjifgaeklaaGreatDoor

/- What a field says, line by line; how long what is written is: plain. -/
import Derived.Test.YtodbbfgkclkpgaaGreatDoorRT33
namespace Go.Proofs.YtodbbfgkclkpgaaGreatDoor.VP
theorem allAt_succ (n : Nat) (p : Nat → Bool) : allAt (n + 1) p = (p 0 && allAt n fun i => p (i + 1)) := by
  unfold allAt
  rw [List.range_succ_eq_map, List.all_cons, List.all_map]
  rfl
def getOk {α : Type} (q : α → Bool) (l : List α) (j : Nat) : Bool :=
  match l[j]? with
  | none => true
  | some x => q x
theorem allAt_list {α : Type} (q : α → Bool) (l : List α) : allAt l.length (getOk q l) = l.all q := by
  induction l with
  | nil => rfl
  | cons a l ih =>
    rw [List.length_cons, allAt_succ, List.all_cons, ← ih]
    rfl
theorem pieces_count (c : UInt8) (l : List UInt8) : ((pieces c l).flatMap id).length + (pieces c l).length = l.length + 1 := by
  induction l with
  | nil => rfl
  | cons x l ih =>
    rw [pieces]
    by_cases hx : x = c
    · rw [if_pos hx, List.flatMap_cons, List.length_append, List.length_cons, List.length_cons]
      simp only [id, List.length_nil]
      omega
    · rw [if_neg hx]
      cases hp : pieces c l with
      | nil => exact absurd hp (pieces_ne c l)
      | cons p ps =>
        rw [hp] at ih
        simp only [List.flatMap_cons, List.length_append, List.length_cons, id] at ih ⊢
        omega
theorem restL_len (s : List UInt8) : (restL s).length ≤ s.length + 3 := by
  unfold restL
  split <;> simp
theorem linesL_len (ps : List (List UInt8)) : (linesL ps).length ≤ (ps.flatMap id).length + 3 * ps.length := by
  cases ps with
  | nil => simp [linesL]
  | cons a r =>
    have h1 : (firstL2 a).length ≤ a.length + 2 := by unfold firstL2; split <;> simp
    have h2 : ∀ r : List (List UInt8), (r.flatMap restL).length ≤ (r.flatMap id).length + 3 * r.length := by
      intro r
      induction r with
      | nil => simp
      | cons b r ih =>
        have := restL_len b
        simp only [List.flatMap_cons, List.length_append, List.length_cons, id]
        omega
    have h3 := h2 r
    simp only [linesL, List.flatMap_cons, List.length_append, List.length_cons, id]
    omega
theorem fieldL_len (f : Fd) : (fieldL f).length ≤ f.n.length + 4 * (f.v.length + 1) := by
  have h1 := linesL_len (pieces 10 f.v)
  have h2 := pieces_count 10 f.v
  unfold fieldL
  simp only [List.length_append, List.length_cons]
  omega
theorem textL_len (B : Nat) : ∀ l : List Fd, (∀ f ∈ l, f.n.length ≤ B ∧ f.v.length ≤ B) → (textL l).length ≤ l.length * (5 * B + 4)
  | [], _ => by simp [textL]
  | f :: l, h => by
    have ih := textL_len B l (fun g hg => h g (.tail _ hg))
    have h1 := fieldL_len f
    obtain ⟨h2, h3⟩ := h f (.head _)
    have e : textL (f :: l) = fieldL f ++ textL l := by unfold textL; rw [List.flatMap_cons]
    rw [e, List.length_append, List.length_cons, Nat.succ_mul]
    omega
end Go.Proofs.YtodbbfgkclkpgaaGreatDoor.VP
namespace Go.Proofs.YtodbbfgkclkpgaaGreatDoor
open Go Go.RowKit

def lineOk (ls : List ByteArray) (j : Nat) : Bool :=
  match ls[j]? with
  | none => true
  | some s => VP.flineP s.data.toList && (decide (j = 0) || !decide (s.size = 0))
theorem size_zero_iff (s : ByteArray) : decide (s.size = 0) = s.data.toList.isEmpty := by
  rw [size_eq_length]
  cases s.data.toList <;> simp
theorem valueP_eq (v : ByteArray) : VP.valueP v.data.toList = VP.allAt (piecesB 10 v).length (lineOk (piecesB 10 v)) := by
  unfold VP.valueP piecesB
  cases hp : VP.pieces 10 v.data.toList with
  | nil => exact absurd hp (VP.pieces_ne _ _)
  | cons a r =>
    rw [List.map_cons, List.length_cons, VP.allAt_succ]
    have e0 : lineOk (⟨a.toArray⟩ :: r.map fun l => ⟨l.toArray⟩) 0 = VP.flineP a := by
      show (VP.flineP a && (true || _)) = _
      rw [Bool.true_or, Bool.and_true]
    have e1 : (VP.allAt (r.map fun l => (⟨l.toArray⟩ : ByteArray)).length fun i => lineOk (⟨a.toArray⟩ :: r.map fun l => ⟨l.toArray⟩) (i + 1)) = r.all fun s => VP.flineP s && !s.isEmpty := by
      have h := VP.allAt_list (fun s : ByteArray => VP.flineP s.data.toList && !decide (s.size = 0)) (r.map fun l => (⟨l.toArray⟩ : ByteArray))
      have h' : (VP.allAt (r.map fun l => (⟨l.toArray⟩ : ByteArray)).length fun i => lineOk (⟨a.toArray⟩ :: r.map fun l => ⟨l.toArray⟩) (i + 1)) = VP.allAt (r.map fun l => (⟨l.toArray⟩ : ByteArray)).length (VP.getOk (fun s : ByteArray => VP.flineP s.data.toList && !decide (s.size = 0)) (r.map fun l => (⟨l.toArray⟩ : ByteArray))) := by
        congr 1
        funext j
        unfold lineOk VP.getOk
        rw [List.getElem?_cons_succ]
        cases (r.map fun l => (⟨l.toArray⟩ : ByteArray))[j]? with
        | none => rfl
        | some x =>
          show (_ && (decide (j + 1 = 0) || _)) = _
          rw [decide_eq_false (by omega : ¬ j + 1 = 0), Bool.false_or]
      refine (h'.trans h).trans ?_
      rw [List.all_map]
      congr 1
      funext s
      show (VP.flineP s && !decide ((⟨s.toArray⟩ : ByteArray).size = 0)) = _
      rw [size_zero_iff]
    rw [e0, e1]

theorem lineOk_at {ls : List ByteArray} {j : Nat} {s : ByteArray} (h : ls[j]? = some s) : lineOk ls j = (VP.flineP s.data.toList && (decide (j = 0) || !decide (s.size = 0))) := by
  unfold lineOk
  rw [h]

/-- the fields so far are well -/
def FieldsTo (fs : List Fv) (k : Nat) : Prop := ∀ i, i < k → VP.fieldOk (fs.map Fv.fd) i = true
theorem any_named (fs : List Fv) (k : Nat) (n : ByteArray) : (((fs.map Fv.fd).take k).any fun g => decide (VP.smallP g.n = VP.smallP n.data.toList)) = (fs.take k).any (fun g => sameN g.n n) := by
  rw [← List.map_take, List.any_map]
  rfl
theorem fieldOk_at {fs : List Fv} {k : Nat} {f : Fv} (h : fs[k]? = some f) : VP.fieldOk (fs.map Fv.fd) k = (VP.fnameP f.n.data.toList && !((fs.take k).any fun g => sameN g.n f.n) && VP.valueP f.v.data.toList) := by
  unfold VP.fieldOk
  rw [List.getElem?_map, h, ← any_named]
  rfl
def stanzaB (fs : List Fv) : Bool := VP.stanzaP (fs.map Fv.fd)
theorem stanzaB_false {fs : List Fv} {k : Nat} {f : Fv} (h : fs[k]? = some f) (hb : (VP.fnameP f.n.data.toList && !((fs.take k).any fun g => sameN g.n f.n) && VP.valueP f.v.data.toList) = false) : stanzaB fs = false := by
  unfold stanzaB VP.stanzaP
  rw [VP.allAt_false (i := k) (by rw [List.length_map]; exact (List.getElem?_eq_some_iff.1 h).1) ((fieldOk_at h).trans hb)]
  simp
theorem FieldsTo.succ {fs : List Fv} {k : Nat} {f : Fv} (h : FieldsTo fs k) (hf : fs[k]? = some f) (hb : (VP.fnameP f.n.data.toList && !((fs.take k).any fun g => sameN g.n f.n) && VP.valueP f.v.data.toList) = true) : FieldsTo fs (k + 1) := fun i hi => by
  rcases Nat.lt_or_ge i k with h' | h'
  · exact h i h'
  · obtain rfl : i = k := by omega
    exact (fieldOk_at hf).trans hb
theorem FieldsTo.done {fs : List Fv} (h : FieldsTo fs fs.length) (h1 : 1 ≤ fs.length) (h40 : fs.length ≤ 40) : stanzaB fs = decide ((VP.textL (fs.map Fv.fd)).length ≤ 4000) := by
  unfold stanzaB VP.stanzaP
  rw [VP.allAt_true (by rw [List.length_map]; exact h), List.length_map, decide_eq_true h1, decide_eq_true h40]
  rfl
theorem FieldsTo.full {fs : List Fv} (h : FieldsTo fs fs.length) : RestFull fs := by
  intro f hf a r hp t ht
  obtain ⟨i, hi⟩ := List.getElem?_of_mem hf
  have h1 := h i (List.getElem?_eq_some_iff.1 hi).1
  rw [fieldOk_at hi, Bool.and_eq_true] at h1
  have h2 := h1.2
  unfold VP.valueP at h2
  rw [hp] at h2
  simp only [Bool.and_eq_true, List.all_eq_true] at h2
  have h3 := (h2.2 t ht).2
  intro e
  rw [e] at h3
  cases h3
theorem text_bound {fs : List Fv} (hs : ∀ f ∈ fs, f.n.size ≤ 1000000 ∧ f.v.size ≤ 1000000) (h40 : fs.length ≤ 1000) : (VP.textL (fs.map Fv.fd)).length ≤ 100000000000 := by
  have h := VP.textL_len 1000000 (fs.map Fv.fd) (fun f hf => by
    obtain ⟨g, hg, rfl⟩ := List.mem_map.1 hf
    have := hs g hg
    rw [size_eq_length, size_eq_length] at this
    exact this)
  rw [List.length_map] at h
  have : fs.length * (5 * 1000000 + 4) ≤ 1000 * (5 * 1000000 + 4) := Nat.mul_le_mul_right _ h40
  omega
end Go.Proofs.YtodbbfgkclkpgaaGreatDoor

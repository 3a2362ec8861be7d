/- What stands behind a tilde, behind a plus, and noughts ahead of numbers: plain lists of bytes. -/
import Derived.Test.YtlkmmejlnohjhaaDoorVersPlain
namespace Go.Proofs.YtlkmmejlnohjhaaDoor.VP

theorem takeWhile_mid {p : UInt8 → Bool} {c : UInt8} (h : p c = false) (u t : List UInt8) : (u ++ c :: t).takeWhile p = u.takeWhile p := by
  induction u with
  | nil => simp [h]
  | cons d u ih =>
    rw [List.cons_append, List.takeWhile_cons, List.takeWhile_cons, ih]
theorem dropWhile_mid {p : UInt8 → Bool} {c : UInt8} (h : p c = false) (u t : List UInt8) : (u ++ c :: t).dropWhile p = u.dropWhile p ++ c :: t := by
  induction u with
  | nil => simp [h]
  | cons d u ih =>
    rw [List.cons_append, List.dropWhile_cons, List.dropWhile_cons, ih]
    split <;> rfl

/-- what begins with no digit stands behind as it stands alone -/
theorem key_append (n : Nat) : ∀ u : List UInt8, u.length ≤ n → ∀ (c : UInt8) (t : List UInt8), dig c = false → key (u ++ c :: t) = key u ++ (wtc c :: key t) := by
  induction n with
  | zero =>
    intro u hu c t hc
    have := List.eq_nil_of_length_eq_zero (Nat.le_zero.1 hu)
    subst this
    rw [List.nil_append, key_nil, List.nil_append, key_nd c t hc]
  | succ n ih =>
    intro u hu c t hc
    cases u with
    | nil => rw [List.nil_append, key_nil, List.nil_append, key_nd c t hc]
    | cons d u =>
      simp only [List.length_cons] at hu
      cases hd : dig d with
      | false => rw [List.cons_append, key_nd d _ hd, key_nd d _ hd, ih u (by omega) c t hc, List.cons_append]
      | true =>
        rw [List.cons_append, key_dig d _ hd, key_dig d _ hd, ← List.cons_append]
        have hl : ((d :: u).dropWhile dig).length ≤ n := by
          rw [List.dropWhile_cons, if_pos hd]
          have := dropWhile_le dig u
          omega
        unfold keyN bareN
        rw [takeWhile_mid hc, dropWhile_mid hc, ih _ hl c t hc]
        simp

theorem cmpL_prefix (k a b : List Int) : cmpL (k ++ a) (k ++ b) = cmpL a b := by
  induction k with
  | nil => rfl
  | cons x k ih => rw [List.cons_append, List.cons_append, cmpL_cons, cmpI_self, orc_zero, ih]

theorem part_tilde (u m : List UInt8) : partC (u ++ 126 :: m) u = -1 := by
  unfold partC
  rw [key_append u.length u (Nat.le_refl _) 126 m (by decide)]
  have := cmpL_prefix (key u) (wtc 126 :: key m) []
  rw [List.append_nil] at this
  rw [this, cmpL_step]
  rfl
theorem part_plus (u m : List UInt8) : partC (u ++ 43 :: m) u = 1 := by
  unfold partC
  rw [key_append u.length u (Nat.le_refl _) 43 m (by decide)]
  have := cmpL_prefix (key u) (wtc 43 :: key m) []
  rw [List.append_nil] at this
  rw [this, cmpL_step]
  rfl
theorem part_tilde_plus (u m : List UInt8) : partC (u ++ 126 :: m) (u ++ 43 :: m) = -1 := by
  unfold partC
  rw [key_append u.length u (Nat.le_refl _) 126 m (by decide), key_append u.length u (Nat.le_refl _) 43 m (by decide), cmpL_prefix, cmpL_step]
  rfl

theorem cmpV_up (e : Int) (u v r : List UInt8) (n : Int) (h : partC u v = n) (hn : n ≠ 0) : cmpV e u r e v r = n := by
  unfold cmpV
  rw [cmpI_self, orc_zero, h, orc_ne _ hn]

theorem takeWhile_all {p : UInt8 → Bool} {l : List UInt8} (h : l.all p = true) : l.takeWhile p = l := by
  induction l with
  | nil => rfl
  | cons c l ih =>
    rw [List.all_cons, Bool.and_eq_true] at h
    rw [List.takeWhile_cons, if_pos h.1, ih h.2]
theorem dropWhile_all {p : UInt8 → Bool} {l : List UInt8} (h : l.all p = true) : l.dropWhile p = [] := by
  induction l with
  | nil => rfl
  | cons c l ih =>
    rw [List.all_cons, Bool.and_eq_true] at h
    rw [List.dropWhile_cons, if_pos h.1, ih h.2]
theorem dropWhile_rep (z : Nat) (l : List UInt8) : (List.replicate z 48 ++ l).dropWhile (· == 48) = l.dropWhile (· == 48) := by
  induction z with
  | zero => rfl
  | succ z ih =>
    rw [List.replicate_succ, List.cons_append, List.dropWhile_cons, if_pos (by rfl), ih]
theorem rep_dig (z : Nat) : (List.replicate z (48 : UInt8)).all dig = true := by
  rw [List.all_eq_true]
  intro c hc
  rw [(List.mem_replicate.1 hc).2]
  decide

/-- noughts ahead of numbers make no difference -/
theorem key_noughts (z : Nat) (c : UInt8) (l : List UInt8) (h : (c :: l).all dig = true) : key (List.replicate z 48 ++ c :: l) = key (c :: l) := by
  have hall : (List.replicate z 48 ++ c :: l).all dig = true := by rw [List.all_append, rep_dig, h]; rfl
  have hc : dig c = true := by rw [List.all_cons, Bool.and_eq_true] at h; exact h.1
  have e : key (List.replicate z 48 ++ c :: l) = keyN (List.replicate z 48 ++ c :: l) := by
    cases z with
    | zero => exact key_dig c l hc
    | succ z => rw [List.replicate_succ, List.cons_append]; exact key_dig 48 _ (by decide)
  rw [e, key_dig c l hc]
  unfold keyN bareN
  rw [takeWhile_all hall, takeWhile_all h, dropWhile_all hall, dropWhile_all h, dropWhile_rep]

theorem part_noughts (z : Nat) (c : UInt8) (l : List UInt8) (h : (c :: l).all dig = true) : partC ([49, 46] ++ (List.replicate z 48 ++ c :: l)) ([49, 46] ++ c :: l) = 0 := by
  have e : key ([49, 46] ++ (List.replicate z 48 ++ c :: l)) = key ([49, 46] ++ c :: l) := by
    have h1 : ∀ m : List UInt8, key ([49, 46] ++ m) = key [49] ++ (wtc 46 :: key m) := fun m => key_append 1 [49] (by decide) 46 m (by decide)
    rw [h1, h1, key_noughts z c l h]
  unfold partC
  rw [e]
  exact row_cmpL.self _
end Go.Proofs.YtlkmmejlnohjhaaDoor.VP

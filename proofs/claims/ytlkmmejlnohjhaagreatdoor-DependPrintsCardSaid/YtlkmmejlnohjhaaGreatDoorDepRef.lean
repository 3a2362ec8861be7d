/- The reference reads what is asked for in another way, and comes to the same: plain lists of bytes; no program in sight. -/
import Derived.Test.YtlkmmejlnohjhaaGreatDoorDepBack
namespace Go.Proofs.YtlkmmejlnohjhaaGreatDoor.VP

/-- a name's bytes, as the reference reads on: no blank, no bracket -/
def nmw (c : UInt8) : Bool := !gap c && !(c == 40)

def refTermP (l : List UInt8) : Option Tm :=
  if nameP ((trimP l).takeWhile nmw) then
    (if trimP ((trimP l).dropWhile nmw) = [] then some ⟨(trimP l).takeWhile nmw, 0, 0, [], []⟩
     else if (trimP ((trimP l).dropWhile nmw)).head? = some 40 ∧ (trimP ((trimP l).dropWhile nmw)).getLast? = some 41 then innerP ((trimP l).takeWhile nmw) (trimP (trimP ((trimP l).dropWhile nmw)).tail.dropLast)
     else none)
  else none

theorem takeWhile_id {p : UInt8 → Bool} {l : List UInt8} (h : l.all p = true) : l.takeWhile p = l ∧ l.dropWhile p = [] := by
  induction l with
  | nil => exact ⟨rfl, rfl⟩
  | cons a l ih =>
    rw [List.all_cons, Bool.and_eq_true] at h
    rw [List.takeWhile_cons, List.dropWhile_cons, if_pos h.1, if_pos h.1, (ih h.2).1, (ih h.2).2]
    exact ⟨rfl, rfl⟩

theorem takeWhile_mid {p : UInt8 → Bool} {a b : List UInt8} {c : UInt8} (h : a.all p = true) (hc : p c = false) : (a ++ c :: b).takeWhile p = a ∧ (a ++ c :: b).dropWhile p = c :: b := by
  induction a with
  | nil => simp [hc]
  | cons x a ih =>
    rw [List.all_cons, Bool.and_eq_true] at h
    rw [List.cons_append, List.takeWhile_cons, List.dropWhile_cons, if_pos h.1, if_pos h.1, (ih h.2).1, (ih h.2).2]
    exact ⟨rfl, rfl⟩

/-- a text parts at the first byte that is not of a kind -/
theorem part_at (p : UInt8 → Bool) (l : List UInt8) : l.all p = true ∨ ∃ a c b, l = a ++ c :: b ∧ a.all p = true ∧ p c = false := by
  induction l with
  | nil => exact .inl rfl
  | cons x l ih =>
    cases hx : p x with
    | false => exact .inr ⟨[], x, l, rfl, rfl, hx⟩
    | true =>
      rcases ih with h | ⟨a, c, b, rfl, ha, hc⟩
      · exact .inl (by rw [List.all_cons, hx, h]; rfl)
      · exact .inr ⟨x :: a, c, b, rfl, by rw [List.all_cons, hx, ha]; rfl, hc⟩

theorem trimP_head_some (l : List UInt8) (h : trimP l ≠ []) : ∃ c l', trimP l = c :: l' := by
  cases hh : trimP l with
  | nil => exact absurd hh h
  | cons c l' => exact ⟨c, l', rfl⟩

theorem all_no {l : List UInt8} (h : NameP l) : l.all nmw = true := by
  rw [List.all_eq_true]
  intro c hc
  have := h.no hc
  unfold nmw
  simp [this.1, this.2.1]

theorem trimP_mem {l : List UInt8} {c : UInt8} (h : c ∈ trimP l) : c ∈ l := by
  unfold trimP at h
  have h1 : c ∈ trimR l := (List.dropWhile_sublist gap).subset h
  obtain ⟨t, e, _⟩ := trimR_prefix l
  rw [e]
  exact List.mem_append_left _ h1

theorem trimP_nil_all {l : List UInt8} (h : trimP l = []) : l.all gap = true := by
  obtain ⟨t, e, ht⟩ := trimR_prefix l
  unfold trimP at h
  have h1 : (trimR l).all gap = true := by
    rcases part_at gap (trimR l) with h1 | ⟨a, c, b, e1, ha, hc⟩
    · exact h1
    · rw [e1, (takeWhile_mid ha hc).2] at h
      cases h
  rw [e, List.all_append, h1, ht]
  rfl

theorem trimP_gaps {l : List UInt8} (h : l.all gap = true) : trimP l = [] := by
  have := trimP_pad l [] [] h rfl
  simp at this
  rw [this]
  rfl

theorem getLast_append_some {a b : List UInt8} {c : UInt8} (h : b.getLast? = some c) : (a ++ b).getLast? = some c := by
  rw [getLast_append_ne (by intro e; subst e; simp at h), h]

/-- what stands behind a name's bytes, blanks, a bracket -/
theorem trim_behind {t b0 : List UInt8} (ht : t.all gap = true) (hl : ∀ c, (40 :: b0).getLast? = some c → gap c = false) : trimP (t ++ 40 :: b0) = 40 :: b0 := by
  have := trimP_pad t (40 :: b0) [] ht rfl
  rw [List.append_nil] at this
  rw [this]
  exact trimP_id (fun c hc => by simp at hc; subst hc; decide) hl

theorem refTerm_eq (l : List UInt8) : refTermP l = termP l := by
  obtain ⟨s, hs⟩ : ∃ s, trimP l = s := ⟨_, rfl⟩
  have hhd : ∀ c, s.head? = some c → gap c = false := by rw [← hs]; exact trimP_head l
  have hls : ∀ c, s.getLast? = some c → gap c = false := by rw [← hs]; exact trimP_last l
  unfold refTermP termP
  rw [hs]
  cases hc : cutAt 40 s with
  | none =>
    have hno := (cutAt_none 40 s).1 hc
    have hr : trimR s = s := trimR_id hls
    simp only
    rw [hr]
    rcases part_at nmw s with h | ⟨a, c, b, e, ha, hcw⟩
    · obtain ⟨e1, e2⟩ := takeWhile_id h
      rw [e1, e2]
      by_cases hn : nameP s = true
      · rw [if_pos hn, if_pos hn, if_pos (show trimP [] = [] from rfl)]
      · rw [if_neg hn, if_neg hn]
    · have hg : gap c = true := by
        have : c ≠ 40 := by
          intro e'
          exact hno (by rw [e, e']; simp)
        unfold nmw at hcw
        simpa [this] using hcw
      have hn : nameP s = false := by
        rw [Bool.eq_false_iff]
        intro hn
        have := ((nameP_iff s).1 hn).no (c := c) (by rw [e]; simp)
        rw [hg] at this
        exact absurd this.1 (by simp)
      rw [hn, if_neg (c := (false = true)) (by simp)]
      obtain ⟨e1, e2⟩ := takeWhile_mid (b := b) ha hcw
      rw [e, e1, e2]
      by_cases hna : nameP a = true
      · rw [if_pos hna]
        have hne : trimP (c :: b) ≠ [] := by
          intro h0
          have hall := trimP_nil_all h0
          rw [e] at hls
          cases hlast : (c :: b).getLast? with
          | none => simp at hlast
          | some d =>
            have h1 := hls d (getLast_append_some hlast)
            have h2 := List.all_eq_true.1 hall d (mem_of_getLast hlast)
            rw [h2] at h1
            cases h1
        rw [if_neg hne, if_neg]
        rintro ⟨h1, _⟩
        have hm : (40 : UInt8) ∈ trimP (c :: b) := mem_of_head h1
        exact hno (by rw [e]; exact List.mem_append_right _ (trimP_mem hm))
      · rw [if_neg hna]
  | some p =>
    obtain ⟨a0, b0⟩ := p
    obtain ⟨e, hno⟩ := cutAt_some hc
    have hls' : ∀ c, (40 :: b0).getLast? = some c → gap c = false := fun c h => hls c (by rw [e]; exact getLast_append_some h)
    simp only
    obtain ⟨t, et, htg⟩ := trimR_prefix a0
    by_cases hn : nameP (trimR a0) = true
    · have hN := (nameP_iff _).1 hn
      have hall := all_no hN
      have hparts : s.takeWhile nmw = trimR a0 ∧ s.dropWhile nmw = t ++ 40 :: b0 := by
        have e' : s = trimR a0 ++ (t ++ 40 :: b0) := by rw [e, ← List.append_assoc, ← et]
        rw [e']
        cases t with
        | nil => exact takeWhile_mid hall (by decide)
        | cons g t =>
          rw [List.all_cons, Bool.and_eq_true] at htg
          exact takeWhile_mid hall (by unfold nmw; rw [htg.1]; rfl)
      rw [hparts.1, hparts.2, trim_behind htg hls', if_pos hn, if_pos hn, if_neg (by simp)]
      cases b0 with
      | nil => simp
      | cons x b1 => simp
    · rw [if_neg hn]
      rcases part_at nmw a0 with h | ⟨a, c, b, e1, ha, hcw⟩
      · have h40 : s.takeWhile nmw = a0 := by rw [e]; exact (takeWhile_mid h (by decide)).1
        rw [h40]
        have : trimR a0 = a0 := trimR_id (fun c hc => by
          have := List.all_eq_true.1 h c (mem_of_getLast hc)
          unfold nmw at this
          simp at this
          exact this.1)
        rw [this] at hn
        rw [if_neg hn]
      · have hg : gap c = true := by
          have : c ≠ 40 := by
            intro e'
            exact hno (by rw [e1, e']; simp)
          unfold nmw at hcw
          simpa [this] using hcw
        have e2 : s = a ++ c :: (b ++ 40 :: b0) := by rw [e, e1]; simp
        obtain ⟨h1, h2⟩ := takeWhile_mid (b := b ++ 40 :: b0) ha hcw
        rw [← e2] at h1 h2
        rw [h1, h2]
        by_cases hna : nameP a = true
        · rw [if_pos hna]
          have hbn : b.all gap = false := by
            rw [Bool.eq_false_iff]
            intro hb
            have : trimR a0 = a := by
              rw [e1, trimR_gaps a (c :: b) (by rw [List.all_cons, hg, hb]; rfl)]
              exact trimR_id (fun d hd => (((nameP_iff a).1 hna).no (mem_of_getLast hd)).1)
            rw [this] at hn
            exact hn hna
          rcases part_at gap b with hb | ⟨x, d, y, e3, hx, hd⟩
          · rw [hb] at hbn; cases hbn
          · have hd40 : d ≠ 40 := by
              intro e'
              exact hno (by rw [e1, e3, e']; simp)
            have hcx : trimP (c :: (b ++ 40 :: b0)) = d :: (y ++ 40 :: b0) := by
              have e4 : c :: (b ++ 40 :: b0) = (c :: x) ++ (d :: (y ++ 40 :: b0)) ++ [] := by rw [e3]; simp
              rw [e4, trimP_pad _ _ [] (by rw [List.all_cons, hg, hx]; rfl) rfl]
              refine trimP_id (fun z hz => by simp at hz; subst hz; exact hd) (fun z hz => ?_)
              have : (d :: (y ++ 40 :: b0)).getLast? = (40 :: b0).getLast? := by
                rw [show d :: (y ++ 40 :: b0) = (d :: y) ++ 40 :: b0 from rfl, getLast_append_ne (by simp)]
              rw [this] at hz
              exact hls' z hz
            rw [hcx, if_neg (by simp), if_neg (by simp [hd40])]
        · rw [if_neg hna]

/-- packages, each by itself -/
def listP (l : List UInt8) : Except Int (List Tm) :=
  match termsP l with
  | .error e => .error e
  | .ok M => if M.all (fun x => decide (x.length ≤ 1)) then .ok M.flatten else .error 3

theorem flatten_long {M : List (List Tm)} (h : ∀ x ∈ M, x ≠ []) : M.length ≤ M.flatten.length ∧ (decide (M.length < M.flatten.length) = !(M.all (fun x => decide (x.length ≤ 1)))) := by
  induction M with
  | nil => simp
  | cons x M ih =>
    obtain ⟨i1, i2⟩ := ih (fun y hy => h y (.tail _ hy))
    have hx : 0 < x.length := List.length_pos_iff.2 (h x (.head _))
    rw [List.flatten_cons, List.length_append, List.length_cons, List.all_cons]
    refine ⟨by omega, ?_⟩
    by_cases h1 : x.length ≤ 1
    · rw [decide_eq_true h1, Bool.true_and, ← i2]
      exact decide_eq_decide.2 (by omega)
    · rw [decide_eq_false h1, Bool.false_and, Bool.not_false, decide_eq_true_eq]
      omega

theorem flatten_heads {M : List (List Tm)} (h : ∀ x ∈ M, x ≠ []) (h1 : M.all (fun x => decide (x.length ≤ 1)) = true) : M.flatMap (fun x => x.take 1) = M.flatten := by
  induction M with
  | nil => rfl
  | cons x M ih =>
    rw [List.all_cons, Bool.and_eq_true, decide_eq_true_eq] at h1
    rw [List.flatMap_cons, List.flatten_cons, ih (fun y hy => h y (.tail _ hy)) h1.2, List.take_of_length_le h1.1]
end Go.Proofs.YtlkmmejlnohjhaaGreatDoor.VP

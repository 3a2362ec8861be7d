/- What packages ask for: how it is read and written: plain lists of bytes; no program in sight. · What is asked for is written, and read, as it is; what is read may be written: plain lists of bytes; no program in sight. · The reference reads what is asked for in another way, and comes to the same: plain lists of bytes; no program in sight. · Reading, piece by piece: plain lists; no program in sight. -/
import Derived.Test.YtodbbfgkclkpgaaGreatDoorARC1
namespace Go.Proofs.YtodbbfgkclkpgaaGreatDoor.VP

/-! names -/
def low (c : UInt8) : Bool := decide (97 ≤ c.toNat) && decide (c.toNat ≤ 122)
def nm0 (c : UInt8) : Bool := low c || dig c
def nm1 (c : UInt8) : Bool := nm0 c || c == 43 || c == 45 || c == 46
def startsNm : List UInt8 → Bool
  | [] => false
  | c :: _ => nm0 c
def nameP (l : List UInt8) : Bool := decide (2 ≤ l.length) && decide (l.length ≤ 24) && startsNm l && l.all nm1

/-! blanks, tabs and line feeds at both ends -/
def gap (c : UInt8) : Bool := c == 32 || c == 9 || c == 10
def trimR (l : List UInt8) : List UInt8 := (l.reverse.dropWhile gap).reverse
def trimP (l : List UInt8) : List UInt8 := (trimR l).dropWhile gap

theorem rev_ind {α : Type} {p : List α → Prop} (nil : p []) (append_singleton : ∀ (l : List α) (a : α), p l → p (l ++ [a])) (l : List α) : p l := by
  have h : ∀ m : List α, p m.reverse := by
    intro m
    induction m with
    | nil => exact nil
    | cons a m ih => rw [List.reverse_cons]; exact append_singleton _ _ ih
  have := h l.reverse
  rwa [List.reverse_reverse] at this

theorem trimR_snoc (l : List UInt8) (c : UInt8) : trimR (l ++ [c]) = if gap c then trimR l else l ++ [c] := by
  unfold trimR
  rw [List.reverse_append, List.reverse_singleton, List.singleton_append, List.dropWhile_cons]
  split
  · rfl
  · rw [List.reverse_cons, List.reverse_reverse]

theorem trimR_nil : trimR [] = [] := rfl

theorem trimR_cons (c : UInt8) (l : List UInt8) : trimR (c :: l) = if gap c ∧ trimR l = [] then [] else c :: trimR l := by
  induction l using rev_ind with
  | nil =>
    rw [show [c] = [] ++ [c] from rfl, trimR_snoc, trimR_nil]
    by_cases h : gap c = true <;> simp [h]
  | append_singleton l d ih =>
    rw [show c :: (l ++ [d]) = (c :: l) ++ [d] from rfl, trimR_snoc, trimR_snoc]
    by_cases hd : gap d = true
    · rw [if_pos hd, if_pos hd, ih]
    · rw [if_neg hd, if_neg hd, if_neg (by simp)]
      rfl

/-- whichever end first -/
theorem trim_comm (l : List UInt8) : trimR (l.dropWhile gap) = trimP l := by
  unfold trimP
  induction l with
  | nil => rfl
  | cons c l ih =>
    rw [List.dropWhile_cons, trimR_cons]
    by_cases hc : gap c = true
    · rw [if_pos hc, ih]
      by_cases hr : trimR l = []
      · rw [if_pos ⟨hc, hr⟩, hr]
      · rw [if_neg (fun h => hr h.2), List.dropWhile_cons, if_pos hc]
    · rw [if_neg hc, if_neg (fun h => hc h.1), List.dropWhile_cons, if_neg hc, trimR_cons, if_neg (fun h => hc h.1)]

theorem trimR_prefix (l : List UInt8) : ∃ t, l = trimR l ++ t ∧ t.all gap = true := by
  induction l using rev_ind with
  | nil => exact ⟨[], rfl, rfl⟩
  | append_singleton l d ih =>
    rw [trimR_snoc]
    by_cases hd : gap d = true
    · obtain ⟨t, e, ht⟩ := ih
      rw [if_pos hd]
      exact ⟨t ++ [d], by rw [← List.append_assoc, ← e], by rw [List.all_append, ht]; simp [hd]⟩
    · rw [if_neg hd]
      exact ⟨[], by simp, rfl⟩

theorem trimR_length (l : List UInt8) : (trimR l).length ≤ l.length := by
  obtain ⟨t, e, _⟩ := trimR_prefix l
  have := congrArg List.length e
  rw [List.length_append] at this
  omega

theorem trimP_length (l : List UInt8) : (trimP l).length ≤ l.length := by
  have h1 := trimR_length l
  have h2 := dropWhile_le gap (trimR l)
  unfold trimP
  omega

/-- a text that has no blank at its end -/
theorem trimR_id {l : List UInt8} (h : ∀ c, l.getLast? = some c → gap c = false) : trimR l = l := by
  induction l using rev_ind with
  | nil => rfl
  | append_singleton l d _ =>
    rw [trimR_snoc, if_neg]
    rw [h d (by simp)]
    simp

theorem trimR_last (l : List UInt8) (c : UInt8) (h : (trimR l).getLast? = some c) : gap c = false := by
  induction l using rev_ind with
  | nil => simp [trimR_nil] at h
  | append_singleton l d ih =>
    rw [trimR_snoc] at h
    by_cases hd : gap d = true
    · rw [if_pos hd] at h; exact ih h
    · rw [if_neg hd] at h
      simp at h
      subst h
      simpa using hd

theorem dropWhile_head (p : UInt8 → Bool) (l : List UInt8) (c : UInt8) (h : (l.dropWhile p).head? = some c) : p c = false := by
  induction l with
  | nil => simp at h
  | cons a l ih =>
    rw [List.dropWhile_cons] at h
    by_cases ha : p a = true
    · rw [if_pos ha] at h; exact ih h
    · rw [if_neg ha] at h
      simp at h
      subst h
      simpa using ha

theorem dropWhile_id {p : UInt8 → Bool} {l : List UInt8} (h : ∀ c, l.head? = some c → p c = false) : l.dropWhile p = l := by
  cases l with
  | nil => rfl
  | cons a l => rw [List.dropWhile_cons, if_neg (by rw [h a rfl]; simp)]

theorem trimP_id {l : List UInt8} (h0 : ∀ c, l.head? = some c → gap c = false) (h1 : ∀ c, l.getLast? = some c → gap c = false) : trimP l = l := by
  unfold trimP
  rw [trimR_id h1, dropWhile_id h0]

theorem trimP_head (l : List UInt8) (c : UInt8) (h : (trimP l).head? = some c) : gap c = false := dropWhile_head gap _ c h

theorem dropWhile_last (p : UInt8 → Bool) (l : List UInt8) (c : UInt8) (h : (l.dropWhile p).getLast? = some c) : l.getLast? = some c := by
  induction l with
  | nil => simp at h
  | cons a l ih =>
    rw [List.dropWhile_cons] at h
    by_cases ha : p a = true
    · rw [if_pos ha] at h
      have := ih h
      rw [List.getLast?_cons, this]; rfl
    · rw [if_neg ha] at h; exact h

theorem trimP_last (l : List UInt8) (c : UInt8) (h : (trimP l).getLast? = some c) : gap c = false := trimR_last l c (dropWhile_last gap _ c h)

/-! what is asked of versions: its signs -/
def signP (op : Int) : List UInt8 := if op = 1 then [60, 60] else if op = 2 then [60, 61] else if op = 3 then [61] else if op = 4 then [62, 61] else if op = 5 then [62, 62] else []

/-- the sign that stands ahead, and what is behind -/
def opP : List UInt8 → Int × List UInt8
  | 60 :: 60 :: r => (1, r)
  | 60 :: 61 :: r => (2, r)
  | 61 :: r => (3, r)
  | 62 :: 61 :: r => (4, r)
  | 62 :: 62 :: r => (5, r)
  | l => (0, l)

/-- a package that is asked for: its name, what is asked of its version, the version -/
structure Tm where
  n : List UInt8
  op : Int
  e : Int
  u : List UInt8
  r : List UInt8
deriving DecidableEq

/-- what stands between brackets -/
def innerP (n m : List UInt8) : Option Tm :=
  if (opP m).1 = 0 then none else (parseP (trimP (opP m).2)).map fun v => ⟨n, (opP m).1, v.1, v.2.1, v.2.2⟩

def termP (l : List UInt8) : Option Tm :=
  match cutAt 40 (trimP l) with
  | none => if nameP (trimR (trimP l)) then some ⟨trimR (trimP l), 0, 0, [], []⟩ else none
  | some (a, b) => if nameP (trimR a) then (if b.getLast? = some 41 then innerP (trimR a) (trimP b.dropLast) else none) else none

/-! texts apart at a byte -/
def pieces (c : UInt8) : List UInt8 → List (List UInt8)
  | [] => [[]]
  | x :: l => if x = c then [] :: pieces c l else match pieces c l with
    | [] => [[x]]
    | p :: ps => (x :: p) :: ps

theorem pieces_ne (c : UInt8) (l : List UInt8) : pieces c l ≠ [] := by
  cases l with
  | nil => simp [pieces]
  | cons x l =>
    rw [pieces]
    split
    · simp
    · split <;> simp

theorem pieces_none {c : UInt8} {l : List UInt8} (h : cutAt c l = none) : pieces c l = [l] := by
  induction l with
  | nil => rfl
  | cons x l ih =>
    by_cases hx : x = c
    · subst hx; simp [cutAt] at h
    · simp [cutAt, hx] at h
      rw [pieces, if_neg hx, ih h]

theorem pieces_some {c : UInt8} {l a b : List UInt8} (h : cutAt c l = some (a, b)) : pieces c l = a :: pieces c b := by
  induction l generalizing a b with
  | nil => simp [cutAt] at h
  | cons x l ih =>
    by_cases hx : x = c
    · subst hx
      simp [cutAt] at h
      obtain ⟨rfl, rfl⟩ := h
      rw [pieces, if_pos rfl]
    · simp [cutAt, hx] at h
      obtain ⟨a', h, rfl⟩ := h
      rw [pieces, if_neg hx, ih h]

/-! reading: one of some, with | between; each, with commas between: 3: ErrForm, 4: ErrLimit -/
def someP (n : Nat) : List (List UInt8) → Except Int (List Tm × Nat)
  | [] => .ok ([], n)
  | y :: ys => match termP y with
    | none => .error 3
    | some t => if 30 < n + 1 then .error 4 else match someP (n + 1) ys with
      | .error e => .error e
      | .ok (ts, k) => .ok (t :: ts, k)

def eachP (n : Nat) : List (List UInt8) → Except Int (List (List Tm))
  | [] => .ok []
  | x :: xs => match someP n (pieces 124 x) with
    | .error e => .error e
    | .ok (ts, k) => match eachP k xs with
      | .error e => .error e
      | .ok r => .ok (ts :: r)

def termsP (l : List UInt8) : Except Int (List (List Tm)) := if trimP l = [] then .ok [] else eachP 0 (pieces 44 l)

/-! writing -/
def rightT (t : Tm) : Bool := nameP t.n && (if t.op = 0 then decide (t.e = 0) && decide (t.u = []) && decide (t.r = []) else decide (0 ≤ t.op) && decide (t.op ≤ 5) && rightP t.e t.u t.r)
def total (L : List (List Tm)) : Nat := (L.map List.length).sum
def askedP (L : List (List Tm)) : Bool := (L.all fun x => !x.isEmpty && x.all rightT) && decide (total L ≤ 30)
end Go.Proofs.YtodbbfgkclkpgaaGreatDoor.VP

namespace Go.Proofs.YtodbbfgkclkpgaaGreatDoor.VP

theorem fin_imp {p : UInt8 → Prop} [DecidablePred p] (h : ∀ i : Fin 256, p (UInt8.ofNat i.val)) (c : UInt8) : p c := by
  have := h ⟨c.toNat, c.toNat_lt⟩
  simpa using this

theorem nm1_no (c : UInt8) (h : nm1 c = true) : gap c = false ∧ c ≠ 40 ∧ c ≠ 41 ∧ c ≠ 44 ∧ c ≠ 124 := by
  have : ∀ c : UInt8, nm1 c = true → gap c = false ∧ c ≠ 40 ∧ c ≠ 41 ∧ c ≠ 44 ∧ c ≠ 124 := fin_imp (by decide +kernel)
  exact this c h
structure NameP (l : List UInt8) : Prop where
  lo : 2 ≤ l.length
  hi : l.length ≤ 24
  st : startsNm l = true
  al : l.all nm1 = true
theorem nameP_iff (l : List UInt8) : nameP l = true ↔ NameP l := by
  unfold nameP
  constructor
  · intro h
    simp only [Bool.and_eq_true, decide_eq_true_eq] at h
    exact ⟨h.1.1.1, h.1.1.2, h.1.2, h.2⟩
  · intro h
    simp only [Bool.and_eq_true, decide_eq_true_eq]
    exact ⟨⟨⟨h.lo, h.hi⟩, h.st⟩, h.al⟩
theorem NameP.no {l : List UInt8} (h : NameP l) {c : UInt8} (hc : c ∈ l) : gap c = false ∧ c ≠ 40 ∧ c ≠ 41 ∧ c ≠ 44 ∧ c ≠ 124 := nm1_no c (List.all_eq_true.1 h.al c hc)
theorem NameP.ne {l : List UInt8} (h : NameP l) : l ≠ [] := by
  have := h.lo
  intro e; subst e; simp at this

theorem trimR_gaps (a t : List UInt8) (ht : t.all gap = true) : trimR (a ++ t) = trimR a := by
  induction t using rev_ind with
  | nil => rw [List.append_nil]
  | append_singleton t d ih =>
    rw [List.all_append, Bool.and_eq_true] at ht
    have hd : gap d = true := by simpa using ht.2
    rw [← List.append_assoc, trimR_snoc, if_pos hd, ih ht.1]

theorem dropWhile_gaps (p : UInt8 → Bool) (a t : List UInt8) (ha : a.all p = true) : (a ++ t).dropWhile p = t.dropWhile p := by
  induction a with
  | nil => rfl
  | cons x a ih =>
    rw [List.all_cons, Bool.and_eq_true] at ha
    rw [List.cons_append, List.dropWhile_cons, if_pos ha.1, ih ha.2]

/-- blanks at both ends make no difference -/
theorem trimP_pad (a l t : List UInt8) (ha : a.all gap = true) (ht : t.all gap = true) : trimP (a ++ l ++ t) = trimP l := by
  unfold trimP
  rw [trimR_gaps _ _ ht]
  have h2 := trim_comm (a ++ l)
  unfold trimP at h2
  rw [← h2, dropWhile_gaps gap _ _ ha, trim_comm]
  rfl

structure RightT (t : Tm) : Prop where
  nm : NameP t.n
  k : (t.op = 0 ∧ t.e = 0 ∧ t.u = [] ∧ t.r = []) ∨ ((t.op = 1 ∨ t.op = 2 ∨ t.op = 3 ∨ t.op = 4 ∨ t.op = 5) ∧ RightP t.e t.u t.r)
theorem rightT_iff (t : Tm) : rightT t = true ↔ RightT t := by
  unfold rightT
  constructor
  · intro h
    rw [Bool.and_eq_true] at h
    refine ⟨(nameP_iff _).1 h.1, ?_⟩
    have h2 := h.2
    by_cases h0 : t.op = 0
    · rw [if_pos h0] at h2
      simp only [Bool.and_eq_true, decide_eq_true_eq] at h2
      exact .inl ⟨h0, h2.1.1, h2.1.2, h2.2⟩
    · rw [if_neg h0] at h2
      simp only [Bool.and_eq_true, decide_eq_true_eq] at h2
      exact .inr ⟨by omega, (rightP_iff _ _ _).1 h2.2⟩
  · rintro ⟨hn, hk⟩
    rw [Bool.and_eq_true]
    refine ⟨(nameP_iff _).2 hn, ?_⟩
    rcases hk with ⟨h0, h1, h2, h3⟩ | ⟨h0, h1⟩
    · rw [if_pos h0]
      simp [h1, h2, h3]
    · rw [if_neg (by omega), (rightP_iff _ _ _).2 h1]
      simp
      omega

theorem getLast_append_ne {a b : List UInt8} (hb : b ≠ []) : (a ++ b).getLast? = b.getLast? := by
  rw [List.getLast?_append]
  cases h : b.getLast? with
  | none => rw [List.getLast?_eq_none_iff] at h; exact absurd h hb
  | some x => rfl

theorem mem_of_getLast {l : List UInt8} {c : UInt8} (h : l.getLast? = some c) : c ∈ l := List.mem_of_getLast? h
theorem mem_of_head {l : List UInt8} {c : UInt8} (h : l.head? = some c) : c ∈ l := List.mem_of_mem_head? h

/-- what is read of versions may be -/
theorem parseP_right {l : List UInt8} {v : Int × List UInt8 × List UInt8} (h : parseP l = some v) : RightP v.1 v.2.1 v.2.2 := by
  have hc : ∀ (e : Int) (u r : List UInt8), checkP e u r = some v → RightP v.1 v.2.1 v.2.2 := by
    intro e u r h
    unfold checkP at h
    split at h
    · rename_i hr
      simp only [Option.some.injEq] at h
      subst h
      exact (rightP_iff _ _ _).1 hr
    · cases h
  have hrest : ∀ (e : Int) (l : List UInt8), restP e l = some v → RightP v.1 v.2.1 v.2.2 := by
    intro e l h
    unfold restP at h
    split at h
    · exact hc _ _ _ h
    · split at h
      · cases h
      · exact hc _ _ _ h
  unfold parseP at h
  split at h
  · cases h
  · split at h
    · exact hrest _ _ h
    · split at h
      · cases h
      · exact hrest _ _ h

theorem opP_rng (m : List UInt8) : (opP m).1 = 0 ∨ (opP m).1 = 1 ∨ (opP m).1 = 2 ∨ (opP m).1 = 3 ∨ (opP m).1 = 4 ∨ (opP m).1 = 5 := by
  unfold opP
  split <;> simp

/-- WHAT IS READ MAY BE ASKED FOR. -/
theorem termP_right {l : List UInt8} {t : Tm} (h : termP l = some t) : RightT t := by
  unfold termP at h
  split at h
  · split at h
    · rename_i hn
      simp only [Option.some.injEq] at h
      subst h
      exact ⟨(nameP_iff _).1 hn, .inl ⟨rfl, rfl, rfl, rfl⟩⟩
    · cases h
  · split at h
    · rename_i hn
      split at h
      · unfold innerP at h
        split at h
        · cases h
        · rename_i h0
          rw [Option.map_eq_some_iff] at h
          obtain ⟨v, hv, e⟩ := h
          subst e
          have := opP_rng
          exact ⟨(nameP_iff _).1 hn, .inr ⟨(this _).resolve_left h0, parseP_right hv⟩⟩
      · cases h
    · cases h

theorem someP_ok {n : Nat} {l : List (List UInt8)} {ts : List Tm} {k : Nat} (h : someP n l = .ok (ts, k)) : ts.length = l.length ∧ k = n + l.length ∧ (n ≤ 30 → k ≤ 30) ∧ ∀ t ∈ ts, RightT t := by
  induction l generalizing n ts k with
  | nil =>
    simp [someP] at h
    obtain ⟨rfl, rfl⟩ := h
    simp
  | cons y ys ih =>
    rw [someP] at h
    split at h
    · cases h
    · rename_i t ht
      split at h
      · cases h
      · rename_i hn
        split at h
        · cases h
        · rename_i ts' k' he
          simp only [Except.ok.injEq, Prod.mk.injEq] at h
          obtain ⟨rfl, rfl⟩ := h
          obtain ⟨h1, h2, h3, h4⟩ := ih he
          refine ⟨by simp [h1], by simp; omega, fun _ => h3 (by omega), ?_⟩
          intro x hx
          rcases List.mem_cons.1 hx with rfl | hx
          · exact termP_right ht
          · exact h4 x hx

theorem total_cons (x : List Tm) (L : List (List Tm)) : total (x :: L) = x.length + total L := by simp [total]

theorem eachP_ok {n : Nat} {l : List (List UInt8)} {M : List (List Tm)} (h : eachP n l = .ok M) : (n ≤ 30 → n + total M ≤ 30) ∧ ∀ x ∈ M, x ≠ [] ∧ ∀ t ∈ x, RightT t := by
  induction l generalizing n M with
  | nil =>
    simp [eachP] at h
    subst h
    simp [total]
  | cons y ys ih =>
    rw [eachP] at h
    split at h
    · cases h
    · rename_i ts k hs
      split at h
      · cases h
      · rename_i r hr
        simp only [Except.ok.injEq] at h
        subst h
        obtain ⟨h1, h2, h3, h4⟩ := someP_ok hs
        obtain ⟨i1, i2⟩ := ih hr
        refine ⟨fun hn => ?_, ?_⟩
        · have := i1 (h3 hn)
          rw [total_cons]; omega
        · intro x hx
          rcases List.mem_cons.1 hx with rfl | hx
          · refine ⟨?_, h4⟩
            intro e
            rw [e] at h1
            have := pieces_ne 124 y
            exact this (List.eq_nil_of_length_eq_zero h1.symm)
          · exact i2 x hx

structure AskedP (L : List (List Tm)) : Prop where
  each : ∀ x ∈ L, x ≠ [] ∧ ∀ t ∈ x, RightT t
  few : total L ≤ 30
theorem askedP_iff (L : List (List Tm)) : askedP L = true ↔ AskedP L := by
  unfold askedP
  rw [Bool.and_eq_true, List.all_eq_true, decide_eq_true_eq]
  constructor
  · rintro ⟨h1, h2⟩
    refine ⟨fun x hx => ?_, h2⟩
    have := h1 x hx
    rw [Bool.and_eq_true, List.all_eq_true] at this
    exact ⟨by simpa using this.1, fun t ht => (rightT_iff t).1 (this.2 t ht)⟩
  · rintro ⟨h1, h2⟩
    refine ⟨fun x hx => ?_, h2⟩
    obtain ⟨h3, h4⟩ := h1 x hx
    rw [Bool.and_eq_true, List.all_eq_true]
    exact ⟨by simpa using h3, fun t ht => (rightT_iff t).2 (h4 t ht)⟩

/-- WHAT IS READ IS SUCH THAT IT MAY BE WRITTEN. -/
theorem termsP_asked {l : List UInt8} {M : List (List Tm)} (h : termsP l = .ok M) : AskedP M := by
  unfold termsP at h
  split at h
  · simp at h
    subst h
    exact ⟨by simp, by simp [total]⟩
  · obtain ⟨h1, h2⟩ := eachP_ok h
    exact ⟨h2, by have := h1 (by omega); omega⟩

end Go.Proofs.YtodbbfgkclkpgaaGreatDoor.VP

namespace Go.Proofs.YtodbbfgkclkpgaaGreatDoor.VP

/-- a name's bytes, as the reference reads on: no blank, no bracket -/
def nmw (c : UInt8) : Bool := !gap c && !(c == 40)

def refTermP (l : List UInt8) : Option Tm :=
  if nameP ((trimP l).takeWhile nmw) then
    (if trimP ((trimP l).dropWhile nmw) = [] then some ⟨(trimP l).takeWhile nmw, 0, 0, [], []⟩
     else if (trimP ((trimP l).dropWhile nmw)).head? = some 40 ∧ (trimP ((trimP l).dropWhile nmw)).getLast? = some 41 then innerP ((trimP l).takeWhile nmw) (trimP (trimP ((trimP l).dropWhile nmw)).tail.dropLast)
     else none)
  else none

theorem takeWhile_id {p : UInt8 → Bool} {l : List UInt8} (h : l.all p = true) : l.takeWhile p = l ∧ l.dropWhile p = [] := by
  induction l with
  | nil => exact ⟨rfl, rfl⟩
  | cons a l ih =>
    rw [List.all_cons, Bool.and_eq_true] at h
    rw [List.takeWhile_cons, List.dropWhile_cons, if_pos h.1, if_pos h.1, (ih h.2).1, (ih h.2).2]
    exact ⟨rfl, rfl⟩

theorem takeWhile_mid {p : UInt8 → Bool} {a b : List UInt8} {c : UInt8} (h : a.all p = true) (hc : p c = false) : (a ++ c :: b).takeWhile p = a ∧ (a ++ c :: b).dropWhile p = c :: b := by
  induction a with
  | nil => simp [hc]
  | cons x a ih =>
    rw [List.all_cons, Bool.and_eq_true] at h
    rw [List.cons_append, List.takeWhile_cons, List.dropWhile_cons, if_pos h.1, if_pos h.1, (ih h.2).1, (ih h.2).2]
    exact ⟨rfl, rfl⟩

/-- a text parts at the first byte that is not of a kind -/
theorem part_at (p : UInt8 → Bool) (l : List UInt8) : l.all p = true ∨ ∃ a c b, l = a ++ c :: b ∧ a.all p = true ∧ p c = false := by
  induction l with
  | nil => exact .inl rfl
  | cons x l ih =>
    cases hx : p x with
    | false => exact .inr ⟨[], x, l, rfl, rfl, hx⟩
    | true =>
      rcases ih with h | ⟨a, c, b, rfl, ha, hc⟩
      · exact .inl (by rw [List.all_cons, hx, h]; rfl)
      · exact .inr ⟨x :: a, c, b, rfl, by rw [List.all_cons, hx, ha]; rfl, hc⟩

theorem all_no {l : List UInt8} (h : NameP l) : l.all nmw = true := by
  rw [List.all_eq_true]
  intro c hc
  have := h.no hc
  unfold nmw
  simp [this.1, this.2.1]

theorem trimP_mem {l : List UInt8} {c : UInt8} (h : c ∈ trimP l) : c ∈ l := by
  unfold trimP at h
  have h1 : c ∈ trimR l := (List.dropWhile_sublist gap).subset h
  obtain ⟨t, e, _⟩ := trimR_prefix l
  rw [e]
  exact List.mem_append_left _ h1

theorem trimP_nil_all {l : List UInt8} (h : trimP l = []) : l.all gap = true := by
  obtain ⟨t, e, ht⟩ := trimR_prefix l
  unfold trimP at h
  have h1 : (trimR l).all gap = true := by
    rcases part_at gap (trimR l) with h1 | ⟨a, c, b, e1, ha, hc⟩
    · exact h1
    · rw [e1, (takeWhile_mid ha hc).2] at h
      cases h
  rw [e, List.all_append, h1, ht]
  rfl

theorem getLast_append_some {a b : List UInt8} {c : UInt8} (h : b.getLast? = some c) : (a ++ b).getLast? = some c := by
  rw [getLast_append_ne (by intro e; subst e; simp at h), h]

/-- what stands behind a name's bytes, blanks, a bracket -/
theorem trim_behind {t b0 : List UInt8} (ht : t.all gap = true) (hl : ∀ c, (40 :: b0).getLast? = some c → gap c = false) : trimP (t ++ 40 :: b0) = 40 :: b0 := by
  have := trimP_pad t (40 :: b0) [] ht rfl
  rw [List.append_nil] at this
  rw [this]
  exact trimP_id (fun c hc => by simp at hc; subst hc; decide) hl

theorem refTerm_eq (l : List UInt8) : refTermP l = termP l := by
  obtain ⟨s, hs⟩ : ∃ s, trimP l = s := ⟨_, rfl⟩
  have hhd : ∀ c, s.head? = some c → gap c = false := by rw [← hs]; exact trimP_head l
  have hls : ∀ c, s.getLast? = some c → gap c = false := by rw [← hs]; exact trimP_last l
  unfold refTermP termP
  rw [hs]
  cases hc : cutAt 40 s with
  | none =>
    have hno := (cutAt_none 40 s).1 hc
    have hr : trimR s = s := trimR_id hls
    simp only
    rw [hr]
    rcases part_at nmw s with h | ⟨a, c, b, e, ha, hcw⟩
    · obtain ⟨e1, e2⟩ := takeWhile_id h
      rw [e1, e2]
      by_cases hn : nameP s = true
      · rw [if_pos hn, if_pos hn, if_pos (show trimP [] = [] from rfl)]
      · rw [if_neg hn, if_neg hn]
    · have hg : gap c = true := by
        have : c ≠ 40 := by
          intro e'
          exact hno (by rw [e, e']; simp)
        unfold nmw at hcw
        simpa [this] using hcw
      have hn : nameP s = false := by
        rw [Bool.eq_false_iff]
        intro hn
        have := ((nameP_iff s).1 hn).no (c := c) (by rw [e]; simp)
        rw [hg] at this
        exact absurd this.1 (by simp)
      rw [hn, if_neg (c := (false = true)) (by simp)]
      obtain ⟨e1, e2⟩ := takeWhile_mid (b := b) ha hcw
      rw [e, e1, e2]
      by_cases hna : nameP a = true
      · rw [if_pos hna]
        have hne : trimP (c :: b) ≠ [] := by
          intro h0
          have hall := trimP_nil_all h0
          rw [e] at hls
          cases hlast : (c :: b).getLast? with
          | none => simp at hlast
          | some d =>
            have h1 := hls d (getLast_append_some hlast)
            have h2 := List.all_eq_true.1 hall d (mem_of_getLast hlast)
            rw [h2] at h1
            cases h1
        rw [if_neg hne, if_neg]
        rintro ⟨h1, _⟩
        have hm : (40 : UInt8) ∈ trimP (c :: b) := mem_of_head h1
        exact hno (by rw [e]; exact List.mem_append_right _ (trimP_mem hm))
      · rw [if_neg hna]
  | some p =>
    obtain ⟨a0, b0⟩ := p
    obtain ⟨e, hno⟩ := cutAt_some hc
    have hls' : ∀ c, (40 :: b0).getLast? = some c → gap c = false := fun c h => hls c (by rw [e]; exact getLast_append_some h)
    simp only
    obtain ⟨t, et, htg⟩ := trimR_prefix a0
    by_cases hn : nameP (trimR a0) = true
    · have hN := (nameP_iff _).1 hn
      have hall := all_no hN
      have hparts : s.takeWhile nmw = trimR a0 ∧ s.dropWhile nmw = t ++ 40 :: b0 := by
        have e' : s = trimR a0 ++ (t ++ 40 :: b0) := by rw [e, ← List.append_assoc, ← et]
        rw [e']
        cases t with
        | nil => exact takeWhile_mid hall (by decide)
        | cons g t =>
          rw [List.all_cons, Bool.and_eq_true] at htg
          exact takeWhile_mid hall (by unfold nmw; rw [htg.1]; rfl)
      rw [hparts.1, hparts.2, trim_behind htg hls', if_pos hn, if_pos hn, if_neg (by simp)]
      cases b0 with
      | nil => simp
      | cons x b1 => simp
    · rw [if_neg hn]
      rcases part_at nmw a0 with h | ⟨a, c, b, e1, ha, hcw⟩
      · have h40 : s.takeWhile nmw = a0 := by rw [e]; exact (takeWhile_mid h (by decide)).1
        rw [h40]
        have : trimR a0 = a0 := trimR_id (fun c hc => by
          have := List.all_eq_true.1 h c (mem_of_getLast hc)
          unfold nmw at this
          simp at this
          exact this.1)
        rw [this] at hn
        rw [if_neg hn]
      · have hg : gap c = true := by
          have : c ≠ 40 := by
            intro e'
            exact hno (by rw [e1, e']; simp)
          unfold nmw at hcw
          simpa [this] using hcw
        have e2 : s = a ++ c :: (b ++ 40 :: b0) := by rw [e, e1]; simp
        obtain ⟨h1, h2⟩ := takeWhile_mid (b := b ++ 40 :: b0) ha hcw
        rw [← e2] at h1 h2
        rw [h1, h2]
        by_cases hna : nameP a = true
        · rw [if_pos hna]
          have hbn : b.all gap = false := by
            rw [Bool.eq_false_iff]
            intro hb
            have : trimR a0 = a := by
              rw [e1, trimR_gaps a (c :: b) (by rw [List.all_cons, hg, hb]; rfl)]
              exact trimR_id (fun d hd => (((nameP_iff a).1 hna).no (mem_of_getLast hd)).1)
            rw [this] at hn
            exact hn hna
          rcases part_at gap b with hb | ⟨x, d, y, e3, hx, hd⟩
          · rw [hb] at hbn; cases hbn
          · have hd40 : d ≠ 40 := by
              intro e'
              exact hno (by rw [e1, e3, e']; simp)
            have hcx : trimP (c :: (b ++ 40 :: b0)) = d :: (y ++ 40 :: b0) := by
              have e4 : c :: (b ++ 40 :: b0) = (c :: x) ++ (d :: (y ++ 40 :: b0)) ++ [] := by rw [e3]; simp
              rw [e4, trimP_pad _ _ [] (by rw [List.all_cons, hg, hx]; rfl) rfl]
              refine trimP_id (fun z hz => by simp at hz; subst hz; exact hd) (fun z hz => ?_)
              have : (d :: (y ++ 40 :: b0)).getLast? = (40 :: b0).getLast? := by
                rw [show d :: (y ++ 40 :: b0) = (d :: y) ++ 40 :: b0 from rfl, getLast_append_ne (by simp)]
              rw [this] at hz
              exact hls' z hz
            rw [hcx, if_neg (by simp), if_neg (by simp [hd40])]
        · rw [if_neg hna]

/-- packages, each by itself -/
def listP (l : List UInt8) : Except Int (List Tm) :=
  match termsP l with
  | .error e => .error e
  | .ok M => if M.all (fun x => decide (x.length ≤ 1)) then .ok M.flatten else .error 3

theorem flatten_long {M : List (List Tm)} (h : ∀ x ∈ M, x ≠ []) : M.length ≤ M.flatten.length ∧ (decide (M.length < M.flatten.length) = !(M.all (fun x => decide (x.length ≤ 1)))) := by
  induction M with
  | nil => simp
  | cons x M ih =>
    obtain ⟨i1, i2⟩ := ih (fun y hy => h y (.tail _ hy))
    have hx : 0 < x.length := List.length_pos_iff.2 (h x (.head _))
    rw [List.flatten_cons, List.length_append, List.length_cons, List.all_cons]
    refine ⟨by omega, ?_⟩
    by_cases h1 : x.length ≤ 1
    · rw [decide_eq_true h1, Bool.true_and, ← i2]
      exact decide_eq_decide.2 (by omega)
    · rw [decide_eq_false h1, Bool.false_and, Bool.not_false, decide_eq_true_eq]
      omega

end Go.Proofs.YtodbbfgkclkpgaaGreatDoor.VP

namespace Go.Proofs.YtodbbfgkclkpgaaGreatDoor.VP

theorem someP_snoc (n : Nat) (ys : List (List UInt8)) (y : List UInt8) : someP n (ys ++ [y]) = match someP n ys with
    | .error e => .error e
    | .ok (ts, k) => match termP y with
      | none => .error 3
      | some t => if 30 < k + 1 then .error 4 else .ok (ts ++ [t], k + 1) := by
  induction ys generalizing n with
  | nil =>
    simp only [List.nil_append, someP] <;> (cases termP y <;> rfl)
  | cons x ys ih =>
    simp only [List.cons_append, someP]
    cases termP x with
    | none => rfl
    | some t =>
      simp only
      by_cases h : 30 < n + 1
      · rw [if_pos h, if_pos h]
      · rw [if_neg h, if_neg h, ih]
        cases someP (n + 1) ys with
        | error e => rfl
        | ok p =>
          obtain ⟨ts, k⟩ := p
          simp only
          cases termP y with
          | none => rfl
          | some t' =>
            simp only
            by_cases h2 : 30 < k + 1
            · rw [if_pos h2, if_pos h2]
            · rw [if_neg h2, if_neg h2]
              rfl

theorem someP_error {n : Nat} {a b : List (List UInt8)} {e : Int} (h : someP n a = .error e) : someP n (a ++ b) = .error e := by
  induction a generalizing n with
  | nil => simp [someP] at h
  | cons x a ih =>
    simp only [List.cons_append, someP] at h ⊢
    cases ht : termP x with
    | none => rw [ht] at h; exact h
    | some t =>
      rw [ht] at h
      simp only at h ⊢
      by_cases h2 : 30 < n + 1
      · rw [if_pos h2] at h ⊢; exact h
      · rw [if_neg h2] at h ⊢
        cases hs : someP (n + 1) a with
        | error e' =>
          rw [hs] at h
          injection h with h
          subst h
          rw [ih hs]
        | ok p => rw [hs] at h; cases h

/-- each, and how many packages in all -/
def eachC (n : Nat) : List (List UInt8) → Except Int (List (List Tm) × Nat)
  | [] => .ok ([], n)
  | x :: xs => match someP n (pieces 124 x) with
    | .error e => .error e
    | .ok (ts, k) => match eachC k xs with
      | .error e => .error e
      | .ok (r, m) => .ok (ts :: r, m)

theorem eachP_eq (n : Nat) (xs : List (List UInt8)) : eachP n xs = match eachC n xs with | .error e => .error e | .ok (r, _) => .ok r := by
  induction xs generalizing n with
  | nil => rfl
  | cons x xs ih =>
    simp only [eachP, eachC]
    cases someP n (pieces 124 x) with
    | error e => rfl
    | ok p =>
      obtain ⟨ts, k⟩ := p
      simp only
      rw [ih]
      cases eachC k xs with
      | error e => rfl
      | ok q => rfl

theorem eachC_snoc (n : Nat) (xs : List (List UInt8)) (x : List UInt8) : eachC n (xs ++ [x]) = match eachC n xs with
    | .error e => .error e
    | .ok (r, k) => match someP k (pieces 124 x) with
      | .error e => .error e
      | .ok (ts, m) => .ok (r ++ [ts], m) := by
  induction xs generalizing n with
  | nil =>
    simp only [List.nil_append, eachC]
  | cons y xs ih =>
    simp only [List.cons_append, eachC]
    cases someP n (pieces 124 y) with
    | error e => rfl
    | ok p =>
      obtain ⟨ts, k⟩ := p
      simp only
      rw [ih]
      cases eachC k xs with
      | error e => rfl
      | ok q =>
        obtain ⟨r, m⟩ := q
        simp only
        cases someP m (pieces 124 x) with
        | error e => rfl
        | ok p => rfl

theorem eachC_error {n : Nat} {a b : List (List UInt8)} {e : Int} (h : eachC n a = .error e) : eachC n (a ++ b) = .error e := by
  induction a generalizing n with
  | nil => simp [eachC] at h
  | cons x a ih =>
    simp only [List.cons_append, eachC] at h ⊢
    cases hs : someP n (pieces 124 x) with
    | error e' => rw [hs] at h; exact h
    | ok p =>
      obtain ⟨ts, k⟩ := p
      rw [hs] at h
      simp only at h ⊢
      cases he : eachC k a with
      | error e' =>
        rw [he] at h
        injection h with h
        subst h
        rw [ih he]
      | ok q => rw [he] at h; cases h

/-- an error of one of them is the whole's -/
theorem eachC_some_error {n k : Nat} {a b : List (List UInt8)} {x : List UInt8} {r : List (List Tm)} {e : Int} (h : eachC n a = .ok (r, k)) (hs : someP k (pieces 124 x) = .error e) : eachP n (a ++ x :: b) = .error e := by
  have h1 : eachC n (a ++ [x]) = .error e := by rw [eachC_snoc, h]; simp only; rw [hs]
  have h2 := eachC_error (b := b) h1
  rw [List.append_assoc, List.singleton_append] at h2
  rw [eachP_eq, h2]

/-- the bounds of how many -/
theorem someP_le {n : Nat} {ys : List (List UInt8)} {ts : List Tm} {k : Nat} (h : someP n ys = .ok (ts, k)) (hn : n ≤ 30) : k ≤ 30 := (someP_ok h).2.2.1 hn
theorem eachC_le {n : Nat} {xs : List (List UInt8)} {r : List (List Tm)} {k : Nat} (h : eachC n xs = .ok (r, k)) (hn : n ≤ 30) : k ≤ 30 := by
  induction xs generalizing n r k with
  | nil =>
    simp [eachC] at h
    omega
  | cons x xs ih =>
    simp only [eachC] at h
    cases hs : someP n (pieces 124 x) with
    | error e => rw [hs] at h; cases h
    | ok p =>
      obtain ⟨ts, m⟩ := p
      rw [hs] at h
      simp only at h
      cases he : eachC m xs with
      | error e => rw [he] at h; cases h
      | ok q =>
        obtain ⟨r', m'⟩ := q
        rw [he] at h
        simp only [Except.ok.injEq, Prod.mk.injEq] at h
        have := ih he (someP_le hs hn)
        omega
theorem someP_len {n : Nat} {ys : List (List UInt8)} {ts : List Tm} {k : Nat} (h : someP n ys = .ok (ts, k)) : ts.length + n = k := by
  obtain ⟨h1, h2, _⟩ := someP_ok h
  omega
end Go.Proofs.YtodbbfgkclkpgaaGreatDoor.VP

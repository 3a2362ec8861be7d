/- Plain: a walk that gathers the rings of a graph (visit), and what it leaves: each vertex in one set, no edge from a set to a later one. -/
import Derived.WalkKit
namespace Go.Proofs.YtpbbhjifgaeklaaGreatDoor
namespace TJ

/-- the walk's state -/
structure Tj where
  nums : List Nat
  low : List Nat
  opn : List Nat
  count : Nat
  sets : List (List Nat)

def g0 (l : List Nat) (i : Nat) : Nat := l.getD i 0
def srt (l : List Nat) : List Nat := l.mergeSort fun x y => decide (x ≤ y)
def hasN (l : List Nat) (x : Nat) : Bool := l.any fun y => y == x
def ixN (x : Nat) : List Nat → Nat
  | [] => 0
  | y :: l => if y = x then 0 else ixN x l + 1

def startT (v : Nat) (s : Tj) : Tj := { s with count := s.count + 1, nums := s.nums.set v (s.count + 1), low := s.low.set v (s.count + 1), opn := s.opn ++ [v] }
def endT (v : Nat) (s : Tj) : Tj := if g0 s.low v < g0 s.nums v then s else { s with sets := s.sets ++ [srt (s.opn.drop (ixN v s.opn))], opn := s.opn.take (ixN v s.opn) }
def lowT (v x : Nat) (s : Tj) : Tj := { s with low := s.low.set v (min (g0 s.low v) x) }
def stepT (rec : Nat → Tj → Tj) (v : Nat) (s : Tj) (u : Nat) : Tj :=
  if g0 s.nums u = 0 then lowT v (g0 (rec u s).low u) (rec u s) else if hasN s.opn u then lowT v (g0 s.nums u) s else s
/-- the walk from a vertex on -/
def visitT (out : Nat → List Nat) : Nat → Nat → Tj → Tj
  | 0, _, s => s
  | f + 1, v, s => endT v ((out v).foldl (stepT (visitT out f) v) (startT v s))

theorem perm_srt (l : List Nat) : (srt l).Perm l := List.mergeSort_perm l _
theorem srt_int (l : List Nat) : (l.map Int.ofNat).mergeSort (fun x y => decide (x ≤ y)) = (srt l).map Int.ofNat := by
  unfold srt
  exact (List.map_mergeSort (f := Int.ofNat) (r := fun x y : Nat => decide (x ≤ y)) (s := fun x y : Int => decide (x ≤ y)) (fun a _ b _ => by show decide (a ≤ b) = decide ((a : Int) ≤ (b : Int)); congr 1; simp)).symm
theorem mem_srt {l : List Nat} {x : Nat} : x ∈ srt l ↔ x ∈ l := (perm_srt l).mem_iff
theorem hasN_mem {l : List Nat} {x : Nat} : hasN l x = true ↔ x ∈ l := by
  unfold hasN
  rw [List.any_eq_true]
  constructor
  · rintro ⟨y, hy, h⟩
    rw [beq_iff_eq] at h
    exact h ▸ hy
  · intro h
    exact ⟨x, h, by simp⟩
theorem ixN_mid {x : Nat} : ∀ {l m : List Nat}, x ∉ l → ixN x (l ++ x :: m) = l.length
  | [], m, _ => by simp [ixN]
  | y :: l, m, h => by
    rw [List.mem_cons, not_or] at h
    simp only [List.cons_append, ixN, List.length_cons]
    rw [if_neg (Ne.symm h.1), ixN_mid h.2]

theorem g0_set {l : List Nat} {i j x : Nat} : g0 (l.set i x) j = if i = j ∧ i < l.length then x else g0 l j := by
  unfold g0
  rw [List.getD_eq_getElem?_getD, List.getD_eq_getElem?_getD, List.getElem?_set]
  by_cases h : i = j
  · subst h
    by_cases hl : i < l.length
    · simp [hl]
    · simp [hl]
  · simp [h]
theorem g0_same {l : List Nat} {i x : Nat} (h : i < l.length) : g0 (l.set i x) i = x := by rw [g0_set, if_pos ⟨rfl, h⟩]
theorem g0_other {l : List Nat} {i j x : Nat} (h : i ≠ j) : g0 (l.set i x) j = g0 l j := by rw [g0_set, if_neg fun e => h e.1]

/-- a set's place, at most so far -/
def Upto (sets : List (List Nat)) (i b : Nat) : Prop := ∃ j x, j ≤ i ∧ sets[j]? = some x ∧ b ∈ x

def zeros (n : Nat) (s : Tj) : Nat := (List.range n).countP fun v => g0 s.nums v == 0
structure Inv (n : Nat) (out : Nat → List Nat) (s : Tj) : Prop where
  la : s.nums.length = n
  ll : s.low.length = n
  vis : ∀ v, v < n → (g0 s.nums v ≠ 0 ↔ v ∈ s.opn ∨ ∃ x, x ∈ s.sets ∧ v ∈ x)
  nd : (s.opn ++ s.sets.flatten).Nodup
  lt : ∀ v, v ∈ s.opn ++ s.sets.flatten → v < n
  inc : s.opn.Pairwise fun a b => g0 s.nums a < g0 s.nums b
  cnt : ∀ v, g0 s.nums v ≤ s.count
  closed : ∀ i x, s.sets[i]? = some x → ∀ a, a ∈ x → ∀ b, b ∈ out a → Upto s.sets i b
  ne : ∀ x, x ∈ s.sets → x ≠ []
  sorted : ∀ x, x ∈ s.sets → ∃ y, x = srt y
  cz : s.count + zeros n s ≤ n

/-- what stays as it was: all that was come to -/
def Keeps (s t : Tj) : Prop := ∀ x, g0 s.nums x ≠ 0 → g0 t.nums x = g0 s.nums x ∧ g0 t.low x = g0 s.low x

/-- what a walk from v on leaves -/
structure Post (n : Nat) (out : Nat → List Nat) (v : Nat) (s t : Tj) : Prop where
  inv : Inv n out t
  keeps : Keeps s t
  num : g0 t.nums v = s.count + 1
  sets : ∃ T, t.sets = s.sets ++ T
  opn : ∃ R, t.opn = s.opn ++ R ∧ (∀ a, a ∈ R → s.count < g0 t.nums a ∧ ∀ b, b ∈ out a → g0 t.nums b ≠ 0 ∧ (b ∈ s.opn → g0 t.low v ≤ g0 t.nums b)) ∧
    ((R = [] ∧ g0 t.low v = g0 t.nums v) ∨ (g0 t.low v < g0 t.nums v ∧ ∃ b, b ∈ s.opn ∧ g0 t.low v = g0 t.nums b))

theorem countP_le_of {α : Type} {p q : α → Bool} : ∀ {l : List α}, (∀ x, x ∈ l → p x = true → q x = true) → l.countP p ≤ l.countP q
  | [], _ => Nat.le_refl _
  | a :: l, h => by
    have ih := countP_le_of (l := l) fun x hx => h x (List.mem_cons_of_mem _ hx)
    rw [List.countP_cons, List.countP_cons]
    have := h a List.mem_cons_self
    cases hp : p a with
    | false => simp only [Bool.false_eq_true, if_false]; omega
    | true => rw [this hp]; simp only [if_true]; omega
theorem countP_lt_of {α : Type} {p q : α → Bool} {a : α} : ∀ {l : List α}, (∀ x, x ∈ l → p x = true → q x = true) → a ∈ l → p a = false → q a = true → l.countP p < l.countP q
  | [], _, h, _, _ => by cases h
  | b :: l, h, ha, hp, hq => by
    rw [List.countP_cons, List.countP_cons]
    have h1 : ∀ x, x ∈ l → p x = true → q x = true := fun x hx => h x (List.mem_cons_of_mem _ hx)
    rcases List.mem_cons.1 ha with rfl | ha
    · have := countP_le_of h1
      rw [hp, hq]; simp only [Bool.false_eq_true, if_false, if_true]; omega
    · have ih := countP_lt_of h1 ha hp hq
      have := h b List.mem_cons_self
      cases hpb : p b with
      | false => simp only [Bool.false_eq_true, if_false]; omega
      | true => rw [this hpb]; simp only [if_true]; omega
theorem zeros_le {n : Nat} {s t : Tj} (h : Keeps s t) : zeros n t ≤ zeros n s := by
  unfold zeros
  refine countP_le_of fun x _ hx => ?_
  rw [beq_iff_eq] at hx ⊢
  rcases Nat.eq_zero_or_pos (g0 s.nums x) with h0 | h0
  · exact h0
  · have := (h x (by omega)).1
    omega
theorem zeros_lt {n : Nat} {s t : Tj} {v : Nat} (h : Keeps s t) (hv : v < n) (h0 : g0 s.nums v = 0) (h1 : g0 t.nums v ≠ 0) : zeros n t < zeros n s := by
  unfold zeros
  refine countP_lt_of (a := v) (fun x _ hx => ?_) (List.mem_range.2 hv) (by simp [h1]) (by simp [h0])
  rw [beq_iff_eq] at hx ⊢
  rcases Nat.eq_zero_or_pos (g0 s.nums x) with h2 | h2
  · exact h2
  · have := (h x (by omega)).1
    omega
theorem zeros_pos {n : Nat} {s : Tj} {v : Nat} (hv : v < n) (h0 : g0 s.nums v = 0) : 0 < zeros n s := by
  unfold zeros
  rw [List.countP_pos_iff]
  exact ⟨v, List.mem_range.2 hv, by simp [h0]⟩

theorem Keeps.refl (s : Tj) : Keeps s s := fun _ _ => ⟨rfl, rfl⟩
theorem Keeps.trans {s t u : Tj} (h : Keeps s t) (k : Keeps t u) : Keeps s u := fun x hx => by
  have h1 := h x hx
  have h2 := k x (by rw [h1.1]; exact hx)
  exact ⟨h2.1.trans h1.1, h2.2.trans h1.2⟩

theorem Upto.more {sets : List (List Nat)} {i b : Nat} (h : Upto sets i b) (T : List (List Nat)) : Upto (sets ++ T) i b := by
  obtain ⟨j, x, hj, hx, hb⟩ := h
  refine ⟨j, x, hj, ?_, hb⟩
  have := (List.getElem?_eq_some_iff.1 hx).1
  rw [List.getElem?_append_left this]
  exact hx

theorem Inv.start {n : Nat} {out : Nat → List Nat} {s : Tj} {v : Nat} (h : Inv n out s) (hv : v < n) (h0 : g0 s.nums v = 0) : Inv n out (startT v s) := by
  have hno : ¬ (v ∈ s.opn ∨ ∃ x, x ∈ s.sets ∧ v ∈ x) := fun e => (h.vis v hv).2 e h0
  have hl : v < s.nums.length := by rw [h.la]; exact hv
  refine ⟨by simp [startT, h.la], by simp [startT, h.ll], fun u hu => ?_, ?_, fun u hu => ?_, ?_, fun u => ?_, h.closed, h.ne, h.sorted, ?_⟩
  · show g0 (s.nums.set v (s.count + 1)) u ≠ 0 ↔ u ∈ s.opn ++ [v] ∨ _
    by_cases e : v = u
    · subst e
      rw [g0_same hl]
      exact ⟨fun _ => .inl (by simp), fun _ => by omega⟩
    · rw [g0_other e, h.vis u hu]
      show _ ↔ u ∈ s.opn ++ [v] ∨ ∃ x, x ∈ s.sets ∧ u ∈ x
      simp [Ne.symm e]
  · show ((s.opn ++ [v]) ++ s.sets.flatten).Nodup
    have h1 := h.nd
    rw [List.nodup_append] at h1 ⊢
    refine ⟨?_, h1.2.1, ?_⟩
    · rw [List.nodup_append]
      refine ⟨h1.1, by simp, ?_⟩
      intro a ha b hb e
      rw [List.mem_singleton] at hb
      subst hb e
      exact hno (.inl ha)
    · intro a ha b hb e
      subst e
      rcases List.mem_append.1 ha with ha | ha
      · exact h1.2.2 a ha a hb rfl
      · rw [List.mem_singleton] at ha
        subst ha
        obtain ⟨x, hx, hxa⟩ := List.mem_flatten.1 hb
        exact hno (.inr ⟨x, hx, hxa⟩)
  · have hu2 : u ∈ (s.opn ++ [v]) ++ s.sets.flatten := hu
    rw [List.append_assoc, List.mem_append, List.mem_append] at hu2
    rcases hu2 with e | e | e
    · exact h.lt u (List.mem_append_left _ e)
    · rw [List.mem_singleton] at e
      exact e ▸ hv
    · exact h.lt u (List.mem_append_right _ e)
  · show (s.opn ++ [v]).Pairwise fun a b => g0 (s.nums.set v (s.count + 1)) a < g0 (s.nums.set v (s.count + 1)) b
    rw [List.pairwise_append]
    refine ⟨h.inc.imp_of_mem ?_, by simp, ?_⟩
    · intro a b ha hb hab
      rw [g0_other (show v ≠ a from fun e => hno (.inl (by rw [e]; exact ha))), g0_other (show v ≠ b from fun e => hno (.inl (by rw [e]; exact hb)))]
      exact hab
    · intro a ha b hb
      rw [List.mem_singleton] at hb
      rw [hb, g0_same hl, g0_other (show v ≠ a from fun e => hno (.inl (by rw [e]; exact ha)))]
      have := h.cnt a
      omega
  · show g0 (s.nums.set v (s.count + 1)) u ≤ s.count + 1
    by_cases e : v = u
    · subst e
      rw [g0_same hl]
      exact Nat.le_refl _
    · rw [g0_other e]
      have := h.cnt u
      omega
  · have hk : Keeps s (startT v s) := fun x hx => by
      have hne : v ≠ x := fun e => hx (by rw [← e]; exact h0)
      exact ⟨g0_other hne, g0_other hne⟩
    have h1 : g0 (startT v s).nums v = s.count + 1 := g0_same hl
    have h2 := zeros_lt (n := n) hk hv h0 (by rw [h1]; omega)
    have h3 := h.cz
    show s.count + 1 + _ ≤ n
    omega

theorem Inv.low {n : Nat} {out : Nat → List Nat} {s : Tj} (h : Inv n out s) (v x : Nat) : Inv n out (lowT v x s) :=
  ⟨h.la, by simp [lowT, h.ll], h.vis, h.nd, h.lt, h.inc, h.cnt, h.closed, h.ne, h.sorted, h.cz⟩

/-- the loop over a vertex' edges: so many are done -/
structure Loop (n : Nat) (out : Nat → List Nat) (v : Nat) (s0 : Tj) (done : List Nat) (s : Tj) : Prop where
  inv : Inv n out s
  keeps : Keeps s0 s
  num : g0 s.nums v = s0.count + 1
  sets : ∃ T, s.sets = s0.sets ++ T
  low1 : g0 s.low v ≤ s0.count + 1
  low2 : g0 s.low v = s0.count + 1 ∨ ∃ b, b ∈ s0.opn ∧ g0 s.low v = g0 s.nums b
  dn : ∀ b, b ∈ done → g0 s.nums b ≠ 0 ∧ (b ∈ s0.opn → g0 s.low v ≤ g0 s.nums b)
  opn : ∃ R, s.opn = s0.opn ++ v :: R ∧ ∀ a, a ∈ R → s0.count + 1 < g0 s.nums a ∧ ∀ b, b ∈ out a → g0 s.nums b ≠ 0 ∧ (b ∈ s0.opn → g0 s.low v ≤ g0 s.nums b)
  cm : s0.count + 1 ≤ s.count

theorem step_loop {n : Nat} {out : Nat → List Nat} {v u f : Nat} {s0 s : Tj} {done : List Nat} (h0 : Inv n out s0) (hz0 : g0 s0.nums v = 0) (hv : v < n) (hu : u < n) (h : Loop n out v s0 done s)
    (ih : ∀ (x : Nat) (t : Tj), Inv n out t → x < n → g0 t.nums x = 0 → zeros n t ≤ f → Post n out x t (visitT out f x t)) (hz : zeros n s ≤ f) :
    Loop n out v s0 (done ++ [u]) (stepT (visitT out f) v s u) := by
  obtain ⟨R, hR, hRa⟩ := h.opn
  obtain ⟨T, hT⟩ := h.sets
  have hnv : g0 s.nums v ≠ 0 := by rw [h.num]; omega
  have hO : ∀ b, b ∈ s0.opn → g0 s.nums b ≠ 0 ∧ g0 s.nums b = g0 s0.nums b := fun b hb => by
    have h1 := (h0.vis b (h0.lt b (List.mem_append_left _ hb))).2 (.inl hb)
    have h2 := (h.keeps b h1).1
    exact ⟨by rw [h2]; exact h1, h2⟩
  have hOlt : ∀ b, b ∈ s0.opn → g0 s.nums b ≤ s0.count := fun b hb => by rw [(hO b hb).2]; exact h0.cnt b
  unfold stepT
  by_cases hu0 : g0 s.nums u = 0
  · rw [if_pos hu0]
    have P := ih u s h.inv hu hu0 hz
    generalize visitT out f u s = t at P ⊢
    have hvl : v < t.low.length := by rw [P.inv.ll]; exact hv
    have hkv := P.keeps v hnv
    obtain ⟨R', hR', hRa', hlow⟩ := P.opn
    obtain ⟨T', hT'⟩ := P.sets
    have hlo : g0 (lowT v (g0 t.low u) t).low v = min (g0 s.low v) (g0 t.low u) := by
      show g0 (t.low.set v _) v = _
      rw [g0_same hvl, hkv.2]
    have hOt : ∀ b, b ∈ s0.opn → g0 t.nums b = g0 s.nums b := fun b hb => (P.keeps b (hO b hb).1).1
    have hcm : s.count + 1 ≤ t.count := by have := P.inv.cnt u; rw [P.num] at this; exact this
    refine ⟨P.inv.low _ _, ?_, ?_, ⟨T ++ T', by show t.sets = _; rw [hT', hT, List.append_assoc]⟩, ?_, ?_, ?_, ?_, ?_⟩
    · refine fun x hx => ⟨((h.keeps.trans P.keeps) x hx).1, ?_⟩
      show g0 (t.low.set v _) x = _
      rw [g0_other (show v ≠ x from fun e => hx (by rw [← e]; exact hz0))]
      exact ((h.keeps.trans P.keeps) x hx).2
    · show g0 t.nums v = _
      rw [hkv.1, h.num]
    · rw [hlo]
      have := h.low1
      omega
    · rw [hlo]
      show _ ∨ ∃ b, b ∈ s0.opn ∧ _ = g0 t.nums b
      have h1 := h.low1
      have h2 := h.low2
      have key : g0 s.low v ≤ g0 t.low u ∨ ∃ b, b ∈ s0.opn ∧ g0 t.low u = g0 t.nums b := by
        rcases hlow with ⟨_, he⟩ | ⟨_, b, hb, he⟩
        · left
          rw [he, P.num]
          have := h.cm
          omega
        · rw [hR, List.mem_append, List.mem_cons] at hb
          rcases hb with hb | hb | hb
          · exact .inr ⟨b, hb, he⟩
          · left
            rw [he, hb, hkv.1, h.num]
            exact h1
          · left
            have := (hRa b hb).1
            rw [he, (P.keeps b (by omega)).1]
            omega
      rcases key with hk | ⟨b, hb, hk⟩
      · rw [Nat.min_eq_left hk]
        rcases h2 with h2 | ⟨b, hb, h2⟩
        · exact .inl h2
        · exact .inr ⟨b, hb, by rw [h2, hOt b hb]⟩
      · rcases Nat.le_total (g0 s.low v) (g0 t.low u) with hle | hle
        · rw [Nat.min_eq_left hle]
          rcases h2 with h2 | ⟨b, hb, h2⟩
          · exact .inl h2
          · exact .inr ⟨b, hb, by rw [h2, hOt b hb]⟩
        · rw [Nat.min_eq_right hle]
          exact .inr ⟨b, hb, hk⟩
    · intro b hb
      rw [hlo]
      show g0 t.nums b ≠ 0 ∧ (b ∈ s0.opn → _ ≤ g0 t.nums b)
      rcases List.mem_append.1 hb with hb | hb
      · have h1 := h.dn b hb
        rw [(P.keeps b h1.1).1]
        exact ⟨h1.1, fun e => Nat.le_trans (Nat.min_le_left _ _) (h1.2 e)⟩
      · rw [List.mem_singleton] at hb
        subst hb
        refine ⟨by rw [P.num]; omega, fun e => absurd hu0 (hO b e).1⟩
    · refine ⟨R ++ R', by show t.opn = _; rw [hR', hR]; simp, ?_⟩
      intro a ha
      rw [hlo]
      show s0.count + 1 < g0 t.nums a ∧ ∀ b, b ∈ out a → g0 t.nums b ≠ 0 ∧ (b ∈ s0.opn → _ ≤ g0 t.nums b)
      rcases List.mem_append.1 ha with ha | ha
      · have h1 := hRa a ha
        have h2 := (P.keeps a (by omega)).1
        refine ⟨by rw [h2]; exact h1.1, fun b hb => ?_⟩
        have h3 := h1.2 b hb
        rw [(P.keeps b h3.1).1]
        exact ⟨h3.1, fun e => Nat.le_trans (Nat.min_le_left _ _) (h3.2 e)⟩
      · have h1 := hRa' a ha
        refine ⟨by have := h.cm; omega, fun b hb => ?_⟩
        have h3 := h1.2 b hb
        refine ⟨h3.1, fun e => Nat.le_trans (Nat.min_le_right _ _) (h3.2 ?_)⟩
        rw [hR]
        exact List.mem_append_left _ e
    · show s0.count + 1 ≤ t.count
      have := h.cm
      omega
  · rw [if_neg hu0]
    have hdone : ∀ (t : Tj), t.nums = s.nums → g0 t.low v ≤ g0 s.low v → (u ∈ s0.opn → g0 t.low v ≤ g0 s.nums u) → ∀ b, b ∈ done ++ [u] → g0 t.nums b ≠ 0 ∧ (b ∈ s0.opn → g0 t.low v ≤ g0 t.nums b) := by
      intro t e hle hlu b hb
      rw [e]
      rcases List.mem_append.1 hb with hb | hb
      · exact ⟨(h.dn b hb).1, fun k => Nat.le_trans hle ((h.dn b hb).2 k)⟩
      · rw [List.mem_singleton] at hb
        subst hb
        exact ⟨hu0, hlu⟩
    cases hh : hasN s.opn u with
    | false =>
      rw [if_neg (by simp)]
      refine ⟨h.inv, h.keeps, h.num, h.sets, h.low1, h.low2, hdone s rfl (Nat.le_refl _) ?_, h.opn, h.cm⟩
      intro e
      have : u ∈ s.opn := by rw [hR]; exact List.mem_append_left _ e
      rw [hasN_mem.2 this] at hh
      cases hh
    | true =>
      rw [if_pos rfl]
      have hm := hasN_mem.1 hh
      have hvl : v < s.low.length := by rw [h.inv.ll]; exact hv
      have hlo : g0 (lowT v (g0 s.nums u) s).low v = min (g0 s.low v) (g0 s.nums u) := g0_same hvl
      refine ⟨h.inv.low _ _, ?_, h.num, h.sets, ?_, ?_, hdone (lowT v (g0 s.nums u) s) rfl ?_ ?_, ⟨R, hR, fun a ha => ⟨(hRa a ha).1, fun b hb => ⟨((hRa a ha).2 b hb).1, fun e => ?_⟩⟩⟩, h.cm⟩
      · refine fun x hx => ⟨(h.keeps x hx).1, ?_⟩
        show g0 (s.low.set v _) x = _
        rw [g0_other (show v ≠ x from fun e => hx (by rw [← e]; exact hz0))]
        exact (h.keeps x hx).2
      · rw [hlo]
        have := h.low1
        omega
      · rw [hlo]
        show _ ∨ ∃ b, b ∈ s0.opn ∧ _ = g0 s.nums b
        have h1 := h.low1
        have h2 := h.low2
        rcases Nat.le_total (g0 s.low v) (g0 s.nums u) with hle | hle
        · rw [Nat.min_eq_left hle]
          exact h2
        · rw [Nat.min_eq_right hle]
          rw [hR, List.mem_append, List.mem_cons] at hm
          rcases hm with hm | hm | hm
          · exact .inr ⟨u, hm, rfl⟩
          · exact .inl (by rw [hm, h.num])
          · have := (hRa u hm).1
            omega
      · rw [hlo]
        exact Nat.min_le_left _ _
      · intro _
        rw [hlo]
        exact Nat.min_le_right _ _
      · rw [hlo]
        exact Nat.le_trans (Nat.min_le_left _ _) (((hRa a ha).2 b hb).2 e)

theorem fold_loop {n : Nat} {out : Nat → List Nat} {v f : Nat} {s0 : Tj} (h0 : Inv n out s0) (hz0 : g0 s0.nums v = 0) (hv : v < n)
    (ih : ∀ (x : Nat) (t : Tj), Inv n out t → x < n → g0 t.nums x = 0 → zeros n t ≤ f → Post n out x t (visitT out f x t)) :
    ∀ (us : List Nat), (∀ u, u ∈ us → u < n) → ∀ (done : List Nat) (s : Tj), Loop n out v s0 done s → zeros n s ≤ f → Loop n out v s0 (done ++ us) (us.foldl (stepT (visitT out f) v) s)
  | [], _, done, s, h, _ => by rw [List.append_nil]; exact h
  | u :: us, hu, done, s, h, hz => by
    have h1 := step_loop h0 hz0 hv (hu u List.mem_cons_self) h ih hz
    have hz1 : zeros n (stepT (visitT out f) v s u) ≤ f := by
      refine Nat.le_trans ?_ hz
      unfold stepT
      by_cases hu0 : g0 s.nums u = 0
      · rw [if_pos hu0]
        have P := ih u s h.inv (hu u List.mem_cons_self) hu0 hz
        have hk := zeros_le (n := n) P.keeps
        exact hk
      · rw [if_neg hu0]
        split
        · exact Nat.le_of_eq rfl
        · exact Nat.le_refl _
    have h3 := fold_loop h0 hz0 hv ih us (fun x hx => hu x (List.mem_cons_of_mem _ hx)) (done ++ [u]) _ h1 hz1
    rw [List.append_assoc] at h3
    exact h3

theorem start_loop {n : Nat} {out : Nat → List Nat} {v : Nat} {s : Tj} (h : Inv n out s) (hv : v < n) (h0 : g0 s.nums v = 0) : Loop n out v s [] (startT v s) := by
  have hl : v < s.nums.length := by rw [h.la]; exact hv
  have hll : v < s.low.length := by rw [h.ll]; exact hv
  have e1 : g0 (startT v s).low v = s.count + 1 := g0_same hll
  refine ⟨h.start hv h0, fun x hx => ?_, g0_same hl, ⟨[], by simp [startT]⟩, by rw [e1]; exact Nat.le_refl _, .inl e1, fun b hb => (by cases hb), ⟨[], rfl, fun a ha => (by cases ha)⟩, Nat.le_refl _⟩
  have hne : v ≠ x := fun e => hx (by rw [← e]; exact h0)
  exact ⟨g0_other hne, g0_other hne⟩

theorem end_post {n : Nat} {out : Nat → List Nat} {v : Nat} {s0 s : Tj} (h0 : Inv n out s0) (hz0 : g0 s0.nums v = 0) (hv : v < n) (h : Loop n out v s0 (out v) s) : Post n out v s0 (endT v s) := by
  obtain ⟨R, hR, hRa⟩ := h.opn
  obtain ⟨T, hT⟩ := h.sets
  have hO : ∀ b, b ∈ s0.opn → g0 s.nums b ≤ s0.count := fun b hb => by
    have h1 := (h0.vis b (h0.lt b (List.mem_append_left _ hb))).2 (.inl hb)
    rw [(h.keeps b h1).1]
    exact h0.cnt b
  have hall : ∀ a, a ∈ v :: R → s0.count < g0 s.nums a ∧ ∀ b, b ∈ out a → g0 s.nums b ≠ 0 ∧ (b ∈ s0.opn → g0 s.low v ≤ g0 s.nums b) := by
    intro a ha
    rcases List.mem_cons.1 ha with rfl | ha
    · exact ⟨by rw [h.num]; omega, h.dn⟩
    · have := hRa a ha
      exact ⟨by omega, this.2⟩
  unfold endT
  by_cases hlow : g0 s.low v < g0 s.nums v
  · rw [if_pos hlow]
    refine ⟨h.inv, h.keeps, h.num, h.sets, v :: R, hR, hall, .inr ⟨hlow, ?_⟩⟩
    rcases h.low2 with h2 | h2
    · rw [h2, h.num] at hlow
      omega
    · exact h2
  · rw [if_neg hlow]
    have hlv : g0 s.low v = g0 s.nums v := by
      have := h.low1
      rw [h.num] at hlow ⊢
      omega
    have hvno : v ∉ s0.opn := fun e => (h0.vis v hv).2 (.inl e) hz0
    have hix : ixN v s.opn = s0.opn.length := by rw [hR]; exact ixN_mid hvno
    have hdrop : s.opn.drop (ixN v s.opn) = v :: R := by rw [hix, hR]; simp
    have htake : s.opn.take (ixN v s.opn) = s0.opn := by rw [hix, hR]; simp
    rw [hdrop, htake]
    have hmem : ∀ u, (u ∈ s0.opn ∨ ∃ x, x ∈ s.sets ++ [srt (v :: R)] ∧ u ∈ x) ↔ (u ∈ s.opn ∨ ∃ x, x ∈ s.sets ∧ u ∈ x) := by
      intro u
      rw [hR]
      constructor
      · rintro (e | ⟨x, hx, hu⟩)
        · exact .inl (List.mem_append_left _ e)
        · rcases List.mem_append.1 hx with hx | hx
          · exact .inr ⟨x, hx, hu⟩
          · rw [List.mem_singleton] at hx
            subst hx
            exact .inl (List.mem_append_right _ (mem_srt.1 hu))
      · rintro (e | ⟨x, hx, hu⟩)
        · rcases List.mem_append.1 e with e | e
          · exact .inl e
          · exact .inr ⟨_, List.mem_append_right _ (List.mem_singleton.2 rfl), mem_srt.2 e⟩
        · exact .inr ⟨x, List.mem_append_left _ hx, hu⟩
    have hperm : (s0.opn ++ (s.sets ++ [srt (v :: R)]).flatten).Perm (s.opn ++ s.sets.flatten) := by
      rw [hR, List.flatten_append, List.append_assoc]
      refine List.Perm.append_left _ ?_
      have e1 : ([srt (v :: R)] : List (List Nat)).flatten = srt (v :: R) := by simp
      rw [e1]
      exact (List.Perm.append_left _ (perm_srt _)).trans List.perm_append_comm
    refine ⟨⟨h.inv.la, h.inv.ll, fun u hu => ?_, hperm.nodup_iff.2 h.inv.nd, fun u hu => h.inv.lt u (hperm.mem_iff.1 hu), ?_, h.inv.cnt, ?_, ?_, ?_, h.inv.cz⟩, h.keeps, h.num, ⟨T ++ [srt (v :: R)], by show s.sets ++ _ = _; rw [hT, List.append_assoc]⟩, [], by show s0.opn = _; simp, fun a ha => (by cases ha), .inl ⟨rfl, hlv⟩⟩
    · rw [h.inv.vis u hu]
      exact (hmem u).symm
    · have := h.inv.inc
      rw [hR, List.pairwise_append] at this
      exact this.1
    · intro i x hx a ha b hb
      show Upto (s.sets ++ [srt (v :: R)]) i b
      by_cases hi : i < s.sets.length
      · rw [show (s.sets ++ [srt (v :: R)])[i]? = s.sets[i]? from List.getElem?_append_left hi] at hx
        exact (h.inv.closed i x hx a ha b hb).more _
      · have hi2 : i = s.sets.length := by
          have := (List.getElem?_eq_some_iff.1 hx).1
          rw [List.length_append, List.length_singleton] at this
          omega
        subst hi2
        have hx2 : srt (v :: R) = x := by simpa using hx
        subst hx2
        have h1 := (hall a (mem_srt.1 ha)).2 b hb
        have hbn : b < n := by
          rcases Nat.lt_or_ge b n with hb2 | hb2
          · exact hb2
          · have : g0 s.nums b = 0 := by
              unfold g0
              rw [List.getD_eq_getElem?_getD, List.getElem?_eq_none (by rw [h.inv.la]; exact hb2)]
              rfl
            exact absurd this h1.1
        rcases (h.inv.vis b hbn).1 h1.1 with hb2 | ⟨y, hy, hyb⟩
        · rw [hR] at hb2
          rcases List.mem_append.1 hb2 with hb3 | hb3
          · have h2 := h1.2 hb3
            have h3 := hO b hb3
            rw [hlv, h.num] at h2
            omega
          · exact ⟨s.sets.length, srt (v :: R), Nat.le_refl _, by simp, mem_srt.2 hb3⟩
        · obtain ⟨j, hj, hj2⟩ := List.getElem_of_mem hy
          exact ⟨j, y, by omega, by rw [List.getElem?_append_left hj, List.getElem?_eq_getElem hj, hj2], hyb⟩
    · intro x hx
      rcases List.mem_append.1 hx with hx | hx
      · exact h.inv.ne x hx
      · rw [List.mem_singleton] at hx
        subst hx
        intro e
        have := (perm_srt (v :: R)).length_eq
        rw [e] at this
        cases this
    · intro x hx
      rcases List.mem_append.1 hx with hx | hx
      · exact h.inv.sorted x hx
      · rw [List.mem_singleton] at hx
        exact ⟨_, hx⟩

theorem visit_post {n : Nat} {out : Nat → List Nat} (ho : ∀ a b, b ∈ out a → b < n) : ∀ (f v : Nat) (s : Tj), Inv n out s → v < n → g0 s.nums v = 0 → zeros n s ≤ f → Post n out v s (visitT out f v s)
  | 0, v, s, _, hv, h0, hz => by
    have := zeros_pos (n := n) (s := s) hv h0
    omega
  | f + 1, v, s, h, hv, h0, hz => by
    have hl := start_loop h hv h0
    have hz1 : zeros n (startT v s) ≤ f := by
      have := zeros_lt (n := n) hl.keeps hv h0 (by rw [hl.num]; omega)
      omega
    have h1 := fold_loop h h0 hv (fun x t hi hx hx0 hzx => visit_post ho f x t hi hx hx0 hzx) (out v) (fun u hu => ho v u hu) [] _ hl hz1
    exact end_post h h0 hv h1

/-- all vertices, one by one -/
def rootsT (out : Nat → List Nat) (f : Nat) (s : Tj) (v : Nat) : Tj := if g0 s.nums v = 0 then visitT out f v s else s
def newT (n : Nat) : Tj := ⟨List.replicate n 0, List.replicate n 0, [], 0, []⟩

theorem g0_replicate (n i : Nat) : g0 (List.replicate n 0) i = 0 := by
  unfold g0
  rw [List.getD_eq_getElem?_getD, List.getElem?_replicate]
  split <;> rfl
theorem inv_new (n : Nat) (out : Nat → List Nat) : Inv n out (newT n) :=
  ⟨by simp [newT], by simp [newT], fun v _ => by simp [newT, g0_replicate], by simp [newT], fun v hv => by simp [newT] at hv, by simp [newT], fun v => by simp [newT, g0_replicate],
    fun i x hx => by simp [newT] at hx, fun x hx => by simp [newT] at hx, fun x hx => by simp [newT] at hx, by unfold zeros newT; exact Nat.le_trans (Nat.le_of_eq (Nat.zero_add _)) (Nat.le_trans List.countP_le_length (by simp))⟩
theorem roots_inv {n : Nat} {out : Nat → List Nat} (ho : ∀ a b, b ∈ out a → b < n) : ∀ (vs : List Nat) (s : Tj), (∀ v, v ∈ vs → v < n) → Inv n out s → s.opn = [] →
    Inv n out (vs.foldl (rootsT out n) s) ∧ (vs.foldl (rootsT out n) s).opn = [] ∧ Keeps s (vs.foldl (rootsT out n) s) ∧ ∀ v, v ∈ vs → g0 (vs.foldl (rootsT out n) s).nums v ≠ 0
  | [], s, _, h, ho2 => ⟨h, ho2, Keeps.refl s, fun v hv => (by cases hv)⟩
  | v :: vs, s, hv, h, ho2 => by
    have hvn := hv v List.mem_cons_self
    have hz : zeros n s ≤ n := by
      unfold zeros
      exact Nat.le_trans List.countP_le_length (by simp)
    have key : Inv n out (rootsT out n s v) ∧ (rootsT out n s v).opn = [] ∧ Keeps s (rootsT out n s v) ∧ g0 (rootsT out n s v).nums v ≠ 0 := by
      unfold rootsT
      by_cases h0 : g0 s.nums v = 0
      · rw [if_pos h0]
        have P := visit_post ho n v s h hvn h0 hz
        refine ⟨P.inv, ?_, P.keeps, by rw [P.num]; omega⟩
        obtain ⟨R, hR, _, hl⟩ := P.opn
        rcases hl with ⟨e, _⟩ | ⟨_, b, hb, _⟩
        · rw [hR, ho2, e]; rfl
        · rw [ho2] at hb; cases hb
      · rw [if_neg h0]
        exact ⟨h, ho2, Keeps.refl s, h0⟩
    obtain ⟨k1, k2, k3, k4⟩ := key
    have ih := roots_inv ho vs _ (fun x hx => hv x (List.mem_cons_of_mem _ hx)) k1 k2
    refine ⟨ih.1, ih.2.1, k3.trans ih.2.2.1, fun x hx => ?_⟩
    rcases List.mem_cons.1 hx with hx | hx
    · subst hx
      show g0 (vs.foldl (rootsT out n) (rootsT out n s x)).nums x ≠ 0
      rw [(ih.2.2.1 x k4).1]
      exact k4
    · exact ih.2.2.2 x hx
/-- the sets of all -/
def setsT (n : Nat) (out : Nat → List Nat) : List (List Nat) := ((List.range n).foldl (rootsT out n) (newT n)).sets
structure Sets (n : Nat) (out : Nat → List Nat) (S : List (List Nat)) : Prop where
  all : ∀ v, v < n → ∃ x, x ∈ S ∧ v ∈ x
  nd : S.flatten.Nodup
  lt : ∀ v, v ∈ S.flatten → v < n
  closed : ∀ i x, S[i]? = some x → ∀ a, a ∈ x → ∀ b, b ∈ out a → Upto S i b
  ne : ∀ x, x ∈ S → x ≠ []
  sorted : ∀ x, x ∈ S → ∃ y, x = srt y
theorem sets_all {n : Nat} {out : Nat → List Nat} (ho : ∀ a b, b ∈ out a → b < n) : Sets n out (setsT n out) := by
  have h := roots_inv ho (List.range n) (newT n) (fun v hv => List.mem_range.1 hv) (inv_new n out) rfl
  unfold setsT
  generalize (List.range n).foldl (rootsT out n) (newT n) = t at h ⊢
  obtain ⟨h1, h2, _, h4⟩ := h
  have hnd := h1.nd
  have hlt := h1.lt
  rw [h2, List.nil_append] at hnd hlt
  refine ⟨fun v hv => ?_, hnd, hlt, h1.closed, h1.ne, h1.sorted⟩
  rcases (h1.vis v hv).1 (h4 v (List.mem_range.2 hv)) with e | e
  · rw [h2] at e; cases e
  · exact e
end TJ
end Go.Proofs.YtpbbhjifgaeklaaGreatDoor

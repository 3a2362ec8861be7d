/- Plain: a walk that gathers the rings of a graph (visit), and what it leaves: each vertex in one set, no edge from a set to a later one. · Plain: sets put in order (settleT), and the order of all (lineT): each of so many comes once. · Edges in memory; order.right of those that may be; slices.ContainsFunc over edges. · order.Line's and order.settle's closures. · Plain: who would miss one that goes, and of those again (needsT): what is left misses nothing, and nobody goes that would not miss it. · The walker of order.Rings in memory. · Rows of numbers: slices.Index, slices.Clone; the walker where only new memory was made. · sort.Strings at a row; the reference's Paths and Settings. -/
import Derived.WalkKit
import Derived.Test.YtofogjfemlhffaaGreatDoorSPK27
import Derived.Test.YtofogjfemlhffaaGreatDoorSPK4
import Derived.Test.YtofogjfemlhffaaGreatDoorSPK6
import Derived.Test.YtofogjfemlhffaaGreatDoorSPK16
import Derived.Sort.OwnSorted
import Derived.Test.YtofogjfemlhffaaGreatDoorSPK25
import Derived.Test.YtofogjfemlhffaaGreatDoorSPK19
namespace Go.Proofs.YtofogjfemlhffaaGreatDoor
namespace TJ

/-- the walk's state -/
structure Tj where
  nums : List Nat
  low : List Nat
  opn : List Nat
  count : Nat
  sets : List (List Nat)

def g0 (l : List Nat) (i : Nat) : Nat := l.getD i 0
def srt (l : List Nat) : List Nat := l.mergeSort fun x y => decide (x ≤ y)
def hasN (l : List Nat) (x : Nat) : Bool := l.any fun y => y == x
def ixN (x : Nat) : List Nat → Nat
  | [] => 0
  | y :: l => if y = x then 0 else ixN x l + 1

def startT (v : Nat) (s : Tj) : Tj := { s with count := s.count + 1, nums := s.nums.set v (s.count + 1), low := s.low.set v (s.count + 1), opn := s.opn ++ [v] }
def endT (v : Nat) (s : Tj) : Tj := if g0 s.low v < g0 s.nums v then s else { s with sets := s.sets ++ [srt (s.opn.drop (ixN v s.opn))], opn := s.opn.take (ixN v s.opn) }
def lowT (v x : Nat) (s : Tj) : Tj := { s with low := s.low.set v (min (g0 s.low v) x) }
def stepT (rec : Nat → Tj → Tj) (v : Nat) (s : Tj) (u : Nat) : Tj :=
  if g0 s.nums u = 0 then lowT v (g0 (rec u s).low u) (rec u s) else if hasN s.opn u then lowT v (g0 s.nums u) s else s
/-- the walk from a vertex on -/
def visitT (out : Nat → List Nat) : Nat → Nat → Tj → Tj
  | 0, _, s => s
  | f + 1, v, s => endT v ((out v).foldl (stepT (visitT out f) v) (startT v s))

theorem g0_set {l : List Nat} {i j x : Nat} : g0 (l.set i x) j = if i = j ∧ i < l.length then x else g0 l j := by
  unfold g0
  rw [List.getD_eq_getElem?_getD, List.getD_eq_getElem?_getD, List.getElem?_set]
  by_cases h : i = j
  · subst h
    by_cases hl : i < l.length
    · simp [hl]
    · simp [hl]
  · simp [h]
theorem g0_same {l : List Nat} {i x : Nat} (h : i < l.length) : g0 (l.set i x) i = x := by rw [g0_set, if_pos ⟨rfl, h⟩]
theorem g0_other {l : List Nat} {i j x : Nat} (h : i ≠ j) : g0 (l.set i x) j = g0 l j := by rw [g0_set, if_neg fun e => h e.1]

/-- a set's place, at most so far -/
def Upto (sets : List (List Nat)) (i b : Nat) : Prop := ∃ j x, j ≤ i ∧ sets[j]? = some x ∧ b ∈ x

def zeros (n : Nat) (s : Tj) : Nat := (List.range n).countP fun v => g0 s.nums v == 0
structure Inv (n : Nat) (out : Nat → List Nat) (s : Tj) : Prop where
  la : s.nums.length = n
  ll : s.low.length = n
  vis : ∀ v, v < n → (g0 s.nums v ≠ 0 ↔ v ∈ s.opn ∨ ∃ x, x ∈ s.sets ∧ v ∈ x)
  nd : (s.opn ++ s.sets.flatten).Nodup
  lt : ∀ v, v ∈ s.opn ++ s.sets.flatten → v < n
  inc : s.opn.Pairwise fun a b => g0 s.nums a < g0 s.nums b
  cnt : ∀ v, g0 s.nums v ≤ s.count
  closed : ∀ i x, s.sets[i]? = some x → ∀ a, a ∈ x → ∀ b, b ∈ out a → Upto s.sets i b
  ne : ∀ x, x ∈ s.sets → x ≠ []
  sorted : ∀ x, x ∈ s.sets → ∃ y, x = srt y
  cz : s.count + zeros n s ≤ n

/-- what stays as it was: all that was come to -/
def Keeps (s t : Tj) : Prop := ∀ x, g0 s.nums x ≠ 0 → g0 t.nums x = g0 s.nums x ∧ g0 t.low x = g0 s.low x

/-- what a walk from v on leaves -/
structure Post (n : Nat) (out : Nat → List Nat) (v : Nat) (s t : Tj) : Prop where
  inv : Inv n out t
  keeps : Keeps s t
  num : g0 t.nums v = s.count + 1
  sets : ∃ T, t.sets = s.sets ++ T
  opn : ∃ R, t.opn = s.opn ++ R ∧ (∀ a, a ∈ R → s.count < g0 t.nums a ∧ ∀ b, b ∈ out a → g0 t.nums b ≠ 0 ∧ (b ∈ s.opn → g0 t.low v ≤ g0 t.nums b)) ∧
    ((R = [] ∧ g0 t.low v = g0 t.nums v) ∨ (g0 t.low v < g0 t.nums v ∧ ∃ b, b ∈ s.opn ∧ g0 t.low v = g0 t.nums b))

theorem countP_le_of {α : Type} {p q : α → Bool} : ∀ {l : List α}, (∀ x, x ∈ l → p x = true → q x = true) → l.countP p ≤ l.countP q
  | [], _ => Nat.le_refl _
  | a :: l, h => by
    have ih := countP_le_of (l := l) fun x hx => h x (List.mem_cons_of_mem _ hx)
    rw [List.countP_cons, List.countP_cons]
    have := h a List.mem_cons_self
    cases hp : p a with
    | false => simp only [Bool.false_eq_true, if_false]; omega
    | true => rw [this hp]; simp only [if_true]; omega
theorem countP_lt_of {α : Type} {p q : α → Bool} {a : α} : ∀ {l : List α}, (∀ x, x ∈ l → p x = true → q x = true) → a ∈ l → p a = false → q a = true → l.countP p < l.countP q
  | [], _, h, _, _ => by cases h
  | b :: l, h, ha, hp, hq => by
    rw [List.countP_cons, List.countP_cons]
    have h1 : ∀ x, x ∈ l → p x = true → q x = true := fun x hx => h x (List.mem_cons_of_mem _ hx)
    rcases List.mem_cons.1 ha with rfl | ha
    · have := countP_le_of h1
      rw [hp, hq]; simp only [Bool.false_eq_true, if_false, if_true]; omega
    · have ih := countP_lt_of h1 ha hp hq
      have := h b List.mem_cons_self
      cases hpb : p b with
      | false => simp only [Bool.false_eq_true, if_false]; omega
      | true => rw [this hpb]; simp only [if_true]; omega
theorem zeros_lt {n : Nat} {s t : Tj} {v : Nat} (h : Keeps s t) (hv : v < n) (h0 : g0 s.nums v = 0) (h1 : g0 t.nums v ≠ 0) : zeros n t < zeros n s := by
  unfold zeros
  refine countP_lt_of (a := v) (fun x _ hx => ?_) (List.mem_range.2 hv) (by simp [h1]) (by simp [h0])
  rw [beq_iff_eq] at hx ⊢
  rcases Nat.eq_zero_or_pos (g0 s.nums x) with h2 | h2
  · exact h2
  · have := (h x (by omega)).1
    omega
theorem Keeps.refl (s : Tj) : Keeps s s := fun _ _ => ⟨rfl, rfl⟩
theorem Keeps.trans {s t u : Tj} (h : Keeps s t) (k : Keeps t u) : Keeps s u := fun x hx => by
  have h1 := h x hx
  have h2 := k x (by rw [h1.1]; exact hx)
  exact ⟨h2.1.trans h1.1, h2.2.trans h1.2⟩

theorem Upto.more {sets : List (List Nat)} {i b : Nat} (h : Upto sets i b) (T : List (List Nat)) : Upto (sets ++ T) i b := by
  obtain ⟨j, x, hj, hx, hb⟩ := h
  refine ⟨j, x, hj, ?_, hb⟩
  have := (List.getElem?_eq_some_iff.1 hx).1
  rw [List.getElem?_append_left this]
  exact hx

theorem Inv.start {n : Nat} {out : Nat → List Nat} {s : Tj} {v : Nat} (h : Inv n out s) (hv : v < n) (h0 : g0 s.nums v = 0) : Inv n out (startT v s) := by
  have hno : ¬ (v ∈ s.opn ∨ ∃ x, x ∈ s.sets ∧ v ∈ x) := fun e => (h.vis v hv).2 e h0
  have hl : v < s.nums.length := by rw [h.la]; exact hv
  refine ⟨by simp [startT, h.la], by simp [startT, h.ll], fun u hu => ?_, ?_, fun u hu => ?_, ?_, fun u => ?_, h.closed, h.ne, h.sorted, ?_⟩
  · show g0 (s.nums.set v (s.count + 1)) u ≠ 0 ↔ u ∈ s.opn ++ [v] ∨ _
    by_cases e : v = u
    · subst e
      rw [g0_same hl]
      exact ⟨fun _ => .inl (by simp), fun _ => by omega⟩
    · rw [g0_other e, h.vis u hu]
      show _ ↔ u ∈ s.opn ++ [v] ∨ ∃ x, x ∈ s.sets ∧ u ∈ x
      simp [Ne.symm e]
  · show ((s.opn ++ [v]) ++ s.sets.flatten).Nodup
    have h1 := h.nd
    rw [List.nodup_append] at h1 ⊢
    refine ⟨?_, h1.2.1, ?_⟩
    · rw [List.nodup_append]
      refine ⟨h1.1, by simp, ?_⟩
      intro a ha b hb e
      rw [List.mem_singleton] at hb
      subst hb e
      exact hno (.inl ha)
    · intro a ha b hb e
      subst e
      rcases List.mem_append.1 ha with ha | ha
      · exact h1.2.2 a ha a hb rfl
      · rw [List.mem_singleton] at ha
        subst ha
        obtain ⟨x, hx, hxa⟩ := List.mem_flatten.1 hb
        exact hno (.inr ⟨x, hx, hxa⟩)
  · have hu2 : u ∈ (s.opn ++ [v]) ++ s.sets.flatten := hu
    rw [List.append_assoc, List.mem_append, List.mem_append] at hu2
    rcases hu2 with e | e | e
    · exact h.lt u (List.mem_append_left _ e)
    · rw [List.mem_singleton] at e
      exact e ▸ hv
    · exact h.lt u (List.mem_append_right _ e)
  · show (s.opn ++ [v]).Pairwise fun a b => g0 (s.nums.set v (s.count + 1)) a < g0 (s.nums.set v (s.count + 1)) b
    rw [List.pairwise_append]
    refine ⟨h.inc.imp_of_mem ?_, by simp, ?_⟩
    · intro a b ha hb hab
      rw [g0_other (show v ≠ a from fun e => hno (.inl (by rw [e]; exact ha))), g0_other (show v ≠ b from fun e => hno (.inl (by rw [e]; exact hb)))]
      exact hab
    · intro a ha b hb
      rw [List.mem_singleton] at hb
      rw [hb, g0_same hl, g0_other (show v ≠ a from fun e => hno (.inl (by rw [e]; exact ha)))]
      have := h.cnt a
      omega
  · show g0 (s.nums.set v (s.count + 1)) u ≤ s.count + 1
    by_cases e : v = u
    · subst e
      rw [g0_same hl]
      exact Nat.le_refl _
    · rw [g0_other e]
      have := h.cnt u
      omega
  · have hk : Keeps s (startT v s) := fun x hx => by
      have hne : v ≠ x := fun e => hx (by rw [← e]; exact h0)
      exact ⟨g0_other hne, g0_other hne⟩
    have h1 : g0 (startT v s).nums v = s.count + 1 := g0_same hl
    have h2 := zeros_lt (n := n) hk hv h0 (by rw [h1]; omega)
    have h3 := h.cz
    show s.count + 1 + _ ≤ n
    omega

theorem Inv.low {n : Nat} {out : Nat → List Nat} {s : Tj} (h : Inv n out s) (v x : Nat) : Inv n out (lowT v x s) :=
  ⟨h.la, by simp [lowT, h.ll], h.vis, h.nd, h.lt, h.inc, h.cnt, h.closed, h.ne, h.sorted, h.cz⟩

/-- the loop over a vertex' edges: so many are done -/
structure Loop (n : Nat) (out : Nat → List Nat) (v : Nat) (s0 : Tj) (done : List Nat) (s : Tj) : Prop where
  inv : Inv n out s
  keeps : Keeps s0 s
  num : g0 s.nums v = s0.count + 1
  sets : ∃ T, s.sets = s0.sets ++ T
  low1 : g0 s.low v ≤ s0.count + 1
  low2 : g0 s.low v = s0.count + 1 ∨ ∃ b, b ∈ s0.opn ∧ g0 s.low v = g0 s.nums b
  dn : ∀ b, b ∈ done → g0 s.nums b ≠ 0 ∧ (b ∈ s0.opn → g0 s.low v ≤ g0 s.nums b)
  opn : ∃ R, s.opn = s0.opn ++ v :: R ∧ ∀ a, a ∈ R → s0.count + 1 < g0 s.nums a ∧ ∀ b, b ∈ out a → g0 s.nums b ≠ 0 ∧ (b ∈ s0.opn → g0 s.low v ≤ g0 s.nums b)
  cm : s0.count + 1 ≤ s.count

structure Sets (n : Nat) (out : Nat → List Nat) (S : List (List Nat)) : Prop where
  all : ∀ v, v < n → ∃ x, x ∈ S ∧ v ∈ x
  nd : S.flatten.Nodup
  lt : ∀ v, v ∈ S.flatten → v < n
  closed : ∀ i x, S[i]? = some x → ∀ a, a ∈ x → ∀ b, b ∈ out a → Upto S i b
  ne : ∀ x, x ∈ S → x ≠ []
  sorted : ∀ x, x ∈ S → ∃ y, x = srt y
end TJ
end Go.Proofs.YtofogjfemlhffaaGreatDoor

namespace Go.Proofs.YtofogjfemlhffaaGreatDoor
namespace TJ

abbrev EdgeN := Nat × Nat
/-- which are told, in order -/
structure Told (S : List (List Nat)) (dn : List Bool) (out : List (List Nat)) (p : List Nat) : Prop where
  nd : p.Nodup
  lt : ∀ i, i ∈ p → i < S.length
  len : dn.length = S.length
  dn : ∀ i, i < S.length → (dn.getD i false = true ↔ i ∈ p)
  out : out = p.map fun i => S.getD i []
end TJ
end Go.Proofs.YtofogjfemlhffaaGreatDoor

namespace Go.Proofs.YtofogjfemlhffaaGreatDoor
open Go Go.RowKit
open TJ (EdgeN)

def edgC (e : EdgeN) : List Value := [.int .i64 e.1, .int .i64 e.2]
def EdgesAt (w : World) (v : Value) (l : List EdgeN) : Prop := SlC edgC w v l
theorem EdgesAt.below {w w' : World} {v : Value} {l : List EdgeN} (h : EdgesAt w v l) (hb : Below w.heap.size w w') : EdgesAt w' v l := SlC.below h hb
theorem EdgesAt.open {w : World} {v : Value} {l : List EdgeN} (h : EdgesAt w v l) :
    ∃ A c, v = .slice A l.length c ∧ l.length ≤ c ∧ l.length ≤ 9223372036854775807 ∧ (l ≠ [] → ∃ b off, A = some ⟨b, off, none⟩ ∧ ∀ (i : Nat) (e : EdgeN), l[i]? = some e → w.cell? ⟨b, off + i * 2, none⟩ = some (.int .i64 e.1) ∧ w.cell? ⟨b, off + i * 2 + 1, none⟩ = some (.int .i64 e.2)) := by
  obtain ⟨A, c, hv, hc, hm, h⟩ := h
  refine ⟨A, c, hv, hc, hm, fun hn => ?_⟩
  obtain ⟨b, off, hA, hi⟩ := h hn
  have hs : ∀ e : EdgeN, (edgC e).length = 2 := fun _ => rfl
  refine ⟨b, off, hA, fun i e he => ⟨?_, ?_⟩⟩
  · exact hi (i * 2) _ (flat_at hs he 0 (by omega))
  · rw [Nat.add_assoc]
    exact hi (i * 2 + 1) _ (flat_at hs he 1 (by omega))

end Go.Proofs.YtofogjfemlhffaaGreatDoor

namespace Go.Proofs.YtofogjfemlhffaaGreatDoor
open Go Go.RowKit
open TJ (EdgeN hasN)

/-! numbers in a row -/
def natC (n : Nat) : List Value := [.int .i64 n]
def NatsAt (W : World) (v : Value) (l : List Nat) : Prop := SlC natC W v l
theorem flat_nats (l : List Nat) : l.flatMap natC = l.map fun n : Nat => Value.int .i64 n := by
  induction l with
  | nil => rfl
  | cons a r ih => rw [List.flatMap_cons, ih]; rfl
theorem NatsAt.below {w w' : World} {v : Value} {l : List Nat} (h : NatsAt w v l) (hb : Below w.heap.size w w') : NatsAt w' v l := SlC.below h hb
theorem NatsAt.open {w : World} {v : Value} {l : List Nat} (h : NatsAt w v l) :
    ∃ A c, v = .slice A l.length c ∧ l.length ≤ c ∧ l.length ≤ 9223372036854775807 ∧ (l ≠ [] → ∃ b off, A = some ⟨b, off, none⟩ ∧ ∀ (i : Nat) (x : Nat), l[i]? = some x → w.cell? ⟨b, off + i, none⟩ = some (.int .i64 x)) := by
  obtain ⟨A, c, hv, hc, hm, h⟩ := h
  refine ⟨A, c, hv, hc, hm, fun hn => ?_⟩
  obtain ⟨b, off, hA, hi⟩ := h hn
  refine ⟨b, off, hA, fun i x hx => hi i _ ?_⟩
  rw [flat_nats, List.getElem?_map, hx]
  rfl
end Go.Proofs.YtofogjfemlhffaaGreatDoor

namespace Go.Proofs.YtofogjfemlhffaaGreatDoor
namespace TJ
/-- so many; who works; is one's need met by those that are chosen -/
structure Ask where
  n : Nat
  works : Nat → Bool
  met : (Nat → Bool) → Nat → Bool
def leftN (A : Ask) (gone : List Nat) (i : Nat) : Bool := !(hasN gone i) && A.works i
structure GoneOk (A : Ask) (which : Nat) (gone : List Nat) : Prop where
  nd : gone.Nodup
  hd : ∃ r, gone = which :: r
  lt : ∀ i, i ∈ gone → i < A.n
  ok : ∀ i, i ∈ gone → i = which ∨ (A.works i = true ∧ A.met A.works i = true ∧ A.met (leftN A gone) i = false)
end TJ
end Go.Proofs.YtofogjfemlhffaaGreatDoor

namespace Go.Proofs.YtofogjfemlhffaaGreatDoor
open Go Go.RowKit
open TJ (EdgeN hasN Tj Inv g0 visitT zeros srt)

/-- what a call leaves as it was: all that lay ahead of B, but the three -/
structure WkKeep (B wb ba bl : Nat) (W W' : World) : Prop where
  os : W'.os = W.os
  tape : W'.tape = W.tape
  output : W'.output = W.output
  size : W.heap.size ≤ W'.heap.size
  block : ∀ i, i < B → i ≠ wb → i ≠ ba → i ≠ bl → W'.heap[i]? = W.heap[i]?
theorem WkKeep.refl (B wb ba bl : Nat) (W : World) : WkKeep B wb ba bl W W := ⟨rfl, rfl, rfl, Nat.le_refl _, fun _ _ _ _ _ => rfl⟩
theorem WkKeep.trans {B wb ba bl : Nat} {a b c : World} (h : WkKeep B wb ba bl a b) (k : WkKeep B wb ba bl b c) : WkKeep B wb ba bl a c :=
  ⟨k.os.trans h.os, k.tape.trans h.tape, k.output.trans h.output, Nat.le_trans h.size k.size, fun i hi h1 h2 h3 => (k.block i hi h1 h2 h3).trans (h.block i hi h1 h2 h3)⟩
theorem WkKeep.cell {B wb ba bl : Nat} {W W' : World} {a : Addr} {v : Value} (h : WkKeep B wb ba bl W W') (hB : a.block < B) (h1 : a.block ≠ wb) (h2 : a.block ≠ ba) (h3 : a.block ≠ bl) (hc : W.cell? a = some v) : W'.cell? a = some v := by
  have := h.block a.block hB h1 h2 h3
  unfold World.cell? at hc ⊢
  rw [this]; exact hc

/-- a row of numbers that stays: ahead of B, in none of the three -/
def NatsLow (B wb ba bl : Nat) (W : World) (v : Value) (l : List Nat) : Prop := NatsAt W v l ∧ (l ≠ [] → ∀ b off n c, v = .slice (some ⟨b, off, none⟩) n c → b < B ∧ b ≠ wb ∧ b ≠ ba ∧ b ≠ bl)
theorem NatsLow.keep {B wb ba bl : Nat} {W W' : World} {v : Value} {l : List Nat} (h : NatsLow B wb ba bl W v l) (k : WkKeep B wb ba bl W W') : NatsLow B wb ba bl W' v l := by
  obtain ⟨⟨A, c, rfl, hc, hm, hr⟩, ht⟩ := h
  refine ⟨⟨A, c, rfl, hc, hm, fun hn => ?_⟩, ht⟩
  obtain ⟨b, off, rfl, hi⟩ := hr hn
  obtain ⟨h0, h1, h2, h3⟩ := ht hn b off _ _ rfl
  exact ⟨b, off, rfl, fun j u hj => k.cell h0 h1 h2 h3 (hi j u hj)⟩
/-- who stands behind whom: the slice of slices at bo -/
def OutAt (B wb ba bl bo n : Nat) (W : World) (out : Nat → List Nat) : Prop := ∀ i, i < n → ∃ vi, W.cell? ⟨bo, i, none⟩ = some vi ∧ NatsLow B wb ba bl W vi (out i)
theorem OutAt.keep {B wb ba bl bo n : Nat} {W W' : World} {out : Nat → List Nat} (h : OutAt B wb ba bl bo n W out) (h0 : bo < B) (h1 : bo ≠ wb) (h2 : bo ≠ ba) (h3 : bo ≠ bl) (k : WkKeep B wb ba bl W W') : OutAt B wb ba bl bo n W' out := fun i hi => by
  obtain ⟨vi, hc, hv⟩ := h i hi
  exact ⟨vi, k.cell h0 h1 h2 h3 hc, hv.keep k⟩

theorem row_keep {W W' : World} {B : Nat} {e : TypeId} {sz n : Nat} {v : Value} {xs : List Value} (h : W.ownsRow B e sz v n xs) (hb : ∀ g, v.ownBlock = some g → W'.heap[g]? = W.heap[g]?) : W'.ownsRow B e sz v n xs := by
  refine ⟨h.1, ?_⟩
  rcases h.2 with h' | ⟨g, cap, cur, rfl, hB, hb', r⟩
  · exact .inl h'
  · exact .inr ⟨g, cap, cur, rfl, hB, (hb g rfl).trans hb', r⟩
theorem row_lt {W : World} {B : Nat} {e : TypeId} {sz n : Nat} {v : Value} {xs : List Value} (h : W.ownsRow B e sz v n xs) {g : Nat} (hg : v.ownBlock = some g) : B ≤ g ∧ g < W.heap.size := by
  rcases h.2 with ⟨rfl, _⟩ | ⟨g', cap, cur, rfl, hB, hb, _⟩
  · cases hg
  · injection hg with hg
    subst hg
    exact ⟨hB, (Array.getElem?_eq_some_iff.1 hb).1⟩
end Go.Proofs.YtofogjfemlhffaaGreatDoor

namespace Go.Proofs.YtofogjfemlhffaaGreatDoor
open Go Go.RowKit
open TJ (EdgeN hasN Tj Inv g0 visitT zeros srt endT ixN lowT)

theorem own_sl {W : World} {B size n : Nat} {e : TypeId} {v : Value} {xs : List Value} (h : W.ownsRow B e size v n xs) : ∃ A c, v = .slice A n c ∧ n ≤ c ∧ (n ≠ 0 → ∃ g, A = some ⟨g, 0, none⟩) := by
  rcases h.2 with ⟨rfl, h0⟩ | ⟨g, cap, cur, rfl, _, _, h1, _⟩
  · exact ⟨none, 0, by rw [h0], by omega, fun hn => absurd h0 hn⟩
  · exact ⟨_, cap, rfl, h1, fun _ => ⟨g, rfl⟩⟩
end Go.Proofs.YtofogjfemlhffaaGreatDoor

namespace Go.Proofs.YtofogjfemlhffaaGreatDoor
open Go Go.RowKit Go.Maps

theorem info_string : (Tryz.prog.info? 9).map (fun i => (i.zero, i.size, i.bytes)) = some (some (.string ⟨#[]⟩), 1, 16) := by kernel_rfl
theorem ssort_none (c : Nat) (w : World) : Calls Tryz.prog 48 #[.slice none 0 c] w fun E W => E = .returned (.tuple #[]) ∧ W = w := by
  have C := Lib.hid (Tryz.slices_Sort_string_none none c w)
  go_enter Tryz.func48, Tryz.ntmps48
  go_wp2_with fail
  refine C.out.mono ?_
  rintro E W ⟨rfl, rfl⟩
  go_wp2_with fail
  refine bodyPost_end (results_none rfl _ _ _) rfl ?_
  exact ⟨rfl, rfl⟩
theorem ssort_row (B : Nat) (v : Value) (L : List ByteArray) (w : World) (h : w.ownsRow B 9 1 v L.length (L.flatMap strC)) (hl : L.length ≤ 2000000) :
    Calls Tryz.prog 48 #[v] w fun E W => E = .returned (.tuple #[]) ∧ StrsAt W v (sortB L) ∧ w.grownBy W v.ownBlock := by
  rcases h.2 with ⟨rfl, he⟩ | ⟨g, cap, cur, rfl, hB, hb, h1, h2, h3, h4⟩
  · have hL : L = [] := by
      exact List.eq_nil_of_length_eq_zero he
    subst hL
    refine (ssort_none 0 w).mono ?_
    rintro E W ⟨he, hw⟩
    subst hw
    exact ⟨he, by rw [show sortB [] = [] from (sortB_perm []).eq_nil]; exact SlC.nil _ _ _, rfl, rfl, rfl, Nat.le_refl _, fun _ _ _ => rfl⟩
  · have e1 : (L.map fun s => s.data.toList).map encStr = L.flatMap strC := by
      rw [flat_strs, List.map_map]
      exact List.map_congr_left fun s _ => by cases s; simp [encStr]
    have hlen : (L.map fun s => s.data.toList).length = L.length := List.length_map _
    have hH := holds_of_block (ss := L.map fun s => s.data.toList) hb (by rw [e1, hlen]; simpa using h4)
    refine ((hlen ▸ Tryz.sort_Strings g 0 cap (L.map fun s : ByteArray => s.data.toList) w hH (Array.getElem?_eq_some_iff.1 hb).1 (by rw [hlen]; omega))).mono ?_
    rintro E W ⟨he, n, os, hw⟩
    subst hw
    have ho := ownsRow_sorted (w := w) (n := n) (os := os) (ss := L.map fun s => s.data.toList) (ts := (L.map fun s => s.data.toList).mergeSort fun x y => decide (x ≤ y)) (List.length_mergeSort _) hB hb (by rw [hlen]; exact h1) h2 h3
    have e2 : ((L.map fun s => s.data.toList).mergeSort fun x y => decide (x ≤ y)).map encStr = (sortB L).flatMap strC := by
      rw [flat_strs]
      unfold sortB
      rw [List.map_map]
      exact List.map_congr_left fun s _ => rfl
    rw [e2, hlen, ← sortB_len L] at ho
    refine ⟨he, ?_, grownBy_sorted _⟩
    have := (row_strsUp ho (by rw [sortB_len]; omega)).1
    rwa [sortB_len] at this

def StrsIs (l : List ByteArray) (w : World) (E : Ending) (w' : World) : Prop := ∃ v, E = .returned v ∧ StrsAt w' v l ∧ Below w.heap.size w w'

set_option maxHeartbeats 4000000 in
set_option maxRecDepth 100000 in
theorem rpaths_calls (r b0 b1 b2 : Nat) (Wm Dm Sm : Fm) (nm : ByteArray) (w : World) (h : RShAt w r b0 b1 b2 Wm Dm Sm) (hl : Wm.length ≤ 1000000) : Calls Tryz.prog 25 #[.pointer (some ⟨r, 0, none⟩), .string nm] w (StrsIs (pathsR Wm nm) w) := by
  have c0 := h.c0
  have hm := h.m0
  have HM := Lib.hid h.m0
  clear h
  go_enter Tryz.func25, Tryz.ntmps25
  go_wp2_with (at_range; refine wpList_rangeF _ rfl _ rfl b0 Wm rfl hm ?_; intro w5 hr5 hg5 hs5)
  go_frame
  obtain ⟨r1, hr1⟩ : ∃ r, w.heap.size = r := ⟨_, rfl⟩
  have HRE := Lib.hid hr1
  rw [hr1] at hr5 ⊢
  have HR5 := Lib.hid hr5
  have HB5 := Lib.hid (show Below w.heap.size w w5 from (Below.refl _ _).grown hg5 (Nat.le_refl _) (fun g e => by cases e))
  have HRL := Lib.hid (show b0 < r1 by have := HM.out.lt; omega)
  have HSZ := Lib.hid (show r1 < w5.heap.size by omega)
  clear hr5 hg5 hs5 hm hr1 c0
  go_loopw [5, 6, 7] (fun v _ _ wr => ∃ (left : Lit → Bool) (cnt n c : Nat) (A : Option Addr) (L : List ByteArray), v = .slice A n c ∧ n + cnt ≤ Wm.length ∧ Hid (L.length = n) ∧ Hid (RangesF wr b0 r1 Wm left cnt) ∧ Hid (wr.ownsRow (r1 + 1) 9 1 (.slice A n c) n (L.flatMap strC)) ∧ Hid (L.Nodup ∧ ∀ q : ByteArray, q ∈ L ↔ getF Wm q = some nm ∧ left (.string q.data.toList) = false) ∧ Hid (Below w.heap.size w wr) ∧ Hid (r1 < wr.heap.size)) (fun _ _ _ wr => wr.rangeLeft b0 r1)
  case atStart => exact ⟨_, _, 0, 0, none, [], rfl, by omega, Lib.hid rfl, HR5, Lib.hid (World.ownsRow_nil _ _ _ _), Lib.hid ⟨List.nodup_nil, fun q => ⟨fun h => (by cases h), fun ⟨h1, h2⟩ => by rw [datF_has, h1] at h2; cases h2⟩⟩, HB5, HSZ⟩
  case round =>
    obtain ⟨left, cnt, n, c, A, L, rfl, hnc, hn, hrg, hrow, hL, hB, hsz⟩ := hrel
    have hrgo := hrg.out
    go_wp2_with (at_next; refine wpList_nextF _ rfl _ rfl b0 r1 Wm left cnt rfl hrgo ?_ ?_)
    · intro hc0 hl0
      have CS := Lib.hid (ssort_row (r1 + 1) (.slice A n c) L wr (by rw [hn.out]; exact hrow.out) (by rw [hn.out]; omega))
      have HEQ := Lib.hid (show sortB L = pathsR Wm nm from srt_ext (srt_sort hL.out.1) (srt_pathsR HM.out.2 nm) fun q => by rw [(sortB_perm L).mem_iff, hL.out.2, mem_pathsR HM.out.2, hl0]; simp)
      clear hl0 hrgo
      go_wp2_with fail
      refine CS.out.mono ?_
      rintro E w9 ⟨rfl, hs9, hg9⟩
      have HS9 := Lib.hid hs9
      have HB9 := Lib.hid (hB.out.grown hg9 hB.out.size (fun g e => by have := (row_lt hrow.out e).1; have := HRE.out; omega))
      clear hs9 hg9 CS
      go_wp2_with fail
      go_ret
      exact ⟨_, rfl, by rw [← HEQ.out]; exact HS9.out, HB9.out⟩
    · intro x cc w6 cnt1 hgx hlx hrg1 hlt1 hg1 hs1 hen
      obtain ⟨bb, hbb⟩ : ∃ bb, decide (cc = nm) = bb := ⟨_, rfl⟩
      have hqf : (cc.toList == nm.toList) = bb := by rw [← hbb]; exact name_eq cc nm
      have HBB := Lib.hid hbb
      have HGX := Lib.hid hgx
      have HLX := Lib.hid hlx
      have HR1 := Lib.hid hrg1
      have HLT := Lib.hid hlt1
      have HE0 := Lib.hid hrg.out.1.left_eq
      have HROW := Lib.hid (row_keep hrow.out fun g e => hg1.block g (row_lt hrow.out e).2 (fun e2 => by injection e2 with e2; have := (row_lt hrow.out e).1; omega))
      have HB6 := Lib.hid (hB.out.grown hg1 hB.out.size (fun g e => by injection e with e; have := HRE.out; omega))
      have HSZ6 := Lib.hid (show r1 < w6.heap.size by have := hsz.out; omega)
      clear hbb hgx hlx hrg1 hlt1 hg1 hs1 hrgo
      cases bb with
      | false =>
        have HL' := Lib.hid (gath_no hL.out HGX.out (of_decide_eq_false HBB.out))
        have HE1 := Lib.hid HR1.out.1.left_eq
        go_wp2_with fail
        go_roundw
        case rel => first | exact ⟨_, _, n, c, A, L, rfl, by have := HLT.out; omega, hn, HR1, HROW, HL', HB6, HSZ6⟩ | ((repeat apply Exists.intro); exact ⟨⟨_, _, n, c, A, L, rfl, by have := HLT.out; omega, hn, HR1, HROW, HL', HB6, HSZ6⟩, rfl⟩)
        case measure => rw [HE1.out, HE0.out]; exact HLT.out
      | true =>
        have HL' := Lib.hid (gath_yes hL.out HGX.out (of_decide_eq_true HBB.out) HLX.out)
        have hsz6 := HSZ6.out
        have hlt6 := HLT.out
        go_wp2_with (at_builtin; obtain ⟨i0, hi, hz0, hz1, hz2⟩ := info_parts info_string; refine wpList_append_own_at _ rfl _ _ 40 rfl (r1 + 1) 9 i0 (.string ⟨#[]⟩) 1 16 Tryz.underlying40 hi hz0 hz1 hz2 rfl (by decide) _ _ _ rfl (HROW.out.alloc _) ⟨w6.heap.size, 0, none⟩ 1 1 [.string x] rfl rfl (cell_one_new _ _ _) (by simp [Value.oneCell']) (by simp only [maxLen]; omega) (by omega) (by simp; omega) ?_; clear hi hz0 hz1 hz2; intro v10 w10 hown10 hgrow10 hnil10 hloc10; obtain ⟨A10, c10, rfl, _, _⟩ := own_sl hown10; have HO10 := Lib.hid hown10; have HGR10 := Lib.hid hgrow10; clear hown10 hgrow10 hnil10 hloc10)
        have hga := below_alloc w6 (.cells #[.string x] 9)
        have HRW := Lib.hid (show w10.ownsRow (r1 + 1) 9 1 (.slice A10 (n + 1) c10) (n + 1) ((L ++ [x]).flatMap strC) from by rw [List.flatMap_append]; exact HO10.out)
        have HNE := Lib.hid (show ∀ g, Value.ownBlock (.slice A n c) = some g → r1 < g from fun g e => by have := (row_lt HROW.out e).1; omega)
        have HR2 := Lib.hid (show RangesF w10 b0 r1 Wm _ _ from (HR1.out.kept (World.grownBy_alloc w6 _ none) (by simp) (by simp)).kept HGR10.out (fun e => by have := HNE.out _ e.symm; have := HRL.out; omega) (fun e => by have := HNE.out _ e.symm; omega))
        have HE1 := Lib.hid HR2.out.1.left_eq
        have HB10 := Lib.hid ((HB6.out.trans (hga.mono HB6.out.size)).grown HGR10.out (Nat.le_trans HB6.out.size hga.size) fun g e => by have := HNE.out g e; have := HRE.out; omega)
        have HSZ10 := Lib.hid (show r1 < w10.heap.size from by have := HGR10.out.size; have := hga.size; omega)
        have HLN := Lib.hid (show (L ++ [x]).length = n + 1 by rw [List.length_append, hn.out]; rfl)
        clear hga HO10 HGR10
        go_roundw
        case rel => first | exact ⟨_, _, n + 1, c10, A10, _, rfl, by omega, HLN, HR2, HRW, HL', HB10, HSZ10⟩ | ((repeat apply Exists.intro); exact ⟨⟨_, _, n + 1, c10, A10, _, rfl, by omega, HLN, HR2, HRW, HL', HB10, HSZ10⟩, rfl⟩)
        case measure => rw [HE1.out, HE0.out]; exact hlt6
end Go.Proofs.YtofogjfemlhffaaGreatDoor

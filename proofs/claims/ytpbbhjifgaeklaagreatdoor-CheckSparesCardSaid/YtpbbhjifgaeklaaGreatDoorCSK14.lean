/- Plain: sets put in order (settleT), and the order of all (lineT): each of so many comes once. · Edges in memory; order.right of those that may be; slices.ContainsFunc over edges. -/
import Derived.Test.YtpbbhjifgaeklaaGreatDoorCSK13
import Derived.Test.YtpbbhjifgaeklaaGreatDoorCSK8
import Derived.Test.YtpbbhjifgaeklaaGreatDoorCSK5
namespace Go.Proofs.YtpbbhjifgaeklaaGreatDoor
namespace TJ

abbrev EdgeN := Nat × Nat
def outE (l : List EdgeN) (v : Nat) : List Nat := (l.filter fun e => e.1 == v).map fun e => e.2
def ofT (S : List (List Nat)) (v : Nat) : Nat := S.findIdx fun x => hasN x v
def waitsT (S : List (List Nat)) (l : List EdgeN) (dn : List Bool) (i : Nat) : Bool := l.any fun e => ofT S e.2 == i && !(ofT S e.1 == i) && !(dn.getD (ofT S e.1) false)
def headT (S : List (List Nat)) (i : Nat) : Nat := (S.getD i []).headD 0
def lessB (S : List (List Nat)) (b : Option Nat) (i : Nat) : Bool := match b with | none => true | some k => decide (headT S i < headT S k)
def bestStep (S : List (List Nat)) (l : List EdgeN) (dn : List Bool) (b : Option Nat) (i : Nat) : Option Nat :=
  if !(dn.getD i false) && !(waitsT S l dn i) && lessB S b i then some i else b
def bestT (S : List (List Nat)) (l : List EdgeN) (dn : List Bool) : Option Nat := (List.range S.length).foldl (bestStep S l dn) none
def settleT (S : List (List Nat)) (l : List EdgeN) : Nat → List Bool → List (List Nat) → List (List Nat)
  | 0, _, out => out
  | f + 1, dn, out => match bestT S l dn with
    | none => out
    | some b => settleT S l f (dn.set b true) (out ++ [S.getD b []])

theorem upto_of {S : List (List Nat)} {i b : Nat} (hb : Upto S i b) : ofT S b ≤ i := by
  obtain ⟨j, x, hj, hx, hb⟩ := hb
  obtain ⟨hl, he⟩ := List.getElem?_eq_some_iff.1 hx
  refine Nat.le_trans ?_ hj
  unfold ofT
  rcases Nat.lt_or_ge j (S.findIdx fun x => hasN x b) with h | h
  · have := List.not_of_lt_findIdx h
    rw [he, hasN_mem.2 hb] at this
    cases this
  · exact h
theorem nodup_two {S : List (List Nat)} (h : S.flatten.Nodup) {i j v : Nat} {x y : List Nat} (hx : S[i]? = some x) (hy : S[j]? = some y) (hvx : v ∈ x) (hvy : v ∈ y) : i = j := by
  induction S generalizing i j with
  | nil => simp at hx
  | cons z S ih =>
    rw [List.flatten_cons, List.nodup_append] at h
    have key : ∀ (k : Nat) (w : List Nat), S[k]? = some w → v ∈ w → v ∈ S.flatten := fun k w hk hw => List.mem_flatten.2 ⟨w, List.mem_of_getElem? hk, hw⟩
    cases i with
    | zero =>
      cases j with
      | zero => rfl
      | succ j =>
        simp only [List.getElem?_cons_zero, Option.some.injEq] at hx
        simp only [List.getElem?_cons_succ] at hy
        subst hx
        exact absurd rfl (h.2.2 v hvx v (key j y hy hvy))
    | succ i =>
      cases j with
      | zero =>
        simp only [List.getElem?_cons_zero, Option.some.injEq] at hy
        simp only [List.getElem?_cons_succ] at hx
        subst hy
        exact absurd rfl (h.2.2 v hvy v (key i x hx hvx))
      | succ j =>
        simp only [List.getElem?_cons_succ] at hx hy
        exact congrArg (· + 1) (ih h.2.1 hx hy)
theorem of_mem {S : List (List Nat)} (h : S.flatten.Nodup) {i v : Nat} {x : List Nat} (hx : S[i]? = some x) (hv : v ∈ x) : ofT S v = i := by
  have h1 : ofT S v ≤ i := upto_of ⟨i, x, Nat.le_refl _, hx, hv⟩
  have hi := (List.getElem?_eq_some_iff.1 hx).1
  have h2 : ofT S v < S.length := by omega
  have h3 : hasN (S[ofT S v]'h2) v = true := List.findIdx_getElem (w := h2)
  exact nodup_two h (List.getElem?_eq_getElem h2) hx (hasN_mem.1 h3) hv

theorem best_inv {S : List (List Nat)} {l : List EdgeN} {dn : List Bool} : ∀ (is : List Nat) (b : Option Nat), (∀ k, b = some k → k < S.length ∧ dn.getD k false = false) → (∀ i, i ∈ is → i < S.length) →
    (∀ k, is.foldl (bestStep S l dn) b = some k → k < S.length ∧ dn.getD k false = false) ∧ ((b ≠ none ∨ ∃ i, i ∈ is ∧ dn.getD i false = false ∧ waitsT S l dn i = false) → is.foldl (bestStep S l dn) b ≠ none)
  | [], b, hb, _ => ⟨hb, fun h => h.elim id fun ⟨_, hi, _⟩ => by cases hi⟩
  | i :: is, b, hb, hi => by
    have h1 : ∀ k, bestStep S l dn b i = some k → k < S.length ∧ dn.getD k false = false := by
      intro k hk
      unfold bestStep at hk
      split at hk
      · rename_i hc
        injection hk with hk
        subst hk
        refine ⟨hi i List.mem_cons_self, ?_⟩
        cases hd : dn.getD i false with
        | false => rfl
        | true => rw [hd] at hc; simp at hc
      · exact hb k hk
    have ih := best_inv (l := l) is _ h1 (fun x hx => hi x (List.mem_cons_of_mem _ hx))
    refine ⟨ih.1, fun h => ih.2 ?_⟩
    have hstep : b ≠ none → bestStep S l dn b i ≠ none := by
      intro hn
      unfold bestStep
      split
      · exact fun e => by cases e
      · exact hn
    rcases h with h | ⟨k, hk, hd, hw⟩
    · exact .inl (hstep h)
    · rcases List.mem_cons.1 hk with hk | hk
      · subst hk
        left
        cases b with
        | some c => exact hstep (fun e => by cases e)
        | none =>
          unfold bestStep
          rw [hd, hw]
          exact fun e => by cases e
      · exact .inr ⟨k, hk, hd, hw⟩

theorem max_exists (p : Nat → Bool) : ∀ n, (∃ i, i < n ∧ p i = true) → ∃ m, m < n ∧ p m = true ∧ ∀ j, m < j → j < n → p j = false
  | 0, ⟨_, h, _⟩ => by omega
  | n + 1, ⟨i, hi, hp⟩ => by
    cases hn : p n with
    | true => exact ⟨n, by omega, hn, fun j h1 h2 => by omega⟩
    | false =>
      have : i < n := by
        rcases Nat.lt_or_ge i n with h | h
        · exact h
        · have : i = n := by omega
          rw [this, hn] at hp
          cases hp
      obtain ⟨m, hm, hpm, hj⟩ := max_exists p n ⟨i, this, hp⟩
      refine ⟨m, by omega, hpm, fun j h1 h2 => ?_⟩
      rcases Nat.lt_or_ge j n with h | h
      · exact hj j h1 h
      · have : j = n := by omega
        rw [this]; exact hn

/-- an edge's set stands no later: who is behind comes out ahead -/
def EdgesOk (S : List (List Nat)) (l : List EdgeN) : Prop := ∀ e, e ∈ l → ofT S e.2 ≤ ofT S e.1 ∧ ofT S e.1 < S.length

theorem best_some {S : List (List Nat)} {l : List EdgeN} {dn : List Bool} (he : EdgesOk S l) (h : ∃ i, i < S.length ∧ dn.getD i false = false) : ∃ b, bestT S l dn = some b ∧ b < S.length ∧ dn.getD b false = false := by
  obtain ⟨i, hi, hd⟩ := h
  obtain ⟨m, hm, hpm, hj⟩ := max_exists (fun i => !(dn.getD i false)) S.length ⟨i, hi, by rw [hd]; rfl⟩
  have hpm2 : dn.getD m false = false := by simpa using hpm
  have hw : waitsT S l dn m = false := by
    unfold waitsT
    rw [List.any_eq_false]
    intro e hel hc
    have h1 := he e hel
    simp only [Bool.and_eq_true, Bool.not_eq_true', beq_iff_eq, beq_eq_false_iff_ne] at hc
    obtain ⟨⟨c1, c2⟩, c3⟩ := hc
    have h2 : m < ofT S e.1 := by omega
    have h3 := hj _ h2 h1.2
    rw [c3] at h3
    cases h3
  have B := best_inv (S := S) (l := l) (dn := dn) (List.range S.length) none (fun k hk => by cases hk) (fun i hi => List.mem_range.1 hi)
  have hne := B.2 (.inr ⟨m, List.mem_range.2 hm, hpm2, hw⟩)
  cases hb : (List.range S.length).foldl (bestStep S l dn) none with
  | none => exact absurd hb hne
  | some b => exact ⟨b, hb, B.1 b hb⟩

/-- which are told, in order -/
structure Told (S : List (List Nat)) (dn : List Bool) (out : List (List Nat)) (p : List Nat) : Prop where
  nd : p.Nodup
  lt : ∀ i, i ∈ p → i < S.length
  len : dn.length = S.length
  dn : ∀ i, i < S.length → (dn.getD i false = true ↔ i ∈ p)
  out : out = p.map fun i => S.getD i []
theorem nodup_le {p : List Nat} {n : Nat} (h : p.Nodup) (hl : ∀ i, i ∈ p → i < n) : p.length ≤ n := by
  have h1 := List.Nodup.length_le_of_subset h (fun i hi => List.mem_range.2 (hl i hi))
  rwa [List.length_range] at h1
theorem told_free {S : List (List Nat)} {dn : List Bool} {out : List (List Nat)} {p : List Nat} (h : Told S dn out p) (hl : p.length < S.length) : ∃ i, i < S.length ∧ dn.getD i false = false := by
  by_cases hx : ∃ i, i < S.length ∧ i ∉ p
  · obtain ⟨i, hi, hp⟩ := hx
    refine ⟨i, hi, ?_⟩
    cases hd : dn.getD i false with
    | false => rfl
    | true => exact absurd ((h.dn i hi).1 hd) hp
  · exfalso
    have h1 : ∀ i, i ∈ List.range S.length → i ∈ p := fun i hi => Classical.byContradiction fun e => hx ⟨i, List.mem_range.1 hi, e⟩
    have h2 := List.Nodup.length_le_of_subset List.nodup_range h1
    rw [List.length_range] at h2
    omega
theorem settle_told {S : List (List Nat)} {l : List EdgeN} (he : EdgesOk S l) : ∀ (f : Nat) (dn : List Bool) (out : List (List Nat)) (p : List Nat), Told S dn out p → p.length + f = S.length →
    ∃ q, Told S (q.foldl (fun d i => d.set i true) (List.replicate S.length false)) (settleT S l f dn out) q ∧ q.length = S.length
  | 0, dn, out, p, h, hf => by
    refine ⟨p, ⟨h.nd, h.lt, ?_, ?_, h.out⟩, by omega⟩
    · have : ∀ (q : List Nat) (d : List Bool), (q.foldl (fun d i => d.set i true) d).length = d.length := by
        intro q
        induction q with
        | nil => intro d; rfl
        | cons a q ih => intro d; rw [List.foldl_cons, ih, List.length_set]
      rw [this, List.length_replicate]
    · intro i hi
      have key : ∀ (q : List Nat) (d : List Bool), d.length = S.length → ((q.foldl (fun d i => d.set i true) d).getD i false = true ↔ (d.getD i false = true ∨ i ∈ q)) := by
        intro q
        induction q with
        | nil => intro d _; simp
        | cons a q ih =>
          intro d hd
          rw [List.foldl_cons, ih _ (by rw [List.length_set]; exact hd)]
          rw [List.getD_eq_getElem?_getD, List.getElem?_set, List.mem_cons]
          by_cases e : a = i
          · subst e
            rw [if_pos rfl, if_pos (by omega)]
            simp
          · rw [if_neg e, List.getD_eq_getElem?_getD]
            have : ¬ i = a := fun k => e k.symm
            simp [this]
      rw [key p _ (by simp)]
      have : (List.replicate S.length false).getD i false = false := by
        rw [List.getD_eq_getElem?_getD, List.getElem?_replicate]
        split <;> rfl
      rw [this]
      simp
  | f + 1, dn, out, p, h, hf => by
    obtain ⟨b, hb, hbl, hbd⟩ := best_some he (told_free h (by omega))
    have hbp : b ∉ p := fun e => by
      have := (h.dn b hbl).2 e
      rw [hbd] at this
      cases this
    have h1 : Told S (dn.set b true) (out ++ [S.getD b []]) (p ++ [b]) := by
      refine ⟨?_, fun i hi => ?_, by rw [List.length_set]; exact h.len, fun i hi => ?_, by rw [h.out, List.map_append]; rfl⟩
      · rw [List.nodup_append]
        refine ⟨h.nd, by simp, fun a ha c hc e => ?_⟩
        rw [List.mem_singleton] at hc
        exact hbp (by rw [← hc, ← e]; exact ha)
      · rcases List.mem_append.1 hi with hi | hi
        · exact h.lt i hi
        · rw [List.mem_singleton] at hi
          omega
      · rw [List.getD_eq_getElem?_getD, List.getElem?_set, List.mem_append, List.mem_singleton]
        by_cases e : b = i
        · subst e
          rw [if_pos rfl, if_pos (by rw [h.len]; exact hbl)]
          simp
        · rw [if_neg e, ← List.getD_eq_getElem?_getD, h.dn i hi]
          constructor
          · exact .inl
          · rintro (k | k)
            · exact k
            · exact absurd k.symm e
    have h2 := settle_told he f _ _ _ h1 (by rw [List.length_append, List.length_singleton]; omega)
    unfold settleT
    rw [hb]
    exact h2
theorem range_map_getD (S : List (List Nat)) : (List.range S.length).map (fun i => S.getD i []) = S := by
  refine List.ext_getElem (by simp) fun i h1 h2 => ?_
  rw [List.getElem_map, List.getElem_range, List.getD_eq_getElem?_getD, List.getElem?_eq_getElem h2]
  rfl
theorem perm_range {q : List Nat} {n : Nat} (h : q.Nodup) (hl : ∀ i, i ∈ q → i < n) (hn : q.length = n) : q.Perm (List.range n) := by
  have hs : ∀ i, i ∈ List.range n → i ∈ q := by
    intro i hi
    refine Classical.byContradiction fun e => ?_
    have h1 : (i :: q).Nodup := List.nodup_cons.2 ⟨e, h⟩
    have h2 := nodup_le h1 (fun j hj => by
      rcases List.mem_cons.1 hj with hj | hj
      · rw [hj]; exact List.mem_range.1 hi
      · exact hl j hj)
    rw [List.length_cons] at h2
    omega
  refine (List.perm_ext_iff_of_nodup h List.nodup_range).2 fun i => ⟨fun hi => List.mem_range.2 (hl i hi), hs i⟩
/-- sets in order: all of them -/
def orderT (S : List (List Nat)) (l : List EdgeN) : List (List Nat) := settleT S l S.length (List.replicate S.length false) []
theorem order_perm {S : List (List Nat)} {l : List EdgeN} (he : EdgesOk S l) : (orderT S l).Perm S := by
  have h0 : Told S (List.replicate S.length false) [] [] := by
    refine ⟨List.nodup_nil, fun i hi => (by cases hi), by simp, fun i hi => ?_, rfl⟩
    rw [List.getD_eq_getElem?_getD, List.getElem?_replicate, if_pos hi]
    simp
  obtain ⟨q, hq, hl⟩ := settle_told he S.length _ _ _ h0 (by simp)
  have h1 := (perm_range hq.nd hq.lt hl).map fun i => S.getD i []
  rw [range_map_getD] at h1
  unfold orderT
  rw [hq.out]
  exact h1

/-- of a ring: the next one -/
def nextT (strong : List EdgeN) (left : List Nat) : Nat :=
  match left.findIdx? fun v => !(strong.any fun e => e.2 == v && !(e.1 == v) && hasN left e.1) with
  | some k => k
  | none => 0
def ringT (strong : List EdgeN) : Nat → List Nat → List Nat → List Nat
  | 0, _, out => out
  | f + 1, left, out => ringT strong f (left.eraseIdx (nextT strong left)) (out ++ [left.getD (nextT strong left) 0])
theorem next_lt (strong : List EdgeN) {left : List Nat} (h : left ≠ []) : nextT strong left < left.length := by
  unfold nextT
  split
  · rename_i k hk
    exact (List.findIdx?_eq_some_iff_findIdx_eq.1 hk).1
  · cases left with
    | nil => exact absurd rfl h
    | cons a l => simp
theorem perm_erase : ∀ {l : List Nat} {k : Nat}, k < l.length → l.Perm (l.getD k 0 :: l.eraseIdx k)
  | a :: l, 0, _ => by simp
  | a :: l, k + 1, h => by
    rw [List.eraseIdx_cons_succ]
    have := perm_erase (l := l) (k := k) (by simpa using h)
    rw [List.getD_cons_succ]
    exact (this.cons a).trans (.swap _ _ _)
theorem ring_perm (strong : List EdgeN) : ∀ (f : Nat) (left out : List Nat), left.length = f → (ringT strong f left out).Perm (out ++ left)
  | 0, left, out, h => by
    have : left = [] := List.length_eq_zero_iff.1 h
    subst this
    rw [List.append_nil]
    exact .refl _
  | f + 1, left, out, h => by
    have hk := next_lt strong (left := left) (fun e => by rw [e] at h; cases h)
    have ih := ring_perm strong f (left.eraseIdx (nextT strong left)) (out ++ [left.getD (nextT strong left) 0]) (by rw [List.length_eraseIdx_of_lt hk, h]; rfl)
    unfold ringT
    refine ih.trans ?_
    rw [List.append_assoc]
    exact List.Perm.append_left _ (perm_erase hk).symm
def ringsT (n : Nat) (l : List EdgeN) : List (List Nat) := orderT (setsT n (outE l)) l
def lineT (n : Nat) (weak strong : List EdgeN) : List Nat := (ringsT n (weak ++ strong)).foldl (fun out r => ringT strong r.length r out) []
theorem line_fold (strong : List EdgeN) : ∀ (rs : List (List Nat)) (out : List Nat), (rs.foldl (fun out r => ringT strong r.length r out) out).Perm (out ++ rs.flatten)
  | [], out => by simp
  | r :: rs, out => by
    rw [List.foldl_cons, List.flatten_cons]
    refine (line_fold strong rs _).trans ?_
    rw [← List.append_assoc]
    exact List.Perm.append_right _ (ring_perm strong _ r out rfl)
theorem perm_flatten {S T : List (List Nat)} (h : S.Perm T) : S.flatten.Perm T.flatten := by
  induction h with
  | nil => exact .refl _
  | cons x _ ih => rw [List.flatten_cons, List.flatten_cons]; exact List.Perm.append_left _ ih
  | swap x y l =>
    rw [List.flatten_cons, List.flatten_cons, List.flatten_cons, List.flatten_cons, ← List.append_assoc, ← List.append_assoc]
    exact List.Perm.append_right _ List.perm_append_comm
  | trans _ _ i1 i2 => exact i1.trans i2
theorem mem_outE {l : List EdgeN} {a b : Nat} : b ∈ outE l a ↔ (a, b) ∈ l := by
  unfold outE
  rw [List.mem_map]
  constructor
  · rintro ⟨e, he, rfl⟩
    rw [List.mem_filter] at he
    have h2 : e.1 = a := by simpa using he.2
    subst h2
    exact he.1
  · intro h
    exact ⟨(a, b), List.mem_filter.2 ⟨h, by simp⟩, rfl⟩
theorem sets_ok {n : Nat} {l : List EdgeN} (h : ∀ e, e ∈ l → e.1 < n ∧ e.2 < n) : Sets n (outE l) (setsT n (outE l)) ∧ EdgesOk (setsT n (outE l)) l := by
  have hS := sets_all (n := n) (out := outE l) (fun a b hb => (h (a, b) (mem_outE.1 hb)).2)
  refine ⟨hS, fun e he => ?_⟩
  obtain ⟨x, hx, hv⟩ := hS.all e.1 (h e he).1
  obtain ⟨i, hi, hi2⟩ := List.getElem_of_mem hx
  have hx2 : (setsT n (outE l))[i]? = some x := by rw [List.getElem?_eq_getElem hi, hi2]
  have h1 := of_mem hS.nd hx2 hv
  rw [h1]
  exact ⟨upto_of (hS.closed i x hx2 e.1 hv e.2 (mem_outE.2 he)), hi⟩
theorem rings_perm {n : Nat} {l : List EdgeN} (h : ∀ e, e ∈ l → e.1 < n ∧ e.2 < n) : (ringsT n l).Perm (setsT n (outE l)) := order_perm (sets_ok h).2
theorem sets_perm {n : Nat} {out : Nat → List Nat} {S : List (List Nat)} (h : Sets n out S) : S.flatten.Perm (List.range n) := by
  refine (List.perm_ext_iff_of_nodup h.nd List.nodup_range).2 fun i => ⟨fun hi => List.mem_range.2 (h.lt i hi), fun hi => ?_⟩
  obtain ⟨x, hx, hv⟩ := h.all i (List.mem_range.1 hi)
  exact List.mem_flatten.2 ⟨x, hx, hv⟩
/-- each comes once -/
theorem line_perm {n : Nat} {weak strong : List EdgeN} (hw : ∀ e, e ∈ weak → e.1 < n ∧ e.2 < n) (hs : ∀ e, e ∈ strong → e.1 < n ∧ e.2 < n) : (lineT n weak strong).Perm (List.range n) := by
  have h : ∀ e, e ∈ weak ++ strong → e.1 < n ∧ e.2 < n := fun e he => (List.mem_append.1 he).elim (hw e) (hs e)
  have h1 := line_fold strong (ringsT n (weak ++ strong)) []
  rw [List.nil_append] at h1
  exact h1.trans ((perm_flatten (rings_perm h)).trans (sets_perm (sets_ok h).1))
end TJ
end Go.Proofs.YtpbbhjifgaeklaaGreatDoor

namespace Go.Proofs.YtpbbhjifgaeklaaGreatDoor
open Go Go.RowKit
open TJ (EdgeN)

def edgC (e : EdgeN) : List Value := [.int .i64 e.1, .int .i64 e.2]
def edgV (e : EdgeN) : Value := .agg #[.int .i64 e.1, .int .i64 e.2]
def EdgesAt (w : World) (v : Value) (l : List EdgeN) : Prop := SlC edgC w v l
theorem EdgesAt.below {w w' : World} {v : Value} {l : List EdgeN} (h : EdgesAt w v l) (hb : Below w.heap.size w w') : EdgesAt w' v l := SlC.below h hb
theorem EdgesAt.open {w : World} {v : Value} {l : List EdgeN} (h : EdgesAt w v l) :
    ∃ A c, v = .slice A l.length c ∧ l.length ≤ c ∧ l.length ≤ 9223372036854775807 ∧ (l ≠ [] → ∃ b off, A = some ⟨b, off, none⟩ ∧ ∀ (i : Nat) (e : EdgeN), l[i]? = some e → w.cell? ⟨b, off + i * 2, none⟩ = some (.int .i64 e.1) ∧ w.cell? ⟨b, off + i * 2 + 1, none⟩ = some (.int .i64 e.2)) := by
  obtain ⟨A, c, hv, hc, hm, h⟩ := h
  refine ⟨A, c, hv, hc, hm, fun hn => ?_⟩
  obtain ⟨b, off, hA, hi⟩ := h hn
  have hs : ∀ e : EdgeN, (edgC e).length = 2 := fun _ => rfl
  refine ⟨b, off, hA, fun i e he => ⟨?_, ?_⟩⟩
  · exact hi (i * 2) _ (flat_at hs he 0 (by omega))
  · rw [Nat.add_assoc]
    exact hi (i * 2 + 1) _ (flat_at hs he 1 (by omega))

set_option maxHeartbeats 1000000 in
set_option maxRecDepth 100000 in
theorem ordRight_calls (n : Nat) (v : Value) (l : List EdgeN) (w : World) (hn : n ≤ 40) (h : EdgesAt w v l) (hl : ∀ e, e ∈ l → e.1 < n ∧ e.2 < n) :
    Calls Tryz.prog 170 #[.int .i64 n, v] w fun E w' => E = .returned .nilIface ∧ Below w.heap.size w w' := by
  obtain ⟨A, c, rfl, hc, hm, hr⟩ := h.open
  obtain ⟨len, hlen⟩ : ∃ len, l.length = len := ⟨_, rfl⟩
  have HL := Lib.hid hlen
  have HR := Lib.hid hr
  have HE := Lib.hid hl
  rw [hlen] at hc hm ⊢
  clear hlen hr hl h
  have hn0 : ¬ (n : Int) < 0 := by omega
  have hn1 : ¬ (40 : Int) < n := by omega
  go_enter Tryz.func170, Tryz.ntmps170
  go_wp2_with fail
  go_loopw [16] (fun i wr => ∃ k : Nat, k ≤ len ∧ i = .int .i64 k ∧ Below w.heap.size w wr) (fun i _ => len - (intOf i).toNat)
  case atStart => exact ⟨0, Nat.zero_le _, rfl, Below.refl _ _⟩
  case round =>
    obtain ⟨k, hk, rfl, hB⟩ := hrel
    by_cases hlt : k < len
    · have hne : l ≠ [] := by
        intro e
        have := HL.out
        rw [e] at this
        simp at this
        omega
      obtain ⟨e, he⟩ : ∃ e, l[k]? = some e := ⟨l[k]'(by have := HL.out; omega), List.getElem?_eq_getElem _⟩
      obtain ⟨b, off, rfl, hi⟩ := HR.out hne
      obtain ⟨c0, c1⟩ := hi k e he
      have hee := HE.out e (List.mem_of_getElem? he)
      obtain ⟨e1, e2⟩ := e
      have c0 := kept hB c0
      have c1 := kept hB c1
      simp only at c0 c1 hee
      have a1 : ¬ (e1 : Int) < 0 := by omega
      have a2 : ¬ (n : Int) ≤ e1 := by omega
      have a3 : ¬ (e2 : Int) < 0 := by omega
      have a4 : ¬ (n : Int) ≤ e2 := by omega
      clear hi hne he hee
      go_wp2_with fail
      go_roundw
      case rel => exact ⟨k + 1, by omega, by go_num, step_below hB (below_alloc _ _)⟩
      case measure => simp [intOf]; omega
    · obtain rfl : k = len := by omega
      go_wp2_with fail
      go_ret
      exact ⟨rfl, hB⟩

set_option maxHeartbeats 1000000 in
set_option maxRecDepth 100000 in
theorem idxES_calls (v : Value) (l : List EdgeN) (b1 b2 b3 : Nat) (p : EdgeN → Bool) (w : World) (h : EdgesAt w v l) (C : ∀ (W : World) (x : EdgeN), Below w.heap.size w W → x ∈ l → Calls Tryz.prog 287 #[edgV x, .pointer (some ⟨b1, 0, none⟩), .pointer (some ⟨b2, 0, none⟩), .pointer (some ⟨b3, 0, none⟩)] W (BoolIs (p x) W)) :
    Calls Tryz.prog 233 #[v, .func (.func 287) #[] #[.pointer (some ⟨b1, 0, none⟩), .pointer (some ⟨b2, 0, none⟩), .pointer (some ⟨b3, 0, none⟩)]] w (IdxIs (l.any p) w) := by
  obtain ⟨A, c, rfl, hc, hm, hr⟩ := h.open
  obtain ⟨len, hlen⟩ : ∃ len, l.length = len := ⟨_, rfl⟩
  have HL := Lib.hid hlen
  have HR := Lib.hid hr
  have HC := Lib.hid C
  rw [hlen] at hc hm ⊢
  clear hlen hr C h
  go_enter Tryz.func233, Tryz.ntmps233
  go_wp2_with fail
  go_loopw [8] (fun i wr => ∃ k : Nat, k ≤ len ∧ i = .int .i64 k ∧ Hid ((l.take k).any p = false) ∧ Below w.heap.size w wr) (fun i _ => len - (intOf i).toNat)
  case atStart => exact ⟨0, Nat.zero_le _, rfl, rfl, Below.refl _ _⟩
  case round =>
    obtain ⟨k, hk, rfl, hall, hB⟩ := hrel
    by_cases hlt : k < len
    · have hne : l ≠ [] := by
        intro e
        have := HL.out
        rw [e] at this
        simp at this
        omega
      obtain ⟨e, he⟩ : ∃ e, l[k]? = some e := ⟨l[k]'(by have := HL.out; omega), List.getElem?_eq_getElem _⟩
      obtain ⟨b', off, rfl, hi⟩ := HR.out hne
      obtain ⟨c0, c1⟩ := hi k e he
      have HT := Lib.hid he
      have H := Lib.hid (HC.out wr e hB (List.mem_of_getElem? he))
      unfold edgV at H
      obtain ⟨pb, hpb⟩ : ∃ pb, p e = pb := ⟨_, rfl⟩
      have HP := Lib.hid hpb
      rw [hpb] at H
      obtain ⟨e1, e2⟩ := e
      have c0 := kept hB c0
      have c1 := kept hB c1
      simp only at c0 c1
      clear hi hne he hpb
      go_wp2_with fail
      refine H.out.mono ?_
      rintro E w1 ⟨rfl, hb⟩
      have hB := step_below hB hb
      clear hb c0 c1 H
      cases pb with
      | true =>
        go_wp2_with fail
        go_ret
        exact ⟨_, rfl, by rw [any_stop HT.out HP.out]; simp, hB⟩
      | false =>
        go_wp2_with fail
        go_roundw
        case rel => exact ⟨k + 1, by omega, by go_num, Lib.hid (any_take_succ hall.out HT.out HP.out), hB⟩
        case measure => simp [intOf]; omega
    · obtain rfl : k = len := by omega
      go_wp2_with fail
      go_ret
      exact ⟨_, rfl, by have := hall.out; rw [← HL.out] at this; rw [any_done this]; simp, hB⟩

set_option maxRecDepth 100000 in
theorem hasES_calls (v : Value) (l : List EdgeN) (b1 b2 b3 : Nat) (p : EdgeN → Bool) (w : World) (h : EdgesAt w v l) (C : ∀ (W : World) (x : EdgeN), Below w.heap.size w W → x ∈ l → Calls Tryz.prog 287 #[edgV x, .pointer (some ⟨b1, 0, none⟩), .pointer (some ⟨b2, 0, none⟩), .pointer (some ⟨b3, 0, none⟩)] W (BoolIs (p x) W)) :
    Calls Tryz.prog 176 #[v, .func (.func 287) #[] #[.pointer (some ⟨b1, 0, none⟩), .pointer (some ⟨b2, 0, none⟩), .pointer (some ⟨b3, 0, none⟩)]] w (BoolIs (l.any p) w) := by
  have H := Lib.hid (idxES_calls v l b1 b2 b3 p w h C)
  clear h C
  go_enter Tryz.func176, Tryz.ntmps176
  go_wp2_with fail
  refine H.out.mono ?_
  rintro E w1 ⟨i, rfl, hi, hb⟩
  have HI := Lib.hid hi
  clear hi
  by_cases h0 : 0 ≤ i
  · go_wp2_with fail
    go_ret
    exact ⟨ret_bool (by rw [← HI.out]; simp [h0]), hb⟩
  · go_wp2_with fail
    go_ret
    exact ⟨ret_bool HI.out, hb⟩

set_option maxHeartbeats 1000000 in
set_option maxRecDepth 100000 in
theorem idxEL_calls (v : Value) (l : List EdgeN) (b1 b2 : Nat) (p : EdgeN → Bool) (w : World) (h : EdgesAt w v l) (C : ∀ (W : World) (x : EdgeN), Below w.heap.size w W → x ∈ l → Calls Tryz.prog 177 #[edgV x, .pointer (some ⟨b1, 0, none⟩), .pointer (some ⟨b2, 0, none⟩)] W (BoolIs (p x) W)) :
    Calls Tryz.prog 233 #[v, .func (.func 177) #[] #[.pointer (some ⟨b1, 0, none⟩), .pointer (some ⟨b2, 0, none⟩)]] w (IdxIs (l.any p) w) := by
  obtain ⟨A, c, rfl, hc, hm, hr⟩ := h.open
  obtain ⟨len, hlen⟩ : ∃ len, l.length = len := ⟨_, rfl⟩
  have HL := Lib.hid hlen
  have HR := Lib.hid hr
  have HC := Lib.hid C
  rw [hlen] at hc hm ⊢
  clear hlen hr C h
  go_enter Tryz.func233, Tryz.ntmps233
  go_wp2_with fail
  go_loopw [8] (fun i wr => ∃ k : Nat, k ≤ len ∧ i = .int .i64 k ∧ Hid ((l.take k).any p = false) ∧ Below w.heap.size w wr) (fun i _ => len - (intOf i).toNat)
  case atStart => exact ⟨0, Nat.zero_le _, rfl, rfl, Below.refl _ _⟩
  case round =>
    obtain ⟨k, hk, rfl, hall, hB⟩ := hrel
    by_cases hlt : k < len
    · have hne : l ≠ [] := by
        intro e
        have := HL.out
        rw [e] at this
        simp at this
        omega
      obtain ⟨e, he⟩ : ∃ e, l[k]? = some e := ⟨l[k]'(by have := HL.out; omega), List.getElem?_eq_getElem _⟩
      obtain ⟨b', off, rfl, hi⟩ := HR.out hne
      obtain ⟨c0, c1⟩ := hi k e he
      have HT := Lib.hid he
      have H := Lib.hid (HC.out wr e hB (List.mem_of_getElem? he))
      unfold edgV at H
      obtain ⟨pb, hpb⟩ : ∃ pb, p e = pb := ⟨_, rfl⟩
      have HP := Lib.hid hpb
      rw [hpb] at H
      obtain ⟨e1, e2⟩ := e
      have c0 := kept hB c0
      have c1 := kept hB c1
      simp only at c0 c1
      clear hi hne he hpb
      go_wp2_with fail
      refine H.out.mono ?_
      rintro E w1 ⟨rfl, hb⟩
      have hB := step_below hB hb
      clear hb c0 c1 H
      cases pb with
      | true =>
        go_wp2_with fail
        go_ret
        exact ⟨_, rfl, by rw [any_stop HT.out HP.out]; simp, hB⟩
      | false =>
        go_wp2_with fail
        go_roundw
        case rel => exact ⟨k + 1, by omega, by go_num, Lib.hid (any_take_succ hall.out HT.out HP.out), hB⟩
        case measure => simp [intOf]; omega
    · obtain rfl : k = len := by omega
      go_wp2_with fail
      go_ret
      exact ⟨_, rfl, by have := hall.out; rw [← HL.out] at this; rw [any_done this]; simp, hB⟩

set_option maxRecDepth 100000 in
theorem hasEL_calls (v : Value) (l : List EdgeN) (b1 b2 : Nat) (p : EdgeN → Bool) (w : World) (h : EdgesAt w v l) (C : ∀ (W : World) (x : EdgeN), Below w.heap.size w W → x ∈ l → Calls Tryz.prog 177 #[edgV x, .pointer (some ⟨b1, 0, none⟩), .pointer (some ⟨b2, 0, none⟩)] W (BoolIs (p x) W)) :
    Calls Tryz.prog 176 #[v, .func (.func 177) #[] #[.pointer (some ⟨b1, 0, none⟩), .pointer (some ⟨b2, 0, none⟩)]] w (BoolIs (l.any p) w) := by
  have H := Lib.hid (idxEL_calls v l b1 b2 p w h C)
  clear h C
  go_enter Tryz.func176, Tryz.ntmps176
  go_wp2_with fail
  refine H.out.mono ?_
  rintro E w1 ⟨i, rfl, hi, hb⟩
  have HI := Lib.hid hi
  clear hi
  by_cases h0 : 0 ≤ i
  · go_wp2_with fail
    go_ret
    exact ⟨ret_bool (by rw [← HI.out]; simp [h0]), hb⟩
  · go_wp2_with fail
    go_ret
    exact ⟨ret_bool HI.out, hb⟩
end Go.Proofs.YtpbbhjifgaeklaaGreatDoor

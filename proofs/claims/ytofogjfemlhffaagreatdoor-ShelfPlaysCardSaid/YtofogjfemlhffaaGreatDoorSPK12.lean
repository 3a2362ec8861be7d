/- depend.Singles, and the reference's: packages, each by itself. · What is short enough to be held is short enough to be read. -/
import Derived.Test.YtofogjfemlhffaaGreatDoorSPK11
import Derived.Test.YtofogjfemlhffaaGreatDoorSPK5
namespace Go.Proofs.YtofogjfemlhffaaGreatDoor
open Go.RowKit

def SinglesIs (ts : List Tv) (w : World) (E : Ending) (w' : World) : Prop := ∃ v', E = .returned v' ∧ AskedAt w' v' (ts.map fun t => [t]) ∧ Below w.heap.size w w'

/-- a slice of terms whose block is none of a row of such slices -/
def Typed (w : World) (base : Nat) (vx : Value) : Prop := ∀ a n c, vx = .slice (some a) n c → a.block < base ∨ ∃ cur fz, w.heap[a.block]? = some (.cells cur 96 fz)

theorem typed_ne {w : World} {base : Nat} {s : Value} {n : Nat} {vs : List Value} {vx : Value} {a : Addr} {m c : Nat} (ho : w.ownsRow base 39 1 s n vs) (ht : Typed w base vx) (hv : vx = .slice (some a) m c) : some a.block ≠ s.ownBlock := by
  rcases ho.2 with ⟨rfl, _⟩ | ⟨g, cap, cur, rfl, hg, hk, _⟩
  · intro e; cases e
  · intro e
    have e' : a.block = g := by injection e
    rcases ht a m c hv with h | ⟨cur', fz, h⟩
    · omega
    · rw [e', hk] at h
      injection h with h
      injection h with _ h2
      exact absurd h2 (by decide)

theorem terms_grown {w w' : World} {base : Nat} {s : Value} {n : Nat} {vs : List Value} {vx : Value} {x : List Tv} (hg : w.grownBy w' s.ownBlock) (ho : w.ownsRow base 39 1 s n vs) (h : TermsAt w vx x) (ht : Typed w base vx) : TermsAt w' vx x ∧ Typed w' base vx := by
  obtain ⟨A, c, hv, hc, hm, hr⟩ := h
  refine ⟨⟨A, c, hv, hc, hm, fun hn => ?_⟩, fun a m c' hv' => ?_⟩
  · obtain ⟨b, off, rfl, hi⟩ := hr hn
    have hne := typed_ne ho ht hv
    refine ⟨b, off, rfl, fun i t hti => ⟨?_, (hi i t hti).2⟩⟩
    obtain ⟨h0, h1, h2, h3, h4⟩ := (hi i t hti).1
    exact ⟨hg.cell h0 hne, hg.cell h1 hne, hg.cell h2 hne, hg.cell h3 hne, hg.cell h4 hne⟩
  · rcases ht a m c' hv' with h | ⟨cur, fz, h⟩
    · exact .inl h
    · exact .inr ⟨cur, fz, (hg.block a.block (Array.getElem?_eq_some_iff.1 h).1 (typed_ne ho ht hv')).trans h⟩

theorem typed_below {w w' : World} {base : Nat} {vx : Value} (h : Typed w base vx) (hb : Below w.heap.size w w') : Typed w' base vx := fun a m c hv => by
  rcases h a m c hv with h | ⟨cur, fz, h⟩
  · exact .inl h
  · exact .inr ⟨cur, fz, (hb.block a.block (Array.getElem?_eq_some_iff.1 h).1).trans h⟩

/-- lists of terms, each a slice of its own -/
def Rows (w : World) (base : Nat) (L : List (List Tv)) (vs : List Value) : Prop := vs.length = L.length ∧ ∀ (i : Nat) (x : List Tv), L[i]? = some x → ∃ vx : Value, vs[i]? = some vx ∧ TermsAt w vx x ∧ Typed w base vx
theorem Rows.nil {w : World} {base : Nat} : Rows w base [] [] := ⟨rfl, fun _ _ h => by cases h⟩
theorem Rows.grown {w w' : World} {base : Nat} {s : Value} {n : Nat} {us : List Value} {L : List (List Tv)} {vs : List Value} (hg : w.grownBy w' s.ownBlock) (ho : w.ownsRow base 39 1 s n us) (h : Rows w base L vs) : Rows w' base L vs :=
  ⟨h.1, fun i x hx => by
    obtain ⟨vx, h1, h2, h3⟩ := h.2 i x hx
    obtain ⟨h4, h5⟩ := terms_grown hg ho h2 h3
    exact ⟨vx, h1, h4, h5⟩⟩
theorem Rows.below {w w' : World} {base : Nat} {L : List (List Tv)} {vs : List Value} (h : Rows w base L vs) (hb : Below w.heap.size w w') : Rows w' base L vs :=
  ⟨h.1, fun i x hx => by
    obtain ⟨vx, h1, h2, h3⟩ := h.2 i x hx
    exact ⟨vx, h1, h2.below hb, typed_below h3 hb⟩⟩
theorem Rows.snoc {w : World} {base : Nat} {L : List (List Tv)} {vs : List Value} {x : List Tv} {v : Value} (h : Rows w base L vs) (hv : TermsAt w v x) (ht : Typed w base v) : Rows w base (L ++ [x]) (vs ++ [v]) := by
  refine ⟨by rw [List.length_append, List.length_append, h.1]; rfl, fun i y hy => ?_⟩
  rcases Nat.lt_trichotomy i L.length with hi | hi | hi
  · rw [List.getElem?_append_left hi] at hy
    obtain ⟨vx, h1, h2⟩ := h.2 i y hy
    exact ⟨vx, by rw [List.getElem?_append_left (by rw [h.1]; exact hi)]; exact h1, h2⟩
  · subst hi
    rw [List.getElem?_append_right (Nat.le_refl _), Nat.sub_self] at hy
    obtain rfl := Option.some.inj hy
    exact ⟨v, by rw [List.getElem?_append_right (by rw [h.1]; exact Nat.le_refl _), h.1, Nat.sub_self]; rfl, hv, ht⟩
  · rw [List.getElem?_eq_none (by rw [List.length_append, List.length_singleton]; omega)] at hy
    cases hy

theorem termsAt_one {w : World} {b off : Nat} {t : Tv} {c : Nat} (h : TermAt w b off t) (hok : t.ok) (hc : 1 ≤ c) : TermsAt w (.slice (some ⟨b, off, none⟩) 1 c) [t] :=
  ⟨_, c, rfl, hc, by simp, fun _ => ⟨b, off, rfl, fun i t' ht' => by
    match i, ht' with
    | 0, ht' =>
      obtain rfl := Option.some.inj ht'
      exact ⟨by simpa using h, hok⟩⟩⟩

theorem take_map_succ {ts : List Tv} {k : Nat} {t : Tv} (ht : ts[k]? = some t) : (ts.take (k + 1)).map (fun t => [t]) = (ts.take k).map (fun t => [t]) ++ [[t]] := by
  rw [List.take_add_one, ht]
  simp

set_option maxHeartbeats 1000000 in
set_option maxRecDepth 100000 in
theorem singles_calls (v : Value) (ts : List Tv) (w : World) (h : TermsAt w v ts) (h40 : ts.length ≤ 1000) : Calls Tryz.prog 119 #[v] w (SinglesIs ts w) := by
  obtain ⟨A, c, rfl, hc, hm, hr⟩ := h
  obtain ⟨len, hlen⟩ : ∃ len, ts.length = len := ⟨_, rfl⟩
  have HL := Lib.hid hlen
  have HR := Lib.hid hr
  rw [hlen] at hc hm h40 ⊢
  clear hlen hr
  obtain ⟨i0, hi, hz0, hz1, hz2⟩ := info_parts info_terms
  go_enter Tryz.func119, Tryz.ntmps119
  go_wp2_with fail
  go_loopw [3, 8] (fun s3 i wr => ∃ (k : Nat) (vs : List Value), k ≤ len ∧ i = .int .i64 k ∧ wr.ownsRow w.heap.size 39 1 s3 k vs ∧ Hid (Rows wr w.heap.size ((ts.take k).map fun t => [t]) vs) ∧ Below w.heap.size w wr) (fun _ i _ => len - (intOf i).toNat)
  case atStart => exact ⟨0, [], Nat.zero_le _, rfl, World.ownsRow_nil _ _ _ _, Lib.hid Rows.nil, Below.refl _ _⟩
  case round =>
    obtain ⟨k, vs, hk, rfl, hown, hrows, hB⟩ := hrel
    by_cases hlt : k < len
    · obtain ⟨t, ht⟩ : ∃ t, ts[k]? = some t := ⟨ts[k]'(by have := HL.out; omega), List.getElem?_eq_getElem _⟩
      have hne : ts ≠ [] := by
        intro e
        have := HL.out
        rw [e] at this
        simp at this
        omega
      obtain ⟨b, off, rfl, hi'⟩ := HR.out hne
      obtain ⟨hT0, hok⟩ := hi' k t ht
      clear hi' hne
      have hT := hT0.below hB
      have HT := Lib.hid ht
      have HOK := Lib.hid hok
      obtain ⟨c0, c1, c2, c3, c4⟩ := hT
      have hsz := hB.size
      obtain ⟨n, op, e, u, r⟩ := t
      dsimp only at c0 c1 c2 c3 c4
      clear ht hT0 hok
      go_wp2_with (at_builtin; refine wpList_append_own _ rfl _ _ 38 rfl w.heap.size 39 i0 (.slice none 0 0) 1 24 Tryz.underlying38 hi hz0 hz1 hz2 rfl (by decide) _ _ _ rfl (((hown.alloc _).alloc _).alloc _) ⟨wr.heap.size + 1 + 1, 0, none⟩ 1 1 [.slice (some ⟨wr.heap.size + 1, 0, none⟩) 1 1] rfl rfl (fun j u hj => by simpa using cell_one_new ((wr.alloc _).alloc _) _ _ j u hj) (by simp [Value.oneCell']) (by simp only [maxLen]; omega) (by omega) (by simp; omega) ?_; intro v' w3 hown3 hgrow hnil)
      have HOW := Lib.hid hown3
      have HG := Lib.hid hgrow
      have HO := Lib.hid hown
      clear hown3 hgrow hown hnil c0 c1 c2 c3 c4
      go_roundw
      case rel =>
        have ho3 := ((HO.out.alloc (.cells #[.string n, .int .i64 op, .int .i64 e, .string u, .string r] 96)).alloc (.cells #[.string n, .int .i64 op, .int .i64 e, .string u, .string r] 96)).alloc (.cells #[.slice (some ⟨wr.heap.size + 1, 0, none⟩) 1 1] 39)
        have hb1 := below_alloc wr (.cells #[.string n, .int .i64 op, .int .i64 e, .string u, .string r] 96)
        have hb2 := step_below hb1 (below_alloc _ (.cells #[.string n, .int .i64 op, .int .i64 e, .string u, .string r] 96))
        have hb3 := step_below hb2 (below_alloc _ (.cells #[.slice (some ⟨wr.heap.size + 1, 0, none⟩) 1 1] 39))
        have hnew : TermAt (((wr.alloc (.cells #[.string n, .int .i64 op, .int .i64 e, .string u, .string r] 96)).alloc (.cells #[.string n, .int .i64 op, .int .i64 e, .string u, .string r] 96)).alloc (.cells #[.slice (some ⟨wr.heap.size + 1, 0, none⟩) 1 1] 39)) (wr.heap.size + 1) 0 ⟨n, op, e, u, r⟩ := ⟨by go_cell, by go_cell, by go_cell, by go_cell, by go_cell⟩
        have hty : Typed (((wr.alloc (.cells #[.string n, .int .i64 op, .int .i64 e, .string u, .string r] 96)).alloc (.cells #[.string n, .int .i64 op, .int .i64 e, .string u, .string r] 96)).alloc (.cells #[.slice (some ⟨wr.heap.size + 1, 0, none⟩) 1 1] 39)) w.heap.size (.slice (some ⟨wr.heap.size + 1, 0, none⟩) 1 1) := by
          intro a m c' hv
          injection hv with hv1 _ _
          injection hv1 with hv1
          subst hv1
          refine .inr ⟨#[.string n, .int .i64 op, .int .i64 e, .string u, .string r], (0, 0), ?_⟩
          exact (Below.heap_alloc _ _ _ (by simp)).trans (by have := heap_alloc_new (wr.alloc (.cells #[.string n, .int .i64 op, .int .i64 e, .string u, .string r] 96)) (.cells #[.string n, .int .i64 op, .int .i64 e, .string u, .string r] 96); simpa using this)
        have hrows3 := (hrows.out.below hb3).snoc (termsAt_one hnew HOK.out (Nat.le_refl _)) hty
        rw [← take_map_succ HT.out] at hrows3
        exact ⟨k + 1, vs ++ [.slice (some ⟨wr.heap.size + 1, 0, none⟩) 1 1], by omega, by go_num, HOW.out, Lib.hid (hrows3.grown HG.out ho3), (step_below hB hb3).grown HG.out (by simp; omega) (fun g e => (ho3.lt g e).1)⟩
      case measure => simp [intOf]; omega
    · obtain rfl : k = len := by omega
      have HO := Lib.hid hown
      clear hown
      go_wp2_with fail
      go_ret
      refine ⟨_, rfl, ?_, hB⟩
      have hrows' := hrows.out
      rw [← HL.out, List.take_length] at hrows'
      exact asked_of_own HO.out (by rw [List.length_map, HL.out]) (by omega) (fun i x hx => by
        obtain ⟨vx, h1, h2, _⟩ := hrows'.2 i x hx
        exact ⟨vx, h1, h2⟩)

set_option maxHeartbeats 1000000 in
set_option maxRecDepth 100000 in
theorem refSingles_calls (v : Value) (ts : List Tv) (w : World) (h : TermsAt w v ts) (hb0 : ∀ a n c, v = .slice (some a) n c → ts ≠ [] → a.block < w.heap.size) (h40 : ts.length ≤ 1000) : Calls Tryz.prog 94 #[v] w (SinglesIs ts w) := by
  obtain ⟨A, c, rfl, hc, hm, hr⟩ := h
  obtain ⟨len, hlen⟩ : ∃ len, ts.length = len := ⟨_, rfl⟩
  have HL := Lib.hid hlen
  have HR := Lib.hid hr
  have HB0 := Lib.hid hb0
  rw [hlen] at hc hm h40 ⊢
  clear hlen hr hb0
  obtain ⟨i0, hi, hz0, hz1, hz2⟩ := info_parts info_terms
  go_enter Tryz.func94, Tryz.ntmps94
  go_wp2_with fail
  go_loopw [3, 7] (fun s3 i wr => ∃ (k : Nat) (vs : List Value), k ≤ len ∧ i = .int .i64 k ∧ wr.ownsRow w.heap.size 39 1 s3 k vs ∧ Hid (Rows wr w.heap.size ((ts.take k).map fun t => [t]) vs) ∧ Below w.heap.size w wr) (fun _ i _ => len - (intOf i).toNat)
  case atStart => exact ⟨0, [], Nat.zero_le _, rfl, World.ownsRow_nil _ _ _ _, Lib.hid Rows.nil, Below.refl _ _⟩
  case round =>
    obtain ⟨k, vs, hk, rfl, hown, hrows, hB⟩ := hrel
    by_cases hlt : k < len
    · obtain ⟨t, ht⟩ : ∃ t, ts[k]? = some t := ⟨ts[k]'(by have := HL.out; omega), List.getElem?_eq_getElem _⟩
      have hne : ts ≠ [] := by
        intro e
        have := HL.out
        rw [e] at this
        simp at this
        omega
      obtain ⟨b, off, rfl, hi'⟩ := HR.out hne
      have hblt : b < w.heap.size := HB0.out ⟨b, off, none⟩ _ _ rfl hne
      obtain ⟨hT0, hok⟩ := hi' k t ht
      clear hi' hne
      have HT := Lib.hid ht
      have HT0 := Lib.hid (hT0.below hB)
      have HOK := Lib.hid hok
      have hsz := hB.size
      have hck : k < c := by omega
      have hk1 : k + 1 ≤ c := by omega
      clear ht hT0 hok
      go_wp2_with (at_builtin; refine wpList_append_own _ rfl _ _ 38 rfl w.heap.size 39 i0 (.slice none 0 0) 1 24 Tryz.underlying38 hi hz0 hz1 hz2 rfl (by decide) _ _ _ rfl (hown.alloc _) ⟨wr.heap.size, 0, none⟩ 1 1 [.slice (some ⟨b, off + k * 5, none⟩) 1 (c - k)] rfl rfl (cell_one_new _ _ _) (by simp [Value.oneCell']) (by simp only [maxLen]; omega) (by omega) (by simp; omega) ?_; intro v' w3 hown3 hgrow hnil)
      have HOW := Lib.hid hown3
      have HG := Lib.hid hgrow
      have HO := Lib.hid hown
      clear hown3 hgrow hown hnil
      go_roundw
      case rel =>
        have ho3 := HO.out.alloc (.cells #[.slice (some ⟨b, off + k * 5, none⟩) 1 (c - k)] 39)
        have hb1 := below_alloc wr (.cells #[.slice (some ⟨b, off + k * 5, none⟩) 1 (c - k)] 39)
        have hty : Typed (wr.alloc (.cells #[.slice (some ⟨b, off + k * 5, none⟩) 1 (c - k)] 39)) w.heap.size (.slice (some ⟨b, off + k * 5, none⟩) 1 (c - k)) := by
          intro a m c' hv
          injection hv with hv1 _ _
          injection hv1 with hv1
          subst hv1
          exact .inl hblt
        have hrows3 := (hrows.out.below hb1).snoc (termsAt_one (HT0.out.below hb1) HOK.out (by omega)) hty
        rw [← take_map_succ HT.out] at hrows3
        exact ⟨k + 1, vs ++ [.slice (some ⟨b, off + k * 5, none⟩) 1 (c - k)], by omega, by go_num, HOW.out, Lib.hid (hrows3.grown HG.out ho3), (step_below hB hb1).grown HG.out (by simp; omega) (fun g e => (ho3.lt g e).1)⟩
      case measure => simp [intOf]; omega
    · obtain rfl : k = len := by omega
      have HO := Lib.hid hown
      clear hown
      go_wp2_with fail
      go_ret
      refine ⟨_, rfl, ?_, hB⟩
      have hrows' := hrows.out
      rw [← HL.out, List.take_length] at hrows'
      exact asked_of_own HO.out (by rw [List.length_map, HL.out]) (by omega) (fun i x hx => by
        obtain ⟨vx, h1, h2, _⟩ := hrows'.2 i x hx
        exact ⟨vx, h1, h2⟩)
end Go.Proofs.YtofogjfemlhffaaGreatDoor

namespace Go.Proofs.YtofogjfemlhffaaGreatDoor
open Go.RowKit

theorem small_of {L : List (List Tv)} {w : World} {v : Value} (h : AskedAt w v L) (hb : termsB L = true) : ∀ x ∈ L, ∀ t ∈ x, t.small := by
  unfold termsB at hb
  rw [Bool.and_eq_true, List.all_eq_true] at hb
  intro x hx t ht
  have hf := hb.2 x hx
  unfold flatB at hf
  rw [Bool.and_eq_true, List.all_eq_true] at hf
  have h1 := hf.2 t ht
  unfold flatT shortB at h1
  simp at h1
  obtain ⟨i, hi⟩ := List.getElem?_of_mem hx
  obtain ⟨A, c, rfl, _, _, hr⟩ := h
  obtain ⟨b, off, _, hh⟩ := hr (List.ne_nil_of_mem hx)
  obtain ⟨vx, _, A', c', _, _, _, hr'⟩ := hh i x hi
  obtain ⟨b', off', _, hh'⟩ := hr' (List.ne_nil_of_mem ht)
  obtain ⟨j, hj⟩ := List.getElem?_of_mem ht
  exact ⟨by omega, by omega, by omega, (hh' j t hj).2⟩

theorem few_of {L : List (List Tv)} (hb : termsB L = true) : ∀ x ∈ L, x.length ≤ 1000 := by
  unfold termsB at hb
  rw [Bool.and_eq_true, List.all_eq_true] at hb
  intro x hx
  have hf := hb.2 x hx
  unfold flatB at hf
  rw [Bool.and_eq_true, decide_eq_true_eq] at hf
  have := hf.1
  omega

theorem small_flat {ts : List Tv} {w : World} {v : Value} (h : TermsAt w v ts) (hb : flatB ts = true) : ∀ t ∈ ts, t.small := by
  unfold flatB at hb
  rw [Bool.and_eq_true, List.all_eq_true] at hb
  intro t ht
  have h1 := hb.2 t ht
  unfold flatT shortB at h1
  simp at h1
  obtain ⟨A', c', _, _, _, hr'⟩ := h
  obtain ⟨b', off', _, hh'⟩ := hr' (List.ne_nil_of_mem ht)
  obtain ⟨j, hj⟩ := List.getElem?_of_mem ht
  exact ⟨by omega, by omega, by omega, (hh' j t hj).2⟩
end Go.Proofs.YtofogjfemlhffaaGreatDoor

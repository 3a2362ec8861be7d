/- depend.Singles, and the reference's: packages, each by itself. · record.flat, record.Right: may a package be. -/
import Derived.Test.YtodbbfgkclkpgaaGreatDoorARC10
import Derived.Test.YtodbbfgkclkpgaaGreatDoorARC9
namespace Go.Proofs.YtodbbfgkclkpgaaGreatDoor
open Go.RowKit

def SinglesIs (ts : List Tv) (w : World) (E : Ending) (w' : World) : Prop := ∃ v', E = .returned v' ∧ AskedAt w' v' (ts.map fun t => [t]) ∧ Below w.heap.size w w'

/-- a slice of terms whose block is none of a row of such slices -/
def Typed (w : World) (base : Nat) (vx : Value) : Prop := ∀ a n c, vx = .slice (some a) n c → a.block < base ∨ ∃ cur fz, w.heap[a.block]? = some (.cells cur 99 fz)

theorem typed_ne {w : World} {base : Nat} {s : Value} {n : Nat} {vs : List Value} {vx : Value} {a : Addr} {m c : Nat} (ho : w.ownsRow base 25 1 s n vs) (ht : Typed w base vx) (hv : vx = .slice (some a) m c) : some a.block ≠ s.ownBlock := by
  rcases ho.2 with ⟨rfl, _⟩ | ⟨g, cap, cur, rfl, hg, hk, _⟩
  · intro e; cases e
  · intro e
    have e' : a.block = g := by injection e
    rcases ht a m c hv with h | ⟨cur', fz, h⟩
    · omega
    · rw [e', hk] at h
      injection h with h
      injection h with _ h2
      exact absurd h2 (by decide)

theorem terms_grown {w w' : World} {base : Nat} {s : Value} {n : Nat} {vs : List Value} {vx : Value} {x : List Tv} (hg : w.grownBy w' s.ownBlock) (ho : w.ownsRow base 25 1 s n vs) (h : TermsAt w vx x) (ht : Typed w base vx) : TermsAt w' vx x ∧ Typed w' base vx := by
  obtain ⟨A, c, hv, hc, hm, hr⟩ := h
  refine ⟨⟨A, c, hv, hc, hm, fun hn => ?_⟩, fun a m c' hv' => ?_⟩
  · obtain ⟨b, off, rfl, hi⟩ := hr hn
    have hne := typed_ne ho ht hv
    refine ⟨b, off, rfl, fun i t hti => ⟨?_, (hi i t hti).2⟩⟩
    obtain ⟨h0, h1, h2, h3, h4⟩ := (hi i t hti).1
    exact ⟨hg.cell h0 hne, hg.cell h1 hne, hg.cell h2 hne, hg.cell h3 hne, hg.cell h4 hne⟩
  · rcases ht a m c' hv' with h | ⟨cur, fz, h⟩
    · exact .inl h
    · exact .inr ⟨cur, fz, (hg.block a.block (Array.getElem?_eq_some_iff.1 h).1 (typed_ne ho ht hv')).trans h⟩

theorem typed_below {w w' : World} {base : Nat} {vx : Value} (h : Typed w base vx) (hb : Below w.heap.size w w') : Typed w' base vx := fun a m c hv => by
  rcases h a m c hv with h | ⟨cur, fz, h⟩
  · exact .inl h
  · exact .inr ⟨cur, fz, (hb.block a.block (Array.getElem?_eq_some_iff.1 h).1).trans h⟩

/-- lists of terms, each a slice of its own -/
def Rows (w : World) (base : Nat) (L : List (List Tv)) (vs : List Value) : Prop := vs.length = L.length ∧ ∀ (i : Nat) (x : List Tv), L[i]? = some x → ∃ vx : Value, vs[i]? = some vx ∧ TermsAt w vx x ∧ Typed w base vx
theorem Rows.nil {w : World} {base : Nat} : Rows w base [] [] := ⟨rfl, fun _ _ h => by cases h⟩
theorem Rows.grown {w w' : World} {base : Nat} {s : Value} {n : Nat} {us : List Value} {L : List (List Tv)} {vs : List Value} (hg : w.grownBy w' s.ownBlock) (ho : w.ownsRow base 25 1 s n us) (h : Rows w base L vs) : Rows w' base L vs :=
  ⟨h.1, fun i x hx => by
    obtain ⟨vx, h1, h2, h3⟩ := h.2 i x hx
    obtain ⟨h4, h5⟩ := terms_grown hg ho h2 h3
    exact ⟨vx, h1, h4, h5⟩⟩
theorem Rows.below {w w' : World} {base : Nat} {L : List (List Tv)} {vs : List Value} (h : Rows w base L vs) (hb : Below w.heap.size w w') : Rows w' base L vs :=
  ⟨h.1, fun i x hx => by
    obtain ⟨vx, h1, h2, h3⟩ := h.2 i x hx
    exact ⟨vx, h1, h2.below hb, typed_below h3 hb⟩⟩
theorem Rows.snoc {w : World} {base : Nat} {L : List (List Tv)} {vs : List Value} {x : List Tv} {v : Value} (h : Rows w base L vs) (hv : TermsAt w v x) (ht : Typed w base v) : Rows w base (L ++ [x]) (vs ++ [v]) := by
  refine ⟨by rw [List.length_append, List.length_append, h.1]; rfl, fun i y hy => ?_⟩
  rcases Nat.lt_trichotomy i L.length with hi | hi | hi
  · rw [List.getElem?_append_left hi] at hy
    obtain ⟨vx, h1, h2⟩ := h.2 i y hy
    exact ⟨vx, by rw [List.getElem?_append_left (by rw [h.1]; exact hi)]; exact h1, h2⟩
  · subst hi
    rw [List.getElem?_append_right (Nat.le_refl _), Nat.sub_self] at hy
    obtain rfl := Option.some.inj hy
    exact ⟨v, by rw [List.getElem?_append_right (by rw [h.1]; exact Nat.le_refl _), h.1, Nat.sub_self]; rfl, hv, ht⟩
  · rw [List.getElem?_eq_none (by rw [List.length_append, List.length_singleton]; omega)] at hy
    cases hy

theorem termsAt_one {w : World} {b off : Nat} {t : Tv} {c : Nat} (h : TermAt w b off t) (hok : t.ok) (hc : 1 ≤ c) : TermsAt w (.slice (some ⟨b, off, none⟩) 1 c) [t] :=
  ⟨_, c, rfl, hc, by simp, fun _ => ⟨b, off, rfl, fun i t' ht' => by
    match i, ht' with
    | 0, ht' =>
      obtain rfl := Option.some.inj ht'
      exact ⟨by simpa using h, hok⟩⟩⟩

theorem take_map_succ {ts : List Tv} {k : Nat} {t : Tv} (ht : ts[k]? = some t) : (ts.take (k + 1)).map (fun t => [t]) = (ts.take k).map (fun t => [t]) ++ [[t]] := by
  rw [List.take_add_one, ht]
  simp

set_option maxHeartbeats 1000000 in
set_option maxRecDepth 100000 in
theorem singles_calls (v : Value) (ts : List Tv) (w : World) (h : TermsAt w v ts) (h40 : ts.length ≤ 1000) : Calls Tryz.prog 60 #[v] w (SinglesIs ts w) := by
  obtain ⟨A, c, rfl, hc, hm, hr⟩ := h
  obtain ⟨len, hlen⟩ : ∃ len, ts.length = len := ⟨_, rfl⟩
  have HL := Lib.hid hlen
  have HR := Lib.hid hr
  rw [hlen] at hc hm h40 ⊢
  clear hlen hr
  obtain ⟨i0, hi, hz0, hz1, hz2⟩ := info_parts info_terms
  go_enter Tryz.func60, Tryz.ntmps60
  go_wp2_with fail
  go_loopw [3, 8] (fun s3 i wr => ∃ (k : Nat) (vs : List Value), k ≤ len ∧ i = .int .i64 k ∧ wr.ownsRow w.heap.size 25 1 s3 k vs ∧ Hid (Rows wr w.heap.size ((ts.take k).map fun t => [t]) vs) ∧ Below w.heap.size w wr) (fun _ i _ => len - (intOf i).toNat)
  case atStart => exact ⟨0, [], Nat.zero_le _, rfl, World.ownsRow_nil _ _ _ _, Lib.hid Rows.nil, Below.refl _ _⟩
  case round =>
    obtain ⟨k, vs, hk, rfl, hown, hrows, hB⟩ := hrel
    by_cases hlt : k < len
    · obtain ⟨t, ht⟩ : ∃ t, ts[k]? = some t := ⟨ts[k]'(by have := HL.out; omega), List.getElem?_eq_getElem _⟩
      have hne : ts ≠ [] := by
        intro e
        have := HL.out
        rw [e] at this
        simp at this
        omega
      obtain ⟨b, off, rfl, hi'⟩ := HR.out hne
      obtain ⟨hT0, hok⟩ := hi' k t ht
      clear hi' hne
      have hT := hT0.below hB
      have HT := Lib.hid ht
      have HOK := Lib.hid hok
      obtain ⟨c0, c1, c2, c3, c4⟩ := hT
      have hsz := hB.size
      obtain ⟨n, op, e, u, r⟩ := t
      dsimp only at c0 c1 c2 c3 c4
      clear ht hT0 hok
      go_wp2_with (at_builtin; refine wpList_append_own _ rfl _ _ 24 rfl w.heap.size 25 i0 (.slice none 0 0) 1 24 Tryz.underlying24 hi hz0 hz1 hz2 rfl (by decide) _ _ _ rfl (((hown.alloc _).alloc _).alloc _) ⟨wr.heap.size + 1 + 1, 0, none⟩ 1 1 [.slice (some ⟨wr.heap.size + 1, 0, none⟩) 1 1] rfl rfl (fun j u hj => by simpa using cell_one_new ((wr.alloc _).alloc _) _ _ j u hj) (by simp [Value.oneCell']) (by simp only [maxLen]; omega) (by omega) (by simp; omega) ?_; intro v' w3 hown3 hgrow hnil)
      have HOW := Lib.hid hown3
      have HG := Lib.hid hgrow
      have HO := Lib.hid hown
      clear hown3 hgrow hown hnil c0 c1 c2 c3 c4
      go_roundw
      case rel =>
        have ho3 := ((HO.out.alloc (.cells #[.string n, .int .i64 op, .int .i64 e, .string u, .string r] 99)).alloc (.cells #[.string n, .int .i64 op, .int .i64 e, .string u, .string r] 99)).alloc (.cells #[.slice (some ⟨wr.heap.size + 1, 0, none⟩) 1 1] 25)
        have hb1 := below_alloc wr (.cells #[.string n, .int .i64 op, .int .i64 e, .string u, .string r] 99)
        have hb2 := step_below hb1 (below_alloc _ (.cells #[.string n, .int .i64 op, .int .i64 e, .string u, .string r] 99))
        have hb3 := step_below hb2 (below_alloc _ (.cells #[.slice (some ⟨wr.heap.size + 1, 0, none⟩) 1 1] 25))
        have hnew : TermAt (((wr.alloc (.cells #[.string n, .int .i64 op, .int .i64 e, .string u, .string r] 99)).alloc (.cells #[.string n, .int .i64 op, .int .i64 e, .string u, .string r] 99)).alloc (.cells #[.slice (some ⟨wr.heap.size + 1, 0, none⟩) 1 1] 25)) (wr.heap.size + 1) 0 ⟨n, op, e, u, r⟩ := ⟨by go_cell, by go_cell, by go_cell, by go_cell, by go_cell⟩
        have hty : Typed (((wr.alloc (.cells #[.string n, .int .i64 op, .int .i64 e, .string u, .string r] 99)).alloc (.cells #[.string n, .int .i64 op, .int .i64 e, .string u, .string r] 99)).alloc (.cells #[.slice (some ⟨wr.heap.size + 1, 0, none⟩) 1 1] 25)) w.heap.size (.slice (some ⟨wr.heap.size + 1, 0, none⟩) 1 1) := by
          intro a m c' hv
          injection hv with hv1 _ _
          injection hv1 with hv1
          subst hv1
          refine .inr ⟨#[.string n, .int .i64 op, .int .i64 e, .string u, .string r], (0, 0), ?_⟩
          exact (Below.heap_alloc _ _ _ (by simp)).trans (by have := heap_alloc_new (wr.alloc (.cells #[.string n, .int .i64 op, .int .i64 e, .string u, .string r] 99)) (.cells #[.string n, .int .i64 op, .int .i64 e, .string u, .string r] 99); simpa using this)
        have hrows3 := (hrows.out.below hb3).snoc (termsAt_one hnew HOK.out (Nat.le_refl _)) hty
        rw [← take_map_succ HT.out] at hrows3
        exact ⟨k + 1, vs ++ [.slice (some ⟨wr.heap.size + 1, 0, none⟩) 1 1], by omega, by go_num, HOW.out, Lib.hid (hrows3.grown HG.out ho3), (step_below hB hb3).grown HG.out (by simp; omega) (fun g e => (ho3.lt g e).1)⟩
      case measure => simp [intOf]; omega
    · obtain rfl : k = len := by omega
      have HO := Lib.hid hown
      clear hown
      go_wp2_with fail
      go_ret
      refine ⟨_, rfl, ?_, hB⟩
      have hrows' := hrows.out
      rw [← HL.out, List.take_length] at hrows'
      exact asked_of_own HO.out (by rw [List.length_map, HL.out]) (by omega) (fun i x hx => by
        obtain ⟨vx, h1, h2, _⟩ := hrows'.2 i x hx
        exact ⟨vx, h1, h2⟩)

set_option maxHeartbeats 1000000 in
set_option maxRecDepth 100000 in
theorem refSingles_calls (v : Value) (ts : List Tv) (w : World) (h : TermsAt w v ts) (hb0 : ∀ a n c, v = .slice (some a) n c → ts ≠ [] → a.block < w.heap.size) (h40 : ts.length ≤ 1000) : Calls Tryz.prog 53 #[v] w (SinglesIs ts w) := by
  obtain ⟨A, c, rfl, hc, hm, hr⟩ := h
  obtain ⟨len, hlen⟩ : ∃ len, ts.length = len := ⟨_, rfl⟩
  have HL := Lib.hid hlen
  have HR := Lib.hid hr
  have HB0 := Lib.hid hb0
  rw [hlen] at hc hm h40 ⊢
  clear hlen hr hb0
  obtain ⟨i0, hi, hz0, hz1, hz2⟩ := info_parts info_terms
  go_enter Tryz.func53, Tryz.ntmps53
  go_wp2_with fail
  go_loopw [3, 7] (fun s3 i wr => ∃ (k : Nat) (vs : List Value), k ≤ len ∧ i = .int .i64 k ∧ wr.ownsRow w.heap.size 25 1 s3 k vs ∧ Hid (Rows wr w.heap.size ((ts.take k).map fun t => [t]) vs) ∧ Below w.heap.size w wr) (fun _ i _ => len - (intOf i).toNat)
  case atStart => exact ⟨0, [], Nat.zero_le _, rfl, World.ownsRow_nil _ _ _ _, Lib.hid Rows.nil, Below.refl _ _⟩
  case round =>
    obtain ⟨k, vs, hk, rfl, hown, hrows, hB⟩ := hrel
    by_cases hlt : k < len
    · obtain ⟨t, ht⟩ : ∃ t, ts[k]? = some t := ⟨ts[k]'(by have := HL.out; omega), List.getElem?_eq_getElem _⟩
      have hne : ts ≠ [] := by
        intro e
        have := HL.out
        rw [e] at this
        simp at this
        omega
      obtain ⟨b, off, rfl, hi'⟩ := HR.out hne
      have hblt : b < w.heap.size := HB0.out ⟨b, off, none⟩ _ _ rfl hne
      obtain ⟨hT0, hok⟩ := hi' k t ht
      clear hi' hne
      have HT := Lib.hid ht
      have HT0 := Lib.hid (hT0.below hB)
      have HOK := Lib.hid hok
      have hsz := hB.size
      have hck : k < c := by omega
      have hk1 : k + 1 ≤ c := by omega
      clear ht hT0 hok
      go_wp2_with (at_builtin; refine wpList_append_own _ rfl _ _ 24 rfl w.heap.size 25 i0 (.slice none 0 0) 1 24 Tryz.underlying24 hi hz0 hz1 hz2 rfl (by decide) _ _ _ rfl (hown.alloc _) ⟨wr.heap.size, 0, none⟩ 1 1 [.slice (some ⟨b, off + k * 5, none⟩) 1 (c - k)] rfl rfl (cell_one_new _ _ _) (by simp [Value.oneCell']) (by simp only [maxLen]; omega) (by omega) (by simp; omega) ?_; intro v' w3 hown3 hgrow hnil)
      have HOW := Lib.hid hown3
      have HG := Lib.hid hgrow
      have HO := Lib.hid hown
      clear hown3 hgrow hown hnil
      go_roundw
      case rel =>
        have ho3 := HO.out.alloc (.cells #[.slice (some ⟨b, off + k * 5, none⟩) 1 (c - k)] 25)
        have hb1 := below_alloc wr (.cells #[.slice (some ⟨b, off + k * 5, none⟩) 1 (c - k)] 25)
        have hty : Typed (wr.alloc (.cells #[.slice (some ⟨b, off + k * 5, none⟩) 1 (c - k)] 25)) w.heap.size (.slice (some ⟨b, off + k * 5, none⟩) 1 (c - k)) := by
          intro a m c' hv
          injection hv with hv1 _ _
          injection hv1 with hv1
          subst hv1
          exact .inl hblt
        have hrows3 := (hrows.out.below hb1).snoc (termsAt_one (HT0.out.below hb1) HOK.out (by omega)) hty
        rw [← take_map_succ HT.out] at hrows3
        exact ⟨k + 1, vs ++ [.slice (some ⟨b, off + k * 5, none⟩) 1 (c - k)], by omega, by go_num, HOW.out, Lib.hid (hrows3.grown HG.out ho3), (step_below hB hb1).grown HG.out (by simp; omega) (fun g e => (ho3.lt g e).1)⟩
      case measure => simp [intOf]; omega
    · obtain rfl : k = len := by omega
      have HO := Lib.hid hown
      clear hown
      go_wp2_with fail
      go_ret
      refine ⟨_, rfl, ?_, hB⟩
      have hrows' := hrows.out
      rw [← HL.out, List.take_length] at hrows'
      exact asked_of_own HO.out (by rw [List.length_map, HL.out]) (by omega) (fun i x hx => by
        obtain ⟨vx, h1, h2, _⟩ := hrows'.2 i x hx
        exact ⟨vx, h1, h2⟩)
end Go.Proofs.YtodbbfgkclkpgaaGreatDoor

namespace Go.Proofs.YtodbbfgkclkpgaaGreatDoor
open Go Go.RowKit

/-- all that a package says is short enough to be read -/
structure Pv.Fit (p : Pv) : Prop where
  n : p.n.size ≤ 1000000
  u : p.u.size ≤ 1000
  r : p.r.size ≤ 1000
  dep : ∀ x ∈ p.dep, ∀ t ∈ x, t.small
  depN : ∀ x ∈ p.dep, x.length ≤ 1000
  ahead : ∀ x ∈ p.ahead, ∀ t ∈ x, t.small
  aheadN : ∀ x ∈ p.ahead, x.length ≤ 1000
  ag : ∀ t ∈ p.ag, t.small
  agN : p.ag.length ≤ 1000
  br : ∀ t ∈ p.br, t.small
  brN : p.br.length ≤ 1000
  re : ∀ t ∈ p.re, t.small
  reN : p.re.length ≤ 1000
  pr : ∀ t ∈ p.pr, t.small
  prN : p.pr.length ≤ 1000
  se : ∀ s ∈ p.se, s.size ≤ 1000000
  li : ∀ s ∈ p.li, s.size ≤ 1000000

theorem flatP_eq (ts : List Tv) : VP.askedP (tmL (ts.map fun t => [t])) = VP.flatP (ts.map Tv.tm) := by
  unfold VP.flatP tmL
  rw [List.map_map, List.map_map]
  rfl
theorem singles_small {ts : List Tv} (h : ∀ t ∈ ts, t.small) : ∀ x ∈ ts.map (fun t => [t]), ∀ t ∈ x, t.small := by
  intro x hx t ht
  obtain ⟨t', ht', rfl⟩ := List.mem_map.1 hx
  rw [List.mem_singleton.1 ht]
  exact h t' ht'
theorem singles_few {ts : List Tv} : ∀ x ∈ ts.map (fun t => [t]), x.length ≤ 1000 := by
  intro x hx
  obtain ⟨t', ht', rfl⟩ := List.mem_map.1 hx
  simp

set_option maxRecDepth 100000 in
theorem recFlat_calls (v : Value) (ts : List Tv) (w : World) (hE : Env w) (h : TermsAt w v ts) (hs : ∀ t ∈ ts, t.small) (hN : ts.length ≤ 1000) : Calls Tryz.prog 68 #[v] w (BoolIs (VP.flatP (ts.map Tv.tm)) w) := by
  have C1 := Lib.hid (singles_calls v ts w h hN)
  have HE := Lib.hid hE
  have HS := Lib.hid (singles_small hs)
  have HQ := Lib.hid (flatP_eq ts)
  clear h hE hs
  go_enter Tryz.func68, Tryz.ntmps68
  go_wp2_with fail
  refine C1.out.mono ?_
  rintro E w1 ⟨v1, rfl, ha, hb⟩
  have C2 := Lib.hid (asked_calls v1 _ w1 (HE.out.below hb) ha HS.out singles_few)
  rw [HQ.out] at C2
  clear C1 ha HE
  go_wp2_with fail
  refine C2.out.mono ?_
  rintro E w2 ⟨rfl, hb2⟩
  have hB := step_below hb hb2
  clear hb hb2 C2
  go_wp2_with fail
  go_ret
  exact ⟨rfl, hB⟩

def saysOk (p : Pv) : Bool := VP.saysP p.pk
def provT (t : Tv) : Bool := VP.provP t.tm
theorem says_prog (p : Pv) : saysOk p = (p.pr.all provT && (VP.nameP p.n.data.toList && (VP.rightP p.e p.u.data.toList p.r.data.toList && (VP.askedP (tmL p.dep) && (VP.askedP (tmL p.ahead) && (VP.flatP (p.ag.map Tv.tm) && (VP.flatP (p.br.map Tv.tm) && (VP.flatP (p.re.map Tv.tm) && (VP.flatP (p.pr.map Tv.tm) && (pathsB p.se && (pathsB p.li))))))))))) := by
  unfold saysOk VP.saysP Pv.pk
  dsimp only
  rw [show ((p.pr.map Tv.tm).all VP.provP) = p.pr.all provT by rw [List.all_map]; rfl]
  simp only [Bool.and_assoc]
  rfl


/-- the cells of a package in a box -/
structure PackBox (w : World) (m : Nat) (p : Pv) (v1 v2 v3 v4 v5 v6 v7 v8 v9 : Value) : Prop where
  c0 : w.cell? ⟨m, 0, none⟩ = some (.string p.n)
  c1 : w.cell? ⟨m, 1, none⟩ = some (.int .i64 p.e)
  c2 : w.cell? ⟨m, 2, none⟩ = some (.string p.u)
  c3 : w.cell? ⟨m, 3, none⟩ = some (.string p.r)
  c4 : w.cell? ⟨m, 4, none⟩ = some v1
  c5 : w.cell? ⟨m, 5, none⟩ = some v2
  c6 : w.cell? ⟨m, 6, none⟩ = some v3
  c7 : w.cell? ⟨m, 7, none⟩ = some v4
  c8 : w.cell? ⟨m, 8, none⟩ = some v5
  c9 : w.cell? ⟨m, 9, none⟩ = some v6
  c10 : w.cell? ⟨m, 10, none⟩ = some v7
  c11 : w.cell? ⟨m, 11, none⟩ = some v8
  c12 : w.cell? ⟨m, 12, none⟩ = some v9
theorem PackBox.below {w w' : World} {m : Nat} {p : Pv} {v1 v2 v3 v4 v5 v6 v7 v8 v9 : Value} (h : PackBox w m p v1 v2 v3 v4 v5 v6 v7 v8 v9) (hb : Below w.heap.size w w') : PackBox w' m p v1 v2 v3 v4 v5 v6 v7 v8 v9 :=
  ⟨kept hb h.c0, kept hb h.c1, kept hb h.c2, kept hb h.c3, kept hb h.c4, kept hb h.c5, kept hb h.c6, kept hb h.c7, kept hb h.c8, kept hb h.c9, kept hb h.c10, kept hb h.c11, kept hb h.c12⟩
theorem packBox_new (w : World) (p : Pv) (v1 v2 v3 v4 v5 v6 v7 v8 v9 : Value) (t : TypeId) : PackBox (w.alloc (.cells #[.string p.n, .int .i64 p.e, .string p.u, .string p.r, v1, v2, v3, v4, v5, v6, v7, v8, v9] t)) w.heap.size p v1 v2 v3 v4 v5 v6 v7 v8 v9 :=
  ⟨by go_cell, by go_cell, by go_cell, by go_cell, by go_cell, by go_cell, by go_cell, by go_cell, by go_cell, by go_cell, by go_cell, by go_cell, by go_cell⟩

set_option maxHeartbeats 6000000 in
set_option maxRecDepth 100000 in
theorem recRight_calls (v : Value) (p : Pv) (w : World) (hE : Env w) (h : PackAt w v p) (hf : p.Fit) : Calls Tryz.prog 16 #[v] w (BoolIs (saysOk p) w) := by
  obtain ⟨v1, v2, v3, v4, v5, v6, v7, v8, v9, rfl, h1, h2, h3, h4, h5, h6, h7, h8, _, _, _⟩ := h
  have HE := Lib.hid hE
  have HF := Lib.hid hf
  have CName := Lib.hid (fun (W : World) (hb : Below w.heap.size w W) => name_calls p.n W)
  have CVer := Lib.hid (fun (W : World) (hb : Below w.heap.size w W) => (show Calls Tryz.prog 66 #[.agg #[.int .i64 p.e, .string p.u, .string p.r]] W (BoolIs (VP.rightP p.e p.u.data.toList p.r.data.toList) W) from right_calls p.e p.u p.r W (HE.out.below hb) (by have := HF.out.u; omega) (by have := HF.out.r; omega)))
  have CDep := Lib.hid (fun (W : World) (hb : Below w.heap.size w W) => asked_calls v1 p.dep W (HE.out.below hb) (h1.below hb) HF.out.dep HF.out.depN)
  have CAhe := Lib.hid (fun (W : World) (hb : Below w.heap.size w W) => asked_calls v2 p.ahead W (HE.out.below hb) (h2.below hb) HF.out.ahead HF.out.aheadN)
  have CAg := Lib.hid (fun (W : World) (hb : Below w.heap.size w W) => recFlat_calls v3 p.ag W (HE.out.below hb) (h3.below hb) HF.out.ag HF.out.agN)
  have CBr := Lib.hid (fun (W : World) (hb : Below w.heap.size w W) => recFlat_calls v4 p.br W (HE.out.below hb) (h4.below hb) HF.out.br HF.out.brN)
  have CRe := Lib.hid (fun (W : World) (hb : Below w.heap.size w W) => recFlat_calls v5 p.re W (HE.out.below hb) (h5.below hb) HF.out.re HF.out.reN)
  have CPr := Lib.hid (fun (W : World) (hb : Below w.heap.size w W) => recFlat_calls v6 p.pr W (HE.out.below hb) (h6.below hb) HF.out.pr HF.out.prN)
  have CSe := Lib.hid (fun (W : World) (hb : Below w.heap.size w W) => paths_calls v7 p.se W (HE.out.below hb) (h7.below hb) HF.out.se)
  have CLi := Lib.hid (fun (W : World) (hb : Below w.heap.size w W) => paths_calls v8 p.li W (HE.out.below hb) (h8.below hb) HF.out.li)
  have F := Lib.hid (says_prog p)
  obtain ⟨b0, hb0⟩ : ∃ x, VP.nameP p.n.data.toList = x := ⟨_, rfl⟩
  obtain ⟨b1, hb1⟩ : ∃ x, VP.rightP p.e p.u.data.toList p.r.data.toList = x := ⟨_, rfl⟩
  obtain ⟨b2, hb2⟩ : ∃ x, VP.askedP (tmL p.dep) = x := ⟨_, rfl⟩
  obtain ⟨b3, hb3⟩ : ∃ x, VP.askedP (tmL p.ahead) = x := ⟨_, rfl⟩
  obtain ⟨b4, hb4⟩ : ∃ x, VP.flatP (p.ag.map Tv.tm) = x := ⟨_, rfl⟩
  obtain ⟨b5, hb5⟩ : ∃ x, VP.flatP (p.br.map Tv.tm) = x := ⟨_, rfl⟩
  obtain ⟨b6, hb6⟩ : ∃ x, VP.flatP (p.re.map Tv.tm) = x := ⟨_, rfl⟩
  obtain ⟨b7, hb7⟩ : ∃ x, VP.flatP (p.pr.map Tv.tm) = x := ⟨_, rfl⟩
  obtain ⟨b8, hb8⟩ : ∃ x, pathsB p.se = x := ⟨_, rfl⟩
  obtain ⟨b9, hb9⟩ : ∃ x, pathsB p.li = x := ⟨_, rfl⟩
  rw [hb0] at CName F
  rw [hb1] at CVer F
  rw [hb2] at CDep F
  rw [hb3] at CAhe F
  rw [hb4] at CAg F
  rw [hb5] at CBr F
  rw [hb6] at CRe F
  rw [hb7] at CPr F
  rw [hb8] at CSe F
  rw [hb9] at CLi F
  clear hb0 hb1 hb2 hb3 hb4 hb5 hb6 hb7 hb8 hb9 h1 h2 h3 h4 h5 h7 h8 hE hf
  have X0 := packBox_new w p v1 v2 v3 v4 v5 v6 v7 v8 v9 29
  have hB0 := below_alloc w (.cells #[.string p.n, .int .i64 p.e, .string p.u, .string p.r, v1, v2, v3, v4, v5, v6, v7, v8, v9] 29)
  obtain ⟨A, c, hv6, hc, hm, hr⟩ := h6
  subst hv6
  obtain ⟨len, hlen⟩ : ∃ len, p.pr.length = len := ⟨_, rfl⟩
  have HL := Lib.hid hlen
  have HR := Lib.hid hr
  rw [hlen] at hc hm X0 hB0 CPr ⊢
  clear hlen hr
  obtain ⟨c0, c1, c2, c3, c4, c5, c6, c7, c8, c9, c10, c11, c12⟩ := X0
  go_enter Tryz.func16, Tryz.ntmps16
  go_wp2_with fail
  obtain ⟨m, hmm⟩ : ∃ m, w.heap.size = m := ⟨_, rfl⟩
  obtain ⟨W0, hW0⟩ : ∃ x, x = w.alloc (.cells #[.string p.n, .int .i64 p.e, .string p.u, .string p.r, v1, v2, v3, v4, v5, .slice A len c, v7, v8, v9] 29) := ⟨_, rfl⟩
  rw [← hW0] at hB0 c0 c1 c2 c3 c4 c5 c6 c7 c8 c9 c10 c11 c12 ⊢
  have HB0 := Lib.hid hB0
  have X0 : Hid (PackBox W0 m p v1 v2 v3 v4 v5 (.slice A len c) v7 v8 v9) := by rw [← hmm]; exact Lib.hid ⟨c0, c1, c2, c3, c4, c5, c6, c7, c8, c9, c10, c11, c12⟩
  (try rw [hmm])
  clear hW0 hB0 c0 c1 c2 c3 c4 c5 c6 c7 c8 c9 c10 c11 c12 hmm
  have hz0 := Below.refl W0.heap.size W0
  go_loopw [9] (fun i wr => ∃ k : Nat, k ≤ len ∧ i = .int .i64 k ∧ Hid ((p.pr.take k).all provT = true) ∧ Below W0.heap.size W0 wr) (fun i _ => len - (intOf i).toNat)
  case atStart => exact ⟨0, Nat.zero_le _, rfl, rfl, hz0⟩
  case round =>
    clear hz0
    obtain ⟨k, hk, rfl, hall, hz⟩ := hrel
    by_cases hlt : k < len
    · have hne : p.pr ≠ [] := by
        intro e
        have := HL.out
        rw [e] at this
        simp at this
        omega
      obtain ⟨t, ht⟩ : ∃ t, p.pr[k]? = some t := ⟨p.pr[k]'(by have := HL.out; omega), List.getElem?_eq_getElem _⟩
      obtain ⟨b, off, rfl, hi⟩ := HR.out hne
      have hT := ((hi k t ht).1.below HB0.out).below hz
      obtain ⟨t0, t1, t2, t3, t4⟩ := hT
      have HT := Lib.hid ht
      have hz1 := step_below hz (below_alloc wr (.cells #[.string t.n, .int .i64 t.op, .int .i64 t.e, .string t.u, .string t.r] 99))
      have hB1 := step_below HB0.out hz1
      have HPT := Lib.hid (show provT t = (decide (t.op = 0) || decide (t.op = 3)) from rfl)
      clear hi hne ht
      by_cases ho0 : t.op = 0
      · have hob : (t.op != 0) = false := by rw [bne, beq_iff_eq.2 ho0]; rfl
        have HK := Lib.hid (show provT t = true by rw [HPT.out, decide_eq_true ho0]; rfl)
        clear ho0
        go_wp2_with fail
        go_roundw
        case rel => exact ⟨k + 1, by omega, by go_num, Lib.hid (all_take_succ hall.out HT.out HK.out), hz1⟩
        case measure => simp [intOf]; omega
      · have hob : (t.op != 0) = true := by rw [bne_iff_ne]; exact ho0
        by_cases ho3 : t.op = 3
        · have hob3 : (t.op != 3) = false := by rw [bne, beq_iff_eq.2 ho3]; rfl
          have HK := Lib.hid (show provT t = true by rw [HPT.out, decide_eq_true ho3, Bool.or_true])
          clear ho0 ho3
          go_wp2_with fail
          go_roundw
          case rel => exact ⟨k + 1, by omega, by go_num, Lib.hid (all_take_succ hall.out HT.out HK.out), hz1⟩
          case measure => simp [intOf]; omega
        · have hob3 : (t.op != 3) = true := by rw [bne_iff_ne]; exact ho3
          have HG := Lib.hid (show saysOk p = false by rw [F.out, all_stop HT.out (by rw [HPT.out, decide_eq_false ho0, decide_eq_false ho3]; rfl)]; rfl)
          clear ho0 ho3
          go_wp2_with fail
          go_ret
          exact ⟨ret_bool HG.out.symm, hB1⟩
    · obtain rfl : len = k := by omega
      have HA := Lib.hid (show p.pr.all provT = true by have := hall.out; rw [← HL.out] at this; exact all_done this)
      rw [HA.out] at F
      have hB := step_below HB0.out hz
      obtain ⟨c0, c1, c2, c3, c4, c5, c6, c7, c8, c9, c10, c11, c12⟩ := X0.out.below hz
      clear HA hall hz HB0 X0 HL HR
      have D0 := Lib.hid (CName.out _ hB)
      clear CName
      go_wp2_with fail
      refine D0.out.mono ?_
      rintro E y0 ⟨rfl, hb⟩
      have hB0 := step_below hB hb
      clear hB
      have hB := hB0
      clear hB0
      replace c1 := kept hb c1
      replace c2 := kept hb c2
      replace c3 := kept hb c3
      replace c4 := kept hb c4
      replace c5 := kept hb c5
      replace c6 := kept hb c6
      replace c7 := kept hb c7
      replace c8 := kept hb c8
      replace c9 := kept hb c9
      replace c10 := kept hb c10
      replace c11 := kept hb c11
      clear hb D0 c0 c12
      cases b0 with
      | false =>
        have HG := Lib.hid (show saysOk p = false by rw [F.out]; rfl)
        clear F
        go_wp2_with fail
        go_ret
        exact ⟨ret_bool HG.out.symm, hB⟩
      | true =>
      have D1 := Lib.hid (CVer.out _ hB)
      clear CVer
      go_wp2_with fail
      refine D1.out.mono ?_
      rintro E y1 ⟨rfl, hb⟩
      have hB1 := step_below hB hb
      clear hB
      have hB := hB1
      clear hB1
      replace c4 := kept hb c4
      replace c5 := kept hb c5
      replace c6 := kept hb c6
      replace c7 := kept hb c7
      replace c8 := kept hb c8
      replace c9 := kept hb c9
      replace c10 := kept hb c10
      replace c11 := kept hb c11
      clear hb D1 c1 c2 c3
      cases b1 with
      | false =>
        have HG := Lib.hid (show saysOk p = false by rw [F.out]; rfl)
        clear F
        go_wp2_with fail
        go_ret
        exact ⟨ret_bool HG.out.symm, hB⟩
      | true =>
      have D2 := Lib.hid (CDep.out _ hB)
      clear CDep
      go_wp2_with fail
      refine D2.out.mono ?_
      rintro E y2 ⟨rfl, hb⟩
      have hB2 := step_below hB hb
      clear hB
      have hB := hB2
      clear hB2
      replace c5 := kept hb c5
      replace c6 := kept hb c6
      replace c7 := kept hb c7
      replace c8 := kept hb c8
      replace c9 := kept hb c9
      replace c10 := kept hb c10
      replace c11 := kept hb c11
      clear hb D2 c4
      cases b2 with
      | false =>
        have HG := Lib.hid (show saysOk p = false by rw [F.out]; rfl)
        clear F
        go_wp2_with fail
        go_ret
        exact ⟨ret_bool HG.out.symm, hB⟩
      | true =>
      have D3 := Lib.hid (CAhe.out _ hB)
      clear CAhe
      go_wp2_with fail
      refine D3.out.mono ?_
      rintro E y3 ⟨rfl, hb⟩
      have hB3 := step_below hB hb
      clear hB
      have hB := hB3
      clear hB3
      replace c6 := kept hb c6
      replace c7 := kept hb c7
      replace c8 := kept hb c8
      replace c9 := kept hb c9
      replace c10 := kept hb c10
      replace c11 := kept hb c11
      clear hb D3 c5
      cases b3 with
      | false =>
        have HG := Lib.hid (show saysOk p = false by rw [F.out]; rfl)
        clear F
        go_wp2_with fail
        go_ret
        exact ⟨ret_bool HG.out.symm, hB⟩
      | true =>
      have D4 := Lib.hid (CAg.out _ hB)
      clear CAg
      go_wp2_with fail
      refine D4.out.mono ?_
      rintro E y4 ⟨rfl, hb⟩
      have hB4 := step_below hB hb
      clear hB
      have hB := hB4
      clear hB4
      replace c7 := kept hb c7
      replace c8 := kept hb c8
      replace c9 := kept hb c9
      replace c10 := kept hb c10
      replace c11 := kept hb c11
      clear hb D4 c6
      cases b4 with
      | false =>
        have HG := Lib.hid (show saysOk p = false by rw [F.out]; rfl)
        clear F
        go_wp2_with fail
        go_ret
        exact ⟨ret_bool HG.out.symm, hB⟩
      | true =>
      have D5 := Lib.hid (CBr.out _ hB)
      clear CBr
      go_wp2_with fail
      refine D5.out.mono ?_
      rintro E y5 ⟨rfl, hb⟩
      have hB5 := step_below hB hb
      clear hB
      have hB := hB5
      clear hB5
      replace c8 := kept hb c8
      replace c9 := kept hb c9
      replace c10 := kept hb c10
      replace c11 := kept hb c11
      clear hb D5 c7
      cases b5 with
      | false =>
        have HG := Lib.hid (show saysOk p = false by rw [F.out]; rfl)
        clear F
        go_wp2_with fail
        go_ret
        exact ⟨ret_bool HG.out.symm, hB⟩
      | true =>
      have D6 := Lib.hid (CRe.out _ hB)
      clear CRe
      go_wp2_with fail
      refine D6.out.mono ?_
      rintro E y6 ⟨rfl, hb⟩
      have hB6 := step_below hB hb
      clear hB
      have hB := hB6
      clear hB6
      replace c9 := kept hb c9
      replace c10 := kept hb c10
      replace c11 := kept hb c11
      clear hb D6 c8
      cases b6 with
      | false =>
        have HG := Lib.hid (show saysOk p = false by rw [F.out]; rfl)
        clear F
        go_wp2_with fail
        go_ret
        exact ⟨ret_bool HG.out.symm, hB⟩
      | true =>
      have D7 := Lib.hid (CPr.out _ hB)
      clear CPr
      go_wp2_with fail
      refine D7.out.mono ?_
      rintro E y7 ⟨rfl, hb⟩
      have hB7 := step_below hB hb
      clear hB
      have hB := hB7
      clear hB7
      replace c10 := kept hb c10
      replace c11 := kept hb c11
      clear hb D7 c9
      cases b7 with
      | false =>
        have HG := Lib.hid (show saysOk p = false by rw [F.out]; rfl)
        clear F
        go_wp2_with fail
        go_ret
        exact ⟨ret_bool HG.out.symm, hB⟩
      | true =>
      have D8 := Lib.hid (CSe.out _ hB)
      clear CSe
      go_wp2_with fail
      refine D8.out.mono ?_
      rintro E y8 ⟨rfl, hb⟩
      have hB8 := step_below hB hb
      clear hB
      have hB := hB8
      clear hB8
      replace c11 := kept hb c11
      clear hb D8 c10
      cases b8 with
      | false =>
        have HG := Lib.hid (show saysOk p = false by rw [F.out]; rfl)
        clear F
        go_wp2_with fail
        go_ret
        exact ⟨ret_bool HG.out.symm, hB⟩
      | true =>
      have D9 := Lib.hid (CLi.out _ hB)
      clear CLi
      go_wp2_with fail
      refine D9.out.mono ?_
      rintro E y9 ⟨rfl, hb⟩
      have hB9 := step_below hB hb
      clear hB
      have hB := hB9
      clear hB9
      clear hb D9 c11
      cases b9 with
      | false =>
        have HG := Lib.hid (show saysOk p = false by rw [F.out]; rfl)
        clear F
        go_wp2_with fail
        go_ret
        exact ⟨ret_bool HG.out.symm, hB⟩
      | true =>
      have HG := Lib.hid (show saysOk p = true by rw [F.out]; rfl)
      clear F
      go_wp2_with fail
      go_ret
      exact ⟨ret_bool HG.out.symm, hB⟩
end Go.Proofs.YtodbbfgkclkpgaaGreatDoor

/- depend.Print: how what is asked for is written. · depend.Singles, and the reference's: packages, each by itself. · What is short enough to be held is short enough to be read. -/
import Derived.Test.YtodbbfgkclkpgaaGreatDoorABK9
import Derived.Test.YtodbbfgkclkpgaaGreatDoorABK7
import Derived.Maps.AppendAt
import Derived.OwnWalk
import Derived.Laws.AppendOwn
import Derived.Test.YtodbbfgkclkpgaaGreatDoorABK8
namespace Go.Proofs.YtodbbfgkclkpgaaGreatDoor
open Go.RowKit

theorem info_str : (Tryz.prog.info? 9).map (fun i => (i.zero, i.size, i.bytes)) = some (some (.string ⟨#[]⟩), 1, 16) := by kernel_rfl

/-! what is joined -/
theorem joinP_eq (sep : List UInt8) : ∀ xs : List (List UInt8), Lib.join xs sep = VP.joinP sep xs
  | [] => rfl
  | [x] => by rw [Lib.join_one]; rfl
  | x :: y :: r => by
    have ih := joinP_eq sep (y :: r)
    rw [Lib.join_cons, VP.joinP, ← ih, Lib.join_cons]
    simp [Lib.joinTail]

theorem joinP_len (sep : List UInt8) (B : Nat) : ∀ xs : List (List UInt8), (∀ x ∈ xs, x.length ≤ B) → (VP.joinP sep xs).length ≤ xs.length * (B + sep.length)
  | [], _ => by simp [VP.joinP]
  | [x], h => by
    have := h x (.head _)
    rw [VP.joinP, List.length_singleton, Nat.one_mul]; omega
  | x :: y :: r, h => by
    have ih := joinP_len sep B (y :: r) (fun z hz => h z (.tail _ hz))
    have := h x (.head _)
    rw [VP.joinP, List.length_append, List.length_append]
    rw [List.length_cons (a := x), Nat.add_mul, Nat.one_mul]
    omega

theorem oneP_len {t : VP.Tm} (h : VP.RightT t) : (VP.oneP t).length ≤ 100 := by
  have h1 := h.nm.hi
  rcases h.k with ⟨h0, _⟩ | ⟨hop, hv⟩
  · unfold VP.oneP; rw [if_pos h0]; omega
  · have h2 := hv.len
    have h3 : (VP.signP t.op).length ≤ 2 := by
      unfold VP.signP
      (repeat' split) <;> simp
    unfold VP.oneP
    rw [if_neg (by omega)]
    simp only [List.length_append, List.length_cons, List.length_nil]
    omega

def lineS (x : List Tv) : ByteArray := ⟨(VP.lineP (x.map Tv.tm)).toArray⟩
def wholeS (L : List (List Tv)) : ByteArray := ⟨(VP.printL (tmL L)).toArray⟩

theorem lineS_eq (x : List Tv) : Lib.join ((x.map oneS).map (·.data.toList)) [32, 124, 32] = (lineS x).data.toList := by
  rw [joinP_eq]
  show _ = VP.joinP [32, 124, 32] ((x.map Tv.tm).map VP.oneP)
  rw [List.map_map, List.map_map]
  rfl
theorem wholeS_eq (L : List (List Tv)) : Lib.join ((L.map lineS).map (·.data.toList)) [44, 32] = (wholeS L).data.toList := by
  rw [joinP_eq]
  show _ = VP.joinP [44, 32] ((L.map fun x => x.map Tv.tm).map VP.lineP)
  rw [List.map_map, List.map_map]
  rfl
theorem lineS_len {x : List Tv} (h : ∀ t ∈ x, VP.RightT t.tm) : (lineS x).data.toList.length ≤ x.length * 103 := by
  have := joinP_len [32, 124, 32] 100 ((x.map Tv.tm).map VP.oneP) (fun y hy => by
    obtain ⟨t', ht', rfl⟩ := List.mem_map.1 hy
    obtain ⟨t, ht, rfl⟩ := List.mem_map.1 ht'
    exact oneP_len (h t ht))
  rw [List.length_map, List.length_map] at this
  exact this

/-- a slice of strings of the call's own -/
theorem own_cells {w : World} {base : Nat} {v : Value} {n : Nat} {ss : List ByteArray} (h : w.ownsRow base 9 1 v n (ss.map Value.string)) :
    n = ss.length ∧ ((v = .slice none 0 0 ∧ n = 0) ∨ ∃ g cap, v = .slice (some ⟨g, 0, none⟩) n cap ∧ g < w.heap.size ∧ n ≤ cap ∧ ∀ j s, ss[j]? = some s → w.cell? ⟨g, 0 + j, none⟩ = some (.string s)) := by
  have hl := h.1
  rw [List.length_map, Nat.mul_one] at hl
  refine ⟨hl.symm, ?_⟩
  rcases h.2 with h0 | ⟨g, cap, cur, rfl, hg, hk, hn, hm, hs, ht⟩
  · exact .inl h0
  · refine .inr ⟨g, cap, rfl, (Array.getElem?_eq_some_iff.1 hk).1, hn, fun j s hj => ?_⟩
    have := h.cells (g := g) rfl j (.string s) (by rw [List.getElem?_map, hj]; rfl)
    rw [Go.WideShapes.add_plain] at this
    exact this

theorem call_join (w : World) (base : Nat) (v : Value) (n : Nat) (ss : List ByteArray) (sep : ByteArray) (h : w.ownsRow base 9 1 v n (ss.map Value.string)) (hn : n ≤ 1000000)
    (hlen : (Lib.join (ss.map (·.data.toList)) sep.data.toList).length ≤ 1000000) :
    Calls Tryz.prog 61 #[v, .string sep] w fun e w' => e = .returned (.string ⟨(Lib.join (ss.map (·.data.toList)) sep.data.toList).toArray⟩) ∧ Below w.heap.size w w' := by
  obtain ⟨hl, ⟨rfl, h0⟩ | ⟨g, cap, rfl, hg, hc, hcell⟩⟩ := own_cells h
  · refine (Tryz.strings_Join_none none 0 sep w).mono fun e w' ⟨he, hw⟩ => ⟨?_, hw ▸ Below.refl _ _⟩
    have : ss = [] := List.eq_nil_of_length_eq_zero (by omega)
    rw [he, this]
    rfl
  · rw [hl] at hc ⊢
    exact Tryz.strings_Join g 0 cap ss sep w hcell hg (by omega) hc (by omega)
end Go.Proofs.YtodbbfgkclkpgaaGreatDoor

namespace Go.Proofs.YtodbbfgkclkpgaaGreatDoor
open Go.RowKit

def SinglesIs (ts : List Tv) (w : World) (E : Ending) (w' : World) : Prop := ∃ v', E = .returned v' ∧ AskedAt w' v' (ts.map fun t => [t]) ∧ Below w.heap.size w w'

/-- a slice of terms whose block is none of a row of such slices -/
def Typed (w : World) (base : Nat) (vx : Value) : Prop := ∀ a n c, vx = .slice (some a) n c → a.block < base ∨ ∃ cur fz, w.heap[a.block]? = some (.cells cur 99 fz)

theorem typed_ne {w : World} {base : Nat} {s : Value} {n : Nat} {vs : List Value} {vx : Value} {a : Addr} {m c : Nat} (ho : w.ownsRow base 25 1 s n vs) (ht : Typed w base vx) (hv : vx = .slice (some a) m c) : some a.block ≠ s.ownBlock := by
  rcases ho.2 with ⟨rfl, _⟩ | ⟨g, cap, cur, rfl, hg, hk, _⟩
  · intro e; cases e
  · intro e
    have e' : a.block = g := by injection e
    rcases ht a m c hv with h | ⟨cur', fz, h⟩
    · omega
    · rw [e', hk] at h
      injection h with h
      injection h with _ h2
      exact absurd h2 (by decide)

theorem terms_grown {w w' : World} {base : Nat} {s : Value} {n : Nat} {vs : List Value} {vx : Value} {x : List Tv} (hg : w.grownBy w' s.ownBlock) (ho : w.ownsRow base 25 1 s n vs) (h : TermsAt w vx x) (ht : Typed w base vx) : TermsAt w' vx x ∧ Typed w' base vx := by
  obtain ⟨A, c, hv, hc, hm, hr⟩ := h
  refine ⟨⟨A, c, hv, hc, hm, fun hn => ?_⟩, fun a m c' hv' => ?_⟩
  · obtain ⟨b, off, rfl, hi⟩ := hr hn
    have hne := typed_ne ho ht hv
    refine ⟨b, off, rfl, fun i t hti => ⟨?_, (hi i t hti).2⟩⟩
    obtain ⟨h0, h1, h2, h3, h4⟩ := (hi i t hti).1
    exact ⟨hg.cell h0 hne, hg.cell h1 hne, hg.cell h2 hne, hg.cell h3 hne, hg.cell h4 hne⟩
  · rcases ht a m c' hv' with h | ⟨cur, fz, h⟩
    · exact .inl h
    · exact .inr ⟨cur, fz, (hg.block a.block (Array.getElem?_eq_some_iff.1 h).1 (typed_ne ho ht hv')).trans h⟩

theorem typed_below {w w' : World} {base : Nat} {vx : Value} (h : Typed w base vx) (hb : Below w.heap.size w w') : Typed w' base vx := fun a m c hv => by
  rcases h a m c hv with h | ⟨cur, fz, h⟩
  · exact .inl h
  · exact .inr ⟨cur, fz, (hb.block a.block (Array.getElem?_eq_some_iff.1 h).1).trans h⟩

/-- lists of terms, each a slice of its own -/
def Rows (w : World) (base : Nat) (L : List (List Tv)) (vs : List Value) : Prop := vs.length = L.length ∧ ∀ (i : Nat) (x : List Tv), L[i]? = some x → ∃ vx : Value, vs[i]? = some vx ∧ TermsAt w vx x ∧ Typed w base vx
theorem Rows.nil {w : World} {base : Nat} : Rows w base [] [] := ⟨rfl, fun _ _ h => by cases h⟩
theorem Rows.grown {w w' : World} {base : Nat} {s : Value} {n : Nat} {us : List Value} {L : List (List Tv)} {vs : List Value} (hg : w.grownBy w' s.ownBlock) (ho : w.ownsRow base 25 1 s n us) (h : Rows w base L vs) : Rows w' base L vs :=
  ⟨h.1, fun i x hx => by
    obtain ⟨vx, h1, h2, h3⟩ := h.2 i x hx
    obtain ⟨h4, h5⟩ := terms_grown hg ho h2 h3
    exact ⟨vx, h1, h4, h5⟩⟩
theorem Rows.below {w w' : World} {base : Nat} {L : List (List Tv)} {vs : List Value} (h : Rows w base L vs) (hb : Below w.heap.size w w') : Rows w' base L vs :=
  ⟨h.1, fun i x hx => by
    obtain ⟨vx, h1, h2, h3⟩ := h.2 i x hx
    exact ⟨vx, h1, h2.below hb, typed_below h3 hb⟩⟩
theorem Rows.snoc {w : World} {base : Nat} {L : List (List Tv)} {vs : List Value} {x : List Tv} {v : Value} (h : Rows w base L vs) (hv : TermsAt w v x) (ht : Typed w base v) : Rows w base (L ++ [x]) (vs ++ [v]) := by
  refine ⟨by rw [List.length_append, List.length_append, h.1]; rfl, fun i y hy => ?_⟩
  rcases Nat.lt_trichotomy i L.length with hi | hi | hi
  · rw [List.getElem?_append_left hi] at hy
    obtain ⟨vx, h1, h2⟩ := h.2 i y hy
    exact ⟨vx, by rw [List.getElem?_append_left (by rw [h.1]; exact hi)]; exact h1, h2⟩
  · subst hi
    rw [List.getElem?_append_right (Nat.le_refl _), Nat.sub_self] at hy
    obtain rfl := Option.some.inj hy
    exact ⟨v, by rw [List.getElem?_append_right (by rw [h.1]; exact Nat.le_refl _), h.1, Nat.sub_self]; rfl, hv, ht⟩
  · rw [List.getElem?_eq_none (by rw [List.length_append, List.length_singleton]; omega)] at hy
    cases hy

theorem termsAt_one {w : World} {b off : Nat} {t : Tv} {c : Nat} (h : TermAt w b off t) (hok : t.ok) (hc : 1 ≤ c) : TermsAt w (.slice (some ⟨b, off, none⟩) 1 c) [t] :=
  ⟨_, c, rfl, hc, by simp, fun _ => ⟨b, off, rfl, fun i t' ht' => by
    match i, ht' with
    | 0, ht' =>
      obtain rfl := Option.some.inj ht'
      exact ⟨by simpa using h, hok⟩⟩⟩

theorem take_map_succ {ts : List Tv} {k : Nat} {t : Tv} (ht : ts[k]? = some t) : (ts.take (k + 1)).map (fun t => [t]) = (ts.take k).map (fun t => [t]) ++ [[t]] := by
  rw [List.take_add_one, ht]
  simp

set_option maxHeartbeats 1000000 in
set_option maxRecDepth 100000 in
theorem singles_calls (v : Value) (ts : List Tv) (w : World) (h : TermsAt w v ts) (h40 : ts.length ≤ 1000) : Calls Tryz.prog 60 #[v] w (SinglesIs ts w) := by
  obtain ⟨A, c, rfl, hc, hm, hr⟩ := h
  obtain ⟨len, hlen⟩ : ∃ len, ts.length = len := ⟨_, rfl⟩
  have HL := Lib.hid hlen
  have HR := Lib.hid hr
  rw [hlen] at hc hm h40 ⊢
  clear hlen hr
  obtain ⟨i0, hi, hz0, hz1, hz2⟩ := info_parts info_terms
  go_enter Tryz.func60, Tryz.ntmps60
  go_wp2_with fail
  go_loopw [3, 8] (fun s3 i wr => ∃ (k : Nat) (vs : List Value), k ≤ len ∧ i = .int .i64 k ∧ wr.ownsRow w.heap.size 25 1 s3 k vs ∧ Hid (Rows wr w.heap.size ((ts.take k).map fun t => [t]) vs) ∧ Below w.heap.size w wr) (fun _ i _ => len - (intOf i).toNat)
  case atStart => exact ⟨0, [], Nat.zero_le _, rfl, World.ownsRow_nil _ _ _ _, Lib.hid Rows.nil, Below.refl _ _⟩
  case round =>
    obtain ⟨k, vs, hk, rfl, hown, hrows, hB⟩ := hrel
    by_cases hlt : k < len
    · obtain ⟨t, ht⟩ : ∃ t, ts[k]? = some t := ⟨ts[k]'(by have := HL.out; omega), List.getElem?_eq_getElem _⟩
      have hne : ts ≠ [] := by
        intro e
        have := HL.out
        rw [e] at this
        simp at this
        omega
      obtain ⟨b, off, rfl, hi'⟩ := HR.out hne
      obtain ⟨hT0, hok⟩ := hi' k t ht
      clear hi' hne
      have hT := hT0.below hB
      have HT := Lib.hid ht
      have HOK := Lib.hid hok
      obtain ⟨c0, c1, c2, c3, c4⟩ := hT
      have hsz := hB.size
      obtain ⟨n, op, e, u, r⟩ := t
      dsimp only at c0 c1 c2 c3 c4
      clear ht hT0 hok
      go_wp2_with (at_builtin; refine wpList_append_own _ rfl _ _ 24 rfl w.heap.size 25 i0 (.slice none 0 0) 1 24 Tryz.underlying24 hi hz0 hz1 hz2 rfl (by decide) _ _ _ rfl (((hown.alloc _).alloc _).alloc _) ⟨wr.heap.size + 1 + 1, 0, none⟩ 1 1 [.slice (some ⟨wr.heap.size + 1, 0, none⟩) 1 1] rfl rfl (fun j u hj => by simpa using cell_one_new ((wr.alloc _).alloc _) _ _ j u hj) (by simp [Value.oneCell']) (by simp only [maxLen]; omega) (by omega) (by simp; omega) ?_; intro v' w3 hown3 hgrow hnil)
      have HOW := Lib.hid hown3
      have HG := Lib.hid hgrow
      have HO := Lib.hid hown
      clear hown3 hgrow hown hnil c0 c1 c2 c3 c4
      go_roundw
      case rel =>
        have ho3 := ((HO.out.alloc (.cells #[.string n, .int .i64 op, .int .i64 e, .string u, .string r] 99)).alloc (.cells #[.string n, .int .i64 op, .int .i64 e, .string u, .string r] 99)).alloc (.cells #[.slice (some ⟨wr.heap.size + 1, 0, none⟩) 1 1] 25)
        have hb1 := below_alloc wr (.cells #[.string n, .int .i64 op, .int .i64 e, .string u, .string r] 99)
        have hb2 := step_below hb1 (below_alloc _ (.cells #[.string n, .int .i64 op, .int .i64 e, .string u, .string r] 99))
        have hb3 := step_below hb2 (below_alloc _ (.cells #[.slice (some ⟨wr.heap.size + 1, 0, none⟩) 1 1] 25))
        have hnew : TermAt (((wr.alloc (.cells #[.string n, .int .i64 op, .int .i64 e, .string u, .string r] 99)).alloc (.cells #[.string n, .int .i64 op, .int .i64 e, .string u, .string r] 99)).alloc (.cells #[.slice (some ⟨wr.heap.size + 1, 0, none⟩) 1 1] 25)) (wr.heap.size + 1) 0 ⟨n, op, e, u, r⟩ := ⟨by go_cell, by go_cell, by go_cell, by go_cell, by go_cell⟩
        have hty : Typed (((wr.alloc (.cells #[.string n, .int .i64 op, .int .i64 e, .string u, .string r] 99)).alloc (.cells #[.string n, .int .i64 op, .int .i64 e, .string u, .string r] 99)).alloc (.cells #[.slice (some ⟨wr.heap.size + 1, 0, none⟩) 1 1] 25)) w.heap.size (.slice (some ⟨wr.heap.size + 1, 0, none⟩) 1 1) := by
          intro a m c' hv
          injection hv with hv1 _ _
          injection hv1 with hv1
          subst hv1
          refine .inr ⟨#[.string n, .int .i64 op, .int .i64 e, .string u, .string r], (0, 0), ?_⟩
          exact (Below.heap_alloc _ _ _ (by simp)).trans (by have := heap_alloc_new (wr.alloc (.cells #[.string n, .int .i64 op, .int .i64 e, .string u, .string r] 99)) (.cells #[.string n, .int .i64 op, .int .i64 e, .string u, .string r] 99); simpa using this)
        have hrows3 := (hrows.out.below hb3).snoc (termsAt_one hnew HOK.out (Nat.le_refl _)) hty
        rw [← take_map_succ HT.out] at hrows3
        exact ⟨k + 1, vs ++ [.slice (some ⟨wr.heap.size + 1, 0, none⟩) 1 1], by omega, by go_num, HOW.out, Lib.hid (hrows3.grown HG.out ho3), (step_below hB hb3).grown HG.out (by simp; omega) (fun g e => (ho3.lt g e).1)⟩
      case measure => simp [intOf]; omega
    · obtain rfl : k = len := by omega
      have HO := Lib.hid hown
      clear hown
      go_wp2_with fail
      go_ret
      refine ⟨_, rfl, ?_, hB⟩
      have hrows' := hrows.out
      rw [← HL.out, List.take_length] at hrows'
      exact asked_of_own HO.out (by rw [List.length_map, HL.out]) (by omega) (fun i x hx => by
        obtain ⟨vx, h1, h2, _⟩ := hrows'.2 i x hx
        exact ⟨vx, h1, h2⟩)

end Go.Proofs.YtodbbfgkclkpgaaGreatDoor

namespace Go.Proofs.YtodbbfgkclkpgaaGreatDoor
open Go.RowKit

theorem small_of {L : List (List Tv)} {w : World} {v : Value} (h : AskedAt w v L) (hb : termsB L = true) : ∀ x ∈ L, ∀ t ∈ x, t.small := by
  unfold termsB at hb
  rw [Bool.and_eq_true, List.all_eq_true] at hb
  intro x hx t ht
  have hf := hb.2 x hx
  unfold flatB at hf
  rw [Bool.and_eq_true, List.all_eq_true] at hf
  have h1 := hf.2 t ht
  unfold flatT shortB at h1
  simp at h1
  obtain ⟨i, hi⟩ := List.getElem?_of_mem hx
  obtain ⟨A, c, rfl, _, _, hr⟩ := h
  obtain ⟨b, off, _, hh⟩ := hr (List.ne_nil_of_mem hx)
  obtain ⟨vx, _, A', c', _, _, _, hr'⟩ := hh i x hi
  obtain ⟨b', off', _, hh'⟩ := hr' (List.ne_nil_of_mem ht)
  obtain ⟨j, hj⟩ := List.getElem?_of_mem ht
  exact ⟨by omega, by omega, by omega, (hh' j t hj).2⟩

theorem few_of {L : List (List Tv)} (hb : termsB L = true) : ∀ x ∈ L, x.length ≤ 1000 := by
  unfold termsB at hb
  rw [Bool.and_eq_true, List.all_eq_true] at hb
  intro x hx
  have hf := hb.2 x hx
  unfold flatB at hf
  rw [Bool.and_eq_true, decide_eq_true_eq] at hf
  have := hf.1
  omega

theorem small_flat {ts : List Tv} {w : World} {v : Value} (h : TermsAt w v ts) (hb : flatB ts = true) : ∀ t ∈ ts, t.small := by
  unfold flatB at hb
  rw [Bool.and_eq_true, List.all_eq_true] at hb
  intro t ht
  have h1 := hb.2 t ht
  unfold flatT shortB at h1
  simp at h1
  obtain ⟨A', c', _, _, _, hr'⟩ := h
  obtain ⟨b', off', _, hh'⟩ := hr' (List.ne_nil_of_mem ht)
  obtain ⟨j, hj⟩ := List.getElem?_of_mem ht
  exact ⟨by omega, by omega, by omega, (hh' j t hj).2⟩
end Go.Proofs.YtodbbfgkclkpgaaGreatDoor

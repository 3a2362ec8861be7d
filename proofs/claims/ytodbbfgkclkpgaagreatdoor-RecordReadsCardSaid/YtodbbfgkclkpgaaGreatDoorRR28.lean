/- record.paths, the reference's paths: which lists of paths may be. · A package, as it lies in memory. · depend.Singles, and the reference's: packages, each by itself. -/
import Derived.Test.YtodbbfgkclkpgaaGreatDoorRR7
import Derived.Test.YtodbbfgkclkpgaaGreatDoorRR8
import Derived.Test.YtodbbfgkclkpgaaGreatDoorRR14
import Derived.Test.YtodbbfgkclkpgaaGreatDoorRR11
import Derived.Test.YtodbbfgkclkpgaaGreatDoorRR23
namespace Go.Proofs.YtodbbfgkclkpgaaGreatDoor
open Go Go.RowKit

theorem toList_ne2 {a b : ByteArray} (h : ¬ a = b) : ¬ a.toList = b.toList := fun e => h (data_inj (by rwa [Lib.toList_data, Lib.toList_data] at e))
/-- is it one of them -/
def hasB (ss : List ByteArray) (x : ByteArray) : Bool := ss.any fun t => decide (t = x)
theorem hasB_iff {ss : List ByteArray} {x : ByteArray} : hasB ss x = true ↔ x ∈ ss := by
  unfold hasB
  rw [List.any_eq_true]
  constructor
  · rintro ⟨t, ht, h⟩
    rwa [of_decide_eq_true h] at ht
  · intro h; exact ⟨x, h, decide_eq_true rfl⟩

theorem hasStr_calls (v : Value) (ss : List ByteArray) (x : ByteArray) (w : World) (h : StrsAt w v ss) :
    Calls Tryz.prog 142 #[v, .string x] w fun e w' => e = .returned (.bool (hasB ss x)) ∧ w = w' := by
  obtain ⟨A, c, rfl, hc, hm, hr⟩ := h.open
  by_cases hn : ss = []
  · subst hn
    refine (Tryz.slices_Contains_string_empty A c x w).mono fun e w' ⟨he, hw⟩ => ⟨by rw [he]; rfl, hw.symm⟩
  · obtain ⟨b, off, rfl, hi⟩ := hr hn
    refine (Tryz.slices_Contains_string b off ss.length c ss x w (Nat.le_refl _) hm (fun j hj => ?_)).mono fun e w' ⟨he, hw⟩ => ⟨?_, hw.symm⟩
    · have e : ss[j]? = some ss[j] := List.getElem?_eq_getElem hj
      rw [hi j _ e, List.getD_eq_getElem?_getD, e]
      rfl
    · rw [he, List.take_length]
      congr 2
      rw [Bool.eq_iff_iff, Lib.containsS_iff, hasB_iff]

theorem mem_take_data (ss : List ByteArray) (k : Nat) (x : ByteArray) : hasB (ss.take k) x = (((ss.map (·.data.toList)).take k).any fun t => decide (t = x.data.toList)) := by
  rw [← List.map_take, List.any_map]
  unfold hasB
  congr 1
  funext t
  show decide _ = decide (t.data.toList = x.data.toList)
  congr 1
  exact propext ⟨fun h => by rw [h], fun h => data_inj h⟩
theorem pathOk_at {ss : List ByteArray} {k : Nat} {s : ByteArray} (h : ss[k]? = some s) : VP.pathOk (ss.map (·.data.toList)) k = (VP.pathP s.data.toList && !hasB (ss.take k) s) := by
  unfold VP.pathOk
  rw [List.getElem?_map, h, mem_take_data]
  rfl
def pathsB (ss : List ByteArray) : Bool := VP.pathsP (ss.map (·.data.toList))
theorem pathsB_false {ss : List ByteArray} {k : Nat} {s : ByteArray} (h : ss[k]? = some s) (hb : (VP.pathP s.data.toList && !hasB (ss.take k) s) = false) : pathsB ss = false := by
  unfold pathsB VP.pathsP
  rw [VP.allAt_false (i := k) (by rw [List.length_map]; exact (List.getElem?_eq_some_iff.1 h).1) ((pathOk_at h).trans hb)]
  rfl
/-- so far all is well -/
def PathsTo (ss : List ByteArray) (k : Nat) : Prop := ∀ i, i < k → VP.pathOk (ss.map (·.data.toList)) i = true
theorem PathsTo.zero (ss : List ByteArray) : PathsTo ss 0 := fun _ h => absurd h (Nat.not_lt_zero _)
theorem PathsTo.succ {ss : List ByteArray} {k : Nat} {s : ByteArray} (h : PathsTo ss k) (hs : ss[k]? = some s) (hb : (VP.pathP s.data.toList && !hasB (ss.take k) s) = true) : PathsTo ss (k + 1) := fun i hi => by
  rcases Nat.lt_or_ge i k with h' | h'
  · exact h i h'
  · obtain rfl : i = k := by omega
    exact (pathOk_at hs).trans hb
theorem PathsTo.done {ss : List ByteArray} (h : PathsTo ss ss.length) : pathsB ss = decide (ss.length ≤ 20) := by
  unfold pathsB VP.pathsP
  rw [VP.allAt_true (by rw [List.length_map]; exact h), List.length_map]
  rfl

set_option maxHeartbeats 2000000 in
set_option maxRecDepth 100000 in
theorem paths_calls (v : Value) (ss : List ByteArray) (w : World) (hE : Env w) (h : StrsAt w v ss) (hs : ∀ s ∈ ss, s.size ≤ 1000000) : Calls Tryz.prog 69 #[v] w (BoolIs (pathsB ss) w) := by
  obtain ⟨A, c, hv, hc, hm, hr⟩ := h.open
  have HH := Lib.hid h
  subst hv
  obtain ⟨len, hlen⟩ : ∃ len, ss.length = len := ⟨_, rfl⟩
  have HL := Lib.hid hlen
  have HR := Lib.hid hr
  have HS := Lib.hid hs
  have HE := Lib.hid hE
  rw [hlen] at hc hm HH ⊢
  clear hlen hr hs h hE
  go_enter Tryz.func69, Tryz.ntmps69
  go_wp2_with fail
  go_loopw [7] (fun i wr => ∃ k : Nat, k ≤ len ∧ i = .int .i64 k ∧ Hid (PathsTo ss k) ∧ Below w.heap.size w wr) (fun i _ => len - (intOf i).toNat)
  case atStart => exact ⟨0, Nat.zero_le _, rfl, PathsTo.zero ss, Below.refl _ _⟩
  case round =>
    obtain ⟨k, hk, rfl, hall, hB⟩ := hrel
    by_cases hlt : k < len
    · have hne : ss ≠ [] := by
        intro e
        have := HL.out
        rw [e] at this
        simp at this
        omega
      obtain ⟨s, ht⟩ : ∃ s, ss[k]? = some s := ⟨ss[k]'(by have := HL.out; omega), List.getElem?_eq_getElem _⟩
      obtain ⟨b, off, rfl, hi⟩ := HR.out hne
      have c0 := kept hB (hi k s ht)
      have P1 := Lib.hid (path_calls s wr (HE.out.below hB) (HS.out s (List.mem_of_getElem? ht)))
      have HT := Lib.hid ht
      obtain ⟨bp, hbp⟩ : ∃ b, VP.pathP s.data.toList = b := ⟨_, rfl⟩
      rw [hbp] at P1
      have HP := Lib.hid hbp
      have hck : k ≤ c := by omega
      clear hi hne ht hbp
      go_wp2_with fail
      refine P1.out.mono ?_
      rintro E w1 ⟨rfl, hb⟩
      have hB1 := step_below hB hb
      clear hb c0 P1
      cases bp with
      | false =>
        go_wp2_with fail
        go_ret
        exact ⟨ret_bool (by rw [pathsB_false HT.out (by rw [HP.out]; rfl)]), hB1⟩
      | true =>
      have P2 := Lib.hid (hasStr_calls (.slice (some ⟨b, off, none⟩) k c) (ss.take k) s w1 ((HH.out.below hB1).take (by have := HL.out; omega)))
      obtain ⟨bm, hbm⟩ : ∃ x, hasB (ss.take k) s = x := ⟨_, rfl⟩
      rw [hbm] at P2
      have HM := Lib.hid hbm
      clear hbm
      go_wp2_with fail
      refine P2.out.mono ?_
      rintro E w2 ⟨rfl, rfl⟩
      clear P2
      cases bm with
      | true =>
        go_wp2_with fail
        go_ret
        exact ⟨ret_bool (by rw [pathsB_false HT.out (by rw [HP.out, HM.out]; rfl)]), hB1⟩
      | false =>
        go_wp2_with fail
        go_roundw
        case rel => exact ⟨k + 1, by omega, by go_num, Lib.hid (hall.out.succ HT.out (by rw [HP.out, HM.out]; rfl)), hB1⟩
        case measure => simp [intOf]; omega
    · obtain rfl : len = k := by omega
      have HF := Lib.hid (show pathsB ss = decide (len ≤ 20) by have := hall.out; rw [← HL.out] at this; rw [this.done, HL.out])
      by_cases h20 : len ≤ 20
      · go_wp2_with fail
        go_ret
        exact ⟨ret_bool (by rw [HF.out] <;> simp <;> omega), hB⟩
      · go_wp2_with fail
        go_ret
        exact ⟨ret_bool (by rw [HF.out] <;> simp <;> omega), hB⟩

set_option maxHeartbeats 2000000 in
set_option maxRecDepth 100000 in
theorem refPaths_calls (v : Value) (ss : List ByteArray) (w : World) (h : StrsAt w v ss) (hs : ∀ s ∈ ss, s.size ≤ 1000000) : Calls Tryz.prog 73 #[v] w (BoolIs (pathsB ss) w) := by
  obtain ⟨A, c, hv, hc, hm, hr⟩ := h.open
  subst hv
  obtain ⟨len, hlen⟩ : ∃ len, ss.length = len := ⟨_, rfl⟩
  have HL := Lib.hid hlen
  have HR := Lib.hid hr
  have HS := Lib.hid hs
  rw [hlen] at hc hm ⊢
  clear hlen hr hs h
  go_enter Tryz.func73, Tryz.ntmps73
  go_wp2_with fail
  go_loopw [9] (fun i wr => ∃ k : Nat, k ≤ len ∧ i = .int .i64 k ∧ Hid (PathsTo ss k) ∧ Below w.heap.size w wr) (fun i _ => len - (intOf i).toNat)
  case atStart => exact ⟨0, Nat.zero_le _, rfl, PathsTo.zero ss, Below.refl _ _⟩
  case round =>
    obtain ⟨k, hk, rfl, hall, hB⟩ := hrel
    by_cases hlt : k < len
    · have hne : ss ≠ [] := by
        intro e
        have := HL.out
        rw [e] at this
        simp at this
        omega
      obtain ⟨s, ht⟩ : ∃ s, ss[k]? = some s := ⟨ss[k]'(by have := HL.out; omega), List.getElem?_eq_getElem _⟩
      obtain ⟨b, off, rfl, hi⟩ := HR.out hne
      have c0 := kept hB (hi k s ht)
      have HI := Lib.hid (fun (j : Nat) (t : ByteArray) (hj : ss[j]? = some t) => kept hB (hi j t hj))
      have P1 := Lib.hid (fun (W : World) => refPath_calls s W (HS.out s (List.mem_of_getElem? ht)))
      have HT := Lib.hid ht
      obtain ⟨bp, hbp⟩ : ∃ b, VP.pathP s.data.toList = b := ⟨_, rfl⟩
      rw [hbp] at P1
      have HP := Lib.hid hbp
      have hck : k ≤ c := by omega
      clear hi hne ht hbp
      go_wp2_with fail
      obtain ⟨wo, rfl⟩ : ∃ x, x = wr := ⟨wr, rfl⟩
      go_loopw [18] (fun i wx => ∃ j : Nat, j ≤ k ∧ i = .int .i64 j ∧ Hid ((ss.take j).all (fun t => decide (¬ t = s)) = true) ∧ Below wo.heap.size wo wx) (fun i _ => k - (intOf i).toNat)
      case atStart => exact ⟨0, Nat.zero_le _, rfl, rfl, Below.refl _ _⟩
      case round =>
        obtain ⟨j, hj, rfl, hno, hz⟩ := hrel
        replace hB := step_below hB hz
        by_cases hjt : j < k
        · obtain ⟨t, ht⟩ : ∃ t, ss[j]? = some t := ⟨ss[j]'(by have := HL.out; omega), List.getElem?_eq_getElem _⟩
          have d0 := kept hz (HI.out j t ht)
          have HTJ := Lib.hid ht
          clear ht
          by_cases hts : s = t
          · have HF := Lib.hid (show pathsB ss = false from pathsB_false HT.out (by
              have hm : s ∈ ss.take k := by
                rw [hts]
                exact List.mem_of_getElem? (i := j) (by rw [List.getElem?_take, if_pos hjt]; exact HTJ.out)
              rw [hasB_iff.2 hm, Bool.not_true, Bool.and_false]))
            have hbe : (s.toList == t.toList) = true := by rw [hts]; simp
            clear HTJ
            subst hts
            go_wp2_with fail
            go_ret
            exact ⟨ret_bool HF.out.symm, hB⟩
          · have hne : (s.toList == t.toList) = false := beq_eq_false_iff_ne.2 (toList_ne2 hts)
            have HNE := Lib.hid (fun e => hts e.symm : ¬ t = s)
            clear hts
            go_wp2_with fail
            go_roundw
            case rel => exact ⟨j + 1, by omega, by go_num, Lib.hid (all_take_succ hno.out HTJ.out (decide_eq_true HNE.out)), hz⟩
            case measure => simp [intOf]; omega
        · obtain rfl : k = j := by omega
          have HNO := Lib.hid (show hasB (ss.take k) s = false from Bool.eq_false_iff.2 (fun hm => by
            have := List.all_eq_true.1 hno.out s (hasB_iff.1 hm)
            simp at this))
          clear hno
          go_wp2_with fail
          refine (P1.out _).mono ?_
          rintro E w1 ⟨rfl, hb⟩
          have hB1 := step_below hB hb
          clear hb P1
          cases bp with
          | false =>
            go_wp2_with fail
            go_ret
            exact ⟨ret_bool (by rw [pathsB_false HT.out (by rw [HP.out]; rfl)]), hB1⟩
          | true =>
            go_wp2_with fail
            go_roundw
            case rel => exact ⟨k + 1, by omega, by go_num, Lib.hid (hall.out.succ HT.out (by rw [HP.out, HNO.out]; rfl)), hB1⟩
            case measure => simp [intOf]; omega
    · obtain rfl : len = k := by omega
      have HF := Lib.hid (show pathsB ss = decide (len ≤ 20) by have := hall.out; rw [← HL.out] at this; rw [this.done, HL.out])
      by_cases h20 : len ≤ 20
      · go_wp2_with fail
        go_ret
        exact ⟨ret_bool (by rw [HF.out] <;> simp <;> omega), hB⟩
      · go_wp2_with fail
        go_ret
        exact ⟨ret_bool (by rw [HF.out] <;> simp <;> omega), hB⟩
end Go.Proofs.YtodbbfgkclkpgaaGreatDoor

namespace Go.Proofs.YtodbbfgkclkpgaaGreatDoor
open Go Go.RowKit

structure Pv where
  n : ByteArray
  e : Int
  u : ByteArray
  r : ByteArray
  dep : List (List Tv)
  ahead : List (List Tv)
  ag : List Tv
  br : List Tv
  re : List Tv
  pr : List Tv
  se : List ByteArray
  li : List ByteArray
  fi : List Fv

/-- this value is a package that reads as p -/
def PackAt (w : World) (v : Value) (p : Pv) : Prop := ∃ v1 v2 v3 v4 v5 v6 v7 v8 v9 : Value,
  v = .agg #[.string p.n, .int .i64 p.e, .string p.u, .string p.r, v1, v2, v3, v4, v5, v6, v7, v8, v9] ∧
  AskedAt w v1 p.dep ∧ AskedAt w v2 p.ahead ∧ TermsAt w v3 p.ag ∧ TermsAt w v4 p.br ∧ TermsAt w v5 p.re ∧ TermsAt w v6 p.pr ∧ StrsAt w v7 p.se ∧ StrsAt w v8 p.li ∧ FieldsAt w v9 p.fi ∧
  -9223372036854775808 ≤ p.e ∧ p.e ≤ 9223372036854775807
theorem PackAt.below {w w' : World} {v : Value} {p : Pv} (h : PackAt w v p) (hb : Below w.heap.size w w') : PackAt w' v p := by
  obtain ⟨v1, v2, v3, v4, v5, v6, v7, v8, v9, hv, h1, h2, h3, h4, h5, h6, h7, h8, h9, hlo, hhi⟩ := h
  exact ⟨v1, v2, v3, v4, v5, v6, v7, v8, v9, hv, h1.below hb, h2.below hb, h3.below hb, h4.below hb, h5.below hb, h6.below hb, h7.below hb, h8.below hb, h9.below hb, hlo, hhi⟩

/-- what it says, as lists of bytes -/
def Pv.pk (p : Pv) : VP.Pk := ⟨p.n.data.toList, p.e, p.u.data.toList, p.r.data.toList, tmL p.dep, tmL p.ahead, p.ag.map Tv.tm, p.br.map Tv.tm, p.re.map Tv.tm, p.pr.map Tv.tm, p.se.map (·.data.toList), p.li.map (·.data.toList)⟩

/-! short enough to be held -/
def textsB (ss : List ByteArray) : Bool := decide (ss.length ≤ 40) && ss.all fun s => decide (s.size ≤ 100)
def filesB (fs : List Fv) : Bool := decide (fs.length ≤ 30) && fs.all fun f => decide (f.n.size ≤ 100) && decide (f.v.size ≤ 500)
def saysB (p : Pv) : Bool :=
  decide (p.n.size ≤ 60) && (shortB p.u p.r && (termsB p.dep && (termsB p.ahead && (flatB p.ag && (flatB p.br && (flatB p.re && (flatB p.pr && (textsB p.se && (textsB p.li && filesB p.fi)))))))))
end Go.Proofs.YtodbbfgkclkpgaaGreatDoor

namespace Go.Proofs.YtodbbfgkclkpgaaGreatDoor
open Go.RowKit

def SinglesIs (ts : List Tv) (w : World) (E : Ending) (w' : World) : Prop := ∃ v', E = .returned v' ∧ AskedAt w' v' (ts.map fun t => [t]) ∧ Below w.heap.size w w'

/-- a slice of terms whose block is none of a row of such slices -/
def Typed (w : World) (base : Nat) (vx : Value) : Prop := ∀ a n c, vx = .slice (some a) n c → a.block < base ∨ ∃ cur fz, w.heap[a.block]? = some (.cells cur 99 fz)

theorem typed_ne {w : World} {base : Nat} {s : Value} {n : Nat} {vs : List Value} {vx : Value} {a : Addr} {m c : Nat} (ho : w.ownsRow base 25 1 s n vs) (ht : Typed w base vx) (hv : vx = .slice (some a) m c) : some a.block ≠ s.ownBlock := by
  rcases ho.2 with ⟨rfl, _⟩ | ⟨g, cap, cur, rfl, hg, hk, _⟩
  · intro e; cases e
  · intro e
    have e' : a.block = g := by injection e
    rcases ht a m c hv with h | ⟨cur', fz, h⟩
    · omega
    · rw [e', hk] at h
      injection h with h
      injection h with _ h2
      exact absurd h2 (by decide)

theorem terms_grown {w w' : World} {base : Nat} {s : Value} {n : Nat} {vs : List Value} {vx : Value} {x : List Tv} (hg : w.grownBy w' s.ownBlock) (ho : w.ownsRow base 25 1 s n vs) (h : TermsAt w vx x) (ht : Typed w base vx) : TermsAt w' vx x ∧ Typed w' base vx := by
  obtain ⟨A, c, hv, hc, hm, hr⟩ := h
  refine ⟨⟨A, c, hv, hc, hm, fun hn => ?_⟩, fun a m c' hv' => ?_⟩
  · obtain ⟨b, off, rfl, hi⟩ := hr hn
    have hne := typed_ne ho ht hv
    refine ⟨b, off, rfl, fun i t hti => ⟨?_, (hi i t hti).2⟩⟩
    obtain ⟨h0, h1, h2, h3, h4⟩ := (hi i t hti).1
    exact ⟨hg.cell h0 hne, hg.cell h1 hne, hg.cell h2 hne, hg.cell h3 hne, hg.cell h4 hne⟩
  · rcases ht a m c' hv' with h | ⟨cur, fz, h⟩
    · exact .inl h
    · exact .inr ⟨cur, fz, (hg.block a.block (Array.getElem?_eq_some_iff.1 h).1 (typed_ne ho ht hv')).trans h⟩

theorem typed_below {w w' : World} {base : Nat} {vx : Value} (h : Typed w base vx) (hb : Below w.heap.size w w') : Typed w' base vx := fun a m c hv => by
  rcases h a m c hv with h | ⟨cur, fz, h⟩
  · exact .inl h
  · exact .inr ⟨cur, fz, (hb.block a.block (Array.getElem?_eq_some_iff.1 h).1).trans h⟩

/-- lists of terms, each a slice of its own -/
def Rows (w : World) (base : Nat) (L : List (List Tv)) (vs : List Value) : Prop := vs.length = L.length ∧ ∀ (i : Nat) (x : List Tv), L[i]? = some x → ∃ vx : Value, vs[i]? = some vx ∧ TermsAt w vx x ∧ Typed w base vx
theorem Rows.nil {w : World} {base : Nat} : Rows w base [] [] := ⟨rfl, fun _ _ h => by cases h⟩
theorem Rows.grown {w w' : World} {base : Nat} {s : Value} {n : Nat} {us : List Value} {L : List (List Tv)} {vs : List Value} (hg : w.grownBy w' s.ownBlock) (ho : w.ownsRow base 25 1 s n us) (h : Rows w base L vs) : Rows w' base L vs :=
  ⟨h.1, fun i x hx => by
    obtain ⟨vx, h1, h2, h3⟩ := h.2 i x hx
    obtain ⟨h4, h5⟩ := terms_grown hg ho h2 h3
    exact ⟨vx, h1, h4, h5⟩⟩
theorem Rows.below {w w' : World} {base : Nat} {L : List (List Tv)} {vs : List Value} (h : Rows w base L vs) (hb : Below w.heap.size w w') : Rows w' base L vs :=
  ⟨h.1, fun i x hx => by
    obtain ⟨vx, h1, h2, h3⟩ := h.2 i x hx
    exact ⟨vx, h1, h2.below hb, typed_below h3 hb⟩⟩
theorem Rows.snoc {w : World} {base : Nat} {L : List (List Tv)} {vs : List Value} {x : List Tv} {v : Value} (h : Rows w base L vs) (hv : TermsAt w v x) (ht : Typed w base v) : Rows w base (L ++ [x]) (vs ++ [v]) := by
  refine ⟨by rw [List.length_append, List.length_append, h.1]; rfl, fun i y hy => ?_⟩
  rcases Nat.lt_trichotomy i L.length with hi | hi | hi
  · rw [List.getElem?_append_left hi] at hy
    obtain ⟨vx, h1, h2⟩ := h.2 i y hy
    exact ⟨vx, by rw [List.getElem?_append_left (by rw [h.1]; exact hi)]; exact h1, h2⟩
  · subst hi
    rw [List.getElem?_append_right (Nat.le_refl _), Nat.sub_self] at hy
    obtain rfl := Option.some.inj hy
    exact ⟨v, by rw [List.getElem?_append_right (by rw [h.1]; exact Nat.le_refl _), h.1, Nat.sub_self]; rfl, hv, ht⟩
  · rw [List.getElem?_eq_none (by rw [List.length_append, List.length_singleton]; omega)] at hy
    cases hy

theorem termsAt_one {w : World} {b off : Nat} {t : Tv} {c : Nat} (h : TermAt w b off t) (hok : t.ok) (hc : 1 ≤ c) : TermsAt w (.slice (some ⟨b, off, none⟩) 1 c) [t] :=
  ⟨_, c, rfl, hc, by simp, fun _ => ⟨b, off, rfl, fun i t' ht' => by
    match i, ht' with
    | 0, ht' =>
      obtain rfl := Option.some.inj ht'
      exact ⟨by simpa using h, hok⟩⟩⟩

theorem take_map_succ {ts : List Tv} {k : Nat} {t : Tv} (ht : ts[k]? = some t) : (ts.take (k + 1)).map (fun t => [t]) = (ts.take k).map (fun t => [t]) ++ [[t]] := by
  rw [List.take_add_one, ht]
  simp

set_option maxHeartbeats 1000000 in
set_option maxRecDepth 100000 in
theorem singles_calls (v : Value) (ts : List Tv) (w : World) (h : TermsAt w v ts) (h40 : ts.length ≤ 1000) : Calls Tryz.prog 60 #[v] w (SinglesIs ts w) := by
  obtain ⟨A, c, rfl, hc, hm, hr⟩ := h
  obtain ⟨len, hlen⟩ : ∃ len, ts.length = len := ⟨_, rfl⟩
  have HL := Lib.hid hlen
  have HR := Lib.hid hr
  rw [hlen] at hc hm h40 ⊢
  clear hlen hr
  obtain ⟨i0, hi, hz0, hz1, hz2⟩ := info_parts info_terms
  go_enter Tryz.func60, Tryz.ntmps60
  go_wp2_with fail
  go_loopw [3, 8] (fun s3 i wr => ∃ (k : Nat) (vs : List Value), k ≤ len ∧ i = .int .i64 k ∧ wr.ownsRow w.heap.size 25 1 s3 k vs ∧ Hid (Rows wr w.heap.size ((ts.take k).map fun t => [t]) vs) ∧ Below w.heap.size w wr) (fun _ i _ => len - (intOf i).toNat)
  case atStart => exact ⟨0, [], Nat.zero_le _, rfl, World.ownsRow_nil _ _ _ _, Lib.hid Rows.nil, Below.refl _ _⟩
  case round =>
    obtain ⟨k, vs, hk, rfl, hown, hrows, hB⟩ := hrel
    by_cases hlt : k < len
    · obtain ⟨t, ht⟩ : ∃ t, ts[k]? = some t := ⟨ts[k]'(by have := HL.out; omega), List.getElem?_eq_getElem _⟩
      have hne : ts ≠ [] := by
        intro e
        have := HL.out
        rw [e] at this
        simp at this
        omega
      obtain ⟨b, off, rfl, hi'⟩ := HR.out hne
      obtain ⟨hT0, hok⟩ := hi' k t ht
      clear hi' hne
      have hT := hT0.below hB
      have HT := Lib.hid ht
      have HOK := Lib.hid hok
      obtain ⟨c0, c1, c2, c3, c4⟩ := hT
      have hsz := hB.size
      obtain ⟨n, op, e, u, r⟩ := t
      dsimp only at c0 c1 c2 c3 c4
      clear ht hT0 hok
      go_wp2_with (at_builtin; refine wpList_append_own _ rfl _ _ 24 rfl w.heap.size 25 i0 (.slice none 0 0) 1 24 Tryz.underlying24 hi hz0 hz1 hz2 rfl (by decide) _ _ _ rfl (((hown.alloc _).alloc _).alloc _) ⟨wr.heap.size + 1 + 1, 0, none⟩ 1 1 [.slice (some ⟨wr.heap.size + 1, 0, none⟩) 1 1] rfl rfl (fun j u hj => by simpa using cell_one_new ((wr.alloc _).alloc _) _ _ j u hj) (by simp [Value.oneCell']) (by simp only [maxLen]; omega) (by omega) (by simp; omega) ?_; intro v' w3 hown3 hgrow hnil)
      have HOW := Lib.hid hown3
      have HG := Lib.hid hgrow
      have HO := Lib.hid hown
      clear hown3 hgrow hown hnil c0 c1 c2 c3 c4
      go_roundw
      case rel =>
        have ho3 := ((HO.out.alloc (.cells #[.string n, .int .i64 op, .int .i64 e, .string u, .string r] 99)).alloc (.cells #[.string n, .int .i64 op, .int .i64 e, .string u, .string r] 99)).alloc (.cells #[.slice (some ⟨wr.heap.size + 1, 0, none⟩) 1 1] 25)
        have hb1 := below_alloc wr (.cells #[.string n, .int .i64 op, .int .i64 e, .string u, .string r] 99)
        have hb2 := step_below hb1 (below_alloc _ (.cells #[.string n, .int .i64 op, .int .i64 e, .string u, .string r] 99))
        have hb3 := step_below hb2 (below_alloc _ (.cells #[.slice (some ⟨wr.heap.size + 1, 0, none⟩) 1 1] 25))
        have hnew : TermAt (((wr.alloc (.cells #[.string n, .int .i64 op, .int .i64 e, .string u, .string r] 99)).alloc (.cells #[.string n, .int .i64 op, .int .i64 e, .string u, .string r] 99)).alloc (.cells #[.slice (some ⟨wr.heap.size + 1, 0, none⟩) 1 1] 25)) (wr.heap.size + 1) 0 ⟨n, op, e, u, r⟩ := ⟨by go_cell, by go_cell, by go_cell, by go_cell, by go_cell⟩
        have hty : Typed (((wr.alloc (.cells #[.string n, .int .i64 op, .int .i64 e, .string u, .string r] 99)).alloc (.cells #[.string n, .int .i64 op, .int .i64 e, .string u, .string r] 99)).alloc (.cells #[.slice (some ⟨wr.heap.size + 1, 0, none⟩) 1 1] 25)) w.heap.size (.slice (some ⟨wr.heap.size + 1, 0, none⟩) 1 1) := by
          intro a m c' hv
          injection hv with hv1 _ _
          injection hv1 with hv1
          subst hv1
          refine .inr ⟨#[.string n, .int .i64 op, .int .i64 e, .string u, .string r], (0, 0), ?_⟩
          exact (Below.heap_alloc _ _ _ (by simp)).trans (by have := heap_alloc_new (wr.alloc (.cells #[.string n, .int .i64 op, .int .i64 e, .string u, .string r] 99)) (.cells #[.string n, .int .i64 op, .int .i64 e, .string u, .string r] 99); simpa using this)
        have hrows3 := (hrows.out.below hb3).snoc (termsAt_one hnew HOK.out (Nat.le_refl _)) hty
        rw [← take_map_succ HT.out] at hrows3
        exact ⟨k + 1, vs ++ [.slice (some ⟨wr.heap.size + 1, 0, none⟩) 1 1], by omega, by go_num, HOW.out, Lib.hid (hrows3.grown HG.out ho3), (step_below hB hb3).grown HG.out (by simp; omega) (fun g e => (ho3.lt g e).1)⟩
      case measure => simp [intOf]; omega
    · obtain rfl : k = len := by omega
      have HO := Lib.hid hown
      clear hown
      go_wp2_with fail
      go_ret
      refine ⟨_, rfl, ?_, hB⟩
      have hrows' := hrows.out
      rw [← HL.out, List.take_length] at hrows'
      exact asked_of_own HO.out (by rw [List.length_map, HL.out]) (by omega) (fun i x hx => by
        obtain ⟨vx, h1, h2, _⟩ := hrows'.2 i x hx
        exact ⟨vx, h1, h2⟩)

set_option maxHeartbeats 1000000 in
set_option maxRecDepth 100000 in
theorem refSingles_calls (v : Value) (ts : List Tv) (w : World) (h : TermsAt w v ts) (hb0 : ∀ a n c, v = .slice (some a) n c → ts ≠ [] → a.block < w.heap.size) (h40 : ts.length ≤ 1000) : Calls Tryz.prog 53 #[v] w (SinglesIs ts w) := by
  obtain ⟨A, c, rfl, hc, hm, hr⟩ := h
  obtain ⟨len, hlen⟩ : ∃ len, ts.length = len := ⟨_, rfl⟩
  have HL := Lib.hid hlen
  have HR := Lib.hid hr
  have HB0 := Lib.hid hb0
  rw [hlen] at hc hm h40 ⊢
  clear hlen hr hb0
  obtain ⟨i0, hi, hz0, hz1, hz2⟩ := info_parts info_terms
  go_enter Tryz.func53, Tryz.ntmps53
  go_wp2_with fail
  go_loopw [3, 7] (fun s3 i wr => ∃ (k : Nat) (vs : List Value), k ≤ len ∧ i = .int .i64 k ∧ wr.ownsRow w.heap.size 25 1 s3 k vs ∧ Hid (Rows wr w.heap.size ((ts.take k).map fun t => [t]) vs) ∧ Below w.heap.size w wr) (fun _ i _ => len - (intOf i).toNat)
  case atStart => exact ⟨0, [], Nat.zero_le _, rfl, World.ownsRow_nil _ _ _ _, Lib.hid Rows.nil, Below.refl _ _⟩
  case round =>
    obtain ⟨k, vs, hk, rfl, hown, hrows, hB⟩ := hrel
    by_cases hlt : k < len
    · obtain ⟨t, ht⟩ : ∃ t, ts[k]? = some t := ⟨ts[k]'(by have := HL.out; omega), List.getElem?_eq_getElem _⟩
      have hne : ts ≠ [] := by
        intro e
        have := HL.out
        rw [e] at this
        simp at this
        omega
      obtain ⟨b, off, rfl, hi'⟩ := HR.out hne
      have hblt : b < w.heap.size := HB0.out ⟨b, off, none⟩ _ _ rfl hne
      obtain ⟨hT0, hok⟩ := hi' k t ht
      clear hi' hne
      have HT := Lib.hid ht
      have HT0 := Lib.hid (hT0.below hB)
      have HOK := Lib.hid hok
      have hsz := hB.size
      have hck : k < c := by omega
      have hk1 : k + 1 ≤ c := by omega
      clear ht hT0 hok
      go_wp2_with (at_builtin; refine wpList_append_own _ rfl _ _ 24 rfl w.heap.size 25 i0 (.slice none 0 0) 1 24 Tryz.underlying24 hi hz0 hz1 hz2 rfl (by decide) _ _ _ rfl (hown.alloc _) ⟨wr.heap.size, 0, none⟩ 1 1 [.slice (some ⟨b, off + k * 5, none⟩) 1 (c - k)] rfl rfl (cell_one_new _ _ _) (by simp [Value.oneCell']) (by simp only [maxLen]; omega) (by omega) (by simp; omega) ?_; intro v' w3 hown3 hgrow hnil)
      have HOW := Lib.hid hown3
      have HG := Lib.hid hgrow
      have HO := Lib.hid hown
      clear hown3 hgrow hown hnil
      go_roundw
      case rel =>
        have ho3 := HO.out.alloc (.cells #[.slice (some ⟨b, off + k * 5, none⟩) 1 (c - k)] 25)
        have hb1 := below_alloc wr (.cells #[.slice (some ⟨b, off + k * 5, none⟩) 1 (c - k)] 25)
        have hty : Typed (wr.alloc (.cells #[.slice (some ⟨b, off + k * 5, none⟩) 1 (c - k)] 25)) w.heap.size (.slice (some ⟨b, off + k * 5, none⟩) 1 (c - k)) := by
          intro a m c' hv
          injection hv with hv1 _ _
          injection hv1 with hv1
          subst hv1
          exact .inl hblt
        have hrows3 := (hrows.out.below hb1).snoc (termsAt_one (HT0.out.below hb1) HOK.out (by omega)) hty
        rw [← take_map_succ HT.out] at hrows3
        exact ⟨k + 1, vs ++ [.slice (some ⟨b, off + k * 5, none⟩) 1 (c - k)], by omega, by go_num, HOW.out, Lib.hid (hrows3.grown HG.out ho3), (step_below hB hb1).grown HG.out (by simp; omega) (fun g e => (ho3.lt g e).1)⟩
      case measure => simp [intOf]; omega
    · obtain rfl : k = len := by omega
      have HO := Lib.hid hown
      clear hown
      go_wp2_with fail
      go_ret
      refine ⟨_, rfl, ?_, hB⟩
      have hrows' := hrows.out
      rw [← HL.out, List.take_length] at hrows'
      exact asked_of_own HO.out (by rw [List.length_map, HL.out]) (by omega) (fun i x hx => by
        obtain ⟨vx, h1, h2, _⟩ := hrows'.2 i x hx
        exact ⟨vx, h1, h2⟩)
end Go.Proofs.YtodbbfgkclkpgaaGreatDoor

/- slices.IsSorted over texts; the reference's rises: whether some texts rise. · slices.Compact of slices.Clone: are some texts fewer then: are there two alike beside each other. -/
import Derived.Test.YtpbbhjifgaeklaaGreatDoorSTK11
import Derived.Test.YtpbbhjifgaeklaaGreatDoorSTK13
import Derived.Laws.Cover1
import Derived.Deep.QuietTactic
import Derived.BigQuiet
import Derived.Lib.OwnBridge
import Derived.Shelf.Slices.CompactS
import Derived.Shelf.Slices.Clone
namespace Go.Proofs.YtpbbhjifgaeklaaGreatDoor
open Go Go.RowKit

theorem isNaN_calls (x : ByteArray) (w : World) : Calls Tryz.prog 212 #[.string x] w fun E w' => E = .returned (.bool false) ∧ w = w' := by
  go_enter Tryz.func212, Tryz.ntmps212
  go_wp2_with fail
  go_ret
  exact ⟨by simp, rfl⟩

theorem less_calls (x y : ByteArray) (w : World) : Calls Tryz.prog 143 #[.string x, .string y] w fun E w' => E = .returned (.bool (ltS x y)) ∧ w' = w := by
  go_enter Tryz.func143, Tryz.ntmps143
  go_wp2_with (go_at_call 212; refine (isNaN_calls _ _).mono ?_; rintro E w' ⟨rfl, rfl⟩)
  go_ret
  exact ⟨by simp [ltS], rfl⟩

/-- from place k on they rise -/
def SortedFrom (l : List ByteArray) (k : Nat) : Prop := ∀ (i : Nat) (a b : ByteArray), k ≤ i → l[i]? = some a → l[i + 1]? = some b → ltS b a = false

theorem sorted_from {l : List ByteArray} (h : SortedFrom l 0) : sortedS l = true := (adj_iff _ l).2 fun i a b ha hb => by rw [h i a b (Nat.zero_le _) ha hb]; rfl
theorem sorted_no {l : List ByteArray} {i : Nat} {a b : ByteArray} (ha : l[i]? = some a) (hb : l[i + 1]? = some b) (h : ltS b a = true) : sortedS l = false := by
  refine Bool.eq_false_iff.2 fun e => ?_
  have := (adj_iff _ l).1 e i a b ha hb
  rw [h] at this
  cases this

set_option maxHeartbeats 1000000 in
set_option maxRecDepth 100000 in
theorem sorted_calls (v : Value) (l : List ByteArray) (w : World) (h : StrsAt w v l) : Calls Tryz.prog 66 #[v] w (BoolIs (sortedS l) w) := by
  obtain ⟨A, c, hv, hc, hm, hr⟩ := h.open
  subst hv
  obtain ⟨len, hlen⟩ : ∃ len, l.length = len := ⟨_, rfl⟩
  have HL := Lib.hid hlen
  have HR := Lib.hid hr
  rw [hlen] at hc hm ⊢
  clear hlen hr h
  go_enter Tryz.func66, Tryz.ntmps66
  go_wp2_with fail
  go_loopw [3] (fun i wr => ∃ k : Int, -1 ≤ k ∧ k + 1 ≤ len ∧ i = .int .i64 k ∧ Hid (SortedFrom l k.toNat) ∧ Below w.heap.size w wr) (fun i _ => (intOf i).toNat)
  case atStart => exact ⟨(len : Int) - 1, by omega, by omega, by go_num, Lib.hid fun i a b hi ha hb => by
    have := (List.getElem?_eq_some_iff.1 hb).1
    have := HL.out
    omega, Below.refl _ _⟩
  case round =>
    obtain ⟨k, hk0, hk, rfl, hall, hB⟩ := hrel
    by_cases hlt : 0 < k
    · obtain ⟨j, rfl⟩ : ∃ j : Nat, k = (j : Int) + 1 := ⟨(k - 1).toNat, by omega⟩
      have hne : l ≠ [] := by
        intro e
        have := HL.out
        rw [e] at this
        simp at this
        omega
      obtain ⟨a, ha⟩ : ∃ x, l[j]? = some x := ⟨l[j]'(by have := HL.out; omega), List.getElem?_eq_getElem _⟩
      obtain ⟨b, hb⟩ : ∃ x, l[j + 1]? = some x := ⟨l[j + 1]'(by have := HL.out; omega), List.getElem?_eq_getElem _⟩
      obtain ⟨b', off, rfl, hi⟩ := HR.out hne
      have c0 := kept hB (hi j a ha)
      have c1 := kept hB (hi (j + 1) b hb)
      have HA := Lib.hid ha
      have HBB := Lib.hid hb
      obtain ⟨pb, hpb⟩ : ∃ pb, ltS b a = pb := ⟨_, rfl⟩
      have HP := Lib.hid hpb
      have H := Lib.hid (fun W => less_calls b a W)
      rw [hpb] at H
      clear ha hb hi hne hpb
      have hk0 : (0 : Int) ≤ (j : Int) := by omega
      have hk1 : (j : Int) + 1 < (len : Int) := by omega
      have hk2 : (j : Int) < (len : Int) := by omega
      have hk3 : (0 : Int) ≤ (j : Int) + 1 := by omega
      have hw : IntKind.i64.wrap (j : Int) = (j : Int) := by rw [IntKind.wrap_i64]; omega
      go_wp2_with fail
      go_quiet (refine Calls.quiet_of_same (H.out _))
      have hB := hB.trans (below_drewN w.heap.size wr nq)
      cases pb with
      | true =>
        go_wp2_with fail
        go_ret
        exact ⟨ret_bool (by rw [sorted_no HA.out HBB.out HP.out]), hB⟩
      | false =>
        have HS := Lib.hid (show SortedFrom l j from fun i a' b' hi ha hb => by
          by_cases e : i = j
          · subst e
            have e1 := HA.out.symm.trans ha
            have e2 := HBB.out.symm.trans hb
            injection e1 with e1
            injection e2 with e2
            subst e1 e2
            exact HP.out
          · exact hall.out i a' b' (by omega) ha hb)
        go_wp2_with fail
        go_roundw
        case rel => exact ⟨(j : Int), by omega, by omega, by go_num, by simpa using HS, hB⟩
        case measure => simp [intOf]
    · have HS := Lib.hid (sorted_from (l := l) (fun i a b _ ha hb => hall.out i a b (by omega) ha hb))
      go_wp2_with fail
      go_ret
      exact ⟨ret_bool (by rw [HS.out]), hB⟩

/-- up to place k they rise -/
def RisesTo (l : List ByteArray) (k : Nat) : Prop := ∀ (i : Nat) (a b : ByteArray), i + 1 < k → l[i]? = some a → l[i + 1]? = some b → ltS a b = true

set_option maxHeartbeats 1000000 in
set_option maxRecDepth 100000 in
theorem rises_calls (v : Value) (l : List ByteArray) (w : World) (h : StrsAt w v l) : Calls Tryz.prog 76 #[v] w (BoolIs (risesB l) w) := by
  obtain ⟨A, c, hv, hc, hm, hr⟩ := h.open
  subst hv
  obtain ⟨len, hlen⟩ : ∃ len, l.length = len := ⟨_, rfl⟩
  have HL := Lib.hid hlen
  have HR := Lib.hid hr
  rw [hlen] at hc hm ⊢
  clear hlen hr h
  go_enter Tryz.func76, Tryz.ntmps76
  go_wp2_with fail
  go_loopw [3] (fun i wr => ∃ k : Nat, 1 ≤ k ∧ (k ≤ len ∨ k = 1) ∧ i = .int .i64 k ∧ Hid (RisesTo l k) ∧ Below w.heap.size w wr) (fun i _ => len - (intOf i).toNat)
  case atStart => exact ⟨1, by omega, .inr rfl, rfl, Lib.hid fun i a b hi => by omega, Below.refl _ _⟩
  case round =>
    obtain ⟨k, hk0, hk, rfl, hall, hB⟩ := hrel
    by_cases hlt : k < len
    · obtain ⟨j, rfl⟩ : ∃ j : Nat, k = j + 1 := ⟨k - 1, by omega⟩
      have hne : l ≠ [] := by
        intro e
        have := HL.out
        rw [e] at this
        simp at this
        omega
      obtain ⟨a, ha⟩ : ∃ x, l[j]? = some x := ⟨l[j]'(by have := HL.out; omega), List.getElem?_eq_getElem _⟩
      obtain ⟨b, hb⟩ : ∃ x, l[j + 1]? = some x := ⟨l[j + 1]'(by have := HL.out; omega), List.getElem?_eq_getElem _⟩
      obtain ⟨b', off, rfl, hi⟩ := HR.out hne
      have c0 := kept hB (hi j a ha)
      have c1 := kept hB (hi (j + 1) b hb)
      have HA := Lib.hid ha
      have HBB := Lib.hid hb
      obtain ⟨pb, hpb⟩ : ∃ pb, ltS a b = pb := ⟨_, rfl⟩
      have HP := Lib.hid hpb
      have hq : Op.bytesLess a.toList b.toList = pb := hpb
      have hk0 : (0 : Int) ≤ (j : Int) := by omega
      have hk1 : (j : Int) + 1 < (len : Int) := by omega
      have hk2 : (j : Int) < (len : Int) := by omega
      have hk3 : (0 : Int) ≤ (j : Int) + 1 := by omega
      have hw : IntKind.i64.wrap (j : Int) = (j : Int) := by rw [IntKind.wrap_i64]; omega
      clear ha hb hi hne hpb
      go_wp2_with fail
      go_quiet (fail)
      have hB := hB.trans (below_drewN w.heap.size wr nq)
      cases pb with
      | false =>
        go_wp2_with fail
        go_ret
        exact ⟨ret_bool (by
          have e : risesB l = false := Bool.eq_false_iff.2 fun e => by
            have := (adj_iff _ l).1 e j a b HA.out HBB.out
            rw [HP.out] at this
            cases this
          rw [e]), hB⟩
      | true =>
        have HS := Lib.hid (show RisesTo l (j + 2) from fun i a' b' hi ha hb => by
          by_cases e : i = j
          · subst e
            have e1 := HA.out.symm.trans ha
            have e2 := HBB.out.symm.trans hb
            injection e1 with e1
            injection e2 with e2
            subst e1 e2
            exact HP.out
          · exact hall.out i a' b' (by omega) ha hb)
        go_wp2_with fail
        go_roundw
        case rel => exact ⟨j + 2, by omega, .inl (by omega), by go_num, HS, hB⟩
        case measure => simp [intOf]; omega
    · have HS := Lib.hid (show risesB l = true from (adj_iff _ l).2 fun i a b ha hb => hall.out i a b (by
        have := (List.getElem?_eq_some_iff.1 hb).1
        have := HL.out
        omega) ha hb)
      go_wp2_with fail
      go_ret
      exact ⟨ret_bool (by rw [HS.out]), hB⟩
end Go.Proofs.YtpbbhjifgaeklaaGreatDoor

namespace Go.Proofs.YtpbbhjifgaeklaaGreatDoor
open Go Go.RowKit

theorem adj_map {α β : Type} (f : α → β) (p : β → β → Bool) : ∀ l : List α, adj p (l.map f) = adj (fun a b => p (f a) (f b)) l
  | [] => rfl
  | [x] => rfl
  | x :: y :: r => by
    have := adj_map f p (y :: r)
    rw [List.map_cons] at this
    rw [List.map_cons, List.map_cons, adj, adj, this]

theorem compact_short (l : List (List UInt8)) : (Lib.compact l).length < l.length ↔ adj (fun a b => decide (a ≠ b)) l = false := by
  unfold Lib.compact Lib.compactUpTo
  rw [List.length_map]
  have e : (List.filter (Lib.keeps l.toArray) (List.range l.length)).length < (List.range l.length).length ↔ _ := List.length_filter_lt_length_iff_exists
  rw [List.length_range] at e
  rw [e, Bool.eq_false_iff, ne_eq, adj_iff]
  constructor
  · rintro ⟨j, hj, hk⟩ H
    have hj := List.mem_range.1 hj
    unfold Lib.keeps at hk
    rw [decide_eq_true_eq, not_or] at hk
    obtain ⟨h0, h1⟩ := hk
    obtain ⟨i, rfl⟩ : ∃ i, j = i + 1 := ⟨j - 1, by omega⟩
    have hi : i < l.length := by omega
    have := H i l[i] l[i + 1] (List.getElem?_eq_getElem _) (List.getElem?_eq_getElem _)
    refine h1 fun e => of_decide_eq_true this ?_
    rw [Nat.add_sub_cancel, getElem!_pos l.toArray (i + 1) (by simpa using hj), getElem!_pos l.toArray i (by simpa using hi)] at e
    simpa using e.symm
  · intro H
    rw [Classical.not_forall] at H
    obtain ⟨i, H⟩ := H
    rw [Classical.not_forall] at H
    obtain ⟨a, H⟩ := H
    rw [Classical.not_forall] at H
    obtain ⟨b, H⟩ := H
    rw [Classical.not_imp, Classical.not_imp] at H
    obtain ⟨ha, hb, hk⟩ := H
    obtain ⟨h1, e1⟩ := List.getElem?_eq_some_iff.1 ha
    obtain ⟨h2, e2⟩ := List.getElem?_eq_some_iff.1 hb
    refine ⟨i + 1, List.mem_range.2 h2, ?_⟩
    unfold Lib.keeps
    rw [decide_eq_true_eq, not_or]
    refine ⟨by omega, fun h => hk (decide_eq_true fun e => h ?_)⟩
    rw [Nat.add_sub_cancel, getElem!_pos l.toArray (i + 1) (by simpa using h2), getElem!_pos l.toArray i (by simpa using h1)]
    simpa [e1, e2] using e.symm

theorem compact_apart (l : List ByteArray) : decide ((Lib.compact (l.map (·.data.toList))).length < l.length) = !apartS l := by
  have h := compact_short (l.map (·.data.toList))
  rw [List.length_map, adj_map] at h
  have e : adj (fun a b : ByteArray => decide (a.data.toList ≠ b.data.toList)) l = apartS l := by
    unfold apartS
    congr 1
    funext a b
    refine decide_eq_decide.2 (not_congr ⟨fun e => ?_, fun e => by rw [e]⟩)
    rw [← Lib.mk_data a, ← Lib.mk_data b, e]
  rw [e] at h
  rw [Bool.eq_iff_iff, decide_eq_true_iff, Bool.not_eq_true']
  exact h

/-- texts in memory of the call's own -/
def ClonedAt (B : Nat) (w : World) (v : Value) (l : List ByteArray) : Prop := w.ownsRow B 9 1 v l.length (l.map Value.string)

theorem clone_calls (v : Value) (l : List ByteArray) (w : World) (h : StrsAt w v l) (hz : l.length ≤ 1000000) :
    Calls Tryz.prog 68 #[v] w fun E w' => ∃ v', E = .returned v' ∧ ClonedAt w.heap.size w' v' l ∧ Below w.heap.size w w' := by
  obtain ⟨A, c, hv, hc, hm, hr⟩ := h.open
  subst hv
  by_cases hn : l = []
  · subst hn
    cases A with
    | none =>
      refine (Tryz.slices_Clone_string_nil 0 c w).mono ?_
      rintro E w' ⟨rfl, rfl⟩
      exact ⟨_, rfl, ⟨rfl, .inl ⟨rfl, rfl⟩⟩, Below.refl _ _⟩
    | some a =>
      refine (Tryz.slices_Clone_string_zero a c w).mono ?_
      rintro E w' ⟨v', rfl, ho, _, hb⟩
      exact ⟨_, rfl, ho, hb⟩
  · obtain ⟨b, off, rfl, hi⟩ := hr hn
    refine (Tryz.slices_Clone_string b off l.length c l w (Nat.le_refl _) (by omega) (fun j hj => ?_)).mono ?_
    · exact hi j _ (by rw [List.getElem?_eq_getElem hj]; simp [List.getD, List.getElem?_eq_getElem hj])
    · rintro E w' ⟨v', rfl, ho, _, hb⟩
      rw [List.take_length] at ho
      exact ⟨_, rfl, ho, hb⟩

set_option maxRecDepth 100000 in
theorem compact_calls (B : Nat) (w0 w : World) (v : Value) (l : List ByteArray) (h : ClonedAt B w v l) (hb : Below B w0 w) (hz : l.length ≤ 1000000) :
    Calls Tryz.prog 67 #[v] w fun E w' => ∃ (A : Option Addr) (n c : Nat), E = .returned (.slice A n c) ∧ decide ((n : Int) < (l.length : Int)) = (!apartS l) ∧ Below B w0 w' := by
  by_cases hv : v = .slice none 0 0
  · subst hv
    have hl : l = [] := by
      rcases h.2 with ⟨_, h0⟩ | ⟨g, cap, cur, e, _⟩
      · exact List.eq_nil_of_length_eq_zero h0
      · cases e
    subst hl
    refine (Tryz.slices_Compact_string_empty none 0 w).mono ?_
    rintro E w' ⟨rfl, rfl⟩
    exact ⟨_, _, _, rfl, rfl, hb⟩
  · unfold ClonedAt at h
    rw [← Lib.map_encStr] at h
    obtain ⟨g, cap, rfl, hg, hlt, hn, hm, hl, hH⟩ := Lib.holds_of_ownsRow h hv
    have hll : (l.map (·.data.toList)).length = l.length := List.length_map _
    have h1 : (l.map (·.data.toList)).length ≤ 9223372036854775807 := by rw [hll]; omega
    have h2 : (l.map (·.data.toList)).length ≤ cap := by rw [hll]; exact hn
    have H := Tryz.slices_Compact_string g 0 cap (l.map (·.data.toList)) w hH h1 h2
    have hq := (show decide (((Lib.compact (l.map (·.data.toList))).length : Int) < (l.length : Int)) = decide ((Lib.compact (l.map (·.data.toList))).length < l.length) from decide_eq_decide.2 (by omega)).trans (compact_apart l)
    clear h1 h2 hH h
    generalize hz2 : l.map (·.data.toList) = zs at H hll hq
    rw [hll] at H
    refine H.mono ?_
    rintro E w' ⟨rfl, q, rfl⟩
    exact ⟨_, _, _, rfl, hq, Lib.below_putRow hb hg⟩
end Go.Proofs.YtpbbhjifgaeklaaGreatDoor

/- What order.Line calls: slices.IndexFunc with its closure, slices.Delete at a row of numbers. -/
import Derived.Test.YtpbbhjifgaeklaaGreatDoorCSK25
import Derived.Test.YtpbbhjifgaeklaaGreatDoorCSK19
namespace Go.Proofs.YtpbbhjifgaeklaaGreatDoor
open Go Go.RowKit Go.Sort
open TJ (EdgeN hasN srt nextT ringT lineT ringsT)

theorem heapI_put {w : World} {g n : Nat} {cur : Array Value} {e : TypeId} {fr : Nat × Nat} (d : Array Int) (hb : w.heap[g]? = some (.cells cur e fr)) :
    (putRow (Value.int .i64) (Sort.ahead w n) g 0 d).heap[g]? = some (.cells (putCells (Value.int .i64) 0 d cur) e fr) := by
  simp [putRow, mapBlock, Sort.ahead, Array.getElem?_modify, hb, onCells]
theorem grownByI_put {w : World} {g n : Nat} (d : Array Int) : w.grownBy (putRow (Value.int .i64) (Sort.ahead w n) g 0 d) (some g) := by
  refine ⟨rfl, rfl, rfl, by simp, fun k hk hne => ?_⟩
  have : g ≠ k := fun e => hne (by rw [e])
  simp [putRow, mapBlock, Sort.ahead, Array.getElem?_modify, this]
theorem deleteN_calls (B g c k : Nat) (l : List Nat) (w : World) (h : w.ownsRow B 3 1 (.slice (some ⟨g, 0, none⟩) l.length c) l.length (l.flatMap natC)) (hk : k < l.length) :
    Calls Tryz.prog 178 #[.slice (some ⟨g, 0, none⟩) l.length c, .int .i64 k, .int .i64 (k + 1)] w fun E W => E = .returned (.slice (some ⟨g, 0, none⟩) (l.length - 1) c) ∧ W.ownsRow B 3 1 (.slice (some ⟨g, 0, none⟩) (l.length - 1) c) (l.length - 1) ((l.eraseIdx k).flatMap natC) ∧ w.grownBy W (some g) := by
  rcases h.2 with ⟨h', _⟩ | ⟨g', cap, cur, hv, hB, hb, h1, h2, h3, h4⟩
  · injection h' with h' _ _
    cases h'
  · injection hv with e1 _ e3
    injection e1 with e1
    injection e1 with e1 _ _
    subst e1 e3
    have hlen : (l.map Int.ofNat).length = l.length := List.length_map _
    have hH := holdsI_of_block (zs := l.map Int.ofNat) hb (by rw [ints_nats, hlen]; simpa using h4)
    have hm : c ≤ 9223372036854775807 := by simpa only [maxLen] using h2
    have hD := Tryz.slices_Delete_int g 0 c k (k + 1) (l.map Int.ofNat) w hH (by rw [hlen]; exact h1) hm (by omega) (by rw [hlen]; omega)
    rw [hlen, show k + 1 - k = 1 from by omega] at hD
    have e5 : ((k + 1 : Nat) : Int) = (k : Int) + 1 := by omega
    rw [e5] at hD
    refine hD.mono ?_
    rintro E W ⟨he, n, hw⟩
    subst hw
    refine ⟨he, ?_, grownByI_put _⟩
    obtain ⟨D, hDD⟩ : ∃ D, List.take k (l.map Int.ofNat) ++ List.drop (k + 1) (l.map Int.ofNat) ++ List.replicate 1 (0 : Int) = D := ⟨_, rfl⟩
    rw [hDD]
    have hel : (l.eraseIdx k).length = l.length - 1 := by rw [List.length_eraseIdx_of_lt hk]
    have hDl : D.length = l.length := by rw [← hDD]; simp; omega
    have hDt : D.take (l.length - 1) = (l.eraseIdx k).map Int.ofNat := by
      rw [← hDD, List.take_append_of_le_length (by simp; omega), List.take_of_length_le (by simp; omega), List.eraseIdx_eq_take_drop_succ, List.map_append, List.map_take, List.map_drop]
    have hput := takeI_putCells cur D (by rw [hDl, h3]; omega)
    refine ⟨by rw [flat_nats, List.length_map, hel]; omega, .inr ⟨g, c, _, rfl, hB, heapI_put _ hb, by omega, h2, by simp [putCells, h3], ?_⟩⟩
    rw [Nat.mul_one, ← ints_nats, ← hDt]
    have e6 : (putCells (Value.int .i64) 0 D.toArray cur).toList.take (l.length - 1) = ((putCells (Value.int .i64) 0 D.toArray cur).toList.take D.length).take (l.length - 1) := by rw [List.take_take, Nat.min_eq_left (by omega)]
    rw [e6, hput, List.map_take]

/-- the first that is free, or -1 -/
def idxV : Option Nat → Int
  | none => -1
  | some k => k
theorem findI_take {p : Nat → Bool} {l : List Nat} {k x : Nat} (h : (l.take k).any p = false) (hx : l[k]? = some x) (hp : p x = true) : l.findIdx? p = some k := by
  obtain ⟨hk, he⟩ := List.getElem?_eq_some_iff.1 hx
  rw [List.findIdx?_eq_some_iff_getElem]
  refine ⟨hk, by rw [he]; exact hp, fun j hj => ?_⟩
  rw [List.any_eq_false] at h
  have := h l[j] (by rw [List.mem_take_iff_getElem]; exact ⟨j, by omega, rfl⟩)
  simpa using this
theorem findI_none {p : Nat → Bool} {l : List Nat} (h : l.any p = false) : l.findIdx? p = none := by
  rw [List.findIdx?_eq_none_iff]
  rw [List.any_eq_false] at h
  intro x hx
  have := h x hx
  simpa using this

set_option maxHeartbeats 1000000 in
set_option maxRecDepth 100000 in
theorem idxF_calls (v : Value) (l : List Nat) (b1 b2 : Nat) (p : Nat → Bool) (w : World) (h : NatsAt w v l) (C : ∀ (W : World) (x : Nat), Below w.heap.size w W → x ∈ l → Calls Tryz.prog 175 #[.int .i64 x, .pointer (some ⟨b1, 0, none⟩), .pointer (some ⟨b2, 0, none⟩)] W (BoolIs (p x) W)) :
    Calls Tryz.prog 174 #[v, .func (.func 175) #[] #[.pointer (some ⟨b1, 0, none⟩), .pointer (some ⟨b2, 0, none⟩)]] w fun E w' => E = .returned (.int .i64 (idxV (l.findIdx? p))) ∧ Below w.heap.size w w' := by
  obtain ⟨A, c, rfl, hc, hm, hr⟩ := h.open
  obtain ⟨len, hlen⟩ : ∃ len, l.length = len := ⟨_, rfl⟩
  have HL := Lib.hid hlen
  have HR := Lib.hid hr
  have HC := Lib.hid C
  rw [hlen] at hc hm ⊢
  clear hlen hr C h
  go_enter Tryz.func174, Tryz.ntmps174
  go_wp2_with fail
  go_loopw [8] (fun i wr => ∃ k : Nat, k ≤ len ∧ i = .int .i64 k ∧ Hid ((l.take k).any p = false) ∧ Below w.heap.size w wr) (fun i _ => len - (intOf i).toNat)
  case atStart => exact ⟨0, Nat.zero_le _, rfl, rfl, Below.refl _ _⟩
  case round =>
    obtain ⟨k, hk, rfl, hall, hB⟩ := hrel
    by_cases hlt : k < len
    · have hne : l ≠ [] := by
        intro e
        have := HL.out
        rw [e] at this
        simp at this
        omega
      obtain ⟨e, he⟩ : ∃ e, l[k]? = some e := ⟨l[k]'(by have := HL.out; omega), List.getElem?_eq_getElem _⟩
      obtain ⟨b', off, rfl, hi⟩ := HR.out hne
      have c0 := kept hB (hi k e he)
      have HT := Lib.hid he
      have H := Lib.hid (HC.out wr e hB (List.mem_of_getElem? he))
      obtain ⟨pb, hpb⟩ : ∃ pb, p e = pb := ⟨_, rfl⟩
      have HP := Lib.hid hpb
      rw [hpb] at H
      clear hi hne he hpb
      go_wp2_with fail
      refine H.out.mono ?_
      rintro E w1 ⟨rfl, hb⟩
      have hB := step_below hB hb
      clear hb c0 H
      cases pb with
      | true =>
        have F := Lib.hid (findI_take hall.out HT.out HP.out)
        go_wp2_with fail
        go_ret
        exact ⟨by rw [F.out]; rfl, hB⟩
      | false =>
        go_wp2_with fail
        go_roundw
        case rel => exact ⟨k + 1, by omega, by go_num, Lib.hid (any_take_succ hall.out HT.out HP.out), hB⟩
        case measure => simp [intOf]; omega
    · obtain rfl : k = len := by omega
      have F := Lib.hid (findI_none (p := p) (l := l) (by have := hall.out; rw [← HL.out] at this; exact any_done this))
      go_wp2_with fail
      go_ret
      exact ⟨by rw [F.out]; rfl, hB⟩
end Go.Proofs.YtpbbhjifgaeklaaGreatDoor

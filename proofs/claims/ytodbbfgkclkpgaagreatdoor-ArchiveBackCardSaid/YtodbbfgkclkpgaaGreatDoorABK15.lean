/- stanza.Right's closure: two names alike in small letters; is one of some fields called so. · archive.Right's closures: is there a file of this path; is each setting one. -/
import Derived.Test.YtodbbfgkclkpgaaGreatDoorABK14
import Derived.Test.YtodbbfgkclkpgaaGreatDoorABK8
import Derived.Deep.RegionHeld3
namespace Go.Proofs.YtodbbfgkclkpgaaGreatDoor
open Go Go.RowKit

/-- alike in small letters -/
def sameN (a b : ByteArray) : Bool := decide (VP.smallP a.data.toList = VP.smallP b.data.toList)
def smallB (s : ByteArray) : ByteArray := ⟨(VP.smallP s.data.toList).toArray⟩
theorem smallB_eq (a b : ByteArray) : ((smallB a).toList == (smallB b).toList) = sameN a b := by
  unfold sameN smallB
  rw [Lib.toList_data, Lib.toList_data, Bool.eq_iff_iff, beq_iff_eq, decide_eq_true_iff]

def TwoS (w0 : World) (b1 b2 : Nat) (n1 n2 : ByteArray) (W : World) : Prop := W.cell? ⟨b1, 0, none⟩ = some (.string n1) ∧ W.cell? ⟨b2, 0, none⟩ = some (.string n2) ∧ Below w0.heap.size w0 W
theorem twoS_go {w0 : World} {b1 b2 : Nat} {n1 n2 : ByteArray} {W W' : World} (h : TwoS w0 b1 b2 n1 n2 W) (hb : Below W.heap.size W W') : TwoS w0 b1 b2 n1 n2 W' := ⟨kept hb h.1, kept hb h.2.1, step_below h.2.2 hb⟩
theorem twoS_below {w0 : World} {b1 b2 : Nat} {n1 n2 : ByteArray} {W : World} (h : TwoS w0 b1 b2 n1 n2 W) : Below w0.heap.size w0 W := h.2.2

set_option maxHeartbeats 2000000 in
set_option maxRecDepth 100000 in
theorem sameN1_calls (g : Fv) (b : Nat) (n : ByteArray) (w : World) (hc : w.cell? ⟨b, 0, none⟩ = some (.string n)) (hg : g.n.size ≤ 1000000) (hn : n.size ≤ 1000000) :
    Calls Tryz.prog 131 #[.agg #[.string g.n, .string g.v], .pointer (some ⟨b, 0, none⟩)] w (BoolIs (sameN g.n n) w) := by
  have hb0 := below_alloc w (.cells #[.string g.n, .string g.v] 69)
  have hc1 := kept hb0 hc
  have hd1 : (w.alloc (.cells #[.string g.n, .string g.v] 69)).cell? ⟨w.heap.size, 0, none⟩ = some (.string g.n) := by go_cell
  have S0 : TwoS w w.heap.size b g.n n (w.alloc (.cells #[.string g.n, .string g.v] 69)) := ⟨hd1, hc1, hb0⟩
  obtain ⟨bs, hbs⟩ : ∃ x, sameN g.n n = x := ⟨_, rfl⟩
  have heq := (smallB_eq g.n n).trans hbs
  have C1 := Lib.hid (fun (W : World) => small_calls g.n W hg)
  have C2 := Lib.hid (fun (W : World) => small_calls n W hn)
  rw [hbs]
  obtain ⟨sg, hsg⟩ : ∃ x, smallB g.n = x := ⟨_, rfl⟩
  obtain ⟨sn, hsn⟩ : ∃ x, smallB n = x := ⟨_, rfl⟩
  have C1' : Hid (∀ W : World, Calls Tryz.prog 132 #[.string g.n] W fun E w' => E = .returned (.string sg) ∧ Below W.heap.size W w') := by rw [← hsg]; exact C1
  have C2' : Hid (∀ W : World, Calls Tryz.prog 132 #[.string n] W fun E w' => E = .returned (.string sn) ∧ Below W.heap.size W w') := by rw [← hsn]; exact C2
  rw [hsg, hsn] at heq
  obtain ⟨m, hm⟩ : ∃ m, w.heap.size = m := ⟨_, rfl⟩
  clear C1 C2 hsg hsn hbs hb0 hc hg hn
  go_enter Tryz.func131, Tryz.ntmps131
  go_wp2_with fail
  (try rw [hm] at S0); (try rw [hm] at hd1); (try rw [hm])
  generalize w.alloc (.cells #[.string g.n, .string g.v] 69) = W0 at S0 hc1 hd1 ⊢
  go_region_held3 (fun W => W.cell? ⟨m, 0, none⟩ = some (.string g.n) ∧ W.cell? ⟨b, 0, none⟩ = some (.string n) ∧ Below w.heap.size w W)
    ((first | assumption | exact twoS_go (by assumption) hb | exact twoS_go S0 (below_drew _) | exact twoS_go (by assumption) (below_drew _)))
    (first | (go_at_call 132; first | ((with_reducible refine (C1'.out _).mono ?_); rintro E w' ⟨rfl, hb⟩) | ((with_reducible refine (C2'.out _).mono ?_); rintro E w' ⟨rfl, hb⟩)))
  all_goals
    go_wp2_with fail
    go_ret
    exact ⟨rfl, twoS_below (by assumption)⟩

set_option maxHeartbeats 1000000 in
set_option maxRecDepth 100000 in
theorem idxNamed_calls (v : Value) (fs : List Fv) (b : Nat) (p : Fv → Bool) (w : World) (h : FieldsAt w v fs) (C : ∀ (W : World) (x : Fv), Below w.heap.size w W → x ∈ fs → Calls Tryz.prog 131 #[.agg #[.string x.n, .string x.v], .pointer (some ⟨b, 0, none⟩)] W (BoolIs (p x) W)) :
    Calls Tryz.prog 169 #[v, .func (.func 131) #[] #[.pointer (some ⟨b, 0, none⟩)]] w (IdxIs (fs.any p) w) := by
  obtain ⟨A, c, hv, hc, hm, hr⟩ := h.open
  subst hv
  obtain ⟨len, hlen⟩ : ∃ len, fs.length = len := ⟨_, rfl⟩
  have HL := Lib.hid hlen
  have HR := Lib.hid hr
  have HC := Lib.hid C
  rw [hlen] at hc hm ⊢
  clear hlen hr C h
  go_enter Tryz.func169, Tryz.ntmps169
  go_wp2_with fail
  go_loopw [8] (fun i wr => ∃ k : Nat, k ≤ len ∧ i = .int .i64 k ∧ Hid ((fs.take k).any p = false) ∧ Below w.heap.size w wr) (fun i _ => len - (intOf i).toNat)
  case atStart => exact ⟨0, Nat.zero_le _, rfl, rfl, Below.refl _ _⟩
  case round =>
    obtain ⟨k, hk, rfl, hall, hB⟩ := hrel
    by_cases hlt : k < len
    · have hne : fs ≠ [] := by
        intro e
        have := HL.out
        rw [e] at this
        simp at this
        omega
      obtain ⟨f, ht⟩ : ∃ f, fs[k]? = some f := ⟨fs[k]'(by have := HL.out; omega), List.getElem?_eq_getElem _⟩
      obtain ⟨b', off, rfl, hi⟩ := HR.out hne
      obtain ⟨c0, c1⟩ := hi k f ht
      replace c0 := kept hB c0
      replace c1 := kept hB c1
      have HT := Lib.hid ht
      have H := Lib.hid (HC.out wr f hB (List.mem_of_getElem? ht))
      obtain ⟨pb, hpb⟩ : ∃ pb, p f = pb := ⟨_, rfl⟩
      have HP := Lib.hid hpb
      rw [hpb] at H
      clear ht hi hne hpb
      go_wp2_with fail
      refine H.out.mono ?_
      rintro E w1 ⟨rfl, hb⟩
      have hB := step_below hB hb
      clear hb c0 c1 H
      cases pb with
      | true =>
        go_wp2_with fail
        go_ret
        exact ⟨_, rfl, by rw [any_stop HT.out HP.out]; simp, hB⟩
      | false =>
        go_wp2_with fail
        go_roundw
        case rel => exact ⟨k + 1, by omega, by go_num, Lib.hid (any_take_succ hall.out HT.out HP.out), hB⟩
        case measure => simp [intOf]; omega
    · obtain rfl : k = len := by omega
      go_wp2_with fail
      go_ret
      exact ⟨_, rfl, by have := hall.out; rw [← HL.out] at this; rw [any_done this]; simp, hB⟩

set_option maxRecDepth 100000 in
theorem hasNamed_calls (v : Value) (fs : List Fv) (b : Nat) (p : Fv → Bool) (w : World) (h : FieldsAt w v fs) (C : ∀ (W : World) (x : Fv), Below w.heap.size w W → x ∈ fs → Calls Tryz.prog 131 #[.agg #[.string x.n, .string x.v], .pointer (some ⟨b, 0, none⟩)] W (BoolIs (p x) W)) :
    Calls Tryz.prog 130 #[v, .func (.func 131) #[] #[.pointer (some ⟨b, 0, none⟩)]] w (BoolIs (fs.any p) w) := by
  have H := Lib.hid (idxNamed_calls v fs b p w h C)
  clear h C
  go_enter Tryz.func130, Tryz.ntmps130
  go_wp2_with fail
  refine H.out.mono ?_
  rintro E w1 ⟨i, rfl, hi, hb⟩
  have HI := Lib.hid hi
  clear hi
  by_cases h0 : 0 ≤ i
  · go_wp2_with fail
    go_ret
    exact ⟨ret_bool (by rw [← HI.out]; simp [h0]), hb⟩
  · go_wp2_with fail
    go_ret
    exact ⟨ret_bool HI.out, hb⟩
end Go.Proofs.YtodbbfgkclkpgaaGreatDoor

namespace Go.Proofs.YtodbbfgkclkpgaaGreatDoor
open Go Go.RowKit

set_option maxRecDepth 100000 in
theorem fileNamed_calls (x : Fv) (b : Nat) (s : ByteArray) (w : World) (hc : w.cell? ⟨b, 0, none⟩ = some (.string s)) :
    Calls Tryz.prog 88 #[.agg #[.string x.n, .string x.v], .pointer (some ⟨b, 0, none⟩)] w (BoolIs (decide (x.n = s)) w) := by
  have hb0 := below_alloc w (.cells #[.string x.n, .string x.v] 81)
  have hc1 := kept hb0 hc
  have hq := name_eq x.n s
  obtain ⟨bq, hbq⟩ : ∃ y, decide (x.n = s) = y := ⟨_, rfl⟩
  rw [hbq] at hq ⊢
  clear hbq hc
  go_enter Tryz.func88, Tryz.ntmps88
  go_wp2_with fail
  go_ret
  exact ⟨ret_bool (by first | rfl | (simp [hq])), hb0⟩

set_option maxHeartbeats 1000000 in
set_option maxRecDepth 100000 in
theorem idxFile_calls (v : Value) (fs : List Fv) (b : Nat) (p : Fv → Bool) (w : World) (h : FieldsAt w v fs) (C : ∀ (W : World) (x : Fv), Below w.heap.size w W → x ∈ fs → Calls Tryz.prog 88 #[.agg #[.string x.n, .string x.v], .pointer (some ⟨b, 0, none⟩)] W (BoolIs (p x) W)) :
    Calls Tryz.prog 148 #[v, .func (.func 88) #[] #[.pointer (some ⟨b, 0, none⟩)]] w (IdxIs (fs.any p) w) := by
  obtain ⟨A, c, hv, hc, hm, hr⟩ := h.open
  subst hv
  obtain ⟨len, hlen⟩ : ∃ len, fs.length = len := ⟨_, rfl⟩
  have HL := Lib.hid hlen
  have HR := Lib.hid hr
  have HC := Lib.hid C
  rw [hlen] at hc hm ⊢
  clear hlen hr C h
  go_enter Tryz.func148, Tryz.ntmps148
  go_wp2_with fail
  go_loopw [8] (fun i wr => ∃ k : Nat, k ≤ len ∧ i = .int .i64 k ∧ Hid ((fs.take k).any p = false) ∧ Below w.heap.size w wr) (fun i _ => len - (intOf i).toNat)
  case atStart => exact ⟨0, Nat.zero_le _, rfl, rfl, Below.refl _ _⟩
  case round =>
    obtain ⟨k, hk, rfl, hall, hB⟩ := hrel
    by_cases hlt : k < len
    · have hne : fs ≠ [] := by
        intro e
        have := HL.out
        rw [e] at this
        simp at this
        omega
      obtain ⟨x, ht⟩ : ∃ x, fs[k]? = some x := ⟨fs[k]'(by have := HL.out; omega), List.getElem?_eq_getElem _⟩
      obtain ⟨b', off, rfl, hi⟩ := HR.out hne
      obtain ⟨c0, c1⟩ := hi k x ht
      replace c0 := kept hB c0
      replace c1 := kept hB c1
      have HT := Lib.hid ht
      have H := Lib.hid (HC.out wr x hB (List.mem_of_getElem? ht))
      obtain ⟨pb, hpb⟩ : ∃ pb, p x = pb := ⟨_, rfl⟩
      have HP := Lib.hid hpb
      rw [hpb] at H
      clear ht hi hne hpb
      go_wp2_with fail
      refine H.out.mono ?_
      rintro E w1 ⟨rfl, hb⟩
      have hB := step_below hB hb
      clear hb H
      cases pb with
      | true =>
        go_wp2_with fail
        go_ret
        exact ⟨_, rfl, by rw [any_stop HT.out HP.out]; simp, hB⟩
      | false =>
        go_wp2_with fail
        go_roundw
        case rel => exact ⟨k + 1, by omega, by go_num, Lib.hid (any_take_succ hall.out HT.out HP.out), hB⟩
        case measure => simp [intOf]; omega
    · obtain rfl : k = len := by omega
      go_wp2_with fail
      go_ret
      exact ⟨_, rfl, by have := hall.out; rw [← HL.out] at this; rw [any_done this]; simp, hB⟩

set_option maxRecDepth 100000 in
theorem hasFile_calls (v : Value) (fs : List Fv) (b : Nat) (p : Fv → Bool) (w : World) (h : FieldsAt w v fs) (C : ∀ (W : World) (x : Fv), Below w.heap.size w W → x ∈ fs → Calls Tryz.prog 88 #[.agg #[.string x.n, .string x.v], .pointer (some ⟨b, 0, none⟩)] W (BoolIs (p x) W)) :
    Calls Tryz.prog 87 #[v, .func (.func 88) #[] #[.pointer (some ⟨b, 0, none⟩)]] w (BoolIs (fs.any p) w) := by
  have H := Lib.hid (idxFile_calls v fs b p w h C)
  clear h C
  go_enter Tryz.func87, Tryz.ntmps87
  go_wp2_with fail
  refine H.out.mono ?_
  rintro E w1 ⟨i, rfl, hi, hb⟩
  have HI := Lib.hid hi
  clear hi
  by_cases h0 : 0 ≤ i
  · go_wp2_with fail
    go_ret
    exact ⟨ret_bool (by rw [← HI.out]; simp [h0]), hb⟩
  · go_wp2_with fail
    go_ret
    exact ⟨ret_bool HI.out, hb⟩

set_option maxRecDepth 100000 in
/-- is this setting no path of the package's files -/
theorem noFile_calls (s : ByteArray) (m : Nat) (v9 : Value) (fs : List Fv) (w : World) (hc : w.cell? ⟨m, 12, none⟩ = some v9) (h9 : FieldsAt w v9 fs) :
    Calls Tryz.prog 86 #[.string s, .pointer (some ⟨m, 0, none⟩)] w (BoolIs (!hasFile fs s) w) := by
  have hb0 := below_alloc w (.cells #[.string s] 9)
  have hc1 := kept hb0 hc
  have hd : (w.alloc (.cells #[.string s] 9)).cell? ⟨w.heap.size, 0, none⟩ = some (.string s) := by go_cell
  have H := Lib.hid (hasFile_calls v9 fs w.heap.size (fun f => decide (f.n = s)) (w.alloc (.cells #[.string s] 9)) (h9.below hb0) (fun W x hb _ => fileNamed_calls x w.heap.size s W (kept hb hd)))
  obtain ⟨A, c, rfl, _⟩ := h9.open
  obtain ⟨bq, hbq⟩ : ∃ y, (fs.any fun f => decide (f.n = s)) = y := ⟨_, rfl⟩
  have HQ := Lib.hid (show hasFile fs s = bq from hbq)
  rw [hbq] at H
  clear hbq h9 hc hd
  go_enter Tryz.func86, Tryz.ntmps86
  go_wp2_with fail
  refine H.out.mono ?_
  rintro E w1 ⟨rfl, hb⟩
  have hB := step_below hb0 hb
  clear hb H hb0 hc1
  go_wp2_with fail
  go_ret
  exact ⟨ret_bool (by rw [HQ.out]), hB⟩

set_option maxHeartbeats 1000000 in
set_option maxRecDepth 100000 in
theorem idxSet_calls (v : Value) (fs : List ByteArray) (b : Nat) (p : ByteArray → Bool) (w : World) (h : StrsAt w v fs) (C : ∀ (W : World) (x : ByteArray), Below w.heap.size w W → x ∈ fs → Calls Tryz.prog 86 #[.string x, .pointer (some ⟨b, 0, none⟩)] W (BoolIs (p x) W)) :
    Calls Tryz.prog 147 #[v, .func (.func 86) #[] #[.pointer (some ⟨b, 0, none⟩)]] w (IdxIs (fs.any p) w) := by
  obtain ⟨A, c, hv, hc, hm, hr⟩ := h.open
  subst hv
  obtain ⟨len, hlen⟩ : ∃ len, fs.length = len := ⟨_, rfl⟩
  have HL := Lib.hid hlen
  have HR := Lib.hid hr
  have HC := Lib.hid C
  rw [hlen] at hc hm ⊢
  clear hlen hr C h
  go_enter Tryz.func147, Tryz.ntmps147
  go_wp2_with fail
  go_loopw [8] (fun i wr => ∃ k : Nat, k ≤ len ∧ i = .int .i64 k ∧ Hid ((fs.take k).any p = false) ∧ Below w.heap.size w wr) (fun i _ => len - (intOf i).toNat)
  case atStart => exact ⟨0, Nat.zero_le _, rfl, rfl, Below.refl _ _⟩
  case round =>
    obtain ⟨k, hk, rfl, hall, hB⟩ := hrel
    by_cases hlt : k < len
    · have hne : fs ≠ [] := by
        intro e
        have := HL.out
        rw [e] at this
        simp at this
        omega
      obtain ⟨x, ht⟩ : ∃ x, fs[k]? = some x := ⟨fs[k]'(by have := HL.out; omega), List.getElem?_eq_getElem _⟩
      obtain ⟨b', off, rfl, hi⟩ := HR.out hne
      have c0 := kept hB (hi k x ht)
      have HT := Lib.hid ht
      have H := Lib.hid (HC.out wr x hB (List.mem_of_getElem? ht))
      obtain ⟨pb, hpb⟩ : ∃ pb, p x = pb := ⟨_, rfl⟩
      have HP := Lib.hid hpb
      rw [hpb] at H
      clear ht hi hne hpb
      go_wp2_with fail
      refine H.out.mono ?_
      rintro E w1 ⟨rfl, hb⟩
      have hB := step_below hB hb
      clear hb H
      cases pb with
      | true =>
        go_wp2_with fail
        go_ret
        exact ⟨_, rfl, by rw [any_stop HT.out HP.out]; simp, hB⟩
      | false =>
        go_wp2_with fail
        go_roundw
        case rel => exact ⟨k + 1, by omega, by go_num, Lib.hid (any_take_succ hall.out HT.out HP.out), hB⟩
        case measure => simp [intOf]; omega
    · obtain rfl : k = len := by omega
      go_wp2_with fail
      go_ret
      exact ⟨_, rfl, by have := hall.out; rw [← HL.out] at this; rw [any_done this]; simp, hB⟩

set_option maxRecDepth 100000 in
theorem hasSet_calls (v : Value) (fs : List ByteArray) (b : Nat) (p : ByteArray → Bool) (w : World) (h : StrsAt w v fs) (C : ∀ (W : World) (x : ByteArray), Below w.heap.size w W → x ∈ fs → Calls Tryz.prog 86 #[.string x, .pointer (some ⟨b, 0, none⟩)] W (BoolIs (p x) W)) :
    Calls Tryz.prog 85 #[v, .func (.func 86) #[] #[.pointer (some ⟨b, 0, none⟩)]] w (BoolIs (fs.any p) w) := by
  have H := Lib.hid (idxSet_calls v fs b p w h C)
  clear h C
  go_enter Tryz.func85, Tryz.ntmps85
  go_wp2_with fail
  refine H.out.mono ?_
  rintro E w1 ⟨i, rfl, hi, hb⟩
  have HI := Lib.hid hi
  clear hi
  by_cases h0 : 0 ≤ i
  · go_wp2_with fail
    go_ret
    exact ⟨ret_bool (by rw [← HI.out]; simp [h0]), hb⟩
  · go_wp2_with fail
    go_ret
    exact ⟨ret_bool HI.out, hb⟩
end Go.Proofs.YtodbbfgkclkpgaaGreatDoor

/- strconv.Atoi of any text. · status.Parse: the status that a text is. · The shelf's calls: Over, Owner, Edit, Settings. · The shelf's calls: Edit, Settings; the closures of Settings and owned. -/
import Derived.Test.YtpbbhjifgaeklaaGreatDoorSOK2
import Derived.Lib.AtoiAllCases
import Derived.Test.YtpbbhjifgaeklaaGreatDoorSOK16
import Derived.Test.YtpbbhjifgaeklaaGreatDoorSOK8
import Derived.Test.YtpbbhjifgaeklaaGreatDoorSOK9
import Derived.Deep.RegionHeld3
import Derived.Deep.DeepCutAuto
import Derived.Test.YtpbbhjifgaeklaaGreatDoorSOK17
namespace Go.Proofs.YtpbbhjifgaeklaaGreatDoor
open Go Go.RowKit Go.Shelf

/-- the library's two errors -/
def EnvA (w : World) : Prop := (∃ (t : TypeId) (p : Value), w.cell? ⟨3, 0, none⟩ = some (.iface t p)) ∧ ∃ (t : TypeId) (p : Value), w.cell? ⟨4, 0, none⟩ = some (.iface t p)
theorem EnvA.below {w w' : World} (h : EnvA w) (hb : Below w.heap.size w w') : EnvA w' := by
  obtain ⟨⟨t, p, h1⟩, t2, p2, h2⟩ := h
  exact ⟨⟨t, p, kept hb h1⟩, t2, p2, kept hb h2⟩
end Go.Proofs.YtpbbhjifgaeklaaGreatDoor

namespace Go.Proofs.YtpbbhjifgaeklaaGreatDoor
open Go Go.RowKit

def cells7 (z : St) (v1 v2 : Value) : Array Value := #[.int .i64 z.n, .int .i64 z.e, .string z.u, .string z.r, .bool z.h, v1, v2]
def zero7 : Array Value := #[.int .i64 0, .int .i64 0, .string ⟨#[]⟩, .string ⟨#[]⟩, .bool false, .slice none 0 0, .slice none 0 0]
theorem piece_size {c : UInt8} {v s : ByteArray} (h : s ∈ piecesB c v) : s.size ≤ v.size := by
  have h1 := VP.pieces_count c v.data.toList
  unfold piecesB at h
  obtain ⟨l, hl, rfl⟩ := List.mem_map.1 h
  have h2 : l.length ≤ ((VP.pieces c v.data.toList).flatMap id).length := by
    clear h1
    generalize VP.pieces c v.data.toList = ps at hl ⊢
    induction ps with
    | nil => cases hl
    | cons a r ih =>
      rw [List.flatMap_cons, List.length_append]
      rcases List.mem_cons.1 hl with rfl | h
      · simp
      · have := ih h; omega
  have h3 : 1 ≤ (VP.pieces c v.data.toList).length := by
    rcases hp : VP.pieces c v.data.toList with _ | ⟨a, r⟩
    · exact absurd hp (VP.pieces_ne _ _)
    · simp
  rw [size_eq_length v, size_eq_length]
  show l.length ≤ _
  omega
/-- the state behind the struct: the result's box m, the status in box q -/
structure PSt (w : World) (m q : Nat) (z : St) (v1 v2 : Value) (W : World) : Prop where
  r : Blk 26 W m zero7
  x : Blk 26 W q (cells7 z v1 v2)
  a : StrsOff m q W v1 z.ws
  b : StrsOff m q W v2 z.ts
  lt : m < q
  low : w.heap.size ≤ m
  w : Below w.heap.size w W
theorem PSt.go {w W W' : World} {m q : Nat} {z : St} {v1 v2 : Value} (h : PSt w m q z v1 v2 W) (hb : Below W.heap.size W W') : PSt w m q z v1 v2 W' :=
  ⟨h.r.keep hb, h.x.keep hb, h.a.below hb, h.b.below hb, h.lt, h.low, step_below h.w hb⟩
/-- ahead of it: the words' cells, and the result's box -/
def Pre5 (w : World) (m g : Nat) (a b c d e : ByteArray) (W : World) : Prop :=
  W.cell? ⟨g, 0, none⟩ = some (.string a) ∧ W.cell? ⟨g, 1, none⟩ = some (.string b) ∧ W.cell? ⟨g, 2, none⟩ = some (.string c) ∧ W.cell? ⟨g, 3, none⟩ = some (.string d) ∧ W.cell? ⟨g, 4, none⟩ = some (.string e) ∧ Blk 26 W m zero7 ∧ Below w.heap.size w W
theorem Pre5.s {w W : World} {m g : Nat} {a b c d e : ByteArray} (h : Pre5 w m g a b c d e W) : W.cell? ⟨g, 2, none⟩ = some (.string c) ∧ W.cell? ⟨g, 3, none⟩ = some (.string d) ∧ W.cell? ⟨g, 4, none⟩ = some (.string e) := ⟨h.2.2.1, h.2.2.2.1, h.2.2.2.2.1⟩
theorem Pre5.w {w W : World} {m g : Nat} {a b c d e : ByteArray} (h : Pre5 w m g a b c d e W) : Below w.heap.size w W := h.2.2.2.2.2.2
theorem Pre5.r {w W : World} {m g : Nat} {a b c d e : ByteArray} (h : Pre5 w m g a b c d e W) : Blk 26 W m zero7 := h.2.2.2.2.2.1
theorem Pre5.go {w W W' : World} {m g : Nat} {a b c d e : ByteArray} (h : Pre5 w m g a b c d e W) (hb : Below W.heap.size W W') : Pre5 w m g a b c d e W' :=
  ⟨kept hb h.1, kept hb h.2.1, kept hb h.2.2.1, kept hb h.2.2.2.1, kept hb h.2.2.2.2.1, h.2.2.2.2.2.1.keep hb, step_below h.2.2.2.2.2.2 hb⟩

end Go.Proofs.YtpbbhjifgaeklaaGreatDoor

namespace Go.Proofs.YtpbbhjifgaeklaaGreatDoor
open Go Go.RowKit Go.Maps

theorem below_grownBy {n : Nat} {w0 w W : World} {g : Nat} (hb : Below n w0 w) (hg : w.grownBy W (some g)) (hn : n ≤ w.heap.size) (h : n ≤ g) : Below n w0 W := hb.grown hg hn (fun k e => by injection e with e; omega)

/-! Paths, in a row of its own -/
theorem split_row (s : ByteArray) (c : UInt8) (w : World) (hE : Env w) (hs : s.size ≤ 1000000) : Calls Tryz.prog 61 #[.string s, .string ⟨#[c]⟩] w fun E w' => ∃ n, E = .returned (.slice (some ⟨w.heap.size, 0, none⟩) n n) ∧ n = (piecesB c s).length ∧ Blk 9 w' w.heap.size ((piecesB c s).map Value.string).toArray ∧ Below w.heap.size w w' := by
  obtain ⟨m, hm⟩ := hE.1
  refine (Tryz.strings_Split s ⟨#[c]⟩ m w (by omega) hm (Nat.le_refl 1)).mono fun E w' ⟨he, hw⟩ => ?_
  have hp := splitB_pieces c s.size s (Nat.le_refl _)
  have hlen := Lib.splitB_all ⟨#[c]⟩ (Nat.le_refl 1) 0 _ s rfl
  rw [hp] at hw hlen
  exact ⟨_, he, hlen.symm, by rw [hw]; exact blk_new _ w _, by rw [hw]; exact below_alloc _ _⟩
/-- texts in a row of their own: nil, or a whole block of as many cells -/
def RowOf (B : Nat) (W : World) (v : Value) (L : List ByteArray) : Prop := (L = [] ∧ v = .slice none 0 0) ∨ ∃ g, v = .slice (some ⟨g, 0, none⟩) L.length L.length ∧ B ≤ g ∧ Blk 9 W g (L.map Value.string).toArray
theorem RowOf.below {B : Nat} {W W' : World} {v : Value} {L : List ByteArray} (h : RowOf B W v L) (hb : Below W.heap.size W W') : RowOf B W' v L := by
  rcases h with h | ⟨g, hv, hg, hk⟩
  · exact .inl h
  · exact .inr ⟨g, hv, hg, hk.keep hb⟩
theorem RowOf.strs {B : Nat} {W : World} {v : Value} {L : List ByteArray} (h : RowOf B W v L) (hm : L.length ≤ 9223372036854775807) : StrsUp B W v L := by
  rcases h with ⟨rfl, rfl⟩ | ⟨g, rfl, hg, hk⟩
  · exact strsUp_nil _ _ _
  · refine (strsUp_cells hm fun i x hx => hk.cell ?_).low hg
    rw [List.getElem?_toArray, List.getElem?_map, hx]
    rfl
set_option maxRecDepth 100000 in
theorem paths_row (sh d : Nat) (D : Dk) (n : ByteArray) (w : World) (hE : Env w) (h : ShAt w sh d D) (hf : FitD 1000000 D) (hn : n.size ≤ 1000) : Calls Tryz.prog 116 #[.pointer (some ⟨sh, 0, none⟩), .string n] w fun E w' => ∃ v, E = .returned v ∧ RowOf w.heap.size w' v (pathsD D n) ∧ Below w.heap.size w w' := by
  have c0 := h.c
  have hsz : (owP ++ n).size ≤ 1000000 := by rw [cat_size]; show 2 + _ ≤ _; omega
  have g : ¬ 9223372036854775807 < 2 + n.size := by omega
  have C := Lib.hid (dread_calls d D (owP ++ n) w h.dk hsz)
  unfold readV at C
  unfold pathsD
  cases hg : getF D.now (owP ++ n) with
  | none =>
    rw [hg] at C
    simp only at C ⊢
    unfold owP at C
    clear h hn hsz hf hE hg
    go_enter Tryz.func116, Tryz.ntmps116
    go_wp2_with fail
    refine C.out.mono ?_
    rintro E w1 ⟨rfl, rfl⟩
    go_wp2_with fail
    go_ret
    exact ⟨_, rfl, .inl ⟨rfl, rfl⟩, Below.refl _ _⟩
  | some t =>
    rw [hg] at C
    have ht := (hf _ _ hg).2
    simp only at C ⊢
    unfold owP at C
    unfold pathsT
    by_cases h0 : t.size = 0
    · rw [if_pos h0]
      have et := eq_empty t h0
      subst et
      clear h hn hsz hf hE hg ht h0
      go_enter Tryz.func116, Tryz.ntmps116
      go_wp2_with fail
      refine C.out.mono ?_
      rintro E w1 ⟨rfl, rfl⟩
      go_wp2_with fail
      go_ret
      exact ⟨_, rfl, .inl ⟨rfl, rfl⟩, Below.refl _ _⟩
    · rw [if_neg h0]
      have hz := isEmpty_false t (by omega)
      have CS := Lib.hid (split_row t 10 w hE ht)
      clear h hn hsz hf hE hg ht h0
      go_enter Tryz.func116, Tryz.ntmps116
      go_wp2_with fail
      refine C.out.mono ?_
      rintro E w1 ⟨rfl, rfl⟩
      go_wp2_with fail
      refine CS.out.mono ?_
      rintro E w2 ⟨k, rfl, hk, hc, hb⟩
      have HC := Lib.hid hc
      have HK := Lib.hid hk
      clear hc hk CS C
      go_wp2_with fail
      go_ret
      exact ⟨_, rfl, by rw [HK.out]; exact .inr ⟨_, rfl, Nat.le_refl _, HC.out⟩, hb⟩
theorem pathsD_len {D : Dk} (hf : FitD 1000000 D) (n : ByteArray) : (pathsD D n).length ≤ 1000001 := by
  unfold pathsD
  cases hg : getF D.now (owP ++ n) with
  | none => exact Nat.zero_le _
  | some t =>
    show (pathsT t).length ≤ _
    unfold pathsT
    split
    · exact Nat.zero_le _
    · exact pieces_many 10 t (hf _ _ hg).2
theorem pathsD_size {D : Dk} {X : Nat} (hf : FitD X D) (n : ByteArray) : ∀ q ∈ pathsD D n, q.size ≤ X := by
  unfold pathsD
  intro q hq
  cases hg : getF D.now (owP ++ n) with
  | none => rw [hg] at hq; cases hq
  | some t =>
    rw [hg] at hq
    have hq' : q ∈ pathsT t := hq
    unfold pathsT at hq'
    split at hq'
    · cases hq'
    · exact Nat.le_trans (piece_size hq') (hf _ _ hg).2
theorem ownersD_size {D : Dk} {X : Nat} (hf : FitD X D) : ∀ n ∈ ownersD D, n.size ≤ 80 := by
  intro n hn
  unfold ownersD namesD namesL at hn
  obtain ⟨k, hk, rfl⟩ := List.mem_map.1 hn
  have hk2 := (List.mem_filter.1 hk).1
  have := mem_keys.1 hk2
  cases hg : getF D.now k with
  | none => exact absurd hg this
  | some v =>
    have h80 := (hf k v hg).1
    unfold restB
    rw [size_eq_length]
    show (Lib.trimPrefix k.data.toList owP.data.toList).length ≤ 80
    unfold Lib.trimPrefix
    rw [size_eq_length] at h80
    split
    · rw [List.length_drop]; omega
    · exact h80
theorem ownersD_len {D : Dk} (hk : DkOk D) : (ownersD D).length ≤ 5000 := Nat.le_trans (namesL_len _ _) (by rw [keys_len]; exact hk.len)

/-! Over -/
set_option maxRecDepth 100000 in
theorem over_calls (d : Nat) (w : World) : Calls Tryz.prog 25 #[.pointer (some ⟨d, 0, none⟩)] w fun E w' => E = .returned (.tuple #[.pointer (some ⟨w.heap.size, 0, none⟩), .nilIface]) ∧ w' = w.alloc (.cells #[.pointer (some ⟨d, 0, none⟩)] 132) := by
  go_enter Tryz.func25, Tryz.ntmps25
  go_wp2_with fail
  go_ret2
  exact ⟨rfl, rfl⟩
/-! Owner -/
def ownerD (D : Dk) (p : ByteArray) : ByteArray := ((ownersD D).find? fun n => hasB (pathsD D n) p).getD ⟨#[]⟩
theorem find_stop {α : Type} {p : α → Bool} {l : List α} {k : Nat} {x : α} (hn : (l.take k).any p = false) (hx : l[k]? = some x) (hp : p x = true) : l.find? p = some x := by
  induction k generalizing l with
  | zero =>
    cases l with
    | nil => cases hx
    | cons y r =>
      obtain rfl := Option.some.inj hx
      simp [hp]
  | succ k ih =>
    cases l with
    | nil => cases hx
    | cons y r =>
      rw [List.take_succ_cons, List.any_cons, Bool.or_eq_false_iff] at hn
      rw [List.find?_cons, hn.1]
      exact ih hn.2 hx
theorem find_none {α : Type} {p : α → Bool} {l : List α} (hn : l.any p = false) : l.find? p = none := List.find?_eq_none.2 fun x hx => by simpa using List.any_eq_false.1 hn x hx

set_option maxHeartbeats 1000000 in
set_option maxRecDepth 100000 in
theorem owner_calls (sh d : Nat) (D : Dk) (p : ByteArray) (w : World) (hE : Env w) (h : ShAt w sh d D) (hk : DkOk D) (hf : FitD 1000000 D) : Calls Tryz.prog 83 #[.pointer (some ⟨sh, 0, none⟩), .string p] w fun E w' => E = .returned (.string (ownerD D p)) ∧ Below w.heap.size w w' := by
  have CO := Lib.hid (owners_calls sh d D w h hk)
  have CP := Lib.hid (fun (W : World) (hb : Below w.heap.size w W) (n : ByteArray) (hn : n.size ≤ 80) => paths_row sh d D n W (hE.below hb) (h.keep hb) hf (by omega))
  have HZ := Lib.hid (ownersD_size hf)
  have HPL := Lib.hid (fun n => pathsD_len hf n)
  have hl5 := ownersD_len hk
  unfold ownerD
  obtain ⟨L, hL⟩ : ∃ L, ownersD D = L := ⟨_, rfl⟩
  rw [hL] at CO HZ hl5 ⊢
  have H5 := Lib.hid hl5
  clear hE h hk hf hL hl5
  go_enter Tryz.func83, Tryz.ntmps83
  go_wp2_with fail
  refine CO.out.mono ?_
  rintro E w1 ⟨vL, rfl, hU, hb⟩
  have HB1 := Lib.hid hb
  obtain ⟨A, cc, rfl, hc, hm, hr⟩ := hU.1.open
  obtain ⟨len, hlen⟩ : ∃ len, L.length = len := ⟨_, rfl⟩
  have HL := Lib.hid hlen
  have HR := Lib.hid hr
  rw [hlen] at hc hm ⊢
  clear hU hb CO hr hlen H5
  go_wp2_with fail
  go_loopw [10] (fun i wr => ∃ k : Nat, k ≤ len ∧ i = .int .i64 k ∧ Hid ((L.take k).any (fun n => hasB (pathsD D n) p) = false) ∧ Below w1.heap.size w1 wr) (fun i _ => len - (intOf i).toNat)
  case atStart => exact ⟨0, Nat.zero_le _, rfl, Lib.hid rfl, Below.refl _ _⟩
  case round =>
    obtain ⟨k, hk, rfl, hall, hB⟩ := hrel
    by_cases hlt : k < len
    · have hne : L ≠ [] := by
        intro e
        have := HL.out
        rw [e] at this
        simp at this
        omega
      obtain ⟨x, ht⟩ : ∃ x, L[k]? = some x := ⟨L[k]'(by have := HL.out; omega), List.getElem?_eq_getElem _⟩
      obtain ⟨b, off, rfl, hi'⟩ := HR.out hne
      have c0 := kept hB (hi' k x ht)
      have HT := Lib.hid ht
      have HBw := Lib.hid (step_below HB1.out hB)
      have CC := Lib.hid (CP.out wr HBw.out x (HZ.out x (List.mem_of_getElem? ht)))
      have HPX := Lib.hid (HPL.out x)
      obtain ⟨P, hP⟩ : ∃ P, pathsD D x = P := ⟨_, rfl⟩
      rw [hP] at CC HPX
      have HPP := Lib.hid hP
      clear ht hi' hne hP
      go_wp2_with fail
      refine CC.out.mono ?_
      rintro E w2 ⟨v2, rfl, hro, hb⟩
      have HS := Lib.hid (hro.strs (by have := HPX.out; omega)).1
      have HB2 := Lib.hid (step_below hB hb)
      have CH := Lib.hid (hasStr_calls v2 P p w2 HS.out)
      obtain ⟨hb1, hhb⟩ : ∃ y, hasB P p = y := ⟨_, rfl⟩
      rw [hhb] at CH
      have HHB : Hid (hasB (pathsD D x) p = hb1) := Lib.hid (by rw [HPP.out]; exact hhb)
      clear hro hb hhb CC c0
      go_wp2_with fail
      refine CH.out.mono ?_
      rintro E w3 ⟨rfl, rfl⟩
      cases hb1 with
      | true =>
        go_wp2_with fail
        go_ret
        exact ⟨by rw [find_stop (p := fun n => hasB (pathsD D n) p) hall.out HT.out HHB.out]; rfl, step_below HB1.out HB2.out⟩
      | false =>
        go_wp2_with fail
        go_roundw
        case rel => exact ⟨k + 1, by omega, by go_num, Lib.hid (any_take_succ hall.out HT.out HHB.out), HB2.out⟩
        case measure => simp [intOf]; omega
    · obtain rfl : k = len := by omega
      go_wp2_with fail
      go_ret
      have hno : L.any (fun n => hasB (pathsD D n) p) = false := by have := hall.out; rw [← HL.out] at this; exact any_done this
      exact ⟨by rw [find_none hno]; rfl, step_below HB1.out hB⟩
end Go.Proofs.YtpbbhjifgaeklaaGreatDoor

namespace Go.Proofs.YtpbbhjifgaeklaaGreatDoor
open Go Go.RowKit Go.Maps

/-! the closures -/
set_option maxRecDepth 100000 in
theorem owned1_calls (cq : Nat) (v : Value) (l : List ByteArray) (x : ByteArray) (w : World) (hc : w.cell? ⟨cq, 0, none⟩ = some v) (hv : StrsAt w v l) : Calls Tryz.prog 158 #[.string x, .pointer (some ⟨cq, 0, none⟩)] w (BoolIs (hasB l x) w) := by
  have C := Lib.hid (hasStr_calls v l x w hv)
  obtain ⟨A, c, rfl, _⟩ := hv.open
  clear hv
  go_enter Tryz.func158, Tryz.ntmps158
  go_wp2_with fail
  refine C.out.mono ?_
  rintro E w1 ⟨rfl, rfl⟩
  go_wp2_with fail
  go_ret
  exact ⟨rfl, Below.refl _ _⟩
def noSet (D : Dk) (q : ByteArray) : Bool := (getF D.now (spP ++ q)).isNone
set_option maxRecDepth 100000 in
theorem settings1_calls (cq sh d : Nat) (D : Dk) (x : ByteArray) (w : World) (hc : w.cell? ⟨cq, 0, none⟩ = some (.pointer (some ⟨sh, 0, none⟩))) (h : ShAt w sh d D) (hx : x.size ≤ 999000) : Calls Tryz.prog 184 #[.string x, .pointer (some ⟨cq, 0, none⟩)] w (BoolIs (noSet D x) w) := by
  have hz1 : (spP ++ x).size ≤ 1000000 := by rw [cat_size]; show 2 + _ ≤ _; omega
  have g : ¬ 9223372036854775807 < 2 + x.size := by omega
  have C := Lib.hid (get_calls sh d D (spP ++ x) w h hz1)
  unfold noSet
  rcases hg : getF D.now (spP ++ x) with _ | s
  · rw [hg] at C
    unfold spP at C
    clear h hx hz1 hg
    go_enter Tryz.func184, Tryz.ntmps184
    go_wp2_with fail
    refine C.out.mono ?_
    rintro E w1 ⟨v, rfl, hp, hb⟩
    obtain rfl : v = .pointer none := hp
    go_wp2_with fail
    go_ret
    exact ⟨rfl, hb⟩
  · rw [hg] at C
    unfold spP at C
    clear h hx hz1 hg
    go_enter Tryz.func184, Tryz.ntmps184
    go_wp2_with fail
    refine C.out.mono ?_
    rintro E w1 ⟨v, rfl, hp, hb⟩
    obtain ⟨gg, rfl, _, _⟩ := hp
    go_wp2_with fail
    go_ret
    exact ⟨rfl, hb⟩

/-! Settings -/
def settingsD (D : Dk) (n : ByteArray) : List ByteArray := (pathsD D n).filter fun q => !noSet D q
theorem delSt_start {W : World} {g : Nat} {L : List ByteArray} (p : ByteArray → Bool) (_ : Blk 9 W g (L.map Value.string).toArray) : DelSt L p L.length 0 (L.map Value.string).toArray := by
  refine ⟨by simp, fun t x _ hx => ?_, fun t x ht => ?_⟩
  · rw [List.getElem?_toArray, List.getElem?_map, hx]; rfl
  · unfold kept1 at ht
    simp at ht
/-- texts in a row of their own, at the value -/
theorem row_strsUp {W : World} {B : Nat} {v : Value} {L : List ByteArray} (h : W.ownsRow B 9 1 v L.length (L.flatMap strC)) (hm : L.length ≤ 9223372036854775807) : StrsUp B W v L := strsUp_own h rfl hm
set_option maxRecDepth 100000 in
theorem del_nilS (cq : Nat) (w : World) : Calls Tryz.prog 157 #[.slice none 0 0, .func (.func 184) #[] #[.pointer (some ⟨cq, 0, none⟩)]] w fun E w' => E = .returned (.slice none 0 0) ∧ w = w' := by
  have CI : Calls Tryz.prog 144 #[.slice none 0 0, .func (.func 184) #[] #[.pointer (some ⟨cq, 0, none⟩)]] w fun E w' => E = .returned (.int .i64 (-1)) ∧ w = w' := by
    go_enter Tryz.func144, Tryz.ntmps144
    go_wp2_with fail
    refine wp_loop_rounds 1 ?_
    rw [rounds_succ]
    go_wp2_with fail
    go_ret
    exact ⟨rfl, rfl⟩
  have CI := Lib.hid CI
  go_enter Tryz.func157, Tryz.ntmps157
  go_wp2_with fail
  refine CI.out.mono ?_
  rintro E w1 ⟨rfl, rfl⟩
  go_wp2_with fail
  go_ret
  exact ⟨rfl, rfl⟩
set_option maxHeartbeats 1000000 in
set_option maxRecDepth 100000 in
theorem settings_calls (sh d : Nat) (D : Dk) (n : ByteArray) (w : World) (hE : Env w) (h : ShAt w sh d D) (hf : FitD 900000 D) (hn : n.size ≤ 1000) : Calls Tryz.prog 117 #[.pointer (some ⟨sh, 0, none⟩), .string n] w fun E w' => ∃ v, E = .returned v ∧ StrsUp w.heap.size w' v (settingsD D n) ∧ Below w.heap.size w w' := by
  have hb0 := below_alloc w (.cells #[.pointer (some ⟨sh, 0, none⟩)] 52)
  have hf' : FitD 1000000 D := hf.mono (by omega)
  have CP := Lib.hid (paths_row sh d D n _ (hE.below hb0) (h.keep hb0) hf' hn)
  have hbk := blk_new 52 w #[.pointer (some ⟨sh, 0, none⟩)]
  have HPL : Hid ((pathsD D n).length ≤ 900001) := Lib.hid (by
    unfold pathsD
    cases hg : getF D.now (owP ++ n) with
    | none => exact Nat.zero_le _
    | some t =>
      show (pathsT t).length ≤ _
      unfold pathsT
      split
      · exact Nat.zero_le _
      · have hpc := VP.pieces_count 10 t.data.toList
        have h1 := size_eq_length t
        have h2 := (hf _ _ hg).2
        unfold piecesB
        rw [List.length_map]
        omega)
  have HZ := Lib.hid (pathsD_size hf n)
  have H := Lib.hid h
  unfold settingsD
  obtain ⟨L, hL⟩ : ∃ L, pathsD D n = L := ⟨_, rfl⟩
  rw [hL] at CP HPL HZ ⊢
  clear h hf hf' hn hL hE
  go_enter Tryz.func117, Tryz.ntmps117
  go_wp2_with fail
  refine CP.out.mono ?_
  rintro E w1 ⟨v1, rfl, hro, hb⟩
  have hB1 := step_below hb0 hb
  have c1 := (hbk.keep hb).cell (i := 0) rfl
  have hgs : w.heap.size < (w.alloc (.cells #[.pointer (some ⟨sh, 0, none⟩)] 52)).heap.size := by rw [World.size_alloc]; omega
  rcases hro with ⟨rfl, rfl⟩ | ⟨g, rfl, hg, hbg⟩
  · have HB1 := Lib.hid hB1
    have CD := Lib.hid (del_nilS w.heap.size w1)
    clear hB1 hb hb0 CP hbk c1 hgs
    go_wp2_with fail
    refine CD.out.mono ?_
    rintro E w2 ⟨rfl, rfl⟩
    go_wp2_with fail
    go_ret
    exact ⟨_, rfl, strsUp_nil _ _ _, HB1.out⟩
  · have hne : w.heap.size ≠ g := by omega
    have CD := Lib.hid (delS_row w.heap.size g L.length w.heap.size L (noSet D) _ w1 (by omega) hbg (delSt_start (noSet D) hbg) (Nat.le_refl _) (by have := HPL.out; unfold maxLen; omega) (by have := HPL.out; omega) (fun W x hW hx => settings1_calls w.heap.size sh d D x W (by
      have := hW.block w.heap.size (by have := hb.size; omega) (fun e => hne (by injection e))
      unfold World.cell? at c1 ⊢
      rw [this]
      exact c1) (H.out.keep (below_grownBy hB1 hW (by have := hB1.size; omega) (by omega))) (by have := HZ.out x hx; omega)))
    have HB1 := Lib.hid hB1
    have HGS := Lib.hid (show w.heap.size ≤ g by omega)
    have HSZ := Lib.hid (show w.heap.size ≤ w1.heap.size from hB1.size)
    clear hB1 hb hb0 CP hbk c1 hgs hg hbg hne
    go_wp2_with fail
    refine CD.out.mono ?_
    rintro E w2 ⟨v2, rfl, ho, hgr⟩
    have HO := Lib.hid (row_strsUp ho (Nat.le_trans (List.length_filter_le _ _) (by have := HPL.out; omega)))
    have HB2 := Lib.hid (below_grownBy HB1.out hgr HSZ.out HGS.out)
    clear ho hgr CD
    go_wp2_with fail
    go_ret
    exact ⟨v2, rfl, HO.out, HB2.out⟩
end Go.Proofs.YtpbbhjifgaeklaaGreatDoor

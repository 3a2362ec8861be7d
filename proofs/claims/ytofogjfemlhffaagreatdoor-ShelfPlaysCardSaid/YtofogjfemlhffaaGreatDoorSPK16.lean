/- The shelf's calls: Over, Owner, Edit, Settings. · The shelf's calls: Edit, Settings; the closures of Settings and owned. · A shelf, its disk, and rows of the call's own beside them: what stays. -/
import Derived.Test.YtofogjfemlhffaaGreatDoorSPK15
import Derived.Maps.AppendAt
namespace Go.Proofs.YtofogjfemlhffaaGreatDoor
open Go Go.RowKit Go.Maps

theorem below_grownBy {n : Nat} {w0 w W : World} {g : Nat} (hb : Below n w0 w) (hg : w.grownBy W (some g)) (hn : n ≤ w.heap.size) (h : n ≤ g) : Below n w0 W := hb.grown hg hn (fun k e => by injection e with e; omega)

/-! Paths, in a row of its own -/
theorem split_row (s : ByteArray) (c : UInt8) (w : World) (hE : Env w) (hs : s.size ≤ 1000000) : Calls Tryz.prog 52 #[.string s, .string ⟨#[c]⟩] w fun E w' => ∃ n, E = .returned (.slice (some ⟨w.heap.size, 0, none⟩) n n) ∧ n = (piecesB c s).length ∧ Blk 9 w' w.heap.size ((piecesB c s).map Value.string).toArray ∧ Below w.heap.size w w' := by
  obtain ⟨m, hm⟩ := hE.1
  refine (Tryz.strings_Split s ⟨#[c]⟩ m w (by omega) hm (Nat.le_refl 1)).mono fun E w' ⟨he, hw⟩ => ?_
  have hp := splitB_pieces c s.size s (Nat.le_refl _)
  have hlen := Lib.splitB_all ⟨#[c]⟩ (Nat.le_refl 1) 0 _ s rfl
  rw [hp] at hw hlen
  exact ⟨_, he, hlen.symm, by rw [hw]; exact blk_new _ w _, by rw [hw]; exact below_alloc _ _⟩
/-- texts in a row of their own: nil, or a whole block of as many cells -/
def RowOf (B : Nat) (W : World) (v : Value) (L : List ByteArray) : Prop := (L = [] ∧ v = .slice none 0 0) ∨ ∃ g, v = .slice (some ⟨g, 0, none⟩) L.length L.length ∧ B ≤ g ∧ Blk 9 W g (L.map Value.string).toArray
theorem RowOf.below {B : Nat} {W W' : World} {v : Value} {L : List ByteArray} (h : RowOf B W v L) (hb : Below W.heap.size W W') : RowOf B W' v L := by
  rcases h with h | ⟨g, hv, hg, hk⟩
  · exact .inl h
  · exact .inr ⟨g, hv, hg, hk.keep hb⟩
theorem RowOf.strs {B : Nat} {W : World} {v : Value} {L : List ByteArray} (h : RowOf B W v L) (hm : L.length ≤ 9223372036854775807) : StrsUp B W v L := by
  rcases h with ⟨rfl, rfl⟩ | ⟨g, rfl, hg, hk⟩
  · exact strsUp_nil _ _ _
  · refine (strsUp_cells hm fun i x hx => hk.cell ?_).low hg
    rw [List.getElem?_toArray, List.getElem?_map, hx]
    rfl
set_option maxRecDepth 100000 in
theorem paths_row (sh d : Nat) (D : Dk) (n : ByteArray) (w : World) (hE : Env w) (h : ShAt w sh d D) (hf : FitD 1000000 D) (hn : n.size ≤ 1000) : Calls Tryz.prog 28 #[.pointer (some ⟨sh, 0, none⟩), .string n] w fun E w' => ∃ v, E = .returned v ∧ RowOf w.heap.size w' v (pathsD D n) ∧ Below w.heap.size w w' := by
  have c0 := h.c
  have hsz : (owP ++ n).size ≤ 1000000 := by rw [cat_size]; show 2 + _ ≤ _; omega
  have g : ¬ 9223372036854775807 < 2 + n.size := by omega
  have C := Lib.hid (dread_calls d D (owP ++ n) w h.dk hsz)
  unfold readV at C
  unfold pathsD
  cases hg : getF D.now (owP ++ n) with
  | none =>
    rw [hg] at C
    simp only at C ⊢
    unfold owP at C
    clear h hn hsz hf hE hg
    go_enter Tryz.func28, Tryz.ntmps28
    go_wp2_with fail
    refine C.out.mono ?_
    rintro E w1 ⟨rfl, rfl⟩
    go_wp2_with fail
    go_ret
    exact ⟨_, rfl, .inl ⟨rfl, rfl⟩, Below.refl _ _⟩
  | some t =>
    rw [hg] at C
    have ht := (hf _ _ hg).2
    simp only at C ⊢
    unfold owP at C
    unfold pathsT
    by_cases h0 : t.size = 0
    · rw [if_pos h0]
      have et := eq_empty t h0
      subst et
      clear h hn hsz hf hE hg ht h0
      go_enter Tryz.func28, Tryz.ntmps28
      go_wp2_with fail
      refine C.out.mono ?_
      rintro E w1 ⟨rfl, rfl⟩
      go_wp2_with fail
      go_ret
      exact ⟨_, rfl, .inl ⟨rfl, rfl⟩, Below.refl _ _⟩
    · rw [if_neg h0]
      have hz := isEmpty_false t (by omega)
      have CS := Lib.hid (split_row t 10 w hE ht)
      clear h hn hsz hf hE hg ht h0
      go_enter Tryz.func28, Tryz.ntmps28
      go_wp2_with fail
      refine C.out.mono ?_
      rintro E w1 ⟨rfl, rfl⟩
      go_wp2_with fail
      refine CS.out.mono ?_
      rintro E w2 ⟨k, rfl, hk, hc, hb⟩
      have HC := Lib.hid hc
      have HK := Lib.hid hk
      clear hc hk CS C
      go_wp2_with fail
      go_ret
      exact ⟨_, rfl, by rw [HK.out]; exact .inr ⟨_, rfl, Nat.le_refl _, HC.out⟩, hb⟩
theorem pathsD_len {D : Dk} (hf : FitD 1000000 D) (n : ByteArray) : (pathsD D n).length ≤ 1000001 := by
  unfold pathsD
  cases hg : getF D.now (owP ++ n) with
  | none => exact Nat.zero_le _
  | some t =>
    show (pathsT t).length ≤ _
    unfold pathsT
    split
    · exact Nat.zero_le _
    · exact pieces_many 10 t (hf _ _ hg).2
theorem pathsD_size {D : Dk} {X : Nat} (hf : FitD X D) (n : ByteArray) : ∀ q ∈ pathsD D n, q.size ≤ X := by
  unfold pathsD
  intro q hq
  cases hg : getF D.now (owP ++ n) with
  | none => rw [hg] at hq; cases hq
  | some t =>
    rw [hg] at hq
    have hq' : q ∈ pathsT t := hq
    unfold pathsT at hq'
    split at hq'
    · cases hq'
    · exact Nat.le_trans (piece_size hq') (hf _ _ hg).2
theorem ownersD_size {D : Dk} {X : Nat} (hf : FitD X D) : ∀ n ∈ ownersD D, n.size ≤ 80 := by
  intro n hn
  unfold ownersD namesD namesL at hn
  obtain ⟨k, hk, rfl⟩ := List.mem_map.1 hn
  have hk2 := (List.mem_filter.1 hk).1
  have := mem_keys.1 hk2
  cases hg : getF D.now k with
  | none => exact absurd hg this
  | some v =>
    have h80 := (hf k v hg).1
    unfold restB
    rw [size_eq_length]
    show (Lib.trimPrefix k.data.toList owP.data.toList).length ≤ 80
    unfold Lib.trimPrefix
    rw [size_eq_length] at h80
    split
    · rw [List.length_drop]; omega
    · exact h80
theorem ownersD_len {D : Dk} (hk : DkOk D) : (ownersD D).length ≤ 5000 := Nat.le_trans (namesL_len _ _) (by rw [keys_len]; exact hk.len)

/-! Over -/
set_option maxRecDepth 100000 in
theorem over_calls (d : Nat) (w : World) : Calls Tryz.prog 4 #[.pointer (some ⟨d, 0, none⟩)] w fun E w' => E = .returned (.tuple #[.pointer (some ⟨w.heap.size, 0, none⟩), .nilIface]) ∧ w' = w.alloc (.cells #[.pointer (some ⟨d, 0, none⟩)] 63) := by
  go_enter Tryz.func4, Tryz.ntmps4
  go_wp2_with fail
  go_ret2
  exact ⟨rfl, rfl⟩
set_option maxRecDepth 100000 in
theorem over_nil (w : World) : Calls Tryz.prog 4 #[.pointer none] w fun E w' => E = .returned (.tuple #[.pointer none, .iface 33 (.int .i64 7)]) ∧ w' = w := by
  go_enter Tryz.func4, Tryz.ntmps4
  go_wp2_with fail
  go_ret2
  exact ⟨rfl, rfl⟩

/-! Owner -/
def ownerD (D : Dk) (p : ByteArray) : ByteArray := ((ownersD D).find? fun n => hasB (pathsD D n) p).getD ⟨#[]⟩
theorem find_stop {α : Type} {p : α → Bool} {l : List α} {k : Nat} {x : α} (hn : (l.take k).any p = false) (hx : l[k]? = some x) (hp : p x = true) : l.find? p = some x := by
  induction k generalizing l with
  | zero =>
    cases l with
    | nil => cases hx
    | cons y r =>
      obtain rfl := Option.some.inj hx
      simp [hp]
  | succ k ih =>
    cases l with
    | nil => cases hx
    | cons y r =>
      rw [List.take_succ_cons, List.any_cons, Bool.or_eq_false_iff] at hn
      rw [List.find?_cons, hn.1]
      exact ih hn.2 hx
theorem find_none {α : Type} {p : α → Bool} {l : List α} (hn : l.any p = false) : l.find? p = none := List.find?_eq_none.2 fun x hx => by simpa using List.any_eq_false.1 hn x hx

set_option maxHeartbeats 1000000 in
set_option maxRecDepth 100000 in
theorem owner_calls (sh d : Nat) (D : Dk) (p : ByteArray) (w : World) (hE : Env w) (h : ShAt w sh d D) (hk : DkOk D) (hf : FitD 1000000 D) : Calls Tryz.prog 42 #[.pointer (some ⟨sh, 0, none⟩), .string p] w fun E w' => E = .returned (.string (ownerD D p)) ∧ Below w.heap.size w w' := by
  have CO := Lib.hid (owners_calls sh d D w h hk)
  have CP := Lib.hid (fun (W : World) (hb : Below w.heap.size w W) (n : ByteArray) (hn : n.size ≤ 80) => paths_row sh d D n W (hE.below hb) (h.keep hb) hf (by omega))
  have HZ := Lib.hid (ownersD_size hf)
  have HPL := Lib.hid (fun n => pathsD_len hf n)
  have hl5 := ownersD_len hk
  unfold ownerD
  obtain ⟨L, hL⟩ : ∃ L, ownersD D = L := ⟨_, rfl⟩
  rw [hL] at CO HZ hl5 ⊢
  have H5 := Lib.hid hl5
  clear hE h hk hf hL hl5
  go_enter Tryz.func42, Tryz.ntmps42
  go_wp2_with fail
  refine CO.out.mono ?_
  rintro E w1 ⟨vL, rfl, hU, hb⟩
  have HB1 := Lib.hid hb
  obtain ⟨A, cc, rfl, hc, hm, hr⟩ := hU.1.open
  obtain ⟨len, hlen⟩ : ∃ len, L.length = len := ⟨_, rfl⟩
  have HL := Lib.hid hlen
  have HR := Lib.hid hr
  rw [hlen] at hc hm ⊢
  clear hU hb CO hr hlen H5
  go_wp2_with fail
  go_loopw [10] (fun i wr => ∃ k : Nat, k ≤ len ∧ i = .int .i64 k ∧ Hid ((L.take k).any (fun n => hasB (pathsD D n) p) = false) ∧ Below w1.heap.size w1 wr) (fun i _ => len - (intOf i).toNat)
  case atStart => exact ⟨0, Nat.zero_le _, rfl, Lib.hid rfl, Below.refl _ _⟩
  case round =>
    obtain ⟨k, hk, rfl, hall, hB⟩ := hrel
    by_cases hlt : k < len
    · have hne : L ≠ [] := by
        intro e
        have := HL.out
        rw [e] at this
        simp at this
        omega
      obtain ⟨x, ht⟩ : ∃ x, L[k]? = some x := ⟨L[k]'(by have := HL.out; omega), List.getElem?_eq_getElem _⟩
      obtain ⟨b, off, rfl, hi'⟩ := HR.out hne
      have c0 := kept hB (hi' k x ht)
      have HT := Lib.hid ht
      have HBw := Lib.hid (step_below HB1.out hB)
      have CC := Lib.hid (CP.out wr HBw.out x (HZ.out x (List.mem_of_getElem? ht)))
      have HPX := Lib.hid (HPL.out x)
      obtain ⟨P, hP⟩ : ∃ P, pathsD D x = P := ⟨_, rfl⟩
      rw [hP] at CC HPX
      have HPP := Lib.hid hP
      clear ht hi' hne hP
      go_wp2_with fail
      refine CC.out.mono ?_
      rintro E w2 ⟨v2, rfl, hro, hb⟩
      have HS := Lib.hid (hro.strs (by have := HPX.out; omega)).1
      have HB2 := Lib.hid (step_below hB hb)
      have CH := Lib.hid (hasStr_calls v2 P p w2 HS.out)
      obtain ⟨hb1, hhb⟩ : ∃ y, hasB P p = y := ⟨_, rfl⟩
      rw [hhb] at CH
      have HHB : Hid (hasB (pathsD D x) p = hb1) := Lib.hid (by rw [HPP.out]; exact hhb)
      clear hro hb hhb CC c0
      go_wp2_with fail
      refine CH.out.mono ?_
      rintro E w3 ⟨rfl, rfl⟩
      cases hb1 with
      | true =>
        go_wp2_with fail
        go_ret
        exact ⟨by rw [find_stop (p := fun n => hasB (pathsD D n) p) hall.out HT.out HHB.out]; rfl, step_below HB1.out HB2.out⟩
      | false =>
        go_wp2_with fail
        go_roundw
        case rel => exact ⟨k + 1, by omega, by go_num, Lib.hid (any_take_succ hall.out HT.out HHB.out), HB2.out⟩
        case measure => simp [intOf]; omega
    · obtain rfl : k = len := by omega
      go_wp2_with fail
      go_ret
      have hno : L.any (fun n => hasB (pathsD D n) p) = false := by have := hall.out; rw [← HL.out] at this; exact any_done this
      exact ⟨by rw [find_none hno]; rfl, step_below HB1.out hB⟩
end Go.Proofs.YtofogjfemlhffaaGreatDoor

namespace Go.Proofs.YtofogjfemlhffaaGreatDoor
open Go Go.RowKit Go.Maps

def editD (D : Dk) (p s : ByteArray) (missing : Bool) : Int × Dk := if (ownerD D p).size = 0 then (7, D) else if missing then removeD D (thP ++ p) else keepsD D (thP ++ p) s
set_option maxHeartbeats 1000000 in
set_option maxRecDepth 100000 in
theorem edit_calls (sh d : Nat) (D : Dk) (p s : ByteArray) (ms : Bool) (w : World) (hE : Env w) (h : ShAt w sh d D) (hk : DkOk D) (hf : FitD 1000000 D) (hp : p.size ≤ 1000) (hs : s.size ≤ 1000000) : Calls Tryz.prog 16 #[.pointer (some ⟨sh, 0, none⟩), .string p, .string s, .bool ms] w (SDone sh d (editD D p s ms) w) := by
  have c0 := h.c
  have hz1 : (thP ++ p).size ≤ 1000000 := by rw [cat_size]; show 2 + _ ≤ _; omega
  have g : ¬ 9223372036854775807 < 2 + p.size := by omega
  have C := Lib.hid (owner_calls sh d D p w hE h hk hf)
  have H := Lib.hid h
  by_cases ho : (ownerD D p).size = 0
  · have F := Lib.hid (show editD D p s ms = (7, D) from if_pos ho)
    have e := eq_empty _ ho
    rw [e] at C
    clear h hk hf hp hs ho e hz1 hE
    go_enter Tryz.func16, Tryz.ntmps16
    go_wp2_with fail
    refine C.out.mono ?_
    rintro E w1 ⟨rfl, hb⟩
    have H1 := Lib.hid (H.out.keep hb)
    have HO := Lib.hid (Off.of_below (d := d) hb H.out.dk.lt)
    clear hb C c0
    go_wp2_with fail
    go_ret
    exact sdone_err F.out (by decide) H1.out HO.out
  · have hz := isEmpty_false (ownerD D p) (by omega)
    obtain ⟨o, hoo⟩ : ∃ o, ownerD D p = o := ⟨_, rfl⟩
    rw [hoo] at C hz
    cases ms with
    | true =>
      have F := Lib.hid (show editD D p s true = removeD D (thP ++ p) from (if_neg ho).trans (if_pos rfl))
      have C2 := Lib.hid (fun (W : World) (hd : DiskAt W d D) => dremove_calls d D (thP ++ p) W hd hk hz1)
      unfold DiskDone at C2
      obtain ⟨n1, D1, hr1⟩ : ∃ n' D', removeD D (thP ++ p) = (n', D') := ⟨_, _, rfl⟩
      rw [hr1] at C2 F
      simp only at C2
      unfold thP at C2
      clear h hk hf hp hs ho hz1 hE hoo hr1
      go_enter Tryz.func16, Tryz.ntmps16
      go_wp2_with fail
      refine C.out.mono ?_
      rintro E w1 ⟨rfl, hb⟩
      have H1 := Lib.hid (H.out.keep hb)
      have HO := Lib.hid (Off.of_below (d := d) hb H.out.dk.lt)
      have c1 := H1.out.c
      clear hb C c0
      go_wp2_with fail
      refine (C2.out _ H1.out.dk).mono ?_
      rintro E w2 ⟨rfl, hd, ho⟩
      have H2 := Lib.hid (H1.out.go ho hd)
      have HO2 := Lib.hid (HO.out.trans ho)
      clear hd ho C2 c1
      obtain ⟨ev, hev⟩ : ∃ ev, errV n1 = ev := ⟨_, rfl⟩
      rw [hev]
      have HEV := Lib.hid hev
      clear hev
      go_wp2_with fail
      go_ret
      exact sdone_ret F.out HEV.out H2.out HO2.out
    | false =>
      have F := Lib.hid (show editD D p s false = keepsD D (thP ++ p) s from (if_neg ho).trans (if_neg (by decide)))
      have C2 := Lib.hid (fun (W : World) (hd : ShAt W sh d D) => keeps_calls sh d D (thP ++ p) s W hd hk hz1 hs)
      unfold SDone at C2
      obtain ⟨n1, D1, hr1⟩ : ∃ n' D', keepsD D (thP ++ p) s = (n', D') := ⟨_, _, rfl⟩
      rw [hr1] at C2 F
      simp only at C2
      unfold thP at C2
      clear h hk hf hp hs ho hz1 hE hoo hr1
      go_enter Tryz.func16, Tryz.ntmps16
      go_wp2_with fail
      refine C.out.mono ?_
      rintro E w1 ⟨rfl, hb⟩
      have H1 := Lib.hid (H.out.keep hb)
      have HO := Lib.hid (Off.of_below (d := d) hb H.out.dk.lt)
      clear hb C c0
      go_wp2_with fail
      refine (C2.out _ H1.out).mono ?_
      rintro E w2 ⟨rfl, h2, ho⟩
      have H2 := Lib.hid h2
      have HO2 := Lib.hid (HO.out.trans ho)
      clear h2 ho C2
      obtain ⟨ev, hev⟩ : ∃ ev, errV n1 = ev := ⟨_, rfl⟩
      rw [hev]
      have HEV := Lib.hid hev
      clear hev
      go_wp2_with fail
      go_ret
      exact sdone_ret F.out HEV.out H2.out HO2.out

/-! the closures -/
set_option maxRecDepth 100000 in
theorem owned1_calls (cq : Nat) (v : Value) (l : List ByteArray) (x : ByteArray) (w : World) (hc : w.cell? ⟨cq, 0, none⟩ = some v) (hv : StrsAt w v l) : Calls Tryz.prog 66 #[.string x, .pointer (some ⟨cq, 0, none⟩)] w (BoolIs (hasB l x) w) := by
  have C := Lib.hid (hasStr_calls v l x w hv)
  obtain ⟨A, c, rfl, _⟩ := hv.open
  clear hv
  go_enter Tryz.func66, Tryz.ntmps66
  go_wp2_with fail
  refine C.out.mono ?_
  rintro E w1 ⟨rfl, rfl⟩
  go_wp2_with fail
  go_ret
  exact ⟨rfl, Below.refl _ _⟩
def noSet (D : Dk) (q : ByteArray) : Bool := (getF D.now (spP ++ q)).isNone
set_option maxRecDepth 100000 in
theorem settings1_calls (cq sh d : Nat) (D : Dk) (x : ByteArray) (w : World) (hc : w.cell? ⟨cq, 0, none⟩ = some (.pointer (some ⟨sh, 0, none⟩))) (h : ShAt w sh d D) (hx : x.size ≤ 999000) : Calls Tryz.prog 73 #[.string x, .pointer (some ⟨cq, 0, none⟩)] w (BoolIs (noSet D x) w) := by
  have hz1 : (spP ++ x).size ≤ 1000000 := by rw [cat_size]; show 2 + _ ≤ _; omega
  have g : ¬ 9223372036854775807 < 2 + x.size := by omega
  have C := Lib.hid (shget_calls sh d D (spP ++ x) w h hz1)
  unfold noSet
  rcases hg : getF D.now (spP ++ x) with _ | s
  · rw [hg] at C
    unfold spP at C
    clear h hx hz1 hg
    go_enter Tryz.func73, Tryz.ntmps73
    go_wp2_with fail
    refine C.out.mono ?_
    rintro E w1 ⟨v, rfl, hp, hb⟩
    obtain rfl : v = .pointer none := hp
    go_wp2_with fail
    go_ret
    exact ⟨rfl, hb⟩
  · rw [hg] at C
    unfold spP at C
    clear h hx hz1 hg
    go_enter Tryz.func73, Tryz.ntmps73
    go_wp2_with fail
    refine C.out.mono ?_
    rintro E w1 ⟨v, rfl, hp, hb⟩
    obtain ⟨gg, rfl, _, _⟩ := hp
    go_wp2_with fail
    go_ret
    exact ⟨rfl, hb⟩

/-! Settings -/
def settingsD (D : Dk) (n : ByteArray) : List ByteArray := (pathsD D n).filter fun q => !noSet D q
theorem delSt_start {W : World} {g : Nat} {L : List ByteArray} (p : ByteArray → Bool) (_ : Blk 9 W g (L.map Value.string).toArray) : DelSt L p L.length 0 (L.map Value.string).toArray := by
  refine ⟨by simp, fun t x _ hx => ?_, fun t x ht => ?_⟩
  · rw [List.getElem?_toArray, List.getElem?_map, hx]; rfl
  · unfold kept1 at ht
    simp at ht
/-- texts in a row of their own, at the value -/
theorem row_strsUp {W : World} {B : Nat} {v : Value} {L : List ByteArray} (h : W.ownsRow B 9 1 v L.length (L.flatMap strC)) (hm : L.length ≤ 9223372036854775807) : StrsUp B W v L := strsUp_own h rfl hm
set_option maxRecDepth 100000 in
theorem del_nilS (cq : Nat) (w : World) : Calls Tryz.prog 65 #[.slice none 0 0, .func (.func 73) #[] #[.pointer (some ⟨cq, 0, none⟩)]] w fun E w' => E = .returned (.slice none 0 0) ∧ w = w' := by
  have CI : Calls Tryz.prog 84 #[.slice none 0 0, .func (.func 73) #[] #[.pointer (some ⟨cq, 0, none⟩)]] w fun E w' => E = .returned (.int .i64 (-1)) ∧ w = w' := by
    go_enter Tryz.func84, Tryz.ntmps84
    go_wp2_with fail
    refine wp_loop_rounds 1 ?_
    rw [rounds_succ]
    go_wp2_with fail
    go_ret
    exact ⟨rfl, rfl⟩
  have CI := Lib.hid CI
  go_enter Tryz.func65, Tryz.ntmps65
  go_wp2_with fail
  refine CI.out.mono ?_
  rintro E w1 ⟨rfl, rfl⟩
  go_wp2_with fail
  go_ret
  exact ⟨rfl, rfl⟩
set_option maxHeartbeats 1000000 in
set_option maxRecDepth 100000 in
theorem settings_calls (sh d : Nat) (D : Dk) (n : ByteArray) (w : World) (hE : Env w) (h : ShAt w sh d D) (hf : FitD 900000 D) (hn : n.size ≤ 1000) : Calls Tryz.prog 45 #[.pointer (some ⟨sh, 0, none⟩), .string n] w fun E w' => ∃ v, E = .returned v ∧ StrsUp w.heap.size w' v (settingsD D n) ∧ Below w.heap.size w w' := by
  have hb0 := below_alloc w (.cells #[.pointer (some ⟨sh, 0, none⟩)] 23)
  have hf' : FitD 1000000 D := hf.mono (by omega)
  have CP := Lib.hid (paths_row sh d D n _ (hE.below hb0) (h.keep hb0) hf' hn)
  have hbk := blk_new 23 w #[.pointer (some ⟨sh, 0, none⟩)]
  have HPL : Hid ((pathsD D n).length ≤ 900001) := Lib.hid (by
    unfold pathsD
    cases hg : getF D.now (owP ++ n) with
    | none => exact Nat.zero_le _
    | some t =>
      show (pathsT t).length ≤ _
      unfold pathsT
      split
      · exact Nat.zero_le _
      · have hpc := VP.pieces_count 10 t.data.toList
        have h1 := size_eq_length t
        have h2 := (hf _ _ hg).2
        unfold piecesB
        rw [List.length_map]
        omega)
  have HZ := Lib.hid (pathsD_size hf n)
  have H := Lib.hid h
  unfold settingsD
  obtain ⟨L, hL⟩ : ∃ L, pathsD D n = L := ⟨_, rfl⟩
  rw [hL] at CP HPL HZ ⊢
  clear h hf hf' hn hL hE
  go_enter Tryz.func45, Tryz.ntmps45
  go_wp2_with fail
  refine CP.out.mono ?_
  rintro E w1 ⟨v1, rfl, hro, hb⟩
  have hB1 := step_below hb0 hb
  have c1 := (hbk.keep hb).cell (i := 0) rfl
  have hgs : w.heap.size < (w.alloc (.cells #[.pointer (some ⟨sh, 0, none⟩)] 23)).heap.size := by rw [World.size_alloc]; omega
  rcases hro with ⟨rfl, rfl⟩ | ⟨g, rfl, hg, hbg⟩
  · have HB1 := Lib.hid hB1
    have CD := Lib.hid (del_nilS w.heap.size w1)
    clear hB1 hb hb0 CP hbk c1 hgs
    go_wp2_with fail
    refine CD.out.mono ?_
    rintro E w2 ⟨rfl, rfl⟩
    go_wp2_with fail
    go_ret
    exact ⟨_, rfl, strsUp_nil _ _ _, HB1.out⟩
  · have hne : w.heap.size ≠ g := by omega
    have CD := Lib.hid (delS_row w.heap.size g L.length w.heap.size L (noSet D) _ w1 (by omega) hbg (delSt_start (noSet D) hbg) (Nat.le_refl _) (by have := HPL.out; unfold maxLen; omega) (by have := HPL.out; omega) (fun W x hW hx => settings1_calls w.heap.size sh d D x W (by
      have := hW.block w.heap.size (by have := hb.size; omega) (fun e => hne (by injection e))
      unfold World.cell? at c1 ⊢
      rw [this]
      exact c1) (H.out.keep (below_grownBy hB1 hW (by have := hB1.size; omega) (by omega))) (by have := HZ.out x hx; omega)))
    have HB1 := Lib.hid hB1
    have HGS := Lib.hid (show w.heap.size ≤ g by omega)
    have HSZ := Lib.hid (show w.heap.size ≤ w1.heap.size from hB1.size)
    clear hB1 hb hb0 CP hbk c1 hgs hg hbg hne
    go_wp2_with fail
    refine CD.out.mono ?_
    rintro E w2 ⟨v2, rfl, ho, hgr⟩
    have HO := Lib.hid (row_strsUp ho (Nat.le_trans (List.length_filter_le _ _) (by have := HPL.out; omega)))
    have HB2 := Lib.hid (below_grownBy HB1.out hgr HSZ.out HGS.out)
    clear ho hgr CD
    go_wp2_with fail
    go_ret
    exact ⟨v2, rfl, HO.out, HB2.out⟩
end Go.Proofs.YtofogjfemlhffaaGreatDoor

namespace Go.Proofs.YtofogjfemlhffaaGreatDoor
open Go Go.RowKit Go.Maps

/-- as Off, but of what lay below n alone -/
structure OffN (n d : Nat) (w w' : World) : Prop where
  os : w'.os = w.os
  tape : w'.tape = w.tape
  output : w'.output = w.output
  size : w.heap.size ≤ w'.heap.size
  block : ∀ i, i < n → ¬ foot w d i → w'.heap[i]? = w.heap[i]?
  foot : ∀ i, Go.Proofs.YtofogjfemlhffaaGreatDoor.foot w' d i → Go.Proofs.YtofogjfemlhffaaGreatDoor.foot w d i ∨ n ≤ i
theorem OffN.of {n d : Nat} {w w' : World} (h : Off d w w') (hn : n ≤ w.heap.size) : OffN n d w w' :=
  ⟨h.os, h.tape, h.output, h.size, fun i hi => h.block i (by omega), fun i hi => (h.foot i hi).imp id (by omega)⟩
theorem OffN.off {d : Nat} {w w' : World} (h : OffN w.heap.size d w w') : Off d w w' := ⟨h.os, h.tape, h.output, h.size, h.block, h.foot⟩
theorem OffN.go {n d : Nat} {a b c : World} (h : OffN n d a b) (k : Off d b c) (hn : n ≤ b.heap.size) : OffN n d a c := by
  refine ⟨k.os.trans h.os, k.tape.trans h.tape, k.output.trans h.output, Nat.le_trans h.size k.size, fun i hi hf => ?_, fun i hi => ?_⟩
  · refine (k.block i (by omega) fun hb => ?_).trans (h.block i hi hf)
    rcases h.foot i hb with h' | h'
    · exact hf h'
    · omega
  · rcases k.foot i hi with h' | h'
    · exact h.foot i h'
    · exact .inr (by omega)
theorem foot_of {w w' : World} {d i : Nat} (hb : w'.heap[d]? = w.heap[d]?) : foot w' d i ↔ foot w d i := by
  have e : ∀ j, w'.cell? ⟨d, j, none⟩ = w.cell? ⟨d, j, none⟩ := fun j => by
    unfold World.cell?
    rw [show w'.heap[(⟨d, j, none⟩ : Addr).block]? = w.heap[(⟨d, j, none⟩ : Addr).block]? from hb]
  unfold foot
  rw [e, e]
theorem foot_grown {b c : World} {r : Option Nat} {d i : Nat} (hg : b.grownBy c r) (hd : d < b.heap.size) (hr : ∀ g, r = some g → ¬ foot b d g) : foot c d i ↔ foot b d i :=
  foot_of (hg.block d hd fun e => hr d e.symm (.inl rfl))
theorem OffN.grown {n d : Nat} {a b c : World} {r : Option Nat} (h : OffN n d a b) (hg : b.grownBy c r) (hn : n ≤ b.heap.size) (hd : d < b.heap.size) (hr : ∀ g, r = some g → n ≤ g ∧ ¬ Go.Proofs.YtofogjfemlhffaaGreatDoor.foot b d g) : OffN n d a c := by
  have hf := fun i => foot_grown (i := i) hg hd (fun g e => (hr g e).2)
  refine ⟨hg.os.trans h.os, hg.tape.trans h.tape, hg.output.trans h.output, Nat.le_trans h.size hg.size, fun i hi hfi => ?_, fun i hi => h.foot i ((hf i).1 hi)⟩
  refine (hg.block i (by omega) fun e => ?_).trans (h.block i hi hfi)
  have := (hr i e.symm).1
  omega
theorem DiskAt.grown {b c : World} {r : Option Nat} {d : Nat} {D : Dk} (h : DiskAt b d D) (hg : b.grownBy c r) (hr : ∀ g, r = some g → ¬ foot b d g) : DiskAt c d D := by
  have hf : ∀ i, foot b d i → c.heap[i]? = b.heap[i]? := fun i hi => hg.block i (h.foot_lt hi) fun e => hr i e.symm hi
  obtain ⟨m0, m1, hk, hm⟩ := h
  refine ⟨m0, m1, (hf d (.inl rfl)).trans hk, hm.keep fun i hi => hf i ?_⟩
  rcases hi with rfl | rfl
  · exact .inr (.inl (hk.cell (i := 0) rfl))
  · exact .inr (.inr (hk.cell (i := 1) rfl))
theorem ShAt.grown {b c : World} {r : Option Nat} {sh d : Nat} {D : Dk} (h : ShAt b sh d D) (hg : b.grownBy c r) (hr : ∀ g, r = some g → ¬ foot b d g ∧ g ≠ sh) : ShAt c sh d D := by
  have hs : c.heap[sh]? = b.heap[sh]? := hg.block sh (cell_lt h.c) fun e => (hr sh e.symm).2 rfl
  refine ⟨?_, fun hf => h.off ((foot_grown hg h.dk.lt fun g e => (hr g e).1).1 hf), h.dk.grown hg fun g e => (hr g e).1⟩
  have := h.c
  unfold World.cell? at this ⊢
  rw [show c.heap[(⟨sh, 0, none⟩ : Addr).block]? = b.heap[(⟨sh, 0, none⟩ : Addr).block]? from hs]
  exact this

/-- texts in a row of the call's own, off the disk -/
def RowD (d B : Nat) (W : World) (v : Value) (L : List ByteArray) : Prop := W.ownsRow B 9 1 v L.length (L.flatMap strC) ∧ ∀ g, v.ownBlock = some g → ¬ foot W d g
theorem RowD.nil (d B : Nat) (W : World) : RowD d B W (.slice none 0 0) [] := ⟨⟨rfl, .inl ⟨rfl, rfl⟩⟩, fun g e => by cases e⟩
theorem RowD.base {d B : Nat} {W : World} {v : Value} {L : List ByteArray} (h : RowD d B W v L) {g : Nat} (e : v.ownBlock = some g) : B ≤ g ∧ g < W.heap.size := by
  rcases h.1.2 with ⟨rfl, _⟩ | ⟨g', cap, cur, rfl, hB, hb, _⟩
  · cases e
  · injection e with e
    subst e
    exact ⟨hB, (Array.getElem?_eq_some_iff.1 hb).1⟩
theorem RowD.keepB {d B : Nat} {W W' : World} {v : Value} {L : List ByteArray} (h : RowD d B W v L) (hb : ∀ g, v.ownBlock = some g → W'.heap[g]? = W.heap[g]?) (hf : ∀ g, v.ownBlock = some g → ¬ foot W' d g) : RowD d B W' v L := by
  refine ⟨⟨h.1.1, ?_⟩, hf⟩
  rcases h.1.2 with h' | ⟨g, cap, cur, rfl, hB, hb', r⟩
  · exact .inl h'
  · exact .inr ⟨g, cap, cur, rfl, hB, (hb g rfl).trans hb', r⟩
theorem RowD.off {d B : Nat} {W W' : World} {v : Value} {L : List ByteArray} (h : RowD d B W v L) (ho : Off d W W') : RowD d B W' v L :=
  h.keepB (fun g e => ho.block g (h.base e).2 (h.2 g e)) fun g e => not_foot ho (h.base e).2 (h.2 g e)
theorem RowD.below {d B : Nat} {W W' : World} {v : Value} {L : List ByteArray} (h : RowD d B W v L) (hb : Below W.heap.size W W') (hd : d < W.heap.size) : RowD d B W' v L := h.off (Off.of_below hb hd)
theorem RowD.strs {d B : Nat} {W : World} {v : Value} {L : List ByteArray} (h : RowD d B W v L) (hm : L.length ≤ 9223372036854775807) : StrsAt W v L := (row_strsUp h.1 hm).1
/-- behind an append of one text: the new slice, and what stays -/
theorem rowD_app {n sh d B : Nat} {w W W' : World} {v v' : Value} {L : List ByteArray} {D : Dk} {x : ByteArray} (h : RowD d B W v L) (hs : ShAt W sh d D) (hB : sh < B) (hn : n ≤ B) (hnw : n ≤ W.heap.size) (hO : OffN n d w W)
    (hown : W'.ownsRow B 9 1 v' (L.length + 1) (L.flatMap strC ++ [.string x])) (hg : (W.alloc (.cells #[.string x] 9)).grownBy W' v.ownBlock) (hl : v'.ownBlock = v.ownBlock ∨ v'.ownBlock = some (W.alloc (.cells #[.string x] 9)).heap.size) :
    RowD d B W' v' (L ++ [x]) ∧ ShAt W' sh d D ∧ OffN n d w W' ∧ W.grownBy W' v.ownBlock := by
  have hb := below_alloc W (.cells #[.string x] 9)
  have hg2 : W.grownBy W' v.ownBlock := ⟨hg.os, hg.tape, hg.output, Nat.le_trans hb.size hg.size, fun k hk hne => (hg.block k (Nat.lt_of_lt_of_le hk hb.size) hne).trans (hb.block k hk)⟩
  have hr : ∀ g, v.ownBlock = some g → ¬ foot W d g ∧ g ≠ sh := fun g e => ⟨h.2 g e, by have := (h.base e).1; omega⟩
  have hf := fun i => foot_grown (i := i) hg2 hs.dk.lt fun g e => (hr g e).1
  refine ⟨⟨by rw [List.length_append, List.length_singleton, List.flatMap_append]; exact hown, fun g e => ?_⟩, hs.grown hg2 hr, hO.grown hg2 hnw hs.dk.lt fun g e => ⟨by have := (h.base e).1; omega, (hr g e).1⟩, hg2⟩
  rw [hf]
  rcases hl with hl | hl
  · exact h.2 g (hl ▸ e)
  · rw [hl] at e
    injection e with e
    intro hfoot
    have h1 := hs.dk.foot_lt hfoot
    have h2 := hb.size
    omega
/-- a whole block, off the disk -/
theorem Blk.off {T : TypeId} {W W' : World} {d g : Nat} {cs : Array Value} (h : Blk T W g cs) (ho : Off d W W') (hf : ¬ foot W d g) : Blk T W' g cs := (ho.block g h.lt hf).trans h
theorem Blk.grown {T : TypeId} {W W' : World} {r : Option Nat} {g : Nat} {cs : Array Value} (h : Blk T W g cs) (hg : W.grownBy W' r) (hr : r ≠ some g) : Blk T W' g cs := (hg.block g h.lt (fun e => hr e.symm)).trans h
end Go.Proofs.YtofogjfemlhffaaGreatDoor

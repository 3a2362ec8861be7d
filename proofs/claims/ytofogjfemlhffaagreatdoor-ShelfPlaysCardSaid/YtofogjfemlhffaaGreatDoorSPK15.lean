/- slices.DeleteFunc on texts that lie in a row of the call's own, at the shelf's two closures. · status.Parse: the status that a text is. -/
import Derived.Test.YtofogjfemlhffaaGreatDoorSPK14
import Derived.Lib.SliceRun
import Derived.Test.YtofogjfemlhffaaGreatDoorSPK13
import Derived.Test.YtofogjfemlhffaaGreatDoorSPK6
import Derived.Test.YtofogjfemlhffaaGreatDoorSPK1
import Derived.Lib.AtoiAllCases
import Derived.Test.YtofogjfemlhffaaGreatDoorSPK7
import Derived.Deep.RegionHeld3
import Derived.Deep.DeepCutAuto
namespace Go.Proofs.YtofogjfemlhffaaGreatDoor
open Go Go.RowKit

theorem blk_setCells {T : TypeId} {g : Nat} : ∀ (vs : List Value) (o : Nat) (W : World) (cur : Array Value), Blk T W g cur → ∃ cur', Blk T (W.setCells g o vs) g cur' ∧ cur'.size = cur.size ∧ ∀ t, t < o → cur'[t]? = cur[t]?
  | [], _, _, cur, h => ⟨cur, h, rfl, fun _ _ => rfl⟩
  | v :: r, o, W, cur, h => by
    obtain ⟨cur', h1, h2, h3⟩ := blk_setCells r (o + 1) (W.setCell ⟨g, o, none⟩ v) _ (h.set o v)
    refine ⟨cur', h1, h2.trans (by simp), fun t ht => (h3 t (by omega)).trans ?_⟩
    rw [Array.getElem?_setIfInBounds_ne (by omega)]
theorem grown_set {w W : World} {g i : Nat} {v : Value} (h : w.grownBy W (some g)) : w.grownBy (W.setCell ⟨g, i, none⟩ v) (some g) := by
  refine ⟨h.os, h.tape, h.output, by have := h.size; simp [World.setCell]; omega, fun k hk hne => ?_⟩
  unfold World.setCell
  rw [Array.getElem?_modify, if_neg (fun e : g = k => hne (by rw [e]))]
  exact h.block k hk hne
theorem grown_setCells {w : World} {g : Nat} : ∀ (vs : List Value) (o : Nat) (W : World), w.grownBy W (some g) → w.grownBy (W.setCells g o vs) (some g)
  | [], _, _, h => h
  | _ :: r, o, _, h => grown_setCells r (o + 1) _ (grown_set h)
theorem grown_step {w W W' : World} {r : Option Nat} (h : w.grownBy W r) (hb : Below W.heap.size W W') : w.grownBy W' r :=
  ⟨hb.os.trans h.os, hb.tape.trans h.tape, hb.output.trans h.output, Nat.le_trans h.size hb.size, fun k hk hne => (hb.block k (Nat.lt_of_lt_of_le hk h.size)).trans (h.block k hk hne)⟩
theorem grown_of_below {w W : World} (hb : Below w.heap.size w W) (r : Option Nat) : w.grownBy W r := ⟨hb.os, hb.tape, hb.output, hb.size, fun k hk _ => hb.block k hk⟩

/-- the first one, or none -/
def IdxF (L : List ByteArray) (p : ByteArray → Bool) (w : World) (E : Ending) (w' : World) : Prop := Below w.heap.size w w' ∧ ((E = .returned (.int .i64 (-1)) ∧ L.any p = false) ∨ ∃ k x, E = .returned (.int .i64 (k : Nat)) ∧ k < L.length ∧ (L.take k).any p = false ∧ L[k]? = some x ∧ p x = true)
/-- what is kept of the first j -/
def kept1 (L : List ByteArray) (p : ByteArray → Bool) (j : Nat) : List ByteArray := (L.take j).filter fun x => !p x
theorem kept1_succ {L : List ByteArray} {p : ByteArray → Bool} {j : Nat} {x : ByteArray} (h : L[j]? = some x) : kept1 L p (j + 1) = if p x then kept1 L p j else kept1 L p j ++ [x] := by
  unfold kept1
  rw [List.take_add_one, h, List.filter_append]
  cases hp : p x <;> simp [hp]
theorem kept1_none {L : List ByteArray} {p : ByteArray → Bool} {j : Nat} (h : (L.take j).any p = false) : kept1 L p j = L.take j := by
  unfold kept1
  refine List.filter_eq_self.2 fun x hx => ?_
  have := List.any_eq_false.1 h x hx
  simpa using this
theorem kept1_len (L : List ByteArray) (p : ByteArray → Bool) (j : Nat) : (kept1 L p j).length ≤ j := by
  unfold kept1
  exact Nat.le_trans (List.length_filter_le _ _) (by rw [List.length_take]; exact Nat.min_le_left _ _)
theorem kept1_all {L : List ByteArray} {p : ByteArray → Bool} {j : Nat} (h : L.length ≤ j) : kept1 L p j = L.filter fun x => !p x := by
  unfold kept1
  rw [List.take_of_length_le h]
/-- the cells behind j are as they were, those ahead of i hold what is kept -/
def DelSt (L : List ByteArray) (p : ByteArray → Bool) (cap j : Nat) (cur : Array Value) : Prop :=
  cur.size = cap ∧ (∀ (t : Nat) (x : ByteArray), j ≤ t → L[t]? = some x → cur[t]? = some (Value.string x)) ∧ ∀ (t : Nat) (x : ByteArray), (kept1 L p j)[t]? = some x → cur[t]? = some (Value.string x)
theorem delSt_skip {L : List ByteArray} {p : ByteArray → Bool} {cap j : Nat} {cur : Array Value} {x : ByteArray} (h : DelSt L p cap j cur) (hx : L[j]? = some x) (hp : p x = true) : DelSt L p cap (j + 1) cur := by
  refine ⟨h.1, fun t y ht => h.2.1 t y (by omega), fun t y ht => h.2.2 t y ?_⟩
  rw [kept1_succ hx, if_pos hp] at ht
  exact ht
theorem delSt_put {L : List ByteArray} {p : ByteArray → Bool} {cap j : Nat} {cur : Array Value} {x : ByteArray} (h : DelSt L p cap j cur) (hc : L.length ≤ cap) (hx : L[j]? = some x) (hp : p x = false) : DelSt L p cap (j + 1) (cur.setIfInBounds (kept1 L p j).length (Value.string x)) := by
  have hl := kept1_len L p j
  have hj := (List.getElem?_eq_some_iff.1 hx).1
  refine ⟨by rw [Array.size_setIfInBounds]; exact h.1, fun t y ht hy => ?_, fun t y ht => ?_⟩
  · rw [Array.getElem?_setIfInBounds_ne (by omega)]
    exact h.2.1 t y (by omega) hy
  · rw [kept1_succ hx, if_neg (by rw [hp]; decide)] at ht
    rcases Nat.lt_trichotomy t (kept1 L p j).length with h1 | h1 | h1
    · rw [Array.getElem?_setIfInBounds_ne (by omega)]
      rw [List.getElem?_append_left h1] at ht
      exact h.2.2 t y ht
    · subst h1
      rw [List.getElem?_append_right (Nat.le_refl _), Nat.sub_self] at ht
      obtain rfl := Option.some.inj ht
      rw [Array.getElem?_setIfInBounds_self]
      have : (kept1 L p j).length < cur.size := by rw [h.1]; omega
      rw [if_pos this]
    · rw [List.getElem?_eq_none (by rw [List.length_append, List.length_singleton]; omega)] at ht
      cases ht
theorem delSt_own {L : List ByteArray} {p : ByteArray → Bool} {cap j B g : Nat} {cur : Array Value} {W : World} (h : DelSt L p cap j cur) (hB : B ≤ g) (hb : Blk 9 W g cur) (hc : L.length ≤ cap) (hj : j ≤ L.length) (hm : cap ≤ maxLen) :
    W.ownsRow B 9 1 (.slice (some ⟨g, 0, none⟩) (kept1 L p j).length cap) (kept1 L p j).length ((kept1 L p j).flatMap strC) := by
  have hl := kept1_len L p j
  rw [flat_strs]
  refine ⟨by rw [List.length_map, Nat.mul_one], .inr ⟨g, cap, cur, rfl, hB, hb, by omega, hm, by rw [Nat.mul_one]; exact h.1, ?_⟩⟩
  rw [Nat.mul_one]
  apply List.ext_getElem?
  intro t
  rw [List.getElem?_take, List.getElem?_map]
  by_cases ht : t < (kept1 L p j).length
  · rw [if_pos ht]
    have e : (kept1 L p j)[t]? = some (kept1 L p j)[t] := List.getElem?_eq_getElem ht
    rw [e, Array.getElem?_toList]
    exact h.2.2 t _ e
  · rw [if_neg ht, List.getElem?_eq_none (by omega)]
    rfl
theorem run_clear_strs (w : World) (b o n c : Nat) (hn : 0 < n) (cur : Array Value) (h : Blk 9 w b cur) (hs : o + n ≤ cur.size) :
    (Builtin.clear_ #[40] 0 #[.slice (some ⟨b, o, none⟩) n c]).run Tryz.prog w = .ok (.tuple #[]) (w.setCells b o (List.replicate n (.string ⟨#[]⟩))) :=
  Lib.run_clear_slice w 40 9 0 (.string ⟨#[]⟩) Tryz.underlying40 zero_str rfl rfl b o n c hn
    (fun j hj => by
      have hlt : o + j < cur.size := by omega
      rw [h.cell (i := o + j) (v := cur[o + j]) (Array.getElem?_eq_getElem hlt)]
      rfl)
    (fun j _ => h.frozen (o + j))

set_option maxHeartbeats 1000000 in
set_option maxRecDepth 100000 in
theorem idxO_calls (g cap cq : Nat) (L : List ByteArray) (p : ByteArray → Bool) (cur : Array Value) (w : World) (hb : Blk 9 w g cur) (hst : DelSt L p cap 0 cur) (hm : L.length ≤ 9223372036854775806) (C : ∀ (W : World) (x : ByteArray), w.grownBy W (some g) → x ∈ L → Calls Tryz.prog 66 #[.string x, .pointer (some ⟨cq, 0, none⟩)] W (BoolIs (p x) W)) :
    Calls Tryz.prog 84 #[.slice (some ⟨g, 0, none⟩) L.length cap, .func (.func 66) #[] #[.pointer (some ⟨cq, 0, none⟩)]] w (IdxF L p w) := by
  obtain ⟨len, hlen⟩ : ∃ len, L.length = len := ⟨_, rfl⟩
  have HL := Lib.hid hlen
  have HB := Lib.hid hb
  have HS := Lib.hid hst
  have HC := Lib.hid C
  rw [hlen] at hm ⊢
  clear hlen hb hst C
  go_enter Tryz.func84, Tryz.ntmps84
  go_wp2_with fail
  go_loopw [8] (fun i wr => ∃ k : Nat, k ≤ len ∧ i = .int .i64 k ∧ Hid ((L.take k).any p = false) ∧ Below w.heap.size w wr) (fun i _ => len - (intOf i).toNat)
  case atStart => exact ⟨0, Nat.zero_le _, rfl, rfl, Below.refl _ _⟩
  case round =>
    obtain ⟨k, hk, rfl, hall, hB⟩ := hrel
    by_cases hlt : k < len
    · obtain ⟨x, ht⟩ : ∃ x, L[k]? = some x := ⟨L[k]'(by have := HL.out; omega), List.getElem?_eq_getElem _⟩
      have hcx : w.cell? ⟨g, 0 + k, none⟩ = some (.string x) := by rw [Nat.zero_add]; exact HB.out.cell (HS.out.2.1 k x (Nat.zero_le _) ht)
      have c0 := kept hB hcx
      rw [Nat.zero_add] at c0
      have HT := Lib.hid ht
      have H := Lib.hid (HC.out wr x (grown_of_below hB _) (List.mem_of_getElem? ht))
      obtain ⟨pb, hpb⟩ : ∃ pb, p x = pb := ⟨_, rfl⟩
      have HP := Lib.hid hpb
      rw [hpb] at H
      clear ht hcx hpb
      go_wp2_with fail
      refine H.out.mono ?_
      rintro E w1 ⟨rfl, hb⟩
      have hB := step_below hB hb
      clear hb H
      cases pb with
      | true =>
        go_wp2_with fail
        go_ret
        exact ⟨hB, .inr ⟨k, x, rfl, by have := HL.out; omega, hall.out, HT.out, HP.out⟩⟩
      | false =>
        go_wp2_with fail
        go_roundw
        case rel => exact ⟨k + 1, by omega, by go_num, Lib.hid (any_take_succ hall.out HT.out HP.out), hB⟩
        case measure => simp [intOf]; omega
    · obtain rfl : k = len := by omega
      go_wp2_with fail
      go_ret
      exact ⟨hB, .inl ⟨rfl, by have := hall.out; rw [← HL.out] at this; exact any_done this⟩⟩

set_option maxHeartbeats 2000000 in
set_option maxRecDepth 100000 in
theorem delO_row (B g cap cq : Nat) (L : List ByteArray) (p : ByteArray → Bool) (cur : Array Value) (w : World) (hBg : B ≤ g) (hb : Blk 9 w g cur) (hst : DelSt L p cap 0 cur) (hc : L.length ≤ cap) (hcm : cap ≤ maxLen) (hsm : L.length ≤ 1000000) (C : ∀ (W : World) (x : ByteArray), w.grownBy W (some g) → x ∈ L → Calls Tryz.prog 66 #[.string x, .pointer (some ⟨cq, 0, none⟩)] W (BoolIs (p x) W)) :
    Calls Tryz.prog 65 #[.slice (some ⟨g, 0, none⟩) L.length cap, .func (.func 66) #[] #[.pointer (some ⟨cq, 0, none⟩)]] w fun E w' => ∃ v, E = .returned v ∧ w'.ownsRow B 9 1 v (L.filter fun x => !p x).length ((L.filter fun x => !p x).flatMap strC) ∧ w.grownBy w' (some g) := by
  have CI := Lib.hid (idxO_calls g cap cq L p cur w hb hst (by omega) C)
  obtain ⟨len, hlen⟩ : ∃ len, L.length = len := ⟨_, rfl⟩
  have HL := Lib.hid hlen
  have HB := Lib.hid hb
  have HS := Lib.hid hst
  have HC := Lib.hid C
  have HCM := Lib.hid hcm
  have hcl := run_clear_strs
  rw [hlen] at hc hsm CI ⊢
  clear hlen hb hst C hcm
  go_enter Tryz.func65, Tryz.ntmps65
  go_wp2_with fail
  refine CI.out.mono ?_
  rintro E w1 ⟨hb1, H⟩
  have HB1 := Lib.hid hb1
  have HK1 := Lib.hid (HB.out.keep hb1)
  clear hb1 CI
  rcases H with ⟨rfl, hno⟩ | ⟨i0, x0, rfl, hi0, hno, hx0, hp0⟩
  · have HN := Lib.hid hno
    clear hno hcl
    go_wp2_with fail
    go_ret
    have e : (L.filter fun x => !p x) = L := List.filter_eq_self.2 fun x hx => by simpa using List.any_eq_false.1 HN.out x hx
    have e2 : kept1 L p L.length = L := by rw [kept1_all (Nat.le_refl _), e]
    have hD : DelSt L p cap L.length cur := ⟨HS.out.1, fun t x ht hx => by have := (List.getElem?_eq_some_iff.1 hx).1; omega, fun t x ht => by rw [e2] at ht; exact HS.out.2.1 t x (Nat.zero_le _) ht⟩
    have ho := delSt_own hD hBg HK1.out (by have := HL.out; omega) (Nat.le_refl _) HCM.out
    rw [e2, HL.out] at ho
    refine ⟨_, rfl, ?_, grown_of_below HB1.out _⟩
    rw [e, HL.out]
    exact ho
  · have hi0' : i0 < len := by have := HL.out; omega
    have HN := Lib.hid hno
    have HX0 := Lib.hid hx0
    have HP0 := Lib.hid hp0
    have hk0 : kept1 L p i0 = L.take i0 := kept1_none hno
    have hl0 : (L.take i0).length = i0 := by rw [List.length_take]; omega
    have hD0 : DelSt L p cap i0 cur := ⟨HS.out.1, fun t x ht hx => HS.out.2.1 t x (Nat.zero_le _) hx, fun t x ht => by
      rw [hk0] at ht
      rw [List.getElem?_take] at ht
      split at ht
      · exact HS.out.2.1 t x (Nat.zero_le _) ht
      · cases ht⟩
    have hD1 := Lib.hid (delSt_skip hD0 hx0 hp0)
    have hkl := Lib.hid (show (kept1 L p (i0 + 1)).length = i0 by rw [kept1_succ hx0, if_pos hp0, hk0, hl0])
    clear hno hx0 hp0 hk0 hl0 hD0 hi0
    go_wp2_with fail
    go_loopw [5, 6] (fun i j wr => ∃ (k : Nat) (cr : Array Value), k ≤ len ∧ j = .int .i64 k ∧ i = .int .i64 ((kept1 L p k).length : Nat) ∧ Hid ((kept1 L p k).length < k) ∧ Hid (DelSt L p cap k cr) ∧ Hid (Blk 9 wr g cr) ∧ Hid (w.grownBy wr (some g))) (fun _ j _ => len - (intOf j).toNat)
    case atStart => exact ⟨i0 + 1, cur, by omega, by go_num, by rw [hkl.out], Lib.hid (by rw [hkl.out]; omega), hD1, HK1, Lib.hid (grown_of_below HB1.out _)⟩
    case round =>
      obtain ⟨k, cr, hk, rfl, rfl, hkk, hD, hbk, hgr⟩ := hrel
      by_cases hlt : k < len
      · obtain ⟨x, ht⟩ : ∃ x, L[k]? = some x := ⟨L[k]'(by have := HL.out; omega), List.getElem?_eq_getElem _⟩
        have c0 := hbk.out.cell (hD.out.2.1 k x (Nat.le_refl _) ht)
        have HT := Lib.hid ht
        have H := Lib.hid (HC.out wr x hgr.out (List.mem_of_getElem? ht))
        obtain ⟨pb, hpb⟩ : ∃ pb, p x = pb := ⟨_, rfl⟩
        have HP := Lib.hid hpb
        rw [hpb] at H
        obtain ⟨i, hi⟩ : ∃ i, (kept1 L p k).length = i := ⟨_, rfl⟩
        have HI := Lib.hid hi
        rw [hi] at hkk ⊢
        have hik := hkk.out
        clear ht hpb hi
        go_wp2_with fail
        refine H.out.mono ?_
        rintro E w2 ⟨rfl, hb⟩
        have HB2 := Lib.hid (hbk.out.keep hb)
        have HG2 := Lib.hid (grown_step hgr.out hb)
        clear hb H c0
        cases pb with
        | true =>
          go_wp2_with fail
          go_roundw
          case rel => first | exact ⟨k + 1, cr, by omega, by go_num, by rw [kept1_succ HT.out, if_pos HP.out, HI.out], Lib.hid (by rw [kept1_succ HT.out, if_pos HP.out, HI.out]; omega), Lib.hid (delSt_skip hD.out HT.out HP.out), HB2, HG2⟩ | ((repeat apply Exists.intro); exact ⟨⟨k + 1, cr, by omega, by go_num, by rw [kept1_succ HT.out, if_pos HP.out, HI.out], Lib.hid (by rw [kept1_succ HT.out, if_pos HP.out, HI.out]; omega), Lib.hid (delSt_skip hD.out HT.out HP.out), HB2, HG2⟩, rfl⟩)
          case measure => simp [intOf]; omega
        | false =>
          have hsz : i < cr.size := by rw [hD.out.1]; omega
          have fz := HB2.out.frozen i
          obtain ⟨u, hu⟩ : ∃ u, cr[i]? = some u := ⟨cr[i], Array.getElem?_eq_getElem hsz⟩
          have c1 := HB2.out.cell hu
          clear hu hsz
          go_wp2_with fail
          go_roundw
          case rel =>
            have e1 : (Value.int .i64 (((kept1 L p (k + 1)).length : Nat) : Int)) = .int .i64 ((i : Int) + 1) := by
              rw [kept1_succ HT.out, if_neg (by rw [HP.out]; decide), List.length_append, HI.out]
              simp
            have e2 : Hid ((kept1 L p (k + 1)).length < k + 1) := Lib.hid (by
              rw [kept1_succ HT.out, if_neg (by rw [HP.out]; decide), List.length_append, HI.out]
              simp; omega)
            have e3 : Hid (DelSt L p cap (k + 1) (cr.setIfInBounds i (.string x))) := Lib.hid (by
              have := delSt_put hD.out (by have := HL.out; omega) HT.out HP.out
              rwa [HI.out] at this)
            first | exact ⟨k + 1, cr.setIfInBounds i (.string x), by omega, by go_num, by rw [e1], e2, e3, Lib.hid (HB2.out.set i _), Lib.hid (grown_set HG2.out)⟩ | ((repeat apply Exists.intro); exact ⟨⟨k + 1, cr.setIfInBounds i (.string x), by omega, by go_num, by rw [e1], e2, e3, Lib.hid (HB2.out.set i _), Lib.hid (grown_set HG2.out)⟩, rfl⟩)
          case measure => simp [intOf]; omega
      · obtain rfl : k = len := by omega
        obtain ⟨i, hi⟩ : ∃ i, (kept1 L p k).length = i := ⟨_, rfl⟩
        have HI := Lib.hid hi
        rw [hi] at hkk ⊢
        have hik := hkk.out
        have hD' := hD.out
        have hsz : cr.size = cap := hD'.1
        have hrun := hcl wr g i (k - i) (cap - i) (by omega) cr hbk.out (by omega)
        have HW := Lib.hid (blk_setCells (List.replicate (k - i) (Value.string ⟨#[]⟩)) i wr cr hbk.out)
        have HG := Lib.hid (grown_setCells (List.replicate (k - i) (Value.string ⟨#[]⟩)) i wr hgr.out)
        obtain ⟨W3, hW3⟩ : ∃ W3, wr.setCells g i (List.replicate (k - i) (Value.string ⟨#[]⟩)) = W3 := ⟨_, rfl⟩
        rw [hW3] at hrun HW HG
        have hic : ((cap : Int) - (i : Int)).toNat = cap - i := by omega
        have hik2 : ((k : Int) - (i : Int)).toNat = k - i := by omega
        clear hi hW3 hD' hsz hlt hk
        go_wp2_with fail
        go_ret
        obtain ⟨cu, h1, h2, h3⟩ := HW.out
        have hDD : DelSt L p cap k cu := ⟨h2.trans hD.out.1, fun t x ht hx => by have := (List.getElem?_eq_some_iff.1 hx).1; have := HL.out; omega, fun t x ht => by
          have := (List.getElem?_eq_some_iff.1 ht).1
          rw [h3 t (by have := HI.out; omega)]
          exact hD.out.2.2 t x ht⟩
        have ho := delSt_own hDD hBg h1 (by have := HL.out; omega) (by have := HL.out; omega) HCM.out
        have e : kept1 L p k = L.filter fun x => !p x := kept1_all (by have := HL.out; omega)
        rw [HI.out] at ho
        refine ⟨_, rfl, ?_, HG.out⟩
        rw [← e, HI.out]
        exact ho

set_option maxHeartbeats 1000000 in
set_option maxRecDepth 100000 in
theorem idxS_calls (g cap cq : Nat) (L : List ByteArray) (p : ByteArray → Bool) (cur : Array Value) (w : World) (hb : Blk 9 w g cur) (hst : DelSt L p cap 0 cur) (hm : L.length ≤ 9223372036854775806) (C : ∀ (W : World) (x : ByteArray), w.grownBy W (some g) → x ∈ L → Calls Tryz.prog 73 #[.string x, .pointer (some ⟨cq, 0, none⟩)] W (BoolIs (p x) W)) :
    Calls Tryz.prog 84 #[.slice (some ⟨g, 0, none⟩) L.length cap, .func (.func 73) #[] #[.pointer (some ⟨cq, 0, none⟩)]] w (IdxF L p w) := by
  obtain ⟨len, hlen⟩ : ∃ len, L.length = len := ⟨_, rfl⟩
  have HL := Lib.hid hlen
  have HB := Lib.hid hb
  have HS := Lib.hid hst
  have HC := Lib.hid C
  rw [hlen] at hm ⊢
  clear hlen hb hst C
  go_enter Tryz.func84, Tryz.ntmps84
  go_wp2_with fail
  go_loopw [8] (fun i wr => ∃ k : Nat, k ≤ len ∧ i = .int .i64 k ∧ Hid ((L.take k).any p = false) ∧ Below w.heap.size w wr) (fun i _ => len - (intOf i).toNat)
  case atStart => exact ⟨0, Nat.zero_le _, rfl, rfl, Below.refl _ _⟩
  case round =>
    obtain ⟨k, hk, rfl, hall, hB⟩ := hrel
    by_cases hlt : k < len
    · obtain ⟨x, ht⟩ : ∃ x, L[k]? = some x := ⟨L[k]'(by have := HL.out; omega), List.getElem?_eq_getElem _⟩
      have hcx : w.cell? ⟨g, 0 + k, none⟩ = some (.string x) := by rw [Nat.zero_add]; exact HB.out.cell (HS.out.2.1 k x (Nat.zero_le _) ht)
      have c0 := kept hB hcx
      rw [Nat.zero_add] at c0
      have HT := Lib.hid ht
      have H := Lib.hid (HC.out wr x (grown_of_below hB _) (List.mem_of_getElem? ht))
      obtain ⟨pb, hpb⟩ : ∃ pb, p x = pb := ⟨_, rfl⟩
      have HP := Lib.hid hpb
      rw [hpb] at H
      clear ht hcx hpb
      go_wp2_with fail
      refine H.out.mono ?_
      rintro E w1 ⟨rfl, hb⟩
      have hB := step_below hB hb
      clear hb H
      cases pb with
      | true =>
        go_wp2_with fail
        go_ret
        exact ⟨hB, .inr ⟨k, x, rfl, by have := HL.out; omega, hall.out, HT.out, HP.out⟩⟩
      | false =>
        go_wp2_with fail
        go_roundw
        case rel => exact ⟨k + 1, by omega, by go_num, Lib.hid (any_take_succ hall.out HT.out HP.out), hB⟩
        case measure => simp [intOf]; omega
    · obtain rfl : k = len := by omega
      go_wp2_with fail
      go_ret
      exact ⟨hB, .inl ⟨rfl, by have := hall.out; rw [← HL.out] at this; exact any_done this⟩⟩

set_option maxHeartbeats 2000000 in
set_option maxRecDepth 100000 in
theorem delS_row (B g cap cq : Nat) (L : List ByteArray) (p : ByteArray → Bool) (cur : Array Value) (w : World) (hBg : B ≤ g) (hb : Blk 9 w g cur) (hst : DelSt L p cap 0 cur) (hc : L.length ≤ cap) (hcm : cap ≤ maxLen) (hsm : L.length ≤ 1000000) (C : ∀ (W : World) (x : ByteArray), w.grownBy W (some g) → x ∈ L → Calls Tryz.prog 73 #[.string x, .pointer (some ⟨cq, 0, none⟩)] W (BoolIs (p x) W)) :
    Calls Tryz.prog 65 #[.slice (some ⟨g, 0, none⟩) L.length cap, .func (.func 73) #[] #[.pointer (some ⟨cq, 0, none⟩)]] w fun E w' => ∃ v, E = .returned v ∧ w'.ownsRow B 9 1 v (L.filter fun x => !p x).length ((L.filter fun x => !p x).flatMap strC) ∧ w.grownBy w' (some g) := by
  have CI := Lib.hid (idxS_calls g cap cq L p cur w hb hst (by omega) C)
  obtain ⟨len, hlen⟩ : ∃ len, L.length = len := ⟨_, rfl⟩
  have HL := Lib.hid hlen
  have HB := Lib.hid hb
  have HS := Lib.hid hst
  have HC := Lib.hid C
  have HCM := Lib.hid hcm
  have hcl := run_clear_strs
  rw [hlen] at hc hsm CI ⊢
  clear hlen hb hst C hcm
  go_enter Tryz.func65, Tryz.ntmps65
  go_wp2_with fail
  refine CI.out.mono ?_
  rintro E w1 ⟨hb1, H⟩
  have HB1 := Lib.hid hb1
  have HK1 := Lib.hid (HB.out.keep hb1)
  clear hb1 CI
  rcases H with ⟨rfl, hno⟩ | ⟨i0, x0, rfl, hi0, hno, hx0, hp0⟩
  · have HN := Lib.hid hno
    clear hno hcl
    go_wp2_with fail
    go_ret
    have e : (L.filter fun x => !p x) = L := List.filter_eq_self.2 fun x hx => by simpa using List.any_eq_false.1 HN.out x hx
    have e2 : kept1 L p L.length = L := by rw [kept1_all (Nat.le_refl _), e]
    have hD : DelSt L p cap L.length cur := ⟨HS.out.1, fun t x ht hx => by have := (List.getElem?_eq_some_iff.1 hx).1; omega, fun t x ht => by rw [e2] at ht; exact HS.out.2.1 t x (Nat.zero_le _) ht⟩
    have ho := delSt_own hD hBg HK1.out (by have := HL.out; omega) (Nat.le_refl _) HCM.out
    rw [e2, HL.out] at ho
    refine ⟨_, rfl, ?_, grown_of_below HB1.out _⟩
    rw [e, HL.out]
    exact ho
  · have hi0' : i0 < len := by have := HL.out; omega
    have HN := Lib.hid hno
    have HX0 := Lib.hid hx0
    have HP0 := Lib.hid hp0
    have hk0 : kept1 L p i0 = L.take i0 := kept1_none hno
    have hl0 : (L.take i0).length = i0 := by rw [List.length_take]; omega
    have hD0 : DelSt L p cap i0 cur := ⟨HS.out.1, fun t x ht hx => HS.out.2.1 t x (Nat.zero_le _) hx, fun t x ht => by
      rw [hk0] at ht
      rw [List.getElem?_take] at ht
      split at ht
      · exact HS.out.2.1 t x (Nat.zero_le _) ht
      · cases ht⟩
    have hD1 := Lib.hid (delSt_skip hD0 hx0 hp0)
    have hkl := Lib.hid (show (kept1 L p (i0 + 1)).length = i0 by rw [kept1_succ hx0, if_pos hp0, hk0, hl0])
    clear hno hx0 hp0 hk0 hl0 hD0 hi0
    go_wp2_with fail
    go_loopw [5, 6] (fun i j wr => ∃ (k : Nat) (cr : Array Value), k ≤ len ∧ j = .int .i64 k ∧ i = .int .i64 ((kept1 L p k).length : Nat) ∧ Hid ((kept1 L p k).length < k) ∧ Hid (DelSt L p cap k cr) ∧ Hid (Blk 9 wr g cr) ∧ Hid (w.grownBy wr (some g))) (fun _ j _ => len - (intOf j).toNat)
    case atStart => exact ⟨i0 + 1, cur, by omega, by go_num, by rw [hkl.out], Lib.hid (by rw [hkl.out]; omega), hD1, HK1, Lib.hid (grown_of_below HB1.out _)⟩
    case round =>
      obtain ⟨k, cr, hk, rfl, rfl, hkk, hD, hbk, hgr⟩ := hrel
      by_cases hlt : k < len
      · obtain ⟨x, ht⟩ : ∃ x, L[k]? = some x := ⟨L[k]'(by have := HL.out; omega), List.getElem?_eq_getElem _⟩
        have c0 := hbk.out.cell (hD.out.2.1 k x (Nat.le_refl _) ht)
        have HT := Lib.hid ht
        have H := Lib.hid (HC.out wr x hgr.out (List.mem_of_getElem? ht))
        obtain ⟨pb, hpb⟩ : ∃ pb, p x = pb := ⟨_, rfl⟩
        have HP := Lib.hid hpb
        rw [hpb] at H
        obtain ⟨i, hi⟩ : ∃ i, (kept1 L p k).length = i := ⟨_, rfl⟩
        have HI := Lib.hid hi
        rw [hi] at hkk ⊢
        have hik := hkk.out
        clear ht hpb hi
        go_wp2_with fail
        refine H.out.mono ?_
        rintro E w2 ⟨rfl, hb⟩
        have HB2 := Lib.hid (hbk.out.keep hb)
        have HG2 := Lib.hid (grown_step hgr.out hb)
        clear hb H c0
        cases pb with
        | true =>
          go_wp2_with fail
          go_roundw
          case rel => first | exact ⟨k + 1, cr, by omega, by go_num, by rw [kept1_succ HT.out, if_pos HP.out, HI.out], Lib.hid (by rw [kept1_succ HT.out, if_pos HP.out, HI.out]; omega), Lib.hid (delSt_skip hD.out HT.out HP.out), HB2, HG2⟩ | ((repeat apply Exists.intro); exact ⟨⟨k + 1, cr, by omega, by go_num, by rw [kept1_succ HT.out, if_pos HP.out, HI.out], Lib.hid (by rw [kept1_succ HT.out, if_pos HP.out, HI.out]; omega), Lib.hid (delSt_skip hD.out HT.out HP.out), HB2, HG2⟩, rfl⟩)
          case measure => simp [intOf]; omega
        | false =>
          have hsz : i < cr.size := by rw [hD.out.1]; omega
          have fz := HB2.out.frozen i
          obtain ⟨u, hu⟩ : ∃ u, cr[i]? = some u := ⟨cr[i], Array.getElem?_eq_getElem hsz⟩
          have c1 := HB2.out.cell hu
          clear hu hsz
          go_wp2_with fail
          go_roundw
          case rel =>
            have e1 : (Value.int .i64 (((kept1 L p (k + 1)).length : Nat) : Int)) = .int .i64 ((i : Int) + 1) := by
              rw [kept1_succ HT.out, if_neg (by rw [HP.out]; decide), List.length_append, HI.out]
              simp
            have e2 : Hid ((kept1 L p (k + 1)).length < k + 1) := Lib.hid (by
              rw [kept1_succ HT.out, if_neg (by rw [HP.out]; decide), List.length_append, HI.out]
              simp; omega)
            have e3 : Hid (DelSt L p cap (k + 1) (cr.setIfInBounds i (.string x))) := Lib.hid (by
              have := delSt_put hD.out (by have := HL.out; omega) HT.out HP.out
              rwa [HI.out] at this)
            first | exact ⟨k + 1, cr.setIfInBounds i (.string x), by omega, by go_num, by rw [e1], e2, e3, Lib.hid (HB2.out.set i _), Lib.hid (grown_set HG2.out)⟩ | ((repeat apply Exists.intro); exact ⟨⟨k + 1, cr.setIfInBounds i (.string x), by omega, by go_num, by rw [e1], e2, e3, Lib.hid (HB2.out.set i _), Lib.hid (grown_set HG2.out)⟩, rfl⟩)
          case measure => simp [intOf]; omega
      · obtain rfl : k = len := by omega
        obtain ⟨i, hi⟩ : ∃ i, (kept1 L p k).length = i := ⟨_, rfl⟩
        have HI := Lib.hid hi
        rw [hi] at hkk ⊢
        have hik := hkk.out
        have hD' := hD.out
        have hsz : cr.size = cap := hD'.1
        have hrun := hcl wr g i (k - i) (cap - i) (by omega) cr hbk.out (by omega)
        have HW := Lib.hid (blk_setCells (List.replicate (k - i) (Value.string ⟨#[]⟩)) i wr cr hbk.out)
        have HG := Lib.hid (grown_setCells (List.replicate (k - i) (Value.string ⟨#[]⟩)) i wr hgr.out)
        obtain ⟨W3, hW3⟩ : ∃ W3, wr.setCells g i (List.replicate (k - i) (Value.string ⟨#[]⟩)) = W3 := ⟨_, rfl⟩
        rw [hW3] at hrun HW HG
        have hic : ((cap : Int) - (i : Int)).toNat = cap - i := by omega
        have hik2 : ((k : Int) - (i : Int)).toNat = k - i := by omega
        clear hi hW3 hD' hsz hlt hk
        go_wp2_with fail
        go_ret
        obtain ⟨cu, h1, h2, h3⟩ := HW.out
        have hDD : DelSt L p cap k cu := ⟨h2.trans hD.out.1, fun t x ht hx => by have := (List.getElem?_eq_some_iff.1 hx).1; have := HL.out; omega, fun t x ht => by
          have := (List.getElem?_eq_some_iff.1 ht).1
          rw [h3 t (by have := HI.out; omega)]
          exact hD.out.2.2 t x ht⟩
        have ho := delSt_own hDD hBg h1 (by have := HL.out; omega) (by have := HL.out; omega) HCM.out
        have e : kept1 L p k = L.filter fun x => !p x := kept1_all (by have := HL.out; omega)
        rw [HI.out] at ho
        refine ⟨_, rfl, ?_, HG.out⟩
        rw [← e, HI.out]
        exact ho
end Go.Proofs.YtofogjfemlhffaaGreatDoor

namespace Go.Proofs.YtofogjfemlhffaaGreatDoor
open Go Go.RowKit

theorem piece_size {c : UInt8} {v s : ByteArray} (h : s ∈ piecesB c v) : s.size ≤ v.size := by
  have h1 := VP.pieces_count c v.data.toList
  unfold piecesB at h
  obtain ⟨l, hl, rfl⟩ := List.mem_map.1 h
  have h2 : l.length ≤ ((VP.pieces c v.data.toList).flatMap id).length := by
    clear h1
    generalize VP.pieces c v.data.toList = ps at hl ⊢
    induction ps with
    | nil => cases hl
    | cons a r ih =>
      rw [List.flatMap_cons, List.length_append]
      rcases List.mem_cons.1 hl with rfl | h
      · simp
      · have := ih h; omega
  have h3 : 1 ≤ (VP.pieces c v.data.toList).length := by
    rcases hp : VP.pieces c v.data.toList with _ | ⟨a, r⟩
    · exact absurd hp (VP.pieces_ne _ _)
    · simp
  rw [size_eq_length v, size_eq_length]
  show l.length ≤ _
  omega
end Go.Proofs.YtofogjfemlhffaaGreatDoor

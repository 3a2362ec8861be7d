/- record.paths, the reference's paths: which lists of paths may be. · depend.Name, and the reference's PackName: may a package be called so. · What the walks over terms share: short texts, what is asked for as lists, one of some. · A package, as it lies in memory. · depend.right: may a term be. -/
import Derived.Test.YtodbbfgkclkpgaaGreatDoorARC6
import Derived.Test.YtodbbfgkclkpgaaGreatDoorARC7
import Derived.Test.YtodbbfgkclkpgaaGreatDoorARC8
namespace Go.Proofs.YtodbbfgkclkpgaaGreatDoor
open Go Go.RowKit

theorem toList_ne2 {a b : ByteArray} (h : ¬ a = b) : ¬ a.toList = b.toList := fun e => h (data_inj (by rwa [Lib.toList_data, Lib.toList_data] at e))
/-- is it one of them -/
def hasB (ss : List ByteArray) (x : ByteArray) : Bool := ss.any fun t => decide (t = x)
theorem hasB_iff {ss : List ByteArray} {x : ByteArray} : hasB ss x = true ↔ x ∈ ss := by
  unfold hasB
  rw [List.any_eq_true]
  constructor
  · rintro ⟨t, ht, h⟩
    rwa [of_decide_eq_true h] at ht
  · intro h; exact ⟨x, h, decide_eq_true rfl⟩

theorem hasStr_calls (v : Value) (ss : List ByteArray) (x : ByteArray) (w : World) (h : StrsAt w v ss) :
    Calls Tryz.prog 142 #[v, .string x] w fun e w' => e = .returned (.bool (hasB ss x)) ∧ w = w' := by
  obtain ⟨A, c, rfl, hc, hm, hr⟩ := h.open
  by_cases hn : ss = []
  · subst hn
    refine (Tryz.slices_Contains_string_empty A c x w).mono fun e w' ⟨he, hw⟩ => ⟨by rw [he]; rfl, hw.symm⟩
  · obtain ⟨b, off, rfl, hi⟩ := hr hn
    refine (Tryz.slices_Contains_string b off ss.length c ss x w (Nat.le_refl _) hm (fun j hj => ?_)).mono fun e w' ⟨he, hw⟩ => ⟨?_, hw.symm⟩
    · have e : ss[j]? = some ss[j] := List.getElem?_eq_getElem hj
      rw [hi j _ e, List.getD_eq_getElem?_getD, e]
      rfl
    · rw [he, List.take_length]
      congr 2
      rw [Bool.eq_iff_iff, Lib.containsS_iff, hasB_iff]

theorem mem_take_data (ss : List ByteArray) (k : Nat) (x : ByteArray) : hasB (ss.take k) x = (((ss.map (·.data.toList)).take k).any fun t => decide (t = x.data.toList)) := by
  rw [← List.map_take, List.any_map]
  unfold hasB
  congr 1
  funext t
  show decide _ = decide (t.data.toList = x.data.toList)
  congr 1
  exact propext ⟨fun h => by rw [h], fun h => data_inj h⟩
theorem pathOk_at {ss : List ByteArray} {k : Nat} {s : ByteArray} (h : ss[k]? = some s) : VP.pathOk (ss.map (·.data.toList)) k = (VP.pathP s.data.toList && !hasB (ss.take k) s) := by
  unfold VP.pathOk
  rw [List.getElem?_map, h, mem_take_data]
  rfl
def pathsB (ss : List ByteArray) : Bool := VP.pathsP (ss.map (·.data.toList))
theorem pathsB_false {ss : List ByteArray} {k : Nat} {s : ByteArray} (h : ss[k]? = some s) (hb : (VP.pathP s.data.toList && !hasB (ss.take k) s) = false) : pathsB ss = false := by
  unfold pathsB VP.pathsP
  rw [VP.allAt_false (i := k) (by rw [List.length_map]; exact (List.getElem?_eq_some_iff.1 h).1) ((pathOk_at h).trans hb)]
  rfl
/-- so far all is well -/
def PathsTo (ss : List ByteArray) (k : Nat) : Prop := ∀ i, i < k → VP.pathOk (ss.map (·.data.toList)) i = true
theorem PathsTo.zero (ss : List ByteArray) : PathsTo ss 0 := fun _ h => absurd h (Nat.not_lt_zero _)
theorem PathsTo.succ {ss : List ByteArray} {k : Nat} {s : ByteArray} (h : PathsTo ss k) (hs : ss[k]? = some s) (hb : (VP.pathP s.data.toList && !hasB (ss.take k) s) = true) : PathsTo ss (k + 1) := fun i hi => by
  rcases Nat.lt_or_ge i k with h' | h'
  · exact h i h'
  · obtain rfl : i = k := by omega
    exact (pathOk_at hs).trans hb
theorem PathsTo.done {ss : List ByteArray} (h : PathsTo ss ss.length) : pathsB ss = decide (ss.length ≤ 20) := by
  unfold pathsB VP.pathsP
  rw [VP.allAt_true (by rw [List.length_map]; exact h), List.length_map]
  rfl

set_option maxHeartbeats 2000000 in
set_option maxRecDepth 100000 in
theorem paths_calls (v : Value) (ss : List ByteArray) (w : World) (hE : Env w) (h : StrsAt w v ss) (hs : ∀ s ∈ ss, s.size ≤ 1000000) : Calls Tryz.prog 69 #[v] w (BoolIs (pathsB ss) w) := by
  obtain ⟨A, c, hv, hc, hm, hr⟩ := h.open
  have HH := Lib.hid h
  subst hv
  obtain ⟨len, hlen⟩ : ∃ len, ss.length = len := ⟨_, rfl⟩
  have HL := Lib.hid hlen
  have HR := Lib.hid hr
  have HS := Lib.hid hs
  have HE := Lib.hid hE
  rw [hlen] at hc hm HH ⊢
  clear hlen hr hs h hE
  go_enter Tryz.func69, Tryz.ntmps69
  go_wp2_with fail
  go_loopw [7] (fun i wr => ∃ k : Nat, k ≤ len ∧ i = .int .i64 k ∧ Hid (PathsTo ss k) ∧ Below w.heap.size w wr) (fun i _ => len - (intOf i).toNat)
  case atStart => exact ⟨0, Nat.zero_le _, rfl, PathsTo.zero ss, Below.refl _ _⟩
  case round =>
    obtain ⟨k, hk, rfl, hall, hB⟩ := hrel
    by_cases hlt : k < len
    · have hne : ss ≠ [] := by
        intro e
        have := HL.out
        rw [e] at this
        simp at this
        omega
      obtain ⟨s, ht⟩ : ∃ s, ss[k]? = some s := ⟨ss[k]'(by have := HL.out; omega), List.getElem?_eq_getElem _⟩
      obtain ⟨b, off, rfl, hi⟩ := HR.out hne
      have c0 := kept hB (hi k s ht)
      have P1 := Lib.hid (path_calls s wr (HE.out.below hB) (HS.out s (List.mem_of_getElem? ht)))
      have HT := Lib.hid ht
      obtain ⟨bp, hbp⟩ : ∃ b, VP.pathP s.data.toList = b := ⟨_, rfl⟩
      rw [hbp] at P1
      have HP := Lib.hid hbp
      have hck : k ≤ c := by omega
      clear hi hne ht hbp
      go_wp2_with fail
      refine P1.out.mono ?_
      rintro E w1 ⟨rfl, hb⟩
      have hB1 := step_below hB hb
      clear hb c0 P1
      cases bp with
      | false =>
        go_wp2_with fail
        go_ret
        exact ⟨ret_bool (by rw [pathsB_false HT.out (by rw [HP.out]; rfl)]), hB1⟩
      | true =>
      have P2 := Lib.hid (hasStr_calls (.slice (some ⟨b, off, none⟩) k c) (ss.take k) s w1 ((HH.out.below hB1).take (by have := HL.out; omega)))
      obtain ⟨bm, hbm⟩ : ∃ x, hasB (ss.take k) s = x := ⟨_, rfl⟩
      rw [hbm] at P2
      have HM := Lib.hid hbm
      clear hbm
      go_wp2_with fail
      refine P2.out.mono ?_
      rintro E w2 ⟨rfl, rfl⟩
      clear P2
      cases bm with
      | true =>
        go_wp2_with fail
        go_ret
        exact ⟨ret_bool (by rw [pathsB_false HT.out (by rw [HP.out, HM.out]; rfl)]), hB1⟩
      | false =>
        go_wp2_with fail
        go_roundw
        case rel => exact ⟨k + 1, by omega, by go_num, Lib.hid (hall.out.succ HT.out (by rw [HP.out, HM.out]; rfl)), hB1⟩
        case measure => simp [intOf]; omega
    · obtain rfl : len = k := by omega
      have HF := Lib.hid (show pathsB ss = decide (len ≤ 20) by have := hall.out; rw [← HL.out] at this; rw [this.done, HL.out])
      by_cases h20 : len ≤ 20
      · go_wp2_with fail
        go_ret
        exact ⟨ret_bool (by rw [HF.out] <;> simp <;> omega), hB⟩
      · go_wp2_with fail
        go_ret
        exact ⟨ret_bool (by rw [HF.out] <;> simp <;> omega), hB⟩

set_option maxHeartbeats 2000000 in
set_option maxRecDepth 100000 in
theorem refPaths_calls (v : Value) (ss : List ByteArray) (w : World) (h : StrsAt w v ss) (hs : ∀ s ∈ ss, s.size ≤ 1000000) : Calls Tryz.prog 73 #[v] w (BoolIs (pathsB ss) w) := by
  obtain ⟨A, c, hv, hc, hm, hr⟩ := h.open
  subst hv
  obtain ⟨len, hlen⟩ : ∃ len, ss.length = len := ⟨_, rfl⟩
  have HL := Lib.hid hlen
  have HR := Lib.hid hr
  have HS := Lib.hid hs
  rw [hlen] at hc hm ⊢
  clear hlen hr hs h
  go_enter Tryz.func73, Tryz.ntmps73
  go_wp2_with fail
  go_loopw [9] (fun i wr => ∃ k : Nat, k ≤ len ∧ i = .int .i64 k ∧ Hid (PathsTo ss k) ∧ Below w.heap.size w wr) (fun i _ => len - (intOf i).toNat)
  case atStart => exact ⟨0, Nat.zero_le _, rfl, PathsTo.zero ss, Below.refl _ _⟩
  case round =>
    obtain ⟨k, hk, rfl, hall, hB⟩ := hrel
    by_cases hlt : k < len
    · have hne : ss ≠ [] := by
        intro e
        have := HL.out
        rw [e] at this
        simp at this
        omega
      obtain ⟨s, ht⟩ : ∃ s, ss[k]? = some s := ⟨ss[k]'(by have := HL.out; omega), List.getElem?_eq_getElem _⟩
      obtain ⟨b, off, rfl, hi⟩ := HR.out hne
      have c0 := kept hB (hi k s ht)
      have HI := Lib.hid (fun (j : Nat) (t : ByteArray) (hj : ss[j]? = some t) => kept hB (hi j t hj))
      have P1 := Lib.hid (fun (W : World) => refPath_calls s W (HS.out s (List.mem_of_getElem? ht)))
      have HT := Lib.hid ht
      obtain ⟨bp, hbp⟩ : ∃ b, VP.pathP s.data.toList = b := ⟨_, rfl⟩
      rw [hbp] at P1
      have HP := Lib.hid hbp
      have hck : k ≤ c := by omega
      clear hi hne ht hbp
      go_wp2_with fail
      obtain ⟨wo, rfl⟩ : ∃ x, x = wr := ⟨wr, rfl⟩
      go_loopw [18] (fun i wx => ∃ j : Nat, j ≤ k ∧ i = .int .i64 j ∧ Hid ((ss.take j).all (fun t => decide (¬ t = s)) = true) ∧ Below wo.heap.size wo wx) (fun i _ => k - (intOf i).toNat)
      case atStart => exact ⟨0, Nat.zero_le _, rfl, rfl, Below.refl _ _⟩
      case round =>
        obtain ⟨j, hj, rfl, hno, hz⟩ := hrel
        replace hB := step_below hB hz
        by_cases hjt : j < k
        · obtain ⟨t, ht⟩ : ∃ t, ss[j]? = some t := ⟨ss[j]'(by have := HL.out; omega), List.getElem?_eq_getElem _⟩
          have d0 := kept hz (HI.out j t ht)
          have HTJ := Lib.hid ht
          clear ht
          by_cases hts : s = t
          · have HF := Lib.hid (show pathsB ss = false from pathsB_false HT.out (by
              have hm : s ∈ ss.take k := by
                rw [hts]
                exact List.mem_of_getElem? (i := j) (by rw [List.getElem?_take, if_pos hjt]; exact HTJ.out)
              rw [hasB_iff.2 hm, Bool.not_true, Bool.and_false]))
            have hbe : (s.toList == t.toList) = true := by rw [hts]; simp
            clear HTJ
            subst hts
            go_wp2_with fail
            go_ret
            exact ⟨ret_bool HF.out.symm, hB⟩
          · have hne : (s.toList == t.toList) = false := beq_eq_false_iff_ne.2 (toList_ne2 hts)
            have HNE := Lib.hid (fun e => hts e.symm : ¬ t = s)
            clear hts
            go_wp2_with fail
            go_roundw
            case rel => exact ⟨j + 1, by omega, by go_num, Lib.hid (all_take_succ hno.out HTJ.out (decide_eq_true HNE.out)), hz⟩
            case measure => simp [intOf]; omega
        · obtain rfl : k = j := by omega
          have HNO := Lib.hid (show hasB (ss.take k) s = false from Bool.eq_false_iff.2 (fun hm => by
            have := List.all_eq_true.1 hno.out s (hasB_iff.1 hm)
            simp at this))
          clear hno
          go_wp2_with fail
          refine (P1.out _).mono ?_
          rintro E w1 ⟨rfl, hb⟩
          have hB1 := step_below hB hb
          clear hb P1
          cases bp with
          | false =>
            go_wp2_with fail
            go_ret
            exact ⟨ret_bool (by rw [pathsB_false HT.out (by rw [HP.out]; rfl)]), hB1⟩
          | true =>
            go_wp2_with fail
            go_roundw
            case rel => exact ⟨k + 1, by omega, by go_num, Lib.hid (hall.out.succ HT.out (by rw [HP.out, HNO.out]; rfl)), hB1⟩
            case measure => simp [intOf]; omega
    · obtain rfl : len = k := by omega
      have HF := Lib.hid (show pathsB ss = decide (len ≤ 20) by have := hall.out; rw [← HL.out] at this; rw [this.done, HL.out])
      by_cases h20 : len ≤ 20
      · go_wp2_with fail
        go_ret
        exact ⟨ret_bool (by rw [HF.out] <;> simp <;> omega), hB⟩
      · go_wp2_with fail
        go_ret
        exact ⟨ret_bool (by rw [HF.out] <;> simp <;> omega), hB⟩
end Go.Proofs.YtodbbfgkclkpgaaGreatDoor

namespace Go.Proofs.YtodbbfgkclkpgaaGreatDoor
open Go.RowKit

theorem bne_of_true {a b : Int} (h : (a == b) = true) : (a != b) = false := by rw [bne, h]; rfl
theorem bne_of_false {a b : Int} (h : (a == b) = false) : (a != b) = true := by rw [bne, h]; rfl

/-- a name's bytes, from left to right -/
def goodN : List UInt8 → Bool
  | [] => true
  | c :: r => VP.nm0 c && r.all VP.nm1

theorem nm0_nm1 (c : UInt8) (h : VP.nm0 c = true) : VP.nm1 c = true := by unfold VP.nm1; rw [h]; rfl

theorem nameP_good (l : List UInt8) : VP.nameP l = (inB (l.length : Int) 2 24 && goodN l) := by
  unfold VP.nameP inB
  have e1 : decide ((2 : Int) ≤ (l.length : Int)) = decide (2 ≤ l.length) := decide_eq_decide.2 (by omega)
  have e2 : decide ((l.length : Int) ≤ 24) = decide (l.length ≤ 24) := decide_eq_decide.2 (by omega)
  rw [e1, e2]
  cases l with
  | nil => rfl
  | cons c r =>
    rw [List.all_cons, Bool.and_assoc]
    congr 1
    show (VP.nm0 c && (VP.nm1 c && r.all VP.nm1)) = (VP.nm0 c && r.all VP.nm1)
    cases hc : VP.nm0 c with
    | false => rfl
    | true => rw [nm0_nm1 c hc]; rfl

theorem goodN_append {a : List UInt8} (ha : a ≠ []) (b : List UInt8) : goodN (a ++ b) = (goodN a && b.all VP.nm1) := by
  cases a with
  | nil => exact absurd rfl ha
  | cons c r =>
    show (VP.nm0 c && (r ++ b).all VP.nm1) = ((VP.nm0 c && r.all VP.nm1) && b.all VP.nm1)
    rw [List.all_append, Bool.and_assoc]

def firstL : List UInt8 := [97, 98, 99, 100, 101, 102, 103, 104, 105, 106, 107, 108, 109, 110, 111, 112, 113, 114, 115, 116, 117, 118, 119, 120, 121, 122, 48, 49, 50, 51, 52, 53, 54, 55, 56, 57]
def firstS : ByteArray := ⟨#[97, 98, 99, 100, 101, 102, 103, 104, 105, 106, 107, 108, 109, 110, 111, 112, 113, 114, 115, 116, 117, 118, 119, 120, 121, 122, 48, 49, 50, 51, 52, 53, 54, 55, 56, 57]⟩
def idxN (c : UInt8) : Int := Lib.indexByte firstL c
theorem idxN_fin : ∀ i : Fin 256, decide (0 ≤ idxN (UInt8.ofNat i.val)) = VP.nm0 (UInt8.ofNat i.val) := by decide +kernel
theorem idxN_nm0 (c : UInt8) : decide (0 ≤ idxN c) = VP.nm0 c := by
  have := idxN_fin ⟨c.toNat, c.toNat_lt⟩
  simpa using this
set_option maxRecDepth 100000 in
theorem call_idxN (c : UInt8) (w : World) : Calls Tryz.prog 136 #[.string ⟨#[97, 98, 99, 100, 101, 102, 103, 104, 105, 106, 107, 108, 109, 110, 111, 112, 113, 114, 115, 116, 117, 118, 119, 120, 121, 122, 48, 49, 50, 51, 52, 53, 54, 55, 56, 57]⟩, .int .u8 (c.toNat : Int)] w fun e w' => e = .returned (.int .i64 (idxN c)) ∧ w = w' :=
  (Tryz.strings_IndexByte firstS (c.toNat : Int) w).mono fun e w' ⟨he, hw⟩ => ⟨by rw [he]; unfold idxN; simp [firstS, firstL], hw.symm⟩

def cutN : List UInt8 := firstL ++ [43, 45, 46]
theorem cutN_ok : ∀ i : Fin 256, cutN.contains (UInt8.ofNat i.val) = VP.nm1 (UInt8.ofNat i.val) := by decide +kernel
theorem cutN_asc : (cutN.all fun b => decide (b.toNat < 128)) = true := by decide

set_option maxHeartbeats 1000000 in
set_option maxRecDepth 100000 in
theorem name_calls (s : ByteArray) (w : World) : Calls Tryz.prog 65 #[.string s] w (BoolIs (VP.nameP s.data.toList) w) := by
  have hl := size_eq_length s
  have F := Lib.hid (show VP.nameP s.data.toList = (decide (2 ≤ s.size) && decide (s.size ≤ 24) && VP.startsNm s.data.toList && s.data.toList.all VP.nm1) by unfold VP.nameP; rw [hl])
  clear hl
  by_cases h2 : 2 ≤ s.size
  · by_cases h24 : s.size ≤ 24
    · have hst := Lib.hid (show VP.startsNm s.data.toList = VP.nm0 s[0] by rw [list_cons s (by omega)]; rfl)
      have hd : VP.nm0 s[0] = true ∨ VP.nm0 s[0] = false := by cases VP.nm0 s[0] <;> simp
      rcases hd with hd | hd
      · have hi : 0 ≤ idxN s[0] := of_decide_eq_true ((idxN_nm0 s[0]).trans hd)
        have HD := Lib.hid hd
        clear hd
        have ha : s.data.toList.all VP.nm1 = true ∨ s.data.toList.all VP.nm1 = false := by cases s.data.toList.all VP.nm1 <;> simp
        go_enter Tryz.func65, Tryz.ntmps65
        go_wp2_with (go_at_call 136; refine (call_idxN _ _).mono ?_; rintro E w' ⟨rfl, rfl⟩)
        refine (call_trimAll s _ cutN VP.nm1 _ (by rfl) cutN_ok cutN_asc (by decide) (by omega)).mono ?_
        rintro E w1 ⟨t, rfl, ht, hb⟩
        rcases ha with ha | ha
        · have ht' : t.toList.isEmpty = true := Eq.trans ht ha
          have HA := Lib.hid ha
          clear ht ha
          go_wp2_with fail
          go_ret
          exact ⟨ret_bool (by rw [F.out, hst.out, HD.out, HA.out] <;> simp <;> omega), hb⟩
        · have ht' : t.toList.isEmpty = false := Eq.trans ht ha
          have HA := Lib.hid ha
          clear ht ha
          go_wp2_with fail
          go_ret
          exact ⟨ret_bool (by rw [F.out, HA.out] <;> simp), hb⟩
      · have hi : ¬ 0 ≤ idxN s[0] := of_decide_eq_false ((idxN_nm0 s[0]).trans hd)
        have HD := Lib.hid hd
        clear hd
        go_enter Tryz.func65, Tryz.ntmps65
        go_wp2_with (go_at_call 136; refine (call_idxN _ _).mono ?_; rintro E w' ⟨rfl, rfl⟩)
        go_ret
        exact ⟨ret_bool (by rw [F.out, hst.out, HD.out] <;> simp), Below.refl _ _⟩
    · go_enter Tryz.func65, Tryz.ntmps65
      go_wp2_with fail
      go_ret
      exact ⟨ret_bool (by rw [F.out, decide_eq_false h24] <;> simp), Below.refl _ _⟩
  · go_enter Tryz.func65, Tryz.ntmps65
    go_wp2_with fail
    go_ret
    exact ⟨ret_bool (by rw [F.out, decide_eq_false h2] <;> simp), Below.refl _ _⟩
end Go.Proofs.YtodbbfgkclkpgaaGreatDoor

namespace Go.Proofs.YtodbbfgkclkpgaaGreatDoor
open Go.RowKit

/-- texts short enough for all that reads them -/
structure Tv.small (t : Tv) : Prop where
  n : t.n.size ≤ 1000
  u : t.u.size ≤ 1000
  r : t.r.size ≤ 1000
  ok : t.ok

theorem box5 {w w1 : World} {a b c d e : Value} {t : TypeId} (hb : Below (w.alloc (.cells #[a, b, c, d, e] t)).heap.size (w.alloc (.cells #[a, b, c, d, e] t)) w1) :
    w1.cell? ⟨w.heap.size, 0, none⟩ = some a ∧ w1.cell? ⟨w.heap.size, 1, none⟩ = some b ∧ w1.cell? ⟨w.heap.size, 2, none⟩ = some c ∧ w1.cell? ⟨w.heap.size, 3, none⟩ = some d ∧ w1.cell? ⟨w.heap.size, 4, none⟩ = some e :=
  ⟨kept hb (by go_cell), kept hb (by go_cell), kept hb (by go_cell), kept hb (by go_cell), kept hb (by go_cell)⟩

theorem any_stop {α : Type} {p : α → Bool} {l : List α} {k : Nat} {x : α} (hx : l[k]? = some x) (hp : p x = true) : l.any p = true := by
  rw [List.any_eq_true]
  exact ⟨x, List.mem_of_getElem? hx, hp⟩
theorem any_take_succ {α : Type} {p : α → Bool} {l : List α} {k : Nat} {x : α} (h : (l.take k).any p = false) (hx : l[k]? = some x) (hp : p x = false) : (l.take (k + 1)).any p = false := by
  rw [List.take_add_one, hx, List.any_append, h]
  simp [hp]
theorem any_done {α : Type} {p : α → Bool} {l : List α} (h : (l.take l.length).any p = false) : l.any p = false := by rwa [List.take_length] at h

def wrongT (t : Tv) : Bool := !VP.rightT t.tm
def IdxIs (b : Bool) (w : World) (E : Ending) (w' : World) : Prop := ∃ i : Int, E = .returned (.int .i64 i) ∧ decide (0 ≤ i) = b ∧ Below w.heap.size w w'

def tmL (L : List (List Tv)) : List (List VP.Tm) := L.map fun x => x.map Tv.tm
def sumL (L : List (List Tv)) : Nat := (L.map List.length).sum
def goodL (x : List Tv) : Bool := !x.isEmpty && !x.any wrongT

theorem asked_eq (L : List (List Tv)) : VP.askedP (tmL L) = (L.all goodL && decide (sumL L ≤ 30)) := by
  unfold VP.askedP tmL
  rw [List.all_map]
  have e1 : VP.total (L.map fun x => x.map Tv.tm) = sumL L := by
    unfold VP.total sumL
    rw [List.map_map]
    congr 1
    apply List.map_congr_left
    intro x _
    simp
  rw [e1]
  congr 2
  funext x
  show (!(x.map Tv.tm).isEmpty && (x.map Tv.tm).all VP.rightT) = goodL x
  unfold goodL
  have e2 : (x.map Tv.tm).isEmpty = x.isEmpty := by cases x <;> rfl
  have e3 : (x.map Tv.tm).all VP.rightT = !x.any wrongT := by
    rw [List.all_map]
    induction x with
    | nil => rfl
    | cons t x ih =>
      have ih' := ih (by cases x <;> rfl)
      rw [List.all_cons, List.any_cons, ih', Bool.not_or]
      congr 1
      unfold wrongT
      rw [Bool.not_not]
      rfl
  rw [e2, e3]

theorem sumL_take_succ {L : List (List Tv)} {k : Nat} {x : List Tv} (hx : L[k]? = some x) : sumL (L.take (k + 1)) = sumL (L.take k) + x.length := by
  unfold sumL
  rw [List.take_add_one, hx, List.map_append, List.sum_append]
  simp
theorem sumL_take_le (L : List (List Tv)) (k : Nat) : sumL (L.take k) ≤ sumL L := by
  conv => rhs; rw [← List.take_append_drop k L]
  unfold sumL
  rw [List.map_append, List.sum_append]
  omega
end Go.Proofs.YtodbbfgkclkpgaaGreatDoor

namespace Go.Proofs.YtodbbfgkclkpgaaGreatDoor
open Go Go.RowKit

structure Pv where
  n : ByteArray
  e : Int
  u : ByteArray
  r : ByteArray
  dep : List (List Tv)
  ahead : List (List Tv)
  ag : List Tv
  br : List Tv
  re : List Tv
  pr : List Tv
  se : List ByteArray
  li : List ByteArray
  fi : List Fv

/-- this value is a package that reads as p -/
def PackAt (w : World) (v : Value) (p : Pv) : Prop := ∃ v1 v2 v3 v4 v5 v6 v7 v8 v9 : Value,
  v = .agg #[.string p.n, .int .i64 p.e, .string p.u, .string p.r, v1, v2, v3, v4, v5, v6, v7, v8, v9] ∧
  AskedAt w v1 p.dep ∧ AskedAt w v2 p.ahead ∧ TermsAt w v3 p.ag ∧ TermsAt w v4 p.br ∧ TermsAt w v5 p.re ∧ TermsAt w v6 p.pr ∧ StrsAt w v7 p.se ∧ StrsAt w v8 p.li ∧ FieldsAt w v9 p.fi ∧
  -9223372036854775808 ≤ p.e ∧ p.e ≤ 9223372036854775807
theorem PackAt.below {w w' : World} {v : Value} {p : Pv} (h : PackAt w v p) (hb : Below w.heap.size w w') : PackAt w' v p := by
  obtain ⟨v1, v2, v3, v4, v5, v6, v7, v8, v9, hv, h1, h2, h3, h4, h5, h6, h7, h8, h9, hlo, hhi⟩ := h
  exact ⟨v1, v2, v3, v4, v5, v6, v7, v8, v9, hv, h1.below hb, h2.below hb, h3.below hb, h4.below hb, h5.below hb, h6.below hb, h7.below hb, h8.below hb, h9.below hb, hlo, hhi⟩

/-- what it says, as lists of bytes -/
def Pv.pk (p : Pv) : VP.Pk := ⟨p.n.data.toList, p.e, p.u.data.toList, p.r.data.toList, tmL p.dep, tmL p.ahead, p.ag.map Tv.tm, p.br.map Tv.tm, p.re.map Tv.tm, p.pr.map Tv.tm, p.se.map (·.data.toList), p.li.map (·.data.toList)⟩

end Go.Proofs.YtodbbfgkclkpgaaGreatDoor

namespace Go.Proofs.YtodbbfgkclkpgaaGreatDoor
open Go.RowKit

set_option maxHeartbeats 1000000 in
set_option maxRecDepth 100000 in
theorem right0_calls (t : Tv) (w : World) (h0 : t.op = 0) : Calls Tryz.prog 141 #[t.val] w (BoolIs (VP.rightT t.tm) w) := by
  obtain ⟨n, op, e, u, r⟩ := t
  obtain rfl : op = 0 := h0
  have F := Lib.hid (show VP.rightT (Tv.tm ⟨n, 0, e, u, r⟩) = (VP.nameP n.data.toList && (decide (e = 0) && decide (u.data.toList = []) && decide (r.data.toList = []))) by unfold VP.rightT Tv.tm; rw [if_pos rfl])
  unfold Tv.val
  dsimp only
  have hb0 := below_alloc w (.cells #[.string n, .int .i64 0, .int .i64 e, .string u, .string r] 99)
  have hd : VP.nameP n.data.toList = true ∨ VP.nameP n.data.toList = false := by cases VP.nameP n.data.toList <;> simp
  go_enter Tryz.func141, Tryz.ntmps141
  go_wp2_with fail
  refine (name_calls n _).mono ?_
  rintro E w1 ⟨rfl, hb⟩
  have hB := step_below hb0 hb
  obtain ⟨c0, c1, c2, c3, c4⟩ := box5 hb
  clear hb hb0
  rcases hd with hd | hd
  · have HD := Lib.hid hd
    rw [hd]
    clear hd
    go_wp2_with fail
    all_goals
      go_ret
      exact ⟨ret_bool (by rw [F.out, HD.out, ← Lib.toList_data, ← Lib.toList_data]; simp [*]), hB⟩
  · have HD := Lib.hid hd
    rw [hd]
    clear hd
    go_wp2_with fail
    go_ret
    exact ⟨ret_bool (by rw [F.out, HD.out]; rfl), hB⟩

set_option maxHeartbeats 1000000 in
set_option maxRecDepth 100000 in
theorem right1_calls (t : Tv) (w : World) (hE : Env w) (hs : t.small) (h0 : t.op < 0 ∨ 0 < t.op) : Calls Tryz.prog 141 #[t.val] w (BoolIs (VP.rightT t.tm) w) := by
  obtain ⟨n, op, e, u, r⟩ := t
  obtain ⟨hs1, hs2, hs3, _⟩ := hs
  have F := Lib.hid (show VP.rightT (Tv.tm ⟨n, op, e, u, r⟩) = (VP.nameP n.data.toList && (decide (0 ≤ op) && decide (op ≤ 5) && VP.rightP e u.data.toList r.data.toList)) by unfold VP.rightT Tv.tm; rw [if_neg (show ¬ op = 0 by have := h0; dsimp only at this; omega)])
  unfold Tv.val
  dsimp only at h0 hs1 hs2 hs3 ⊢
  have hb0 := below_alloc w (.cells #[.string n, .int .i64 op, .int .i64 e, .string u, .string r] 99)
  have hE1 := hE.below hb0
  have hd : VP.nameP n.data.toList = true ∨ VP.nameP n.data.toList = false := by cases VP.nameP n.data.toList <;> simp
  have hz : (op == 0) = false := by rw [beq_eq_false_iff_ne]; omega
  go_enter Tryz.func141, Tryz.ntmps141
  go_wp2_with fail
  refine (name_calls n _).mono ?_
  rintro E w1 ⟨rfl, hb⟩
  have hB := step_below hb0 hb
  obtain ⟨c0, c1, c2, c3, c4⟩ := box5 hb
  replace hE1 := hE1.below hb
  clear hb hb0
  rcases hd with hd | hd
  · have HD := Lib.hid hd
    rw [hd]
    clear hd
    rcases h0 with h0 | h0
    · go_wp2_with fail
      go_ret
      exact ⟨ret_bool (by rw [F.out, HD.out, decide_eq_false (show ¬ 0 ≤ op by omega)]; rfl), hB⟩
    · by_cases h5 : op ≤ 5
      · go_wp2_with fail
        refine (right_calls e u r _ hE1 (by omega) (by omega)).mono ?_
        rintro E w2 ⟨rfl, hb⟩
        have hB := step_below hB hb
        clear hb
        go_wp2_with fail
        go_ret
        exact ⟨ret_bool (by rw [F.out, HD.out, decide_eq_true (show 0 ≤ op by omega), decide_eq_true h5]; rfl), hB⟩
      · go_wp2_with fail
        go_ret
        exact ⟨ret_bool (by rw [F.out, HD.out, decide_eq_false (show ¬ op ≤ 5 by omega)]; simp), hB⟩
  · have HD := Lib.hid hd
    rw [hd]
    clear hd
    go_wp2_with fail
    go_ret
    exact ⟨ret_bool (by rw [F.out, HD.out]; rfl), hB⟩

theorem rightTerm_calls (t : Tv) (w : World) (hE : Env w) (hs : t.small) : Calls Tryz.prog 141 #[t.val] w (BoolIs (VP.rightT t.tm) w) := by
  rcases Int.lt_trichotomy t.op 0 with h | h | h
  · exact right1_calls t w hE hs (.inl h)
  · exact right0_calls t w h
  · exact right1_calls t w hE hs (.inr h)

set_option maxRecDepth 100000 in
/-- the function value: is a term one that may not be -/
theorem wrong_calls (t : Tv) (w : World) (hE : Env w) (hs : t.small) : Calls Tryz.prog 140 #[t.val] w (BoolIs (!VP.rightT t.tm) w) := by
  have H := Lib.hid (fun (W : World) (h : Env W) => rightTerm_calls t W h hs)
  obtain ⟨n, op, e, u, r⟩ := t
  obtain ⟨b, hb'⟩ : ∃ b, VP.rightT (Tv.tm ⟨n, op, e, u, r⟩) = b := ⟨_, rfl⟩
  rw [hb'] at H ⊢
  clear hs hb'
  unfold Tv.val at H ⊢
  dsimp only at H ⊢
  have hb0 := below_alloc w (.cells #[.string n, .int .i64 op, .int .i64 e, .string u, .string r] 99)
  have hE1 := hE.below hb0
  go_enter Tryz.func140, Tryz.ntmps140
  go_wp2_with fail
  refine (H.out _ hE1).mono ?_
  rintro E w1 ⟨rfl, hb⟩
  have hB := step_below hb0 hb
  clear hb
  go_wp2_with fail
  go_ret
  exact ⟨rfl, hB⟩
end Go.Proofs.YtodbbfgkclkpgaaGreatDoor

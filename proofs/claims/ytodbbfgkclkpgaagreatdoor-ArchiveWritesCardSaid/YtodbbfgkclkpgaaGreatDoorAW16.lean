/- record.paths, the reference's paths: which lists of paths may be. · depend.Name, and the reference's PackName: may a package be called so. -/
import Derived.Test.YtodbbfgkclkpgaaGreatDoorAW10
import Derived.Test.YtodbbfgkclkpgaaGreatDoorAW11
import Derived.Test.YtodbbfgkclkpgaaGreatDoorAW15
namespace Go.Proofs.YtodbbfgkclkpgaaGreatDoor
open Go Go.RowKit

theorem toList_ne2 {a b : ByteArray} (h : ¬ a = b) : ¬ a.toList = b.toList := fun e => h (data_inj (by rwa [Lib.toList_data, Lib.toList_data] at e))
/-- is it one of them -/
def hasB (ss : List ByteArray) (x : ByteArray) : Bool := ss.any fun t => decide (t = x)
theorem hasB_iff {ss : List ByteArray} {x : ByteArray} : hasB ss x = true ↔ x ∈ ss := by
  unfold hasB
  rw [List.any_eq_true]
  constructor
  · rintro ⟨t, ht, h⟩
    rwa [of_decide_eq_true h] at ht
  · intro h; exact ⟨x, h, decide_eq_true rfl⟩

theorem hasStr_calls (v : Value) (ss : List ByteArray) (x : ByteArray) (w : World) (h : StrsAt w v ss) :
    Calls Tryz.prog 142 #[v, .string x] w fun e w' => e = .returned (.bool (hasB ss x)) ∧ w = w' := by
  obtain ⟨A, c, rfl, hc, hm, hr⟩ := h.open
  by_cases hn : ss = []
  · subst hn
    refine (Tryz.slices_Contains_string_empty A c x w).mono fun e w' ⟨he, hw⟩ => ⟨by rw [he]; rfl, hw.symm⟩
  · obtain ⟨b, off, rfl, hi⟩ := hr hn
    refine (Tryz.slices_Contains_string b off ss.length c ss x w (Nat.le_refl _) hm (fun j hj => ?_)).mono fun e w' ⟨he, hw⟩ => ⟨?_, hw.symm⟩
    · have e : ss[j]? = some ss[j] := List.getElem?_eq_getElem hj
      rw [hi j _ e, List.getD_eq_getElem?_getD, e]
      rfl
    · rw [he, List.take_length]
      congr 2
      rw [Bool.eq_iff_iff, Lib.containsS_iff, hasB_iff]

theorem mem_take_data (ss : List ByteArray) (k : Nat) (x : ByteArray) : hasB (ss.take k) x = (((ss.map (·.data.toList)).take k).any fun t => decide (t = x.data.toList)) := by
  rw [← List.map_take, List.any_map]
  unfold hasB
  congr 1
  funext t
  show decide _ = decide (t.data.toList = x.data.toList)
  congr 1
  exact propext ⟨fun h => by rw [h], fun h => data_inj h⟩
theorem pathOk_at {ss : List ByteArray} {k : Nat} {s : ByteArray} (h : ss[k]? = some s) : VP.pathOk (ss.map (·.data.toList)) k = (VP.pathP s.data.toList && !hasB (ss.take k) s) := by
  unfold VP.pathOk
  rw [List.getElem?_map, h, mem_take_data]
  rfl
def pathsB (ss : List ByteArray) : Bool := VP.pathsP (ss.map (·.data.toList))
theorem pathsB_false {ss : List ByteArray} {k : Nat} {s : ByteArray} (h : ss[k]? = some s) (hb : (VP.pathP s.data.toList && !hasB (ss.take k) s) = false) : pathsB ss = false := by
  unfold pathsB VP.pathsP
  rw [VP.allAt_false (i := k) (by rw [List.length_map]; exact (List.getElem?_eq_some_iff.1 h).1) ((pathOk_at h).trans hb)]
  rfl
/-- so far all is well -/
def PathsTo (ss : List ByteArray) (k : Nat) : Prop := ∀ i, i < k → VP.pathOk (ss.map (·.data.toList)) i = true
theorem PathsTo.zero (ss : List ByteArray) : PathsTo ss 0 := fun _ h => absurd h (Nat.not_lt_zero _)
theorem PathsTo.succ {ss : List ByteArray} {k : Nat} {s : ByteArray} (h : PathsTo ss k) (hs : ss[k]? = some s) (hb : (VP.pathP s.data.toList && !hasB (ss.take k) s) = true) : PathsTo ss (k + 1) := fun i hi => by
  rcases Nat.lt_or_ge i k with h' | h'
  · exact h i h'
  · obtain rfl : i = k := by omega
    exact (pathOk_at hs).trans hb
theorem PathsTo.done {ss : List ByteArray} (h : PathsTo ss ss.length) : pathsB ss = decide (ss.length ≤ 20) := by
  unfold pathsB VP.pathsP
  rw [VP.allAt_true (by rw [List.length_map]; exact h), List.length_map]
  rfl

set_option maxHeartbeats 2000000 in
set_option maxRecDepth 100000 in
theorem paths_calls (v : Value) (ss : List ByteArray) (w : World) (hE : Env w) (h : StrsAt w v ss) (hs : ∀ s ∈ ss, s.size ≤ 1000000) : Calls Tryz.prog 69 #[v] w (BoolIs (pathsB ss) w) := by
  obtain ⟨A, c, hv, hc, hm, hr⟩ := h.open
  have HH := Lib.hid h
  subst hv
  obtain ⟨len, hlen⟩ : ∃ len, ss.length = len := ⟨_, rfl⟩
  have HL := Lib.hid hlen
  have HR := Lib.hid hr
  have HS := Lib.hid hs
  have HE := Lib.hid hE
  rw [hlen] at hc hm HH ⊢
  clear hlen hr hs h hE
  go_enter Tryz.func69, Tryz.ntmps69
  go_wp2_with fail
  go_loopw [7] (fun i wr => ∃ k : Nat, k ≤ len ∧ i = .int .i64 k ∧ Hid (PathsTo ss k) ∧ Below w.heap.size w wr) (fun i _ => len - (intOf i).toNat)
  case atStart => exact ⟨0, Nat.zero_le _, rfl, PathsTo.zero ss, Below.refl _ _⟩
  case round =>
    obtain ⟨k, hk, rfl, hall, hB⟩ := hrel
    by_cases hlt : k < len
    · have hne : ss ≠ [] := by
        intro e
        have := HL.out
        rw [e] at this
        simp at this
        omega
      obtain ⟨s, ht⟩ : ∃ s, ss[k]? = some s := ⟨ss[k]'(by have := HL.out; omega), List.getElem?_eq_getElem _⟩
      obtain ⟨b, off, rfl, hi⟩ := HR.out hne
      have c0 := kept hB (hi k s ht)
      have P1 := Lib.hid (path_calls s wr (HE.out.below hB) (HS.out s (List.mem_of_getElem? ht)))
      have HT := Lib.hid ht
      obtain ⟨bp, hbp⟩ : ∃ b, VP.pathP s.data.toList = b := ⟨_, rfl⟩
      rw [hbp] at P1
      have HP := Lib.hid hbp
      have hck : k ≤ c := by omega
      clear hi hne ht hbp
      go_wp2_with fail
      refine P1.out.mono ?_
      rintro E w1 ⟨rfl, hb⟩
      have hB1 := step_below hB hb
      clear hb c0 P1
      cases bp with
      | false =>
        go_wp2_with fail
        go_ret
        exact ⟨ret_bool (by rw [pathsB_false HT.out (by rw [HP.out]; rfl)]), hB1⟩
      | true =>
      have P2 := Lib.hid (hasStr_calls (.slice (some ⟨b, off, none⟩) k c) (ss.take k) s w1 ((HH.out.below hB1).take (by have := HL.out; omega)))
      obtain ⟨bm, hbm⟩ : ∃ x, hasB (ss.take k) s = x := ⟨_, rfl⟩
      rw [hbm] at P2
      have HM := Lib.hid hbm
      clear hbm
      go_wp2_with fail
      refine P2.out.mono ?_
      rintro E w2 ⟨rfl, rfl⟩
      clear P2
      cases bm with
      | true =>
        go_wp2_with fail
        go_ret
        exact ⟨ret_bool (by rw [pathsB_false HT.out (by rw [HP.out, HM.out]; rfl)]), hB1⟩
      | false =>
        go_wp2_with fail
        go_roundw
        case rel => exact ⟨k + 1, by omega, by go_num, Lib.hid (hall.out.succ HT.out (by rw [HP.out, HM.out]; rfl)), hB1⟩
        case measure => simp [intOf]; omega
    · obtain rfl : len = k := by omega
      have HF := Lib.hid (show pathsB ss = decide (len ≤ 20) by have := hall.out; rw [← HL.out] at this; rw [this.done, HL.out])
      by_cases h20 : len ≤ 20
      · go_wp2_with fail
        go_ret
        exact ⟨ret_bool (by rw [HF.out] <;> simp <;> omega), hB⟩
      · go_wp2_with fail
        go_ret
        exact ⟨ret_bool (by rw [HF.out] <;> simp <;> omega), hB⟩

set_option maxHeartbeats 2000000 in
set_option maxRecDepth 100000 in
theorem refPaths_calls (v : Value) (ss : List ByteArray) (w : World) (h : StrsAt w v ss) (hs : ∀ s ∈ ss, s.size ≤ 1000000) : Calls Tryz.prog 73 #[v] w (BoolIs (pathsB ss) w) := by
  obtain ⟨A, c, hv, hc, hm, hr⟩ := h.open
  subst hv
  obtain ⟨len, hlen⟩ : ∃ len, ss.length = len := ⟨_, rfl⟩
  have HL := Lib.hid hlen
  have HR := Lib.hid hr
  have HS := Lib.hid hs
  rw [hlen] at hc hm ⊢
  clear hlen hr hs h
  go_enter Tryz.func73, Tryz.ntmps73
  go_wp2_with fail
  go_loopw [9] (fun i wr => ∃ k : Nat, k ≤ len ∧ i = .int .i64 k ∧ Hid (PathsTo ss k) ∧ Below w.heap.size w wr) (fun i _ => len - (intOf i).toNat)
  case atStart => exact ⟨0, Nat.zero_le _, rfl, PathsTo.zero ss, Below.refl _ _⟩
  case round =>
    obtain ⟨k, hk, rfl, hall, hB⟩ := hrel
    by_cases hlt : k < len
    · have hne : ss ≠ [] := by
        intro e
        have := HL.out
        rw [e] at this
        simp at this
        omega
      obtain ⟨s, ht⟩ : ∃ s, ss[k]? = some s := ⟨ss[k]'(by have := HL.out; omega), List.getElem?_eq_getElem _⟩
      obtain ⟨b, off, rfl, hi⟩ := HR.out hne
      have c0 := kept hB (hi k s ht)
      have HI := Lib.hid (fun (j : Nat) (t : ByteArray) (hj : ss[j]? = some t) => kept hB (hi j t hj))
      have P1 := Lib.hid (fun (W : World) => refPath_calls s W (HS.out s (List.mem_of_getElem? ht)))
      have HT := Lib.hid ht
      obtain ⟨bp, hbp⟩ : ∃ b, VP.pathP s.data.toList = b := ⟨_, rfl⟩
      rw [hbp] at P1
      have HP := Lib.hid hbp
      have hck : k ≤ c := by omega
      clear hi hne ht hbp
      go_wp2_with fail
      obtain ⟨wo, rfl⟩ : ∃ x, x = wr := ⟨wr, rfl⟩
      go_loopw [18] (fun i wx => ∃ j : Nat, j ≤ k ∧ i = .int .i64 j ∧ Hid ((ss.take j).all (fun t => decide (¬ t = s)) = true) ∧ Below wo.heap.size wo wx) (fun i _ => k - (intOf i).toNat)
      case atStart => exact ⟨0, Nat.zero_le _, rfl, rfl, Below.refl _ _⟩
      case round =>
        obtain ⟨j, hj, rfl, hno, hz⟩ := hrel
        replace hB := step_below hB hz
        by_cases hjt : j < k
        · obtain ⟨t, ht⟩ : ∃ t, ss[j]? = some t := ⟨ss[j]'(by have := HL.out; omega), List.getElem?_eq_getElem _⟩
          have d0 := kept hz (HI.out j t ht)
          have HTJ := Lib.hid ht
          clear ht
          by_cases hts : s = t
          · have HF := Lib.hid (show pathsB ss = false from pathsB_false HT.out (by
              have hm : s ∈ ss.take k := by
                rw [hts]
                exact List.mem_of_getElem? (i := j) (by rw [List.getElem?_take, if_pos hjt]; exact HTJ.out)
              rw [hasB_iff.2 hm, Bool.not_true, Bool.and_false]))
            have hbe : (s.toList == t.toList) = true := by rw [hts]; simp
            clear HTJ
            subst hts
            go_wp2_with fail
            go_ret
            exact ⟨ret_bool HF.out.symm, hB⟩
          · have hne : (s.toList == t.toList) = false := beq_eq_false_iff_ne.2 (toList_ne2 hts)
            have HNE := Lib.hid (fun e => hts e.symm : ¬ t = s)
            clear hts
            go_wp2_with fail
            go_roundw
            case rel => exact ⟨j + 1, by omega, by go_num, Lib.hid (all_take_succ hno.out HTJ.out (decide_eq_true HNE.out)), hz⟩
            case measure => simp [intOf]; omega
        · obtain rfl : k = j := by omega
          have HNO := Lib.hid (show hasB (ss.take k) s = false from Bool.eq_false_iff.2 (fun hm => by
            have := List.all_eq_true.1 hno.out s (hasB_iff.1 hm)
            simp at this))
          clear hno
          go_wp2_with fail
          refine (P1.out _).mono ?_
          rintro E w1 ⟨rfl, hb⟩
          have hB1 := step_below hB hb
          clear hb P1
          cases bp with
          | false =>
            go_wp2_with fail
            go_ret
            exact ⟨ret_bool (by rw [pathsB_false HT.out (by rw [HP.out]; rfl)]), hB1⟩
          | true =>
            go_wp2_with fail
            go_roundw
            case rel => exact ⟨k + 1, by omega, by go_num, Lib.hid (hall.out.succ HT.out (by rw [HP.out, HNO.out]; rfl)), hB1⟩
            case measure => simp [intOf]; omega
    · obtain rfl : len = k := by omega
      have HF := Lib.hid (show pathsB ss = decide (len ≤ 20) by have := hall.out; rw [← HL.out] at this; rw [this.done, HL.out])
      by_cases h20 : len ≤ 20
      · go_wp2_with fail
        go_ret
        exact ⟨ret_bool (by rw [HF.out] <;> simp <;> omega), hB⟩
      · go_wp2_with fail
        go_ret
        exact ⟨ret_bool (by rw [HF.out] <;> simp <;> omega), hB⟩
end Go.Proofs.YtodbbfgkclkpgaaGreatDoor

namespace Go.Proofs.YtodbbfgkclkpgaaGreatDoor
open Go.RowKit

theorem bne_of_true {a b : Int} (h : (a == b) = true) : (a != b) = false := by rw [bne, h]; rfl
theorem bne_of_false {a b : Int} (h : (a == b) = false) : (a != b) = true := by rw [bne, h]; rfl

/-- a name's bytes, from left to right -/
def goodN : List UInt8 → Bool
  | [] => true
  | c :: r => VP.nm0 c && r.all VP.nm1

theorem nm0_nm1 (c : UInt8) (h : VP.nm0 c = true) : VP.nm1 c = true := by unfold VP.nm1; rw [h]; rfl

theorem nameP_good (l : List UInt8) : VP.nameP l = (inB (l.length : Int) 2 24 && goodN l) := by
  unfold VP.nameP inB
  have e1 : decide ((2 : Int) ≤ (l.length : Int)) = decide (2 ≤ l.length) := decide_eq_decide.2 (by omega)
  have e2 : decide ((l.length : Int) ≤ 24) = decide (l.length ≤ 24) := decide_eq_decide.2 (by omega)
  rw [e1, e2]
  cases l with
  | nil => rfl
  | cons c r =>
    rw [List.all_cons, Bool.and_assoc]
    congr 1
    show (VP.nm0 c && (VP.nm1 c && r.all VP.nm1)) = (VP.nm0 c && r.all VP.nm1)
    cases hc : VP.nm0 c with
    | false => rfl
    | true => rw [nm0_nm1 c hc]; rfl

theorem goodN_append {a : List UInt8} (ha : a ≠ []) (b : List UInt8) : goodN (a ++ b) = (goodN a && b.all VP.nm1) := by
  cases a with
  | nil => exact absurd rfl ha
  | cons c r =>
    show (VP.nm0 c && (r ++ b).all VP.nm1) = ((VP.nm0 c && r.all VP.nm1) && b.all VP.nm1)
    rw [List.all_append, Bool.and_assoc]

def firstL : List UInt8 := [97, 98, 99, 100, 101, 102, 103, 104, 105, 106, 107, 108, 109, 110, 111, 112, 113, 114, 115, 116, 117, 118, 119, 120, 121, 122, 48, 49, 50, 51, 52, 53, 54, 55, 56, 57]
def firstS : ByteArray := ⟨#[97, 98, 99, 100, 101, 102, 103, 104, 105, 106, 107, 108, 109, 110, 111, 112, 113, 114, 115, 116, 117, 118, 119, 120, 121, 122, 48, 49, 50, 51, 52, 53, 54, 55, 56, 57]⟩
def idxN (c : UInt8) : Int := Lib.indexByte firstL c
theorem idxN_fin : ∀ i : Fin 256, decide (0 ≤ idxN (UInt8.ofNat i.val)) = VP.nm0 (UInt8.ofNat i.val) := by decide +kernel
theorem idxN_nm0 (c : UInt8) : decide (0 ≤ idxN c) = VP.nm0 c := by
  have := idxN_fin ⟨c.toNat, c.toNat_lt⟩
  simpa using this
set_option maxRecDepth 100000 in
theorem call_idxN (c : UInt8) (w : World) : Calls Tryz.prog 136 #[.string ⟨#[97, 98, 99, 100, 101, 102, 103, 104, 105, 106, 107, 108, 109, 110, 111, 112, 113, 114, 115, 116, 117, 118, 119, 120, 121, 122, 48, 49, 50, 51, 52, 53, 54, 55, 56, 57]⟩, .int .u8 (c.toNat : Int)] w fun e w' => e = .returned (.int .i64 (idxN c)) ∧ w = w' :=
  (Tryz.strings_IndexByte firstS (c.toNat : Int) w).mono fun e w' ⟨he, hw⟩ => ⟨by rw [he]; unfold idxN; simp [firstS, firstL], hw.symm⟩

def cutN : List UInt8 := firstL ++ [43, 45, 46]
theorem cutN_ok : ∀ i : Fin 256, cutN.contains (UInt8.ofNat i.val) = VP.nm1 (UInt8.ofNat i.val) := by decide +kernel
theorem cutN_asc : (cutN.all fun b => decide (b.toNat < 128)) = true := by decide

set_option maxHeartbeats 1000000 in
set_option maxRecDepth 100000 in
theorem name_calls (s : ByteArray) (w : World) : Calls Tryz.prog 65 #[.string s] w (BoolIs (VP.nameP s.data.toList) w) := by
  have hl := size_eq_length s
  have F := Lib.hid (show VP.nameP s.data.toList = (decide (2 ≤ s.size) && decide (s.size ≤ 24) && VP.startsNm s.data.toList && s.data.toList.all VP.nm1) by unfold VP.nameP; rw [hl])
  clear hl
  by_cases h2 : 2 ≤ s.size
  · by_cases h24 : s.size ≤ 24
    · have hst := Lib.hid (show VP.startsNm s.data.toList = VP.nm0 s[0] by rw [list_cons s (by omega)]; rfl)
      have hd : VP.nm0 s[0] = true ∨ VP.nm0 s[0] = false := by cases VP.nm0 s[0] <;> simp
      rcases hd with hd | hd
      · have hi : 0 ≤ idxN s[0] := of_decide_eq_true ((idxN_nm0 s[0]).trans hd)
        have HD := Lib.hid hd
        clear hd
        have ha : s.data.toList.all VP.nm1 = true ∨ s.data.toList.all VP.nm1 = false := by cases s.data.toList.all VP.nm1 <;> simp
        go_enter Tryz.func65, Tryz.ntmps65
        go_wp2_with (go_at_call 136; refine (call_idxN _ _).mono ?_; rintro E w' ⟨rfl, rfl⟩)
        refine (call_trimAll s _ cutN VP.nm1 _ (by rfl) cutN_ok cutN_asc (by decide) (by omega)).mono ?_
        rintro E w1 ⟨t, rfl, ht, hb⟩
        rcases ha with ha | ha
        · have ht' : t.toList.isEmpty = true := Eq.trans ht ha
          have HA := Lib.hid ha
          clear ht ha
          go_wp2_with fail
          go_ret
          exact ⟨ret_bool (by rw [F.out, hst.out, HD.out, HA.out] <;> simp <;> omega), hb⟩
        · have ht' : t.toList.isEmpty = false := Eq.trans ht ha
          have HA := Lib.hid ha
          clear ht ha
          go_wp2_with fail
          go_ret
          exact ⟨ret_bool (by rw [F.out, HA.out] <;> simp), hb⟩
      · have hi : ¬ 0 ≤ idxN s[0] := of_decide_eq_false ((idxN_nm0 s[0]).trans hd)
        have HD := Lib.hid hd
        clear hd
        go_enter Tryz.func65, Tryz.ntmps65
        go_wp2_with (go_at_call 136; refine (call_idxN _ _).mono ?_; rintro E w' ⟨rfl, rfl⟩)
        go_ret
        exact ⟨ret_bool (by rw [F.out, hst.out, HD.out] <;> simp), Below.refl _ _⟩
    · go_enter Tryz.func65, Tryz.ntmps65
      go_wp2_with fail
      go_ret
      exact ⟨ret_bool (by rw [F.out, decide_eq_false h24] <;> simp), Below.refl _ _⟩
  · go_enter Tryz.func65, Tryz.ntmps65
    go_wp2_with fail
    go_ret
    exact ⟨ret_bool (by rw [F.out, decide_eq_false h2] <;> simp), Below.refl _ _⟩
end Go.Proofs.YtodbbfgkclkpgaaGreatDoor

/- version.Right: whether a version may be. · What version.Parse calls, in our words: a text cut at its first colon, and at its last dash. -/
import Derived.Test.YtpbbhjifgaeklaaGreatDoorCSK2
namespace Go.Proofs.YtpbbhjifgaeklaaGreatDoor
open Go.RowKit

def RightIs (e : Int) (u r : ByteArray) (w : World) (E : Ending) (w' : World) : Prop := E = .returned (.bool (VP.rightP e u.data.toList r.data.toList)) ∧ Below w.heap.size w w'

theorem right_no {e : Int} {u r : ByteArray} {w w' : World} (h : ¬ VP.RightP e u.data.toList r.data.toList) (hb : Below w.heap.size w w') : RightIs e u r w (.returned (.bool false)) w' := by
  refine ⟨?_, hb⟩
  have : VP.rightP e u.data.toList r.data.toList = false := Bool.eq_false_iff.2 fun h' => h ((VP.rightP_iff _ _ _).1 h')
  rw [this]

/-- what is left behind the blanks of a kind is nothing -/
def Cleared (p : UInt8 → Bool) (s t : ByteArray) : Prop := t.toList.isEmpty = s.data.toList.all p

theorem dropWhile_nil (p : UInt8 → Bool) (l : List UInt8) : (l.dropWhile p).isEmpty = l.all p := by
  induction l with
  | nil => rfl
  | cons c l ih =>
    rw [List.dropWhile_cons, List.all_cons]
    cases hc : p c with
    | true => simpa using ih
    | false => simp
theorem trimS_nil (l cs : List UInt8) : (Lib.trimS l cs).isEmpty = l.all (cs.contains ·) := by
  unfold Lib.trimS Lib.trimLeftS
  rw [dropWhile_nil]
  unfold Lib.trimRightS
  rw [List.all_reverse]
  have key : ∀ m : List UInt8, (m.dropWhile (cs.contains ·)).all (cs.contains ·) = m.all (cs.contains ·) := by
    intro m
    induction m with
    | nil => rfl
    | cons c m ih =>
      rw [List.dropWhile_cons, List.all_cons]
      cases hc : cs.contains c with
      | true => simpa using ih
      | false => simp only [Bool.false_eq_true, if_false, List.all_cons, hc, Bool.false_and]
  rw [key, List.all_reverse]

theorem call_trimAll (s cut : ByteArray) (l : List UInt8) (p : UInt8 → Bool) (w : World) (hl : cut.data.toList = l) (hp : ∀ i : Fin 256, l.contains (UInt8.ofNat i.val) = p (UInt8.ofNat i.val))
    (hasc : (l.all fun b => decide (b.toNat < 128)) = true) (hlen : l.length < 1000) (hs : s.size ≤ 1000000) :
    Calls Tryz.prog 141 #[.string s, .string cut] w fun e w' => ∃ t : ByteArray, e = .returned (.string t) ∧ Cleared p s t ∧ Below w.heap.size w w' :=
  (Any.strings_Trim_laid Tryz.lays160 info_set s cut w (by omega) (by rw [size_eq_length, hl]; omega) (fun j b h => by
    have hm : b ∈ l := hl ▸ List.mem_of_getElem? h
    simpa using List.all_eq_true.1 hasc b hm)).mono fun e w' ⟨he, hb⟩ => by
      refine ⟨_, he, ?_, hb⟩
      unfold Cleared
      rw [Lib.toList_data]
      have e1 : (⟨(Lib.trimS s.data.toList cut.data.toList).toArray⟩ : ByteArray).data.toList = Lib.trimS s.data.toList cut.data.toList := rfl
      rw [e1, trimS_nil, hl]
      have e2 : (fun c => l.contains c) = p := by
        funext c
        have := hp ⟨c.toNat, c.toNat_lt⟩
        simpa using this
      rw [e2]

def cutR : List UInt8 := [48, 49, 50, 51, 52, 53, 54, 55, 56, 57, 97, 98, 99, 100, 101, 102, 103, 104, 105, 106, 107, 108, 109, 110, 111, 112, 113, 114, 115, 116, 117, 118, 119, 120, 121, 122, 65, 66, 67, 68, 69, 70, 71, 72, 73, 74, 75, 76, 77, 78, 79, 80, 81, 82, 83, 84, 85, 86, 87, 88, 89, 90, 46, 43, 126]
def cutU (e : Int) : List UInt8 := if 0 < e then cutR ++ [45, 58] else cutR ++ [45]
theorem cutR_ok : ∀ i : Fin 256, cutR.contains (UInt8.ofNat i.val) = VP.ok0 (UInt8.ofNat i.val) := by decide +kernel
theorem cutU1_ok : ∀ i : Fin 256, (cutR ++ [45, 58]).contains (UInt8.ofNat i.val) = (VP.ok0 (UInt8.ofNat i.val) || UInt8.ofNat i.val == 45 || (true && UInt8.ofNat i.val == 58)) := by decide +kernel
theorem cutU0_ok : ∀ i : Fin 256, (cutR ++ [45]).contains (UInt8.ofNat i.val) = (VP.ok0 (UInt8.ofNat i.val) || UInt8.ofNat i.val == 45 || (false && UInt8.ofNat i.val == 58)) := by decide +kernel
theorem cutU_ok (e : Int) (i : Fin 256) : (cutU e).contains (UInt8.ofNat i.val) = VP.ok1 e (UInt8.ofNat i.val) := by
  unfold cutU VP.ok1
  split
  · rename_i h
    rw [cutU1_ok, decide_eq_true h]
  · rename_i h
    rw [cutU0_ok, decide_eq_false h]
theorem cutR_asc : (cutR.all fun b => decide (b.toNat < 128)) = true := by decide
theorem cutU_asc (e : Int) : ((cutU e).all fun b => decide (b.toNat < 128)) = true := by unfold cutU; split <;> decide
theorem cutU_len (e : Int) : (cutU e).length < 1000 := by unfold cutU; split <;> decide

theorem indexByte_mem (l : List UInt8) (c : UInt8) : decide (0 ≤ Lib.indexByte l c) = l.contains c := by
  induction l with
  | nil => rfl
  | cons b l ih =>
    unfold Lib.indexByte
    rw [List.contains_cons]
    by_cases h : b = c
    · subst h; simp
    · have h1 : (b == c) = false := by simpa using h
      have h2 : (c == b) = false := by simpa using Ne.symm h
      rw [h1, h2, Bool.false_or, ← ih]
      simp only [Bool.false_eq_true, if_false]
      split
      · rename_i h3
        have h3' : Lib.indexByte l c = -1 := by simpa using h3
        rw [h3']
      · rename_i h3
        have h3' : Lib.indexByte l c ≠ -1 := by simpa using h3
        have := Lib.indexByte_ge l c
        rw [decide_eq_true (by omega), decide_eq_true (by omega)]

def hasDash (l : List UInt8) : Bool := l.contains 45

theorem call_dash (s : ByteArray) (w : World) : Calls Tryz.prog 142 #[.string s, .string ⟨#[45]⟩] w fun e w' => e = .returned (.bool (hasDash s.data.toList)) ∧ w = w' :=
  (Tryz.strings_Contains_one s 45 w).mono fun e w' ⟨he, hw⟩ => ⟨by rw [he, indexByte_mem]; rfl, hw.symm⟩

set_option maxRecDepth 100000 in
theorem right_early (e : Int) (u r : ByteArray) (w : World) (h : e < 0 ∨ 1000000000 ≤ e) :
    Calls Tryz.prog 65 #[.agg #[.int .i64 e, .string u, .string r]] w (RightIs e u r w) := by
  have hb0 := below_alloc w (.cells #[.int .i64 e, .string u, .string r] 23)
  have fin : ¬ VP.RightP e u.data.toList r.data.toList := fun H => by have := H.lo; have := H.hi; omega
  have F := Lib.hid fin
  clear fin
  rcases h with h | h
  · go_enter Tryz.func65, Tryz.ntmps65
    go_wp2
    go_ret
    exact right_no F.out hb0
  · go_enter Tryz.func65, Tryz.ntmps65
    go_wp2
    go_ret
    exact right_no F.out hb0

set_option maxRecDepth 100000 in
theorem right_empty (e : Int) (r : ByteArray) (w : World) (h0 : 0 ≤ e) (h1 : e < 1000000000) :
    Calls Tryz.prog 65 #[.agg #[.int .i64 e, .string ⟨#[]⟩, .string r]] w (RightIs e ⟨#[]⟩ r w) := by
  have hb0 := below_alloc w (.cells #[.int .i64 e, .string ⟨#[]⟩, .string r] 23)
  have fin : ¬ VP.RightP e (⟨#[]⟩ : ByteArray).data.toList r.data.toList := fun H => by have := H.st; simp [VP.startsDig] at this
  have F := Lib.hid fin
  clear fin
  have hp : 0 < e ∨ e ≤ 0 := by omega
  rcases hp with hp | hp
  all_goals
    go_enter Tryz.func65, Tryz.ntmps65
    go_wp2
    go_ret
    exact right_no F.out hb0

theorem startsDig_eq (u : ByteArray) (h : 0 < u.size) : VP.startsDig u.data.toList = VP.dig u[0] := by
  rw [list_cons u h]; rfl

set_option maxRecDepth 100000 in
theorem right_letter (e : Int) (u r : ByteArray) (w : World) (h0 : 0 ≤ e) (h1 : e < 1000000000) (hu : 0 < u.size) (hd : VP.dig u[0] = false) :
    Calls Tryz.prog 65 #[.agg #[.int .i64 e, .string u, .string r]] w (RightIs e u r w) := by
  have hb0 := below_alloc w (.cells #[.int .i64 e, .string u, .string r] 23)
  have fin : ¬ VP.RightP e u.data.toList r.data.toList := fun H => by have := H.st; rw [startsDig_eq u hu, hd] at this; cases this
  have F := Lib.hid fin
  have hi : ¬ 0 ≤ idxD u[0] := of_decide_eq_false ((idxD_dig u[0]).trans hd)
  have hne := isEmpty_false u hu
  clear fin hd
  have hp : 0 < e ∨ e ≤ 0 := by omega
  rcases hp with hp | hp
  all_goals
    go_enter Tryz.func65, Tryz.ntmps65
    go_wp2_with (go_at_call 140; refine (call_idxD _ _).mono ?_; rintro E w' ⟨rfl, rfl⟩)
    go_ret
    exact right_no F.out hb0

theorem right_len {e : Int} {u r t : ByteArray} (h0 : 0 ≤ e) (h1 : e < 1000000000) (hst : VP.startsDig u.data.toList = true) (ha : u.data.toList.all (VP.ok1 e) = true) (hr : r.data.toList.all VP.ok0 = true)
    (hd : 0 < r.size ∨ u.data.toList.contains 45 = false) (ht : t.data.toList = VP.printP e u.data.toList r.data.toList) : VP.rightP e u.data.toList r.data.toList = decide ((t.size : Int) ≤ 40) := by
  have hl := size_eq_length t
  rw [ht] at hl
  by_cases h : t.size ≤ 40
  · rw [decide_eq_true (by omega)]
    exact (VP.rightP_iff _ _ _).2 ⟨h0, h1, hst, ha, hr, hd.imp (fun h => printP_rev r h) (fun h => by simpa using h), by omega⟩
  · rw [decide_eq_false (by omega)]
    exact Bool.eq_false_iff.2 fun h' => by have := ((VP.rightP_iff _ _ _).1 h').len; omega

set_option maxRecDepth 100000 in
theorem right_main (e : Int) (u r : ByteArray) (w : World) (hE : Env w) (h0 : 0 ≤ e) (h1 : e < 1000000000) (hu : u.size ≤ 1000000) (hr : r.size ≤ 1000000) (hu0 : 0 < u.size) (hd : VP.dig u[0] = true) :
    Calls Tryz.prog 65 #[.agg #[.int .i64 e, .string u, .string r]] w (RightIs e u r w) := by
  have hb0 := below_alloc w (.cells #[.int .i64 e, .string u, .string r] 23)
  have hE1 := hE.below hb0
  have hst : Hid (VP.startsDig u.data.toList = true) := (startsDig_eq u hu0).trans hd
  have hi : 0 ≤ idxD u[0] := of_decide_eq_true ((idxD_dig u[0]).trans hd)
  have hne := isEmpty_false u hu0
  have P1 := Lib.hid (fun (cut : ByteArray) (h : cut.data.toList = cutU e) (w : World) => call_trimAll u cut (cutU e) (VP.ok1 e) w h (cutU_ok e) (cutU_asc e) (cutU_len e) hu)
  have P2 := Lib.hid (fun (cut : ByteArray) (h : cut.data.toList = cutR) (w : World) => call_trimAll r cut cutR VP.ok0 w h cutR_ok cutR_asc (by decide) hr)
  have P3 := Lib.hid (fun (w : World) (h : Env w) => print_calls e u r w h (by omega) (by omega) hu hr)
  have au : (u.data.toList.all (VP.ok1 e) = true) ∨ (u.data.toList.all (VP.ok1 e) = false) := by cases (u.data.toList.all (VP.ok1 e)) <;> simp
  have ar : (r.data.toList.all VP.ok0 = true) ∨ (r.data.toList.all VP.ok0 = false) := by cases (r.data.toList.all VP.ok0) <;> simp
  have er : (0 < r.size) ∨ (r.size = 0) := by omega
  have ad : (hasDash u.data.toList = true) ∨ (hasDash u.data.toList = false) := by cases (hasDash u.data.toList) <;> simp
  clear hE hd
  have hp : 0 < e ∨ e ≤ 0 := by omega
  rcases hp with hp | hp
  · have ecut := Lib.hid (show cutU e = cutR ++ [45, 58] by unfold cutU; rw [if_pos hp])
    go_enter Tryz.func65, Tryz.ntmps65
    go_wp2_with (go_at_call 140; refine (call_idxD _ _).mono ?_; rintro E w' ⟨rfl, rfl⟩)
    refine (P1.out _ (by rw [ecut.out]; first | (rw [append_data, append_data]; rfl) | (rw [append_data]; rfl)) _).mono ?_
    rintro E w1 ⟨t, rfl, ht, hb⟩
    have hB := step_below hb0 hb
    obtain ⟨c0, c1, c2⟩ := box3 hb
    replace hE1 := hE1.below hb
    clear hb
    rcases au with au | au
    · have ht' : t.toList.isEmpty = true := Eq.trans ht au
      have HA := Lib.hid au
      clear ht au
      go_wp2_with fail
      refine (P2.out _ (by rfl) _).mono ?_
      rintro E w1 ⟨t2, rfl, ht2, hb⟩
      replace hB := step_below hB hb
      replace c0 := kept hb c0
      replace c1 := kept hb c1
      replace c2 := kept hb c2
      replace hE1 := hE1.below hb
      clear hb
      rcases ar with ar | ar
      · have ht2' : t2.toList.isEmpty = true := Eq.trans ht2 ar
        have HR := Lib.hid ar
        clear ht2 ar
        rcases er with er | er
        · have hz := isEmpty_false r er
          have HER := Lib.hid er
          clear er
          go_wp2_with fail
          refine (P3.out _ hE1).mono ?_
          rintro E w1 ⟨t3, rfl, ht3, hb⟩
          replace hB := step_below hB hb
          clear hb
          have HT := Lib.hid ht3
          clear ht3
          go_wp2_with fail
          go_ret
          exact ⟨ret_bool (right_len h0 h1 hst.out HA.out HR.out (Or.inl HER.out) HT.out).symm, hB⟩
        · have hz := isEmpty_true r er
          have HER := Lib.hid er
          clear er
          rcases ad with ad | ad
          · have HD := Lib.hid ad
            go_wp2_with (go_at_call 142; refine (call_dash _ _).mono ?_; rintro E w' ⟨rfl, rfl⟩)
            go_ret
            exact right_no (fun H => by
              have := H.dash.resolve_left (fun h => h (by rw [eq_empty r HER.out]))
              exact this (by have h := HD.out; unfold hasDash at h; simpa using h)) hB
          · have HD := Lib.hid ad
            go_wp2_with (go_at_call 142; refine (call_dash _ _).mono ?_; rintro E w' ⟨rfl, rfl⟩)
            refine (P3.out _ hE1).mono ?_
            rintro E w1 ⟨t3, rfl, ht3, hb⟩
            replace hB := step_below hB hb
            clear hb
            have HT := Lib.hid ht3
            clear ht3
            go_wp2_with fail
            go_ret
            exact ⟨ret_bool (right_len h0 h1 hst.out HA.out HR.out (Or.inr (show u.data.toList.contains 45 = false from HD.out)) HT.out).symm, hB⟩
      · have ht2' : t2.toList.isEmpty = false := Eq.trans ht2 ar
        have HR := Lib.hid ar
        clear ht2 ar
        go_wp2_with fail
        go_ret
        exact right_no (fun H => by have := H.ar; rw [HR.out] at this; cases this) hB
    · have ht' : t.toList.isEmpty = false := Eq.trans ht au
      have HA := Lib.hid au
      clear ht au
      go_wp2_with fail
      go_ret
      exact right_no (fun H => by have := H.au; rw [HA.out] at this; cases this) hB
  · have ecut := Lib.hid (show cutU e = cutR ++ [45] by unfold cutU; rw [if_neg (by omega)])
    go_enter Tryz.func65, Tryz.ntmps65
    go_wp2_with (go_at_call 140; refine (call_idxD _ _).mono ?_; rintro E w' ⟨rfl, rfl⟩)
    refine (P1.out _ (by rw [ecut.out]; first | (rw [append_data, append_data]; rfl) | (rw [append_data]; rfl)) _).mono ?_
    rintro E w1 ⟨t, rfl, ht, hb⟩
    have hB := step_below hb0 hb
    obtain ⟨c0, c1, c2⟩ := box3 hb
    replace hE1 := hE1.below hb
    clear hb
    rcases au with au | au
    · have ht' : t.toList.isEmpty = true := Eq.trans ht au
      have HA := Lib.hid au
      clear ht au
      go_wp2_with fail
      refine (P2.out _ (by rfl) _).mono ?_
      rintro E w1 ⟨t2, rfl, ht2, hb⟩
      replace hB := step_below hB hb
      replace c0 := kept hb c0
      replace c1 := kept hb c1
      replace c2 := kept hb c2
      replace hE1 := hE1.below hb
      clear hb
      rcases ar with ar | ar
      · have ht2' : t2.toList.isEmpty = true := Eq.trans ht2 ar
        have HR := Lib.hid ar
        clear ht2 ar
        rcases er with er | er
        · have hz := isEmpty_false r er
          have HER := Lib.hid er
          clear er
          go_wp2_with fail
          refine (P3.out _ hE1).mono ?_
          rintro E w1 ⟨t3, rfl, ht3, hb⟩
          replace hB := step_below hB hb
          clear hb
          have HT := Lib.hid ht3
          clear ht3
          go_wp2_with fail
          go_ret
          exact ⟨ret_bool (right_len h0 h1 hst.out HA.out HR.out (Or.inl HER.out) HT.out).symm, hB⟩
        · have hz := isEmpty_true r er
          have HER := Lib.hid er
          clear er
          rcases ad with ad | ad
          · have HD := Lib.hid ad
            go_wp2_with (go_at_call 142; refine (call_dash _ _).mono ?_; rintro E w' ⟨rfl, rfl⟩)
            go_ret
            exact right_no (fun H => by
              have := H.dash.resolve_left (fun h => h (by rw [eq_empty r HER.out]))
              exact this (by have h := HD.out; unfold hasDash at h; simpa using h)) hB
          · have HD := Lib.hid ad
            go_wp2_with (go_at_call 142; refine (call_dash _ _).mono ?_; rintro E w' ⟨rfl, rfl⟩)
            refine (P3.out _ hE1).mono ?_
            rintro E w1 ⟨t3, rfl, ht3, hb⟩
            replace hB := step_below hB hb
            clear hb
            have HT := Lib.hid ht3
            clear ht3
            go_wp2_with fail
            go_ret
            exact ⟨ret_bool (right_len h0 h1 hst.out HA.out HR.out (Or.inr (show u.data.toList.contains 45 = false from HD.out)) HT.out).symm, hB⟩
      · have ht2' : t2.toList.isEmpty = false := Eq.trans ht2 ar
        have HR := Lib.hid ar
        clear ht2 ar
        go_wp2_with fail
        go_ret
        exact right_no (fun H => by have := H.ar; rw [HR.out] at this; cases this) hB
    · have ht' : t.toList.isEmpty = false := Eq.trans ht au
      have HA := Lib.hid au
      clear ht au
      go_wp2_with fail
      go_ret
      exact right_no (fun H => by have := H.au; rw [HA.out] at this; cases this) hB

theorem right_calls (e : Int) (u r : ByteArray) (w : World) (hE : Env w) (hu : u.size ≤ 1000000) (hr : r.size ≤ 1000000) :
    Calls Tryz.prog 65 #[.agg #[.int .i64 e, .string u, .string r]] w (RightIs e u r w) := by
  by_cases h : e < 0 ∨ 1000000000 ≤ e
  · exact right_early e u r w h
  · by_cases hu0 : u.size = 0
    · have := eq_empty u hu0
      subst this
      exact right_empty e r w (by omega) (by omega)
    · cases hd : VP.dig u[0] with
      | true => exact right_main e u r w hE (by omega) (by omega) hu hr (by omega) hd
      | false => exact right_letter e u r w (by omega) (by omega) (by omega) hd
end Go.Proofs.YtpbbhjifgaeklaaGreatDoor

namespace Go.Proofs.YtpbbhjifgaeklaaGreatDoor
open Go.RowKit

theorem index_one (c : UInt8) (l : List UInt8) : (VP.cutAt c l = none ∧ Lib.index l [c] = -1) ∨ ∃ a b, VP.cutAt c l = some (a, b) ∧ Lib.index l [c] = a.length := by
  induction l with
  | nil => exact .inl ⟨rfl, rfl⟩
  | cons x l ih =>
    by_cases hx : x = c
    · subst hx
      exact .inr ⟨[], l, by simp [VP.cutAt], by simp [Lib.index, List.isPrefixOf]⟩
    · have hp : List.isPrefixOf [c] (x :: l) = false := by
        simp only [List.isPrefixOf, Bool.and_true]
        simpa using Ne.symm hx
      rcases ih with ⟨h1, h2⟩ | ⟨a, b, h1, h2⟩
      · refine .inl ⟨by simp [VP.cutAt, hx, h1], ?_⟩
        unfold Lib.index
        rw [hp, h2]
        rfl
      · refine .inr ⟨x :: a, b, by simp [VP.cutAt, hx, h1], ?_⟩
        unfold Lib.index
        rw [hp, h2]
        have : ((a.length : Int) == -1) = false := by rw [beq_eq_false_iff_ne]; omega
        rw [this]
        simp

theorem cut_one (c : UInt8) (l : List UInt8) : Lib.cut l [c] = match VP.cutAt c l with | none => (l, [], false) | some (a, b) => (a, b, true) := by
  unfold Lib.cut
  rcases index_one c l with ⟨h1, h2⟩ | ⟨a, b, h1, h2⟩
  · rw [h1, h2, if_neg (by omega)]
  · rw [h1, h2, if_pos (by omega)]
    obtain ⟨e, _⟩ := VP.cutAt_some h1
    subst e
    simp

theorem call_cut_none (s : ByteArray) (w : World) (hE : Env w) (hs : s.size ≤ 1000000) (h : VP.cutAt 58 s.data.toList = none) :
    Calls Tryz.prog 137 #[.string s, .string ⟨#[58]⟩] w fun e w' => e = .returned (.tuple #[.string s, .string ⟨#[]⟩, .bool false]) ∧ Below w.heap.size w w' := by
  obtain ⟨⟨m, hm⟩, _⟩ := hE
  refine (Tryz.strings_Cut s ⟨#[58]⟩ m w (by omega) hm).mono fun e w' ⟨he, n, hw⟩ => ⟨?_, by rw [hw]; exact below_drewN _ _ _⟩
  rw [he]
  have e1 : (⟨#[58]⟩ : ByteArray).data.toList = [58] := rfl
  rw [e1, cut_one, h]

theorem call_cut_some (s : ByteArray) (w : World) (hE : Env w) (hs : s.size ≤ 1000000) (a b : List UInt8) (h : VP.cutAt 58 s.data.toList = some (a, b)) :
    Calls Tryz.prog 137 #[.string s, .string ⟨#[58]⟩] w fun e w' => ∃ A B : ByteArray, e = .returned (.tuple #[.string A, .string B, .bool true]) ∧ A.data.toList = a ∧ B.data.toList = b ∧ Below w.heap.size w w' := by
  obtain ⟨⟨m, hm⟩, _⟩ := hE
  refine (Tryz.strings_Cut s ⟨#[58]⟩ m w (by omega) hm).mono fun e w' ⟨he, n, hw⟩ => ⟨⟨a.toArray⟩, ⟨b.toArray⟩, ?_, rfl, rfl, by rw [hw]; exact below_drewN _ _ _⟩
  rw [he]
  have e1 : (⟨#[58]⟩ : ByteArray).data.toList = [58] := rfl
  rw [e1, cut_one, h]

/-- where the last of a byte stands -/
theorem last_some {s : ByteArray} {a b : List UInt8} (c : UInt8) (h : VP.cutEnd c s.data.toList = some (a, b)) : Lib.lastIndexByte s (c.toNat : Int) = a.length := by
  obtain ⟨e, hn⟩ := VP.cutEnd_some h
  have hl := size_eq_length s
  have at_ : ∀ j, j < s.size → s.data.toList[j]? = some (s.data[j]!) := fun j hj => by
    have : j < s.data.size := hj
    simp [getElem!_pos s.data j this]
  rcases Lib.lastIndexByte_spec s (c.toNat : Int) with ⟨_, h2⟩ | ⟨i, hi, h1, h2, h3⟩
  · have hj : a.length < s.size := by rw [hl, e]; simp
    have h4 := at_ a.length hj
    rw [e] at h4
    simp at h4
    have := h2 a.length hj
    rw [← h4] at this
    exact absurd rfl this
  · rw [h1]
    have hj : a.length < s.size := by rw [hl, e]; simp
    have h4 := at_ a.length hj
    rw [e] at h4
    simp at h4
    have h5 := at_ i hi
    have hc : s.data[i]! = c := UInt8.toNat_inj.1 (by omega)
    rw [hc, e] at h5
    rcases Nat.lt_trichotomy i a.length with h6 | h6 | h6
    · have := h3 a.length h6 hj
      rw [← h4] at this
      exact absurd rfl this
    · omega
    · exfalso
      rw [List.getElem?_append_right (by omega)] at h5
      obtain ⟨k, hk⟩ : ∃ k, i - a.length = k + 1 := ⟨i - a.length - 1, by omega⟩
      rw [hk, List.getElem?_cons_succ] at h5
      exact hn (List.mem_of_getElem? h5)

theorem last_none {s : ByteArray} (c : UInt8) (h : VP.cutEnd c s.data.toList = none) : Lib.lastIndexByte s (c.toNat : Int) = -1 := by
  have hn := (VP.cutEnd_none c s.data.toList).1 h
  rcases Lib.lastIndexByte_spec s (c.toNat : Int) with ⟨h1, _⟩ | ⟨i, hi, _, h2, _⟩
  · exact h1
  · exfalso
    have hc : s.data[i]! = c := UInt8.toNat_inj.1 (by omega)
    have hi' : i < s.data.size := hi
    rw [getElem!_pos s.data i hi'] at hc
    exact hn (by rw [← hc]; simp)

theorem call_last_some (s : ByteArray) (w : World) (hs : s.size ≤ 1000000) (a b : List UInt8) (h : VP.cutEnd 45 s.data.toList = some (a, b)) :
    Calls Tryz.prog 139 #[.string s, .int .u8 45] w fun e w' => e = .returned (.int .i64 (a.length : Int)) ∧ w = w' :=
  (Tryz.strings_LastIndexByte s 45 (by omega) w).mono fun e w' ⟨he, hw⟩ => ⟨by rw [he]; exact congrArg (fun n : Int => Ending.returned (.int .i64 n)) (last_some 45 h), hw.symm⟩
theorem call_last_none (s : ByteArray) (w : World) (hs : s.size ≤ 1000000) (h : VP.cutEnd 45 s.data.toList = none) :
    Calls Tryz.prog 139 #[.string s, .int .u8 45] w fun e w' => e = .returned (.int .i64 (-1)) ∧ w = w' :=
  (Tryz.strings_LastIndexByte s 45 (by omega) w).mono fun e w' ⟨he, hw⟩ => ⟨by rw [he]; exact congrArg (fun n : Int => Ending.returned (.int .i64 n)) (last_none 45 h), hw.symm⟩
end Go.Proofs.YtpbbhjifgaeklaaGreatDoor

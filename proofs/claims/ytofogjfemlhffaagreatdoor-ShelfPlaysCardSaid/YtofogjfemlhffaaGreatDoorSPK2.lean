/- version.Right: whether a version may be. · What version.Parse calls, in our words: a text cut at its first colon, and at its last dash. · version.Parse: the version that a text is, or that it is none. · keep.short: is a version short enough to be held. · What the laws share: short; and a call's contract as a word. · The reference's small functions on bytes and numbers. · The reference's Print, Number: they are the program's. -/
import Derived.Test.YtofogjfemlhffaaGreatDoorSPK1
namespace Go.Proofs.YtofogjfemlhffaaGreatDoor
open Go.RowKit

def RightIs (e : Int) (u r : ByteArray) (w : World) (E : Ending) (w' : World) : Prop := E = .returned (.bool (VP.rightP e u.data.toList r.data.toList)) ∧ Below w.heap.size w w'

theorem right_no {e : Int} {u r : ByteArray} {w w' : World} (h : ¬ VP.RightP e u.data.toList r.data.toList) (hb : Below w.heap.size w w') : RightIs e u r w (.returned (.bool false)) w' := by
  refine ⟨?_, hb⟩
  have : VP.rightP e u.data.toList r.data.toList = false := Bool.eq_false_iff.2 fun h' => h ((VP.rightP_iff _ _ _).1 h')
  rw [this]

/-- what is left behind the blanks of a kind is nothing -/
def Cleared (p : UInt8 → Bool) (s t : ByteArray) : Prop := t.toList.isEmpty = s.data.toList.all p

theorem dropWhile_nil (p : UInt8 → Bool) (l : List UInt8) : (l.dropWhile p).isEmpty = l.all p := by
  induction l with
  | nil => rfl
  | cons c l ih =>
    rw [List.dropWhile_cons, List.all_cons]
    cases hc : p c with
    | true => simpa using ih
    | false => simp
theorem trimS_nil (l cs : List UInt8) : (Lib.trimS l cs).isEmpty = l.all (cs.contains ·) := by
  unfold Lib.trimS Lib.trimLeftS
  rw [dropWhile_nil]
  unfold Lib.trimRightS
  rw [List.all_reverse]
  have key : ∀ m : List UInt8, (m.dropWhile (cs.contains ·)).all (cs.contains ·) = m.all (cs.contains ·) := by
    intro m
    induction m with
    | nil => rfl
    | cons c m ih =>
      rw [List.dropWhile_cons, List.all_cons]
      cases hc : cs.contains c with
      | true => simpa using ih
      | false => simp only [Bool.false_eq_true, if_false, List.all_cons, hc, Bool.false_and]
  rw [key, List.all_reverse]

theorem call_trimAll (s cut : ByteArray) (l : List UInt8) (p : UInt8 → Bool) (w : World) (hl : cut.data.toList = l) (hp : ∀ i : Fin 256, l.contains (UInt8.ofNat i.val) = p (UInt8.ofNat i.val))
    (hasc : (l.all fun b => decide (b.toNat < 128)) = true) (hlen : l.length < 1000) (hs : s.size ≤ 1000000) :
    Calls Tryz.prog 113 #[.string s, .string cut] w fun e w' => ∃ t : ByteArray, e = .returned (.string t) ∧ Cleared p s t ∧ Below w.heap.size w w' :=
  (Any.strings_Trim_laid Tryz.lays160 info_set s cut w (by omega) (by rw [size_eq_length, hl]; omega) (fun j b h => by
    have hm : b ∈ l := hl ▸ List.mem_of_getElem? h
    simpa using List.all_eq_true.1 hasc b hm)).mono fun e w' ⟨he, hb⟩ => by
      refine ⟨_, he, ?_, hb⟩
      unfold Cleared
      rw [Lib.toList_data]
      have e1 : (⟨(Lib.trimS s.data.toList cut.data.toList).toArray⟩ : ByteArray).data.toList = Lib.trimS s.data.toList cut.data.toList := rfl
      rw [e1, trimS_nil, hl]
      have e2 : (fun c => l.contains c) = p := by
        funext c
        have := hp ⟨c.toNat, c.toNat_lt⟩
        simpa using this
      rw [e2]

def cutR : List UInt8 := [48, 49, 50, 51, 52, 53, 54, 55, 56, 57, 97, 98, 99, 100, 101, 102, 103, 104, 105, 106, 107, 108, 109, 110, 111, 112, 113, 114, 115, 116, 117, 118, 119, 120, 121, 122, 65, 66, 67, 68, 69, 70, 71, 72, 73, 74, 75, 76, 77, 78, 79, 80, 81, 82, 83, 84, 85, 86, 87, 88, 89, 90, 46, 43, 126]
def cutU (e : Int) : List UInt8 := if 0 < e then cutR ++ [45, 58] else cutR ++ [45]
theorem cutR_ok : ∀ i : Fin 256, cutR.contains (UInt8.ofNat i.val) = VP.ok0 (UInt8.ofNat i.val) := by decide +kernel
theorem cutU1_ok : ∀ i : Fin 256, (cutR ++ [45, 58]).contains (UInt8.ofNat i.val) = (VP.ok0 (UInt8.ofNat i.val) || UInt8.ofNat i.val == 45 || (true && UInt8.ofNat i.val == 58)) := by decide +kernel
theorem cutU0_ok : ∀ i : Fin 256, (cutR ++ [45]).contains (UInt8.ofNat i.val) = (VP.ok0 (UInt8.ofNat i.val) || UInt8.ofNat i.val == 45 || (false && UInt8.ofNat i.val == 58)) := by decide +kernel
theorem cutU_ok (e : Int) (i : Fin 256) : (cutU e).contains (UInt8.ofNat i.val) = VP.ok1 e (UInt8.ofNat i.val) := by
  unfold cutU VP.ok1
  split
  · rename_i h
    rw [cutU1_ok, decide_eq_true h]
  · rename_i h
    rw [cutU0_ok, decide_eq_false h]
theorem cutR_asc : (cutR.all fun b => decide (b.toNat < 128)) = true := by decide
theorem cutU_asc (e : Int) : ((cutU e).all fun b => decide (b.toNat < 128)) = true := by unfold cutU; split <;> decide
theorem cutU_len (e : Int) : (cutU e).length < 1000 := by unfold cutU; split <;> decide

theorem indexByte_mem (l : List UInt8) (c : UInt8) : decide (0 ≤ Lib.indexByte l c) = l.contains c := by
  induction l with
  | nil => rfl
  | cons b l ih =>
    unfold Lib.indexByte
    rw [List.contains_cons]
    by_cases h : b = c
    · subst h; simp
    · have h1 : (b == c) = false := by simpa using h
      have h2 : (c == b) = false := by simpa using Ne.symm h
      rw [h1, h2, Bool.false_or, ← ih]
      simp only [Bool.false_eq_true, if_false]
      split
      · rename_i h3
        have h3' : Lib.indexByte l c = -1 := by simpa using h3
        rw [h3']
      · rename_i h3
        have h3' : Lib.indexByte l c ≠ -1 := by simpa using h3
        have := Lib.indexByte_ge l c
        rw [decide_eq_true (by omega), decide_eq_true (by omega)]

def hasDash (l : List UInt8) : Bool := l.contains 45

theorem call_dash (s : ByteArray) (w : World) : Calls Tryz.prog 114 #[.string s, .string ⟨#[45]⟩] w fun e w' => e = .returned (.bool (hasDash s.data.toList)) ∧ w = w' :=
  (Tryz.strings_Contains_one s 45 w).mono fun e w' ⟨he, hw⟩ => ⟨by rw [he, indexByte_mem]; rfl, hw.symm⟩

set_option maxRecDepth 100000 in
theorem right_early (e : Int) (u r : ByteArray) (w : World) (h : e < 0 ∨ 1000000000 ≤ e) :
    Calls Tryz.prog 79 #[.agg #[.int .i64 e, .string u, .string r]] w (RightIs e u r w) := by
  have hb0 := below_alloc w (.cells #[.int .i64 e, .string u, .string r] 37)
  have fin : ¬ VP.RightP e u.data.toList r.data.toList := fun H => by have := H.lo; have := H.hi; omega
  have F := Lib.hid fin
  clear fin
  rcases h with h | h
  · go_enter Tryz.func79, Tryz.ntmps79
    go_wp2
    go_ret
    exact right_no F.out hb0
  · go_enter Tryz.func79, Tryz.ntmps79
    go_wp2
    go_ret
    exact right_no F.out hb0

set_option maxRecDepth 100000 in
theorem right_empty (e : Int) (r : ByteArray) (w : World) (h0 : 0 ≤ e) (h1 : e < 1000000000) :
    Calls Tryz.prog 79 #[.agg #[.int .i64 e, .string ⟨#[]⟩, .string r]] w (RightIs e ⟨#[]⟩ r w) := by
  have hb0 := below_alloc w (.cells #[.int .i64 e, .string ⟨#[]⟩, .string r] 37)
  have fin : ¬ VP.RightP e (⟨#[]⟩ : ByteArray).data.toList r.data.toList := fun H => by have := H.st; simp [VP.startsDig] at this
  have F := Lib.hid fin
  clear fin
  have hp : 0 < e ∨ e ≤ 0 := by omega
  rcases hp with hp | hp
  all_goals
    go_enter Tryz.func79, Tryz.ntmps79
    go_wp2
    go_ret
    exact right_no F.out hb0

theorem startsDig_eq (u : ByteArray) (h : 0 < u.size) : VP.startsDig u.data.toList = VP.dig u[0] := by
  rw [list_cons u h]; rfl

set_option maxRecDepth 100000 in
theorem right_letter (e : Int) (u r : ByteArray) (w : World) (h0 : 0 ≤ e) (h1 : e < 1000000000) (hu : 0 < u.size) (hd : VP.dig u[0] = false) :
    Calls Tryz.prog 79 #[.agg #[.int .i64 e, .string u, .string r]] w (RightIs e u r w) := by
  have hb0 := below_alloc w (.cells #[.int .i64 e, .string u, .string r] 37)
  have fin : ¬ VP.RightP e u.data.toList r.data.toList := fun H => by have := H.st; rw [startsDig_eq u hu, hd] at this; cases this
  have F := Lib.hid fin
  have hi : ¬ 0 ≤ idxD u[0] := of_decide_eq_false ((idxD_dig u[0]).trans hd)
  have hne := isEmpty_false u hu
  clear fin hd
  have hp : 0 < e ∨ e ≤ 0 := by omega
  rcases hp with hp | hp
  all_goals
    go_enter Tryz.func79, Tryz.ntmps79
    go_wp2_with (go_at_call 112; refine (call_idxD _ _).mono ?_; rintro E w' ⟨rfl, rfl⟩)
    go_ret
    exact right_no F.out hb0

theorem right_len {e : Int} {u r t : ByteArray} (h0 : 0 ≤ e) (h1 : e < 1000000000) (hst : VP.startsDig u.data.toList = true) (ha : u.data.toList.all (VP.ok1 e) = true) (hr : r.data.toList.all VP.ok0 = true)
    (hd : 0 < r.size ∨ u.data.toList.contains 45 = false) (ht : t.data.toList = VP.printP e u.data.toList r.data.toList) : VP.rightP e u.data.toList r.data.toList = decide ((t.size : Int) ≤ 40) := by
  have hl := size_eq_length t
  rw [ht] at hl
  by_cases h : t.size ≤ 40
  · rw [decide_eq_true (by omega)]
    exact (VP.rightP_iff _ _ _).2 ⟨h0, h1, hst, ha, hr, hd.imp (fun h => printP_rev r h) (fun h => by simpa using h), by omega⟩
  · rw [decide_eq_false (by omega)]
    exact Bool.eq_false_iff.2 fun h' => by have := ((VP.rightP_iff _ _ _).1 h').len; omega

set_option maxRecDepth 100000 in
theorem right_main (e : Int) (u r : ByteArray) (w : World) (hE : Env w) (h0 : 0 ≤ e) (h1 : e < 1000000000) (hu : u.size ≤ 1000000) (hr : r.size ≤ 1000000) (hu0 : 0 < u.size) (hd : VP.dig u[0] = true) :
    Calls Tryz.prog 79 #[.agg #[.int .i64 e, .string u, .string r]] w (RightIs e u r w) := by
  have hb0 := below_alloc w (.cells #[.int .i64 e, .string u, .string r] 37)
  have hE1 := hE.below hb0
  have hst : Hid (VP.startsDig u.data.toList = true) := (startsDig_eq u hu0).trans hd
  have hi : 0 ≤ idxD u[0] := of_decide_eq_true ((idxD_dig u[0]).trans hd)
  have hne := isEmpty_false u hu0
  have P1 := Lib.hid (fun (cut : ByteArray) (h : cut.data.toList = cutU e) (w : World) => call_trimAll u cut (cutU e) (VP.ok1 e) w h (cutU_ok e) (cutU_asc e) (cutU_len e) hu)
  have P2 := Lib.hid (fun (cut : ByteArray) (h : cut.data.toList = cutR) (w : World) => call_trimAll r cut cutR VP.ok0 w h cutR_ok cutR_asc (by decide) hr)
  have P3 := Lib.hid (fun (w : World) (h : Env w) => print_calls e u r w h (by omega) (by omega) hu hr)
  have au : (u.data.toList.all (VP.ok1 e) = true) ∨ (u.data.toList.all (VP.ok1 e) = false) := by cases (u.data.toList.all (VP.ok1 e)) <;> simp
  have ar : (r.data.toList.all VP.ok0 = true) ∨ (r.data.toList.all VP.ok0 = false) := by cases (r.data.toList.all VP.ok0) <;> simp
  have er : (0 < r.size) ∨ (r.size = 0) := by omega
  have ad : (hasDash u.data.toList = true) ∨ (hasDash u.data.toList = false) := by cases (hasDash u.data.toList) <;> simp
  clear hE hd
  have hp : 0 < e ∨ e ≤ 0 := by omega
  rcases hp with hp | hp
  · have ecut := Lib.hid (show cutU e = cutR ++ [45, 58] by unfold cutU; rw [if_pos hp])
    go_enter Tryz.func79, Tryz.ntmps79
    go_wp2_with (go_at_call 112; refine (call_idxD _ _).mono ?_; rintro E w' ⟨rfl, rfl⟩)
    refine (P1.out _ (by rw [ecut.out]; first | (rw [append_data, append_data]; rfl) | (rw [append_data]; rfl)) _).mono ?_
    rintro E w1 ⟨t, rfl, ht, hb⟩
    have hB := step_below hb0 hb
    obtain ⟨c0, c1, c2⟩ := box3 hb
    replace hE1 := hE1.below hb
    clear hb
    rcases au with au | au
    · have ht' : t.toList.isEmpty = true := Eq.trans ht au
      have HA := Lib.hid au
      clear ht au
      go_wp2_with fail
      refine (P2.out _ (by rfl) _).mono ?_
      rintro E w1 ⟨t2, rfl, ht2, hb⟩
      replace hB := step_below hB hb
      replace c0 := kept hb c0
      replace c1 := kept hb c1
      replace c2 := kept hb c2
      replace hE1 := hE1.below hb
      clear hb
      rcases ar with ar | ar
      · have ht2' : t2.toList.isEmpty = true := Eq.trans ht2 ar
        have HR := Lib.hid ar
        clear ht2 ar
        rcases er with er | er
        · have hz := isEmpty_false r er
          have HER := Lib.hid er
          clear er
          go_wp2_with fail
          refine (P3.out _ hE1).mono ?_
          rintro E w1 ⟨t3, rfl, ht3, hb⟩
          replace hB := step_below hB hb
          clear hb
          have HT := Lib.hid ht3
          clear ht3
          go_wp2_with fail
          go_ret
          exact ⟨ret_bool (right_len h0 h1 hst.out HA.out HR.out (Or.inl HER.out) HT.out).symm, hB⟩
        · have hz := isEmpty_true r er
          have HER := Lib.hid er
          clear er
          rcases ad with ad | ad
          · have HD := Lib.hid ad
            go_wp2_with (go_at_call 114; refine (call_dash _ _).mono ?_; rintro E w' ⟨rfl, rfl⟩)
            go_ret
            exact right_no (fun H => by
              have := H.dash.resolve_left (fun h => h (by rw [eq_empty r HER.out]))
              exact this (by have h := HD.out; unfold hasDash at h; simpa using h)) hB
          · have HD := Lib.hid ad
            go_wp2_with (go_at_call 114; refine (call_dash _ _).mono ?_; rintro E w' ⟨rfl, rfl⟩)
            refine (P3.out _ hE1).mono ?_
            rintro E w1 ⟨t3, rfl, ht3, hb⟩
            replace hB := step_below hB hb
            clear hb
            have HT := Lib.hid ht3
            clear ht3
            go_wp2_with fail
            go_ret
            exact ⟨ret_bool (right_len h0 h1 hst.out HA.out HR.out (Or.inr (show u.data.toList.contains 45 = false from HD.out)) HT.out).symm, hB⟩
      · have ht2' : t2.toList.isEmpty = false := Eq.trans ht2 ar
        have HR := Lib.hid ar
        clear ht2 ar
        go_wp2_with fail
        go_ret
        exact right_no (fun H => by have := H.ar; rw [HR.out] at this; cases this) hB
    · have ht' : t.toList.isEmpty = false := Eq.trans ht au
      have HA := Lib.hid au
      clear ht au
      go_wp2_with fail
      go_ret
      exact right_no (fun H => by have := H.au; rw [HA.out] at this; cases this) hB
  · have ecut := Lib.hid (show cutU e = cutR ++ [45] by unfold cutU; rw [if_neg (by omega)])
    go_enter Tryz.func79, Tryz.ntmps79
    go_wp2_with (go_at_call 112; refine (call_idxD _ _).mono ?_; rintro E w' ⟨rfl, rfl⟩)
    refine (P1.out _ (by rw [ecut.out]; first | (rw [append_data, append_data]; rfl) | (rw [append_data]; rfl)) _).mono ?_
    rintro E w1 ⟨t, rfl, ht, hb⟩
    have hB := step_below hb0 hb
    obtain ⟨c0, c1, c2⟩ := box3 hb
    replace hE1 := hE1.below hb
    clear hb
    rcases au with au | au
    · have ht' : t.toList.isEmpty = true := Eq.trans ht au
      have HA := Lib.hid au
      clear ht au
      go_wp2_with fail
      refine (P2.out _ (by rfl) _).mono ?_
      rintro E w1 ⟨t2, rfl, ht2, hb⟩
      replace hB := step_below hB hb
      replace c0 := kept hb c0
      replace c1 := kept hb c1
      replace c2 := kept hb c2
      replace hE1 := hE1.below hb
      clear hb
      rcases ar with ar | ar
      · have ht2' : t2.toList.isEmpty = true := Eq.trans ht2 ar
        have HR := Lib.hid ar
        clear ht2 ar
        rcases er with er | er
        · have hz := isEmpty_false r er
          have HER := Lib.hid er
          clear er
          go_wp2_with fail
          refine (P3.out _ hE1).mono ?_
          rintro E w1 ⟨t3, rfl, ht3, hb⟩
          replace hB := step_below hB hb
          clear hb
          have HT := Lib.hid ht3
          clear ht3
          go_wp2_with fail
          go_ret
          exact ⟨ret_bool (right_len h0 h1 hst.out HA.out HR.out (Or.inl HER.out) HT.out).symm, hB⟩
        · have hz := isEmpty_true r er
          have HER := Lib.hid er
          clear er
          rcases ad with ad | ad
          · have HD := Lib.hid ad
            go_wp2_with (go_at_call 114; refine (call_dash _ _).mono ?_; rintro E w' ⟨rfl, rfl⟩)
            go_ret
            exact right_no (fun H => by
              have := H.dash.resolve_left (fun h => h (by rw [eq_empty r HER.out]))
              exact this (by have h := HD.out; unfold hasDash at h; simpa using h)) hB
          · have HD := Lib.hid ad
            go_wp2_with (go_at_call 114; refine (call_dash _ _).mono ?_; rintro E w' ⟨rfl, rfl⟩)
            refine (P3.out _ hE1).mono ?_
            rintro E w1 ⟨t3, rfl, ht3, hb⟩
            replace hB := step_below hB hb
            clear hb
            have HT := Lib.hid ht3
            clear ht3
            go_wp2_with fail
            go_ret
            exact ⟨ret_bool (right_len h0 h1 hst.out HA.out HR.out (Or.inr (show u.data.toList.contains 45 = false from HD.out)) HT.out).symm, hB⟩
      · have ht2' : t2.toList.isEmpty = false := Eq.trans ht2 ar
        have HR := Lib.hid ar
        clear ht2 ar
        go_wp2_with fail
        go_ret
        exact right_no (fun H => by have := H.ar; rw [HR.out] at this; cases this) hB
    · have ht' : t.toList.isEmpty = false := Eq.trans ht au
      have HA := Lib.hid au
      clear ht au
      go_wp2_with fail
      go_ret
      exact right_no (fun H => by have := H.au; rw [HA.out] at this; cases this) hB

theorem right_calls (e : Int) (u r : ByteArray) (w : World) (hE : Env w) (hu : u.size ≤ 1000000) (hr : r.size ≤ 1000000) :
    Calls Tryz.prog 79 #[.agg #[.int .i64 e, .string u, .string r]] w (RightIs e u r w) := by
  by_cases h : e < 0 ∨ 1000000000 ≤ e
  · exact right_early e u r w h
  · by_cases hu0 : u.size = 0
    · have := eq_empty u hu0
      subst this
      exact right_empty e r w (by omega) (by omega)
    · cases hd : VP.dig u[0] with
      | true => exact right_main e u r w hE (by omega) (by omega) hu hr (by omega) hd
      | false => exact right_letter e u r w (by omega) (by omega) (by omega) hd
end Go.Proofs.YtofogjfemlhffaaGreatDoor

namespace Go.Proofs.YtofogjfemlhffaaGreatDoor
open Go.RowKit

theorem index_one (c : UInt8) (l : List UInt8) : (VP.cutAt c l = none ∧ Lib.index l [c] = -1) ∨ ∃ a b, VP.cutAt c l = some (a, b) ∧ Lib.index l [c] = a.length := by
  induction l with
  | nil => exact .inl ⟨rfl, rfl⟩
  | cons x l ih =>
    by_cases hx : x = c
    · subst hx
      exact .inr ⟨[], l, by simp [VP.cutAt], by simp [Lib.index, List.isPrefixOf]⟩
    · have hp : List.isPrefixOf [c] (x :: l) = false := by
        simp only [List.isPrefixOf, Bool.and_true]
        simpa using Ne.symm hx
      rcases ih with ⟨h1, h2⟩ | ⟨a, b, h1, h2⟩
      · refine .inl ⟨by simp [VP.cutAt, hx, h1], ?_⟩
        unfold Lib.index
        rw [hp, h2]
        rfl
      · refine .inr ⟨x :: a, b, by simp [VP.cutAt, hx, h1], ?_⟩
        unfold Lib.index
        rw [hp, h2]
        have : ((a.length : Int) == -1) = false := by rw [beq_eq_false_iff_ne]; omega
        rw [this]
        simp

end Go.Proofs.YtofogjfemlhffaaGreatDoor

namespace Go.Proofs.YtofogjfemlhffaaGreatDoor
open Go.RowKit

theorem keptf {w w1 : World} {p : Addr} (hb : Below w.heap.size w w1) (hp : p.block < w.heap.size) (h : w.frozen? p = false) : w1.frozen? p = false := (hb.frozen hp).trans h

end Go.Proofs.YtofogjfemlhffaaGreatDoor

namespace Go.Proofs.YtofogjfemlhffaaGreatDoor
open Go.RowKit

def shortB (u r : ByteArray) : Bool := decide (u.size ≤ 100) && decide (r.size ≤ 100)

def BoolIs (b : Bool) (w : World) (E : Ending) (w' : World) : Prop := E = .returned (.bool b) ∧ Below w.heap.size w w'

end Go.Proofs.YtofogjfemlhffaaGreatDoor

namespace Go.Proofs.YtofogjfemlhffaaGreatDoor
open Go.RowKit

/-- from any world that has grown out of w, this call returns v, and the world grows -/
def Gives (w : World) (f : Nat) (args : Array Value) (v : Value) : Prop :=
  ∀ W, Below w.heap.size w W → Calls Tryz.prog f args W fun E W' => E = .returned v ∧ Below W.heap.size W W'
theorem Gives.at {w : World} {f : Nat} {args : Array Value} {v : Value} (h : Gives w f args v) (W : World) (hb : Below w.heap.size w W) : Calls Tryz.prog f args W fun E W' => E = .returned v ∧ Below W.heap.size W W' := h W hb

set_option maxRecDepth 100000 in
theorem lawShort_calls (e : Int) (u r : ByteArray) (w : World) :
    Calls Tryz.prog 20 #[.agg #[.int .i64 e, .string u, .string r]] w (BoolIs (shortB u r) w) := by
  have hb0 := below_alloc w (.cells #[.int .i64 e, .string u, .string r] 37)
  by_cases h1 : u.size ≤ 100
  · by_cases h2 : r.size ≤ 100
    · have F := Lib.hid (show shortB u r = true by unfold shortB; simp [h1, h2])
      go_enter Tryz.func20, Tryz.ntmps20
      go_wp2
      go_ret
      exact ⟨ret_bool (by rw [F.out] <;> simp <;> omega), hb0⟩
    · have F := Lib.hid (show shortB u r = false by unfold shortB; simp [h2])
      go_enter Tryz.func20, Tryz.ntmps20
      go_wp2
      go_ret
      exact ⟨ret_bool (by rw [F.out] <;> simp <;> omega), hb0⟩
  · have F := Lib.hid (show shortB u r = false by unfold shortB; simp [h1])
    go_enter Tryz.func20, Tryz.ntmps20
    go_wp2
    go_ret
    exact ⟨ret_bool (by rw [F.out] <;> simp <;> omega), hb0⟩
end Go.Proofs.YtofogjfemlhffaaGreatDoor

namespace Go.Proofs.YtofogjfemlhffaaGreatDoor
open Go.RowKit

def inB (n lo hi : Int) : Bool := decide (lo ≤ n) && decide (n ≤ hi)

theorem in_calls (n lo hi : Int) (w : World) : Calls Tryz.prog 95 #[.int .i64 n, .int .i64 lo, .int .i64 hi] w fun e w' => e = .returned (.bool (inB n lo hi)) ∧ w = w' := by
  by_cases h1 : lo ≤ n
  · by_cases h2 : n ≤ hi
    · have F := Lib.hid (show inB n lo hi = true by unfold inB; simp [h1, h2])
      go_enter Tryz.func95, Tryz.ntmps95
      go_wp2
      go_ret
      exact ⟨ret_bool (by rw [F.out] <;> simp <;> omega), rfl⟩
    · have F := Lib.hid (show inB n lo hi = false by unfold inB; simp [h2])
      go_enter Tryz.func95, Tryz.ntmps95
      go_wp2
      go_ret
      exact ⟨ret_bool (by rw [F.out] <;> simp <;> omega), rfl⟩
  · have F := Lib.hid (show inB n lo hi = false by unfold inB; simp [h1])
    go_enter Tryz.func95, Tryz.ntmps95
    go_wp2
    go_ret
    exact ⟨ret_bool (by rw [F.out] <;> simp <;> omega), rfl⟩

theorem digit_calls (c : UInt8) (w : World) : Calls Tryz.prog 96 #[.int .u8 (c.toNat : Int)] w fun e w' => e = .returned (.bool (VP.dig c)) ∧ w = w' := by
  have hb : c.toNat < 256 := c.toNat_lt
  by_cases h1 : 48 ≤ c.toNat
  · by_cases h2 : c.toNat ≤ 57
    · have F := Lib.hid (show VP.dig c = true by unfold VP.dig; simp [h1, h2])
      go_enter Tryz.func96, Tryz.ntmps96
      go_wp2
      go_ret
      exact ⟨ret_bool (by rw [F.out] <;> simp <;> omega), rfl⟩
    · have F := Lib.hid (show VP.dig c = false by unfold VP.dig; simp; omega)
      go_enter Tryz.func96, Tryz.ntmps96
      go_wp2
      go_ret
      exact ⟨ret_bool (by rw [F.out] <;> simp <;> omega), rfl⟩
  · have F := Lib.hid (show VP.dig c = false by unfold VP.dig; simp; omega)
    go_enter Tryz.func96, Tryz.ntmps96
    go_wp2
    go_ret
    exact ⟨ret_bool (by rw [F.out] <;> simp <;> omega), rfl⟩

theorem letter_calls (c : UInt8) (w : World) : Calls Tryz.prog 97 #[.int .u8 (c.toNat : Int)] w fun e w' => e = .returned (.bool (VP.lett c)) ∧ w = w' := by
  have hb : c.toNat < 256 := c.toNat_lt
  have hc : c.toNat < 65 ∨ (65 ≤ c.toNat ∧ c.toNat ≤ 90) ∨ (91 ≤ c.toNat ∧ c.toNat < 97) ∨ (97 ≤ c.toNat ∧ c.toNat ≤ 122) ∨ 123 ≤ c.toNat := by omega
  have hf : VP.lett c = decide ((97 ≤ c.toNat ∧ c.toNat ≤ 122) ∨ (65 ≤ c.toNat ∧ c.toNat ≤ 90)) := by unfold VP.lett; simp
  have F := Lib.hid hf
  clear hf
  rcases hc with h | ⟨h1, h2⟩ | ⟨h1, h2⟩ | ⟨h1, h2⟩ | h
  all_goals
    go_enter Tryz.func97, Tryz.ntmps97
    go_wp2
    go_ret
    refine ⟨ret_bool ?_, rfl⟩
    rw [F.out, Bool.eq_iff_iff]
    simp <;> omega

/-- of all's bytes: a digit, a letter, or one of some more -/
def allP (more : List UInt8) (c : UInt8) : Bool := VP.dig c || VP.lett c || more.contains c

theorem allP_fst {more : List UInt8} {c : UInt8} (h : VP.dig c = true) : allP more c = true := by unfold allP; rw [h]; rfl
def idxB (s : ByteArray) (c : UInt8) : Int := Lib.indexByte s.data.toList c
theorem call_idxB (s : ByteArray) (c : UInt8) (w : World) : Calls Tryz.prog 112 #[.string s, .int .u8 (c.toNat : Int)] w fun e w' => e = .returned (.int .i64 (idxB s c)) ∧ w = w' :=
  (Tryz.strings_IndexByte s (c.toNat : Int) w).mono fun e w' ⟨he, hw⟩ => ⟨by rw [he]; unfold idxB; simp, hw.symm⟩
theorem idxB_mem (s : ByteArray) (c : UInt8) : decide (0 ≤ idxB s c) = s.data.toList.contains c := indexByte_mem _ _

def AllIs (s more : ByteArray) (w : World) (E : Ending) (w' : World) : Prop := E = .returned (.bool (s.data.toList.all (allP more.data.toList))) ∧ w = w'

set_option maxRecDepth 100000 in
theorem all_calls (s more : ByteArray) (w : World) (hs : s.size ≤ 1000000) : Calls Tryz.prog 131 #[.string s, .string more] w (AllIs s more w) := by
  have hl := size_eq_length s
  have HL := Lib.hid hl
  clear hl
  go_enter Tryz.func131, Tryz.ntmps131
  go_wp2
  go_loop [8] (fun i => ∃ k : Nat, k ≤ s.size ∧ i = .int .i64 k ∧ Hid ((s.data.toList.take k).all (allP more.data.toList) = true)) (fun i => s.size - (intOf i).toNat)
  case atStart => exact ⟨0, Nat.zero_le _, rfl, rfl⟩
  case round =>
    obtain ⟨k, hk, rfl, hall⟩ := hrel
    by_cases hlt : k < s.size
    · have hts := Lib.hid (take_snoc s k hlt)
      have hdr := Lib.hid (drop_cons s k hlt)
      have hbt : s[k].toNat < 256 := s[k].toNat_lt
      have hd : VP.dig s[k] = true ∨ VP.dig s[k] = false := by cases VP.dig s[k] <;> simp
      rcases hd with hd | hd
      · have HP : Hid (allP more.data.toList s[k] = true) := allP_fst hd
        go_wp2_with (go_at_call 96; refine (digit_calls _ _).mono ?_; rintro e w' ⟨rfl, rfl⟩)
        go_round
        case rel => exact ⟨k + 1, by omega, by go_num, Lib.hid (by rw [hts.out, List.all_append, hall.out]; simp [HP.out])⟩
        case measure => simp [intOf]; omega
      · have hlt2 : VP.lett s[k] = true ∨ VP.lett s[k] = false := by cases VP.lett s[k] <;> simp
        rcases hlt2 with h2 | h2
        · have HP : Hid (allP more.data.toList s[k] = true) := by unfold allP; rw [hd, h2]; exact rfl
          go_wp2_with (first | (go_at_call 96; refine (digit_calls _ _).mono ?_; rintro e w' ⟨rfl, rfl⟩) | (go_at_call 97; refine (letter_calls _ _).mono ?_; rintro e w' ⟨rfl, rfl⟩))
          go_round
          case rel => exact ⟨k + 1, by omega, by go_num, Lib.hid (by rw [hts.out, List.all_append, hall.out]; simp [HP.out])⟩
          case measure => simp [intOf]; omega
        · have hm := idxB_mem more s[k]
          cases hc : more.data.toList.contains s[k] with
          | true =>
            have HP : Hid (allP more.data.toList s[k] = true) := by unfold allP; rw [hc]; simp; exact trivial
            rw [hc] at hm
            have hi : 0 ≤ idxB more s[k] := of_decide_eq_true hm
            clear hm hc
            go_wp2_with (first | (go_at_call 96; refine (digit_calls _ _).mono ?_; rintro e w' ⟨rfl, rfl⟩) | (go_at_call 97; refine (letter_calls _ _).mono ?_; rintro e w' ⟨rfl, rfl⟩) | (go_at_call 112; refine (call_idxB _ _ _).mono ?_; rintro e w' ⟨rfl, rfl⟩))
            go_round
            case rel => exact ⟨k + 1, by omega, by go_num, Lib.hid (by rw [hts.out, List.all_append, hall.out]; simp [HP.out])⟩
            case measure => simp [intOf]; omega
          | false =>
            have HP : Hid (allP more.data.toList s[k] = false) := by unfold allP; rw [hc, hd, h2]; exact rfl
            rw [hc] at hm
            have hi : ¬ 0 ≤ idxB more s[k] := of_decide_eq_false hm
            clear hm hc
            go_wp2_with (first | (go_at_call 96; refine (digit_calls _ _).mono ?_; rintro e w' ⟨rfl, rfl⟩) | (go_at_call 97; refine (letter_calls _ _).mono ?_; rintro e w' ⟨rfl, rfl⟩) | (go_at_call 112; refine (call_idxB _ _ _).mono ?_; rintro e w' ⟨rfl, rfl⟩))
            go_ret
            refine ⟨ret_bool ?_, rfl⟩
            rw [← List.take_append_drop k s.data.toList, hdr.out, List.all_append, List.all_cons, HP.out]
            simp
    · go_wp2
      go_ret
      have hl := HL.out
      have ht : s.data.toList.take k = s.data.toList := List.take_of_length_le (by omega)
      have ha := hall.out
      rw [ht] at ha
      exact ⟨ret_bool (by rw [ha]), rfl⟩
end Go.Proofs.YtofogjfemlhffaaGreatDoor

namespace Go.Proofs.YtofogjfemlhffaaGreatDoor
open Go.RowKit

set_option maxRecDepth 100000 in
theorem refPrint_calls (e : Int) (u r : ByteArray) (w : World) (hE : Env w) (h0 : -9223372036854775808 ≤ e) (h1 : e ≤ 9223372036854775807) (hu : u.size ≤ 1000000) (hr : r.size ≤ 1000000) :
    Calls Tryz.prog 132 #[.agg #[.int .i64 e, .string u, .string r]] w (PrintIs e u r w) := by
  have hb0 := below_alloc w (.cells #[.int .i64 e, .string u, .string r] 37)
  have hE1 := hE.below hb0
  clear hE
  have hr' : r.size = 0 ∨ 0 < r.size := by omega
  by_cases he : e = 0
  · subst he
    rcases hr' with hr' | hr'
    · have hz := isEmpty_true r hr'
      have er := eq_empty r hr'
      subst er
      clear hr' hr
      go_enter Tryz.func132, Tryz.ntmps132
      go_wp2
      go_ret
      exact ⟨_, rfl, by simp [VP.printP], hb0⟩
    · have hz := isEmpty_false r hr'
      have Hr := Lib.hid (printP_rev r hr')
      go_enter Tryz.func132, Tryz.ntmps132
      go_wp2
      go_ret
      exact ⟨_, rfl, by simp [VP.printP, Hr.out], hb0⟩
  · have hb : (e != 0) = true := by rw [bne_iff_ne]; exact he
    have HE := Lib.hid he
    clear he
    rcases hr' with hr' | hr'
    · have hz := isEmpty_true r hr'
      have er := eq_empty r hr'
      subst er
      clear hr' hr
      go_enter Tryz.func132, Tryz.ntmps132
      go_wp2_with fail
      refine (call_itoa _ _ hE1 h0 h1).mono ?_
      rintro E w1 ⟨t, rfl, ht, hts, hb1⟩
      have hB := step_below hb0 hb1
      obtain ⟨c0, c1, c2⟩ := box3 hb1
      clear hb1
      have Ht := Lib.hid ht
      clear ht
      go_wp2
      go_ret
      exact ⟨_, rfl, by simp [VP.printP, Ht.out, HE.out], hB⟩
    · have hz := isEmpty_false r hr'
      have Hr := Lib.hid (printP_rev r hr')
      go_enter Tryz.func132, Tryz.ntmps132
      go_wp2_with fail
      refine (call_itoa _ _ hE1 h0 h1).mono ?_
      rintro E w1 ⟨t, rfl, ht, hts, hb1⟩
      have hB := step_below hb0 hb1
      obtain ⟨c0, c1, c2⟩ := box3 hb1
      clear hb1
      have Ht := Lib.hid ht
      clear ht
      go_wp2
      go_ret
      exact ⟨_, rfl, by simp [VP.printP, Ht.out, HE.out, Hr.out], hB⟩
end Go.Proofs.YtofogjfemlhffaaGreatDoor

/- The reference's PackName: may a package be called so. · The reference's gap and bare. · What the walks over terms share: short texts, what is asked for as lists, one of some. · depend.signs: the table of signs, as it lies. -/
import Derived.Test.YtodbbfgkclkpgaaGreatDoorRK10
import Derived.Test.YtodbbfgkclkpgaaGreatDoorRK6
import Derived.Deep.RegionHeld3
import Derived.Deep.DeepCutAuto
namespace Go.Proofs.YtodbbfgkclkpgaaGreatDoor
open Go.RowKit

theorem low_iff (c : UInt8) : VP.low c = true ↔ 97 ≤ c.toNat ∧ c.toNat ≤ 122 := by unfold VP.low; simp
theorem beq_nat_true {c : UInt8} {k : UInt8} (h : c = k) : (((c.toNat : Nat) : Int) == ((k.toNat : Nat) : Int)) = true := by subst h; simp
theorem byte_ne {c : UInt8} {k : Nat} (hk : k < 256) (h : c ≠ UInt8.ofNat k) : c.toNat ≠ k := by
  intro e
  exact h (UInt8.toNat_inj.1 (by rw [e, UInt8.toNat_ofNat']; omega))

set_option maxHeartbeats 1000000 in
set_option maxRecDepth 100000 in
theorem packName_calls (s : ByteArray) (w : World) (hs : s.size ≤ 1000000) : Calls Tryz.prog 70 #[.string s] w fun E w' => E = .returned (.bool (VP.nameP s.data.toList)) ∧ w = w' := by
  have HL := Lib.hid (size_eq_length s)
  have F := Lib.hid (nameP_good s.data.toList)
  go_enter Tryz.func70, Tryz.ntmps70
  go_wp2_with fail
  go_loop [7] (fun i => ∃ k : Nat, k ≤ s.size ∧ i = .int .i64 k ∧ Hid (goodN (s.data.toList.take k) = true)) (fun i => s.size - (intOf i).toNat)
  case atStart => exact ⟨0, Nat.zero_le _, rfl, rfl⟩
  case round =>
    obtain ⟨k, hk, rfl, hall⟩ := hrel
    by_cases hlt : k < s.size
    · have hts := Lib.hid (take_snoc s k hlt)
      have hdr := Lib.hid (drop_cons s k hlt)
      have hbt : s[k].toNat < 256 := s[k].toNat_lt
      obtain ⟨c, hc⟩ : ∃ c, s[k] = c := ⟨_, rfl⟩
      -- on: the byte is one of a name's
      have hon : Hid (goodN (s.data.toList.take k ++ [s[k]]) = true → goodN (s.data.toList.take (k + 1)) = true) := fun h => by rw [hts.out]; exact h
      have hoff : Hid (goodN (s.data.toList.take k ++ [s[k]]) = false → goodN s.data.toList = false) := fun h => by
        rw [← List.take_append_drop (k + 1) s.data.toList, hts.out, goodN_append (by simp), h]; rfl
      have hnil : Hid (k = 0 → s.data.toList.take k = []) := fun h => by rw [h]; rfl
      have hcons : Hid (0 < k → s.data.toList.take k ≠ []) := fun h e => by
        have := congrArg List.length e
        rw [List.length_take, ← HL.out, List.length_nil] at this
        omega
      clear hc
      by_cases hlow : VP.low s[k] = true
      · have h1 := (low_iff _).1 hlow
        have HP : Hid (goodN (s.data.toList.take (k + 1)) = true) := by
          refine hon.out ?_
          have h0 : VP.nm0 s[k] = true := by unfold VP.nm0; rw [hlow]; rfl
          by_cases hk0 : k = 0
          · rw [hnil.out hk0]; show (VP.nm0 s[k] && true) = true; rw [h0]; rfl
          · rw [goodN_append (hcons.out (by omega)), hall.out]; show (true && (VP.nm1 s[k] && true)) = true; rw [nm0_nm1 _ h0]; rfl
        have ha : 97 ≤ s[k].toNat := h1.1
        have hb : s[k].toNat ≤ 122 := h1.2
        clear hlow h1
        go_wp2_with fail
        go_round
        case rel => exact ⟨k + 1, by omega, by go_num, HP⟩
        case measure => simp [intOf]; omega
      · have hlo : s[k].toNat < 97 ∨ (122 < s[k].toNat ∧ decide (((s[k].toNat : Nat) : Int) ≤ 122) = false) := by
          have h' : ¬ (97 ≤ s[k].toNat ∧ s[k].toNat ≤ 122) := fun h => hlow ((low_iff s[k]).2 h)
          rcases Nat.lt_or_ge s[k].toNat 97 with h | h
          · exact .inl h
          · exact .inr ⟨by omega, decide_eq_false (by omega)⟩
        have HLO := Lib.hid (show VP.low s[k] = false by simpa using hlow)
        clear hlow
        have hd : VP.dig s[k] = true ∨ VP.dig s[k] = false := by cases VP.dig s[k] <;> simp
        rcases hd with hd | hd
        · have HP : Hid (goodN (s.data.toList.take (k + 1)) = true) := by
            refine hon.out ?_
            have h0 : VP.nm0 s[k] = true := by unfold VP.nm0; rw [hd]; simp
            by_cases hk0 : k = 0
            · rw [hnil.out hk0]; show (VP.nm0 s[k] && true) = true; rw [h0]; rfl
            · rw [goodN_append (hcons.out (by omega)), hall.out]; show (true && (VP.nm1 s[k] && true)) = true; rw [nm0_nm1 _ h0]; rfl
          rcases hlo with hlo | ⟨hlo, hz⟩
          all_goals
            go_wp2_with (go_at_call 76; refine (digit_calls _ _).mono ?_; rintro e w' ⟨rfl, rfl⟩)
            go_round
            case rel => exact ⟨k + 1, by omega, by go_num, HP⟩
            case measure => simp [intOf]; omega
        · have H0 : Hid (VP.nm0 s[k] = false) := by unfold VP.nm0; rw [HLO.out, hd]; exact rfl
          by_cases hk0 : k = 0
          · have HP : Hid (goodN s.data.toList = false) := hoff.out (by rw [hnil.out hk0]; show (VP.nm0 s[k] && true) = false; rw [H0.out]; rfl)
            have hkb : ((k : Int) == 0) = true := by rw [beq_iff_eq]; omega
            have HK0 := Lib.hid hk0
            clear hk0
            rcases hlo with hlo | ⟨hlo, hz⟩
            all_goals
              go_wp2_with (go_at_call 76; refine (digit_calls _ _).mono ?_; rintro e w' ⟨rfl, rfl⟩)
              go_ret
              exact ⟨ret_bool (by rw [F.out, HP.out, Bool.and_false]), rfl⟩
          · have hk1 : 0 < k := by omega
            have hkb : ((k : Int) == 0) = false := by rw [beq_eq_false_iff_ne]; omega
            by_cases hs : s[k].toNat = 43 ∨ s[k].toNat = 45 ∨ s[k].toNat = 46
            · have HP : Hid (goodN (s.data.toList.take (k + 1)) = true) := by
                refine hon.out ?_
                rw [goodN_append (hcons.out hk1), hall.out]
                show (true && (VP.nm1 s[k] && true)) = true
                have : VP.nm1 s[k] = true := by
                  unfold VP.nm1
                  rcases hs with h | h | h
                  · rw [show s[k] = 43 from UInt8.toNat_inj.1 h]; rfl
                  · rw [show s[k] = 45 from UInt8.toNat_inj.1 h]; rfl
                  · rw [show s[k] = 46 from UInt8.toNat_inj.1 h]; rfl
                rw [this]; rfl
              have hs' : ((((s[k].toNat : Nat) : Int) == 43) = true) ∨ ((((s[k].toNat : Nat) : Int) == 43) = false ∧ (((s[k].toNat : Nat) : Int) == 45) = true) ∨ ((((s[k].toNat : Nat) : Int) == 43) = false ∧ (((s[k].toNat : Nat) : Int) == 45) = false ∧ (((s[k].toNat : Nat) : Int) == 46) = true) := by
                simp only [beq_iff_eq, beq_eq_false_iff_ne]
                omega
              have hlo' : s[k].toNat < 97 := by omega
              clear hs hk0 hlo
              have hs2 : ((((s[k].toNat : Nat) : Int) == 43) = true ∧ (((s[k].toNat : Nat) : Int) != 43) = false) ∨ ((((s[k].toNat : Nat) : Int) == 43) = false ∧ (((s[k].toNat : Nat) : Int) != 43) = true ∧ (((s[k].toNat : Nat) : Int) == 45) = true ∧ (((s[k].toNat : Nat) : Int) != 45) = false) ∨
                  ((((s[k].toNat : Nat) : Int) == 43) = false ∧ (((s[k].toNat : Nat) : Int) != 43) = true ∧ (((s[k].toNat : Nat) : Int) == 45) = false ∧ (((s[k].toNat : Nat) : Int) != 45) = true ∧ (((s[k].toNat : Nat) : Int) == 46) = true ∧ (((s[k].toNat : Nat) : Int) != 46) = false) := by
                rcases hs' with ha | ⟨ha, hb⟩ | ⟨ha, hb, hc⟩
                · exact .inl ⟨ha, bne_of_true ha⟩
                · exact .inr (.inl ⟨ha, bne_of_false ha, hb, bne_of_true hb⟩)
                · exact .inr (.inr ⟨ha, bne_of_false ha, hb, bne_of_false hb, hc, bne_of_true hc⟩)
              clear hs'
              rcases hs2 with ⟨ha, ha'⟩ | ⟨ha, ha', hb, hb'⟩ | ⟨ha, ha', hb, hb', hc, hc'⟩
              all_goals
                go_wp2_with (go_at_call 76; refine (digit_calls _ _).mono ?_; rintro e w' ⟨rfl, rfl⟩)
                go_round
                case rel => exact ⟨k + 1, by omega, by go_num, HP⟩
                case measure => simp [intOf]; omega
            · have HP : Hid (goodN s.data.toList = false) := by
                refine hoff.out ?_
                rw [goodN_append (hcons.out hk1), hall.out]
                show (true && (VP.nm1 s[k] && true)) = false
                have : VP.nm1 s[k] = false := by
                  unfold VP.nm1
                  rw [H0.out]
                  have h1 : (s[k] == 43) = false := by rw [beq_eq_false_iff_ne]; intro e; exact hs (.inl (by rw [e]; rfl))
                  have h2 : (s[k] == 45) = false := by rw [beq_eq_false_iff_ne]; intro e; exact hs (.inr (.inl (by rw [e]; rfl)))
                  have h3 : (s[k] == 46) = false := by rw [beq_eq_false_iff_ne]; intro e; exact hs (.inr (.inr (by rw [e]; rfl)))
                  rw [h1, h2, h3]; rfl
                rw [this]; rfl
              have n43 : (((s[k].toNat : Nat) : Int) == 43) = false := by rw [beq_eq_false_iff_ne]; omega
              have n45 : (((s[k].toNat : Nat) : Int) == 45) = false := by rw [beq_eq_false_iff_ne]; omega
              have n46 : (((s[k].toNat : Nat) : Int) == 46) = false := by rw [beq_eq_false_iff_ne]; omega
              have m43 := bne_of_false n43
              have m45 := bne_of_false n45
              have m46 := bne_of_false n46
              clear hs hk0
              rcases hlo with hlo | ⟨hlo, hz⟩
              all_goals
                go_wp2_with (go_at_call 76; refine (digit_calls _ _).mono ?_; rintro e w' ⟨rfl, rfl⟩)
                go_ret
                exact ⟨ret_bool (by rw [F.out, HP.out, Bool.and_false]), rfl⟩
    · obtain rfl : k = s.size := by omega
      have HP : Hid (goodN s.data.toList = true) := by
        have := hall.out
        rw [HL.out, List.take_length] at this
        exact this
      go_wp2_with (go_at_call 75; refine (in_calls _ _ _ _).mono ?_; rintro E w' ⟨rfl, rfl⟩)
      go_ret
      exact ⟨ret_bool (by rw [F.out, HP.out, Bool.and_true, HL.out]), rfl⟩
end Go.Proofs.YtodbbfgkclkpgaaGreatDoor

namespace Go.Proofs.YtodbbfgkclkpgaaGreatDoor
open Go.RowKit

theorem gap_calls (c : UInt8) (w : World) : Calls Tryz.prog 182 #[.int .u8 (c.toNat : Int)] w fun e w' => e = .returned (.bool (VP.gap c)) ∧ w = w' := by
  have hc : (((c.toNat : Nat) : Int) == 32) = (c == 32) ∧ (((c.toNat : Nat) : Int) == 9) = (c == 9) ∧ (((c.toNat : Nat) : Int) == 10) = (c == 10) := by
    have key : ∀ k : UInt8, (((c.toNat : Nat) : Int) == ((k.toNat : Nat) : Int)) = (c == k) := fun k => by
      rw [Bool.eq_iff_iff, beq_iff_eq, beq_iff_eq, ← UInt8.toNat_inj]; omega
    exact ⟨key 32, key 9, key 10⟩
  obtain ⟨h1, h2, h3⟩ := hc
  have F := Lib.hid (show VP.gap c = ((c == 32) || (c == 9) || (c == 10)) from rfl)
  cases e1 : (c == 32) <;> cases e2 : (c == 9) <;> cases e3 : (c == 10)
  all_goals
    rw [e1] at h1
    rw [e2] at h2
    rw [e3] at h3
    have F' := Lib.hid (F.out.trans (by rw [e1, e2, e3]))
    clear e1 e2 e3 F
    go_enter Tryz.func182, Tryz.ntmps182
    go_wp2
    go_ret
    exact ⟨ret_bool (by rw [F'.out] <;> simp), rfl⟩

def strSize : Value → Nat
  | .string s => s.size
  | _ => 0

def RefBareIs (s : ByteArray) (w : World) (E : Ending) (w' : World) : Prop := (∃ t : ByteArray, E = .returned (.string t) ∧ t.data.toList = VP.trimP s.data.toList) ∧ w = w'

theorem drop_first {t : ByteArray} (h : 0 < t.size) : t.data.toList = t[0] :: (t.extract 1 t.size).data.toList := by
  have := drop_cons t 0 h
  rw [List.drop_zero] at this
  rw [this, Lib.extract_to_end]
theorem drop_last {t : ByteArray} {m : Nat} (h : t.size = m + 1) : t.data.toList = (t.extract 0 m).data.toList ++ [t[m]'(by omega)] := by
  have h1 := take_snoc t m (by omega)
  have h2 : t.data.toList.take (m + 1) = t.data.toList := List.take_of_length_le (by rw [← size_eq_length]; omega)
  rw [h2] at h1
  rw [h1, Lib.extract_data]
  simp

set_option maxHeartbeats 1000000 in
set_option maxRecDepth 100000 in
theorem refBare_calls (s : ByteArray) (w : World) (hs : s.size ≤ 1000000) : Calls Tryz.prog 149 #[.string s] w (RefBareIs s w) := by
  go_enter Tryz.func149, Tryz.ntmps149
  go_wp2_with fail
  go_loop [0] (fun v => ∃ t : ByteArray, v = .string t ∧ t.size ≤ s.size ∧ Hid (t.data.toList.dropWhile VP.gap = s.data.toList.dropWhile VP.gap)) (fun v => strSize v)
  case atStart => exact ⟨s, rfl, Nat.le_refl _, rfl⟩
  case round =>
    obtain ⟨t, rfl, htz, htd⟩ := hrel
    have hcase : (∃ _ : 0 < t.size, t.toList.isEmpty = false ∧ VP.gap t[0] = true) ∨ ((∃ _ : 0 < t.size, t.toList.isEmpty = false ∧ VP.gap t[0] = false) ∨ (t.size = 0 ∧ t.toList.isEmpty = true)) := by
      by_cases hp : 0 < t.size
      · cases hg : VP.gap t[0] with
        | true => exact .inl ⟨hp, isEmpty_false t hp, hg⟩
        | false => exact .inr (.inl ⟨hp, isEmpty_false t hp, hg⟩)
      · exact .inr (.inr ⟨by omega, isEmpty_true t (by omega)⟩)
    rcases hcase with ⟨hp, hne, hg⟩ | hcase
    · have HG := Lib.hid hg
      go_wp2_with (go_at_call 182; refine (gap_calls _ _).mono ?_; rintro e w' ⟨rfl, rfl⟩)
      go_round
      case rel => exact ⟨_, rfl, by simp; omega, Lib.hid (by rw [← htd.out, drop_first hp, List.dropWhile_cons, if_pos HG.out])⟩
      case measure => simp [strSize]; omega
    · have HT : Hid (VP.trimR t.data.toList = VP.trimP s.data.toList) := by
        have h : t.data.toList.dropWhile VP.gap = t.data.toList := by
          rcases hcase with ⟨hp, _, hg⟩ | ⟨hp, _⟩
          · rw [drop_first hp, List.dropWhile_cons, if_neg (by rw [hg]; simp)]
          · rw [size_eq_length] at hp
            rw [List.eq_nil_of_length_eq_zero hp]; rfl
        show VP.trimR t.data.toList = VP.trimP s.data.toList
        rw [← VP.trim_comm, ← htd.out, h]
      clear htd
      rcases hcase with ⟨hp, hne, hg⟩ | ⟨hp, hne⟩
      all_goals
        go_wp2_with (go_at_call 182; refine (gap_calls _ _).mono ?_; rintro e w' ⟨rfl, rfl⟩)
        go_loop [0] (fun v => ∃ t : ByteArray, v = .string t ∧ t.size ≤ s.size ∧ Hid (VP.trimR t.data.toList = VP.trimP s.data.toList)) (fun v => strSize v)
        case atStart => exact ⟨t, rfl, htz, HT⟩
        case round =>
          obtain ⟨v, rfl, hvz, hvt⟩ := hrel
          by_cases hv : 0 < v.size
          · have hne := isEmpty_false v hv
            obtain ⟨m, hm⟩ : ∃ m, v.size = m + 1 := ⟨v.size - 1, by omega⟩
            have hml : m < v.size := by omega
            have HD := Lib.hid (drop_last hm)
            cases hg : VP.gap (v[m]'hml) with
            | true =>
              have HG := Lib.hid hg
              go_wp2_with (go_at_call 182; refine (gap_calls _ _).mono ?_; rintro e w' ⟨rfl, rfl⟩)
              go_round
              case rel => exact ⟨_, rfl, by simp; omega, Lib.hid (by rw [← hvt.out, HD.out, VP.trimR_snoc, if_pos HG.out])⟩
              case measure => simp [strSize]; omega
            | false =>
              have HG := Lib.hid hg
              go_wp2_with (go_at_call 182; refine (gap_calls _ _).mono ?_; rintro e w' ⟨rfl, rfl⟩)
              go_ret
              exact ⟨⟨_, rfl, by rw [← hvt.out, HD.out, VP.trimR_snoc, if_neg (by rw [HG.out]; simp)]⟩, rfl⟩
          · have hne := isEmpty_true v (by omega)
            have HV := Lib.hid (show v.data.toList = [] from List.eq_nil_of_length_eq_zero (by rw [← size_eq_length]; omega))
            go_wp2_with fail
            go_ret
            exact ⟨⟨_, rfl, by rw [← hvt.out, HV.out]; rfl⟩, rfl⟩
end Go.Proofs.YtodbbfgkclkpgaaGreatDoor

namespace Go.Proofs.YtodbbfgkclkpgaaGreatDoor
open Go.RowKit

/-- texts short enough for all that reads them -/
structure Tv.small (t : Tv) : Prop where
  n : t.n.size ≤ 1000
  u : t.u.size ≤ 1000
  r : t.r.size ≤ 1000
  ok : t.ok

theorem box5 {w w1 : World} {a b c d e : Value} {t : TypeId} (hb : Below (w.alloc (.cells #[a, b, c, d, e] t)).heap.size (w.alloc (.cells #[a, b, c, d, e] t)) w1) :
    w1.cell? ⟨w.heap.size, 0, none⟩ = some a ∧ w1.cell? ⟨w.heap.size, 1, none⟩ = some b ∧ w1.cell? ⟨w.heap.size, 2, none⟩ = some c ∧ w1.cell? ⟨w.heap.size, 3, none⟩ = some d ∧ w1.cell? ⟨w.heap.size, 4, none⟩ = some e :=
  ⟨kept hb (by go_cell), kept hb (by go_cell), kept hb (by go_cell), kept hb (by go_cell), kept hb (by go_cell)⟩

theorem any_stop {α : Type} {p : α → Bool} {l : List α} {k : Nat} {x : α} (hx : l[k]? = some x) (hp : p x = true) : l.any p = true := by
  rw [List.any_eq_true]
  exact ⟨x, List.mem_of_getElem? hx, hp⟩
theorem any_take_succ {α : Type} {p : α → Bool} {l : List α} {k : Nat} {x : α} (h : (l.take k).any p = false) (hx : l[k]? = some x) (hp : p x = false) : (l.take (k + 1)).any p = false := by
  rw [List.take_add_one, hx, List.any_append, h]
  simp [hp]
theorem any_done {α : Type} {p : α → Bool} {l : List α} (h : (l.take l.length).any p = false) : l.any p = false := by rwa [List.take_length] at h

def wrongT (t : Tv) : Bool := !VP.rightT t.tm
def IdxIs (b : Bool) (w : World) (E : Ending) (w' : World) : Prop := ∃ i : Int, E = .returned (.int .i64 i) ∧ decide (0 ≤ i) = b ∧ Below w.heap.size w w'

def tmL (L : List (List Tv)) : List (List VP.Tm) := L.map fun x => x.map Tv.tm
def sumL (L : List (List Tv)) : Nat := (L.map List.length).sum
def goodL (x : List Tv) : Bool := !x.isEmpty && !x.any wrongT

theorem asked_eq (L : List (List Tv)) : VP.askedP (tmL L) = (L.all goodL && decide (sumL L ≤ 30)) := by
  unfold VP.askedP tmL
  rw [List.all_map]
  have e1 : VP.total (L.map fun x => x.map Tv.tm) = sumL L := by
    unfold VP.total sumL
    rw [List.map_map]
    congr 1
    apply List.map_congr_left
    intro x _
    simp
  rw [e1]
  congr 2
  funext x
  show (!(x.map Tv.tm).isEmpty && (x.map Tv.tm).all VP.rightT) = goodL x
  unfold goodL
  have e2 : (x.map Tv.tm).isEmpty = x.isEmpty := by cases x <;> rfl
  have e3 : (x.map Tv.tm).all VP.rightT = !x.any wrongT := by
    rw [List.all_map]
    induction x with
    | nil => rfl
    | cons t x ih =>
      have ih' := ih (by cases x <;> rfl)
      rw [List.all_cons, List.any_cons, ih', Bool.not_or]
      congr 1
      unfold wrongT
      rw [Bool.not_not]
      rfl
  rw [e2, e3]

theorem sumL_take_succ {L : List (List Tv)} {k : Nat} {x : List Tv} (hx : L[k]? = some x) : sumL (L.take (k + 1)) = sumL (L.take k) + x.length := by
  unfold sumL
  rw [List.take_add_one, hx, List.map_append, List.sum_append]
  simp
theorem sumL_take_le (L : List (List Tv)) (k : Nat) : sumL (L.take k) ≤ sumL L := by
  conv => rhs; rw [← List.take_append_drop k L]
  unfold sumL
  rw [List.map_append, List.sum_append]
  omega
end Go.Proofs.YtodbbfgkclkpgaaGreatDoor

namespace Go.Proofs.YtodbbfgkclkpgaaGreatDoor
open Go.RowKit

/-- the signs of what is asked of versions, as they lie -/
def signS (k : Nat) : ByteArray := ⟨(VP.signP (k : Int)).toArray⟩
def EnvS (w : World) : Prop := ∀ k, k < 6 → w.cell? ⟨3, k, none⟩ = some (.string (signS k))
theorem EnvS.below {w w' : World} (h : EnvS w) (hb : Below w.heap.size w w') : EnvS w' := fun k hk => kept hb (h k hk)

theorem arrLen : Tryz.prog.arrayLen 199 = 6 := by kernel_rfl
theorem arrSize (W : World) : (sizeOf (Tryz.prog.elem 199)).run Tryz.prog W = .ok 1 W := by kernel_rfl
theorem signs_at (W : World) (k : Nat) (h6 : k < 6) : (Instr.indexAt 199 (.pointer (some ⟨3, 0, none⟩)) (.int .i64 (k : Int))).run Tryz.prog W = .ok (.pointer (some ⟨3, k, none⟩)) W := by
  have h := run_indexAt_array (P := Tryz.prog) (w := W) 199 ⟨3, 0, none⟩ .i64 (k : Int) (by kernel_rfl)
  rw [arrLen, if_pos ⟨by omega, by omega⟩, arrSize] at h
  refine h.trans ?_
  show Result.ok (Value.pointer (some ((⟨3, 0, none⟩ : Addr).add (((k : Nat) : Int).toNat * 1)))) W = _
  rw [Int.toNat_natCast, Nat.mul_one, Go.WideShapes.add_plain, Nat.zero_add]

theorem signS_size (k : Nat) : (signS k).size ≤ 2 := by
  rw [size_eq_length]
  show (VP.signP (k : Int)).length ≤ 2
  unfold VP.signP
  (repeat' split) <;> simp
end Go.Proofs.YtodbbfgkclkpgaaGreatDoor

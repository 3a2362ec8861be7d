/- The reference's PackName: may a package be called so. -/
import Derived.Test.YtlkmmejlnohjhaaGreatDoorDepName
namespace Go.Proofs.YtlkmmejlnohjhaaGreatDoor
open Go.RowKit

theorem low_iff (c : UInt8) : VP.low c = true ↔ 97 ≤ c.toNat ∧ c.toNat ≤ 122 := by unfold VP.low; simp
theorem beq_nat_true {c : UInt8} {k : UInt8} (h : c = k) : (((c.toNat : Nat) : Int) == ((k.toNat : Nat) : Int)) = true := by subst h; simp
theorem bne_of_true {a b : Int} (h : (a == b) = true) : (a != b) = false := by rw [bne, h]; rfl
theorem bne_of_false {a b : Int} (h : (a == b) = false) : (a != b) = true := by rw [bne, h]; rfl
theorem byte_ne {c : UInt8} {k : Nat} (hk : k < 256) (h : c ≠ UInt8.ofNat k) : c.toNat ≠ k := by
  intro e
  exact h (UInt8.toNat_inj.1 (by rw [e, UInt8.toNat_ofNat']; omega))

set_option maxHeartbeats 1000000 in
set_option maxRecDepth 100000 in
theorem packName_calls (s : ByteArray) (w : World) (hs : s.size ≤ 1000000) : Calls Tryz.prog 25 #[.string s] w fun E w' => E = .returned (.bool (VP.nameP s.data.toList)) ∧ w = w' := by
  have HL := Lib.hid (size_eq_length s)
  have F := Lib.hid (nameP_good s.data.toList)
  go_enter Tryz.func25, Tryz.ntmps25
  go_wp2_with fail
  go_loop [7] (fun i => ∃ k : Nat, k ≤ s.size ∧ i = .int .i64 k ∧ Hid (goodN (s.data.toList.take k) = true)) (fun i => s.size - (intOf i).toNat)
  case atStart => exact ⟨0, Nat.zero_le _, rfl, rfl⟩
  case round =>
    obtain ⟨k, hk, rfl, hall⟩ := hrel
    by_cases hlt : k < s.size
    · have hts := Lib.hid (take_snoc s k hlt)
      have hdr := Lib.hid (drop_cons s k hlt)
      have hbt : s[k].toNat < 256 := s[k].toNat_lt
      obtain ⟨c, hc⟩ : ∃ c, s[k] = c := ⟨_, rfl⟩
      -- on: the byte is one of a name's
      have hon : Hid (goodN (s.data.toList.take k ++ [s[k]]) = true → goodN (s.data.toList.take (k + 1)) = true) := fun h => by rw [hts.out]; exact h
      have hoff : Hid (goodN (s.data.toList.take k ++ [s[k]]) = false → goodN s.data.toList = false) := fun h => by
        rw [← List.take_append_drop (k + 1) s.data.toList, hts.out, goodN_append (by simp), h]; rfl
      have hnil : Hid (k = 0 → s.data.toList.take k = []) := fun h => by rw [h]; rfl
      have hcons : Hid (0 < k → s.data.toList.take k ≠ []) := fun h e => by
        have := congrArg List.length e
        rw [List.length_take, ← HL.out, List.length_nil] at this
        omega
      clear hc
      by_cases hlow : VP.low s[k] = true
      · have h1 := (low_iff _).1 hlow
        have HP : Hid (goodN (s.data.toList.take (k + 1)) = true) := by
          refine hon.out ?_
          have h0 : VP.nm0 s[k] = true := by unfold VP.nm0; rw [hlow]; rfl
          by_cases hk0 : k = 0
          · rw [hnil.out hk0]; show (VP.nm0 s[k] && true) = true; rw [h0]; rfl
          · rw [goodN_append (hcons.out (by omega)), hall.out]; show (true && (VP.nm1 s[k] && true)) = true; rw [nm0_nm1 _ h0]; rfl
        have ha : 97 ≤ s[k].toNat := h1.1
        have hb : s[k].toNat ≤ 122 := h1.2
        clear hlow h1
        go_wp2_with fail
        go_round
        case rel => exact ⟨k + 1, by omega, by go_num, HP⟩
        case measure => simp [intOf]; omega
      · have hlo : s[k].toNat < 97 ∨ (122 < s[k].toNat ∧ decide (((s[k].toNat : Nat) : Int) ≤ 122) = false) := by
          have h' : ¬ (97 ≤ s[k].toNat ∧ s[k].toNat ≤ 122) := fun h => hlow ((low_iff s[k]).2 h)
          rcases Nat.lt_or_ge s[k].toNat 97 with h | h
          · exact .inl h
          · exact .inr ⟨by omega, decide_eq_false (by omega)⟩
        have HLO := Lib.hid (show VP.low s[k] = false by simpa using hlow)
        clear hlow
        have hd : VP.dig s[k] = true ∨ VP.dig s[k] = false := by cases VP.dig s[k] <;> simp
        rcases hd with hd | hd
        · have HP : Hid (goodN (s.data.toList.take (k + 1)) = true) := by
            refine hon.out ?_
            have h0 : VP.nm0 s[k] = true := by unfold VP.nm0; rw [hd]; simp
            by_cases hk0 : k = 0
            · rw [hnil.out hk0]; show (VP.nm0 s[k] && true) = true; rw [h0]; rfl
            · rw [goodN_append (hcons.out (by omega)), hall.out]; show (true && (VP.nm1 s[k] && true)) = true; rw [nm0_nm1 _ h0]; rfl
          rcases hlo with hlo | ⟨hlo, hz⟩
          all_goals
            go_wp2_with (go_at_call 49; refine (digit_calls _ _).mono ?_; rintro e w' ⟨rfl, rfl⟩)
            go_round
            case rel => exact ⟨k + 1, by omega, by go_num, HP⟩
            case measure => simp [intOf]; omega
        · have H0 : Hid (VP.nm0 s[k] = false) := by unfold VP.nm0; rw [HLO.out, hd]; exact rfl
          by_cases hk0 : k = 0
          · have HP : Hid (goodN s.data.toList = false) := hoff.out (by rw [hnil.out hk0]; show (VP.nm0 s[k] && true) = false; rw [H0.out]; rfl)
            have hkb : ((k : Int) == 0) = true := by rw [beq_iff_eq]; omega
            have HK0 := Lib.hid hk0
            clear hk0
            rcases hlo with hlo | ⟨hlo, hz⟩
            all_goals
              go_wp2_with (go_at_call 49; refine (digit_calls _ _).mono ?_; rintro e w' ⟨rfl, rfl⟩)
              go_ret
              exact ⟨ret_bool (by rw [F.out, HP.out, Bool.and_false]), rfl⟩
          · have hk1 : 0 < k := by omega
            have hkb : ((k : Int) == 0) = false := by rw [beq_eq_false_iff_ne]; omega
            by_cases hs : s[k].toNat = 43 ∨ s[k].toNat = 45 ∨ s[k].toNat = 46
            · have HP : Hid (goodN (s.data.toList.take (k + 1)) = true) := by
                refine hon.out ?_
                rw [goodN_append (hcons.out hk1), hall.out]
                show (true && (VP.nm1 s[k] && true)) = true
                have : VP.nm1 s[k] = true := by
                  unfold VP.nm1
                  rcases hs with h | h | h
                  · rw [show s[k] = 43 from UInt8.toNat_inj.1 h]; rfl
                  · rw [show s[k] = 45 from UInt8.toNat_inj.1 h]; rfl
                  · rw [show s[k] = 46 from UInt8.toNat_inj.1 h]; rfl
                rw [this]; rfl
              have hs' : ((((s[k].toNat : Nat) : Int) == 43) = true) ∨ ((((s[k].toNat : Nat) : Int) == 43) = false ∧ (((s[k].toNat : Nat) : Int) == 45) = true) ∨ ((((s[k].toNat : Nat) : Int) == 43) = false ∧ (((s[k].toNat : Nat) : Int) == 45) = false ∧ (((s[k].toNat : Nat) : Int) == 46) = true) := by
                simp only [beq_iff_eq, beq_eq_false_iff_ne]
                omega
              have hlo' : s[k].toNat < 97 := by omega
              clear hs hk0 hlo
              have hs2 : ((((s[k].toNat : Nat) : Int) == 43) = true ∧ (((s[k].toNat : Nat) : Int) != 43) = false) ∨ ((((s[k].toNat : Nat) : Int) == 43) = false ∧ (((s[k].toNat : Nat) : Int) != 43) = true ∧ (((s[k].toNat : Nat) : Int) == 45) = true ∧ (((s[k].toNat : Nat) : Int) != 45) = false) ∨
                  ((((s[k].toNat : Nat) : Int) == 43) = false ∧ (((s[k].toNat : Nat) : Int) != 43) = true ∧ (((s[k].toNat : Nat) : Int) == 45) = false ∧ (((s[k].toNat : Nat) : Int) != 45) = true ∧ (((s[k].toNat : Nat) : Int) == 46) = true ∧ (((s[k].toNat : Nat) : Int) != 46) = false) := by
                rcases hs' with ha | ⟨ha, hb⟩ | ⟨ha, hb, hc⟩
                · exact .inl ⟨ha, bne_of_true ha⟩
                · exact .inr (.inl ⟨ha, bne_of_false ha, hb, bne_of_true hb⟩)
                · exact .inr (.inr ⟨ha, bne_of_false ha, hb, bne_of_false hb, hc, bne_of_true hc⟩)
              clear hs'
              rcases hs2 with ⟨ha, ha'⟩ | ⟨ha, ha', hb, hb'⟩ | ⟨ha, ha', hb, hb', hc, hc'⟩
              all_goals
                go_wp2_with (go_at_call 49; refine (digit_calls _ _).mono ?_; rintro e w' ⟨rfl, rfl⟩)
                go_round
                case rel => exact ⟨k + 1, by omega, by go_num, HP⟩
                case measure => simp [intOf]; omega
            · have HP : Hid (goodN s.data.toList = false) := by
                refine hoff.out ?_
                rw [goodN_append (hcons.out hk1), hall.out]
                show (true && (VP.nm1 s[k] && true)) = false
                have : VP.nm1 s[k] = false := by
                  unfold VP.nm1
                  rw [H0.out]
                  have h1 : (s[k] == 43) = false := by rw [beq_eq_false_iff_ne]; intro e; exact hs (.inl (by rw [e]; rfl))
                  have h2 : (s[k] == 45) = false := by rw [beq_eq_false_iff_ne]; intro e; exact hs (.inr (.inl (by rw [e]; rfl)))
                  have h3 : (s[k] == 46) = false := by rw [beq_eq_false_iff_ne]; intro e; exact hs (.inr (.inr (by rw [e]; rfl)))
                  rw [h1, h2, h3]; rfl
                rw [this]; rfl
              have n43 : (((s[k].toNat : Nat) : Int) == 43) = false := by rw [beq_eq_false_iff_ne]; omega
              have n45 : (((s[k].toNat : Nat) : Int) == 45) = false := by rw [beq_eq_false_iff_ne]; omega
              have n46 : (((s[k].toNat : Nat) : Int) == 46) = false := by rw [beq_eq_false_iff_ne]; omega
              have m43 := bne_of_false n43
              have m45 := bne_of_false n45
              have m46 := bne_of_false n46
              clear hs hk0
              rcases hlo with hlo | ⟨hlo, hz⟩
              all_goals
                go_wp2_with (go_at_call 49; refine (digit_calls _ _).mono ?_; rintro e w' ⟨rfl, rfl⟩)
                go_ret
                exact ⟨ret_bool (by rw [F.out, HP.out, Bool.and_false]), rfl⟩
    · obtain rfl : k = s.size := by omega
      have HP : Hid (goodN s.data.toList = true) := by
        have := hall.out
        rw [HL.out, List.take_length] at this
        exact this
      go_wp2_with (go_at_call 36; refine (in_calls _ _ _ _).mono ?_; rintro E w' ⟨rfl, rfl⟩)
      go_ret
      exact ⟨ret_bool (by rw [F.out, HP.out, Bool.and_true, HL.out]), rfl⟩
end Go.Proofs.YtlkmmejlnohjhaaGreatDoor

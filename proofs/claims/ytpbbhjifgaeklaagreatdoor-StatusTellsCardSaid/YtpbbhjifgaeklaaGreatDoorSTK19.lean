/- The reference's PackName: may a package be called so. · The reference's gap and bare. · What depend.term calls, in our words: blanks at the ends, a bracket, a sign ahead. · depend.term: a package that is asked for, read. · stanza.Small, the reference's Small: a name in small letters. · strings.Builder: written on, and read. · stanza.text: fields, written: the walk. -/
import Derived.Test.YtpbbhjifgaeklaaGreatDoorSTK15
import Derived.Test.YtpbbhjifgaeklaaGreatDoorSTK10
import Derived.Deep.RegionHeld3
import Derived.Deep.DeepCutAuto
import Derived.Deep.CutBlock
import Derived.Lib.ConvBytes
import Derived.Laws.IdiomStrings
import Derived.OwnWalk
import Derived.Test.YtpbbhjifgaeklaaGreatDoorSTK1
import Derived.Shelf.Strings.BuilderF
import Derived.Test.YtpbbhjifgaeklaaGreatDoorSTK11
import Derived.Test.YtpbbhjifgaeklaaGreatDoorSTK4
namespace Go.Proofs.YtpbbhjifgaeklaaGreatDoor
open Go.RowKit

theorem low_iff (c : UInt8) : VP.low c = true ↔ 97 ≤ c.toNat ∧ c.toNat ≤ 122 := by unfold VP.low; simp
set_option maxHeartbeats 1000000 in
set_option maxRecDepth 100000 in
theorem packName_calls (s : ByteArray) (w : World) (hs : s.size ≤ 1000000) : Calls Tryz.prog 77 #[.string s] w fun E w' => E = .returned (.bool (VP.nameP s.data.toList)) ∧ w = w' := by
  have HL := Lib.hid (size_eq_length s)
  have F := Lib.hid (nameP_good s.data.toList)
  go_enter Tryz.func77, Tryz.ntmps77
  go_wp2_with fail
  go_loop [7] (fun i => ∃ k : Nat, k ≤ s.size ∧ i = .int .i64 k ∧ Hid (goodN (s.data.toList.take k) = true)) (fun i => s.size - (intOf i).toNat)
  case atStart => exact ⟨0, Nat.zero_le _, rfl, rfl⟩
  case round =>
    obtain ⟨k, hk, rfl, hall⟩ := hrel
    by_cases hlt : k < s.size
    · have hts := Lib.hid (take_snoc s k hlt)
      have hdr := Lib.hid (drop_cons s k hlt)
      have hbt : s[k].toNat < 256 := s[k].toNat_lt
      obtain ⟨c, hc⟩ : ∃ c, s[k] = c := ⟨_, rfl⟩
      -- on: the byte is one of a name's
      have hon : Hid (goodN (s.data.toList.take k ++ [s[k]]) = true → goodN (s.data.toList.take (k + 1)) = true) := fun h => by rw [hts.out]; exact h
      have hoff : Hid (goodN (s.data.toList.take k ++ [s[k]]) = false → goodN s.data.toList = false) := fun h => by
        rw [← List.take_append_drop (k + 1) s.data.toList, hts.out, goodN_append (by simp), h]; rfl
      have hnil : Hid (k = 0 → s.data.toList.take k = []) := fun h => by rw [h]; rfl
      have hcons : Hid (0 < k → s.data.toList.take k ≠ []) := fun h e => by
        have := congrArg List.length e
        rw [List.length_take, ← HL.out, List.length_nil] at this
        omega
      clear hc
      by_cases hlow : VP.low s[k] = true
      · have h1 := (low_iff _).1 hlow
        have HP : Hid (goodN (s.data.toList.take (k + 1)) = true) := by
          refine hon.out ?_
          have h0 : VP.nm0 s[k] = true := by unfold VP.nm0; rw [hlow]; rfl
          by_cases hk0 : k = 0
          · rw [hnil.out hk0]; show (VP.nm0 s[k] && true) = true; rw [h0]; rfl
          · rw [goodN_append (hcons.out (by omega)), hall.out]; show (true && (VP.nm1 s[k] && true)) = true; rw [nm0_nm1 _ h0]; rfl
        have ha : 97 ≤ s[k].toNat := h1.1
        have hb : s[k].toNat ≤ 122 := h1.2
        clear hlow h1
        go_wp2_with fail
        go_round
        case rel => exact ⟨k + 1, by omega, by go_num, HP⟩
        case measure => simp [intOf]; omega
      · have hlo : s[k].toNat < 97 ∨ (122 < s[k].toNat ∧ decide (((s[k].toNat : Nat) : Int) ≤ 122) = false) := by
          have h' : ¬ (97 ≤ s[k].toNat ∧ s[k].toNat ≤ 122) := fun h => hlow ((low_iff s[k]).2 h)
          rcases Nat.lt_or_ge s[k].toNat 97 with h | h
          · exact .inl h
          · exact .inr ⟨by omega, decide_eq_false (by omega)⟩
        have HLO := Lib.hid (show VP.low s[k] = false by simpa using hlow)
        clear hlow
        have hd : VP.dig s[k] = true ∨ VP.dig s[k] = false := by cases VP.dig s[k] <;> simp
        rcases hd with hd | hd
        · have HP : Hid (goodN (s.data.toList.take (k + 1)) = true) := by
            refine hon.out ?_
            have h0 : VP.nm0 s[k] = true := by unfold VP.nm0; rw [hd]; simp
            by_cases hk0 : k = 0
            · rw [hnil.out hk0]; show (VP.nm0 s[k] && true) = true; rw [h0]; rfl
            · rw [goodN_append (hcons.out (by omega)), hall.out]; show (true && (VP.nm1 s[k] && true)) = true; rw [nm0_nm1 _ h0]; rfl
          rcases hlo with hlo | ⟨hlo, hz⟩
          all_goals
            go_wp2_with (go_at_call 145; refine (digit_calls _ _).mono ?_; rintro e w' ⟨rfl, rfl⟩)
            go_round
            case rel => exact ⟨k + 1, by omega, by go_num, HP⟩
            case measure => simp [intOf]; omega
        · have H0 : Hid (VP.nm0 s[k] = false) := by unfold VP.nm0; rw [HLO.out, hd]; exact rfl
          by_cases hk0 : k = 0
          · have HP : Hid (goodN s.data.toList = false) := hoff.out (by rw [hnil.out hk0]; show (VP.nm0 s[k] && true) = false; rw [H0.out]; rfl)
            have hkb : ((k : Int) == 0) = true := by rw [beq_iff_eq]; omega
            have HK0 := Lib.hid hk0
            clear hk0
            rcases hlo with hlo | ⟨hlo, hz⟩
            all_goals
              go_wp2_with (go_at_call 145; refine (digit_calls _ _).mono ?_; rintro e w' ⟨rfl, rfl⟩)
              go_ret
              exact ⟨ret_bool (by rw [F.out, HP.out, Bool.and_false]), rfl⟩
          · have hk1 : 0 < k := by omega
            have hkb : ((k : Int) == 0) = false := by rw [beq_eq_false_iff_ne]; omega
            by_cases hs : s[k].toNat = 43 ∨ s[k].toNat = 45 ∨ s[k].toNat = 46
            · have HP : Hid (goodN (s.data.toList.take (k + 1)) = true) := by
                refine hon.out ?_
                rw [goodN_append (hcons.out hk1), hall.out]
                show (true && (VP.nm1 s[k] && true)) = true
                have : VP.nm1 s[k] = true := by
                  unfold VP.nm1
                  rcases hs with h | h | h
                  · rw [show s[k] = 43 from UInt8.toNat_inj.1 h]; rfl
                  · rw [show s[k] = 45 from UInt8.toNat_inj.1 h]; rfl
                  · rw [show s[k] = 46 from UInt8.toNat_inj.1 h]; rfl
                rw [this]; rfl
              have hs' : ((((s[k].toNat : Nat) : Int) == 43) = true) ∨ ((((s[k].toNat : Nat) : Int) == 43) = false ∧ (((s[k].toNat : Nat) : Int) == 45) = true) ∨ ((((s[k].toNat : Nat) : Int) == 43) = false ∧ (((s[k].toNat : Nat) : Int) == 45) = false ∧ (((s[k].toNat : Nat) : Int) == 46) = true) := by
                simp only [beq_iff_eq, beq_eq_false_iff_ne]
                omega
              have hlo' : s[k].toNat < 97 := by omega
              clear hs hk0 hlo
              have hs2 : ((((s[k].toNat : Nat) : Int) == 43) = true ∧ (((s[k].toNat : Nat) : Int) != 43) = false) ∨ ((((s[k].toNat : Nat) : Int) == 43) = false ∧ (((s[k].toNat : Nat) : Int) != 43) = true ∧ (((s[k].toNat : Nat) : Int) == 45) = true ∧ (((s[k].toNat : Nat) : Int) != 45) = false) ∨
                  ((((s[k].toNat : Nat) : Int) == 43) = false ∧ (((s[k].toNat : Nat) : Int) != 43) = true ∧ (((s[k].toNat : Nat) : Int) == 45) = false ∧ (((s[k].toNat : Nat) : Int) != 45) = true ∧ (((s[k].toNat : Nat) : Int) == 46) = true ∧ (((s[k].toNat : Nat) : Int) != 46) = false) := by
                rcases hs' with ha | ⟨ha, hb⟩ | ⟨ha, hb, hc⟩
                · exact .inl ⟨ha, bne_of_true ha⟩
                · exact .inr (.inl ⟨ha, bne_of_false ha, hb, bne_of_true hb⟩)
                · exact .inr (.inr ⟨ha, bne_of_false ha, hb, bne_of_false hb, hc, bne_of_true hc⟩)
              clear hs'
              rcases hs2 with ⟨ha, ha'⟩ | ⟨ha, ha', hb, hb'⟩ | ⟨ha, ha', hb, hb', hc, hc'⟩
              all_goals
                go_wp2_with (go_at_call 145; refine (digit_calls _ _).mono ?_; rintro e w' ⟨rfl, rfl⟩)
                go_round
                case rel => exact ⟨k + 1, by omega, by go_num, HP⟩
                case measure => simp [intOf]; omega
            · have HP : Hid (goodN s.data.toList = false) := by
                refine hoff.out ?_
                rw [goodN_append (hcons.out hk1), hall.out]
                show (true && (VP.nm1 s[k] && true)) = false
                have : VP.nm1 s[k] = false := by
                  unfold VP.nm1
                  rw [H0.out]
                  have h1 : (s[k] == 43) = false := by rw [beq_eq_false_iff_ne]; intro e; exact hs (.inl (by rw [e]; rfl))
                  have h2 : (s[k] == 45) = false := by rw [beq_eq_false_iff_ne]; intro e; exact hs (.inr (.inl (by rw [e]; rfl)))
                  have h3 : (s[k] == 46) = false := by rw [beq_eq_false_iff_ne]; intro e; exact hs (.inr (.inr (by rw [e]; rfl)))
                  rw [h1, h2, h3]; rfl
                rw [this]; rfl
              have n43 : (((s[k].toNat : Nat) : Int) == 43) = false := by rw [beq_eq_false_iff_ne]; omega
              have n45 : (((s[k].toNat : Nat) : Int) == 45) = false := by rw [beq_eq_false_iff_ne]; omega
              have n46 : (((s[k].toNat : Nat) : Int) == 46) = false := by rw [beq_eq_false_iff_ne]; omega
              have m43 := bne_of_false n43
              have m45 := bne_of_false n45
              have m46 := bne_of_false n46
              clear hs hk0
              rcases hlo with hlo | ⟨hlo, hz⟩
              all_goals
                go_wp2_with (go_at_call 145; refine (digit_calls _ _).mono ?_; rintro e w' ⟨rfl, rfl⟩)
                go_ret
                exact ⟨ret_bool (by rw [F.out, HP.out, Bool.and_false]), rfl⟩
    · obtain rfl : k = s.size := by omega
      have HP : Hid (goodN s.data.toList = true) := by
        have := hall.out
        rw [HL.out, List.take_length] at this
        exact this
      go_wp2_with (go_at_call 75; refine (in_calls _ _ _ _).mono ?_; rintro E w' ⟨rfl, rfl⟩)
      go_ret
      exact ⟨ret_bool (by rw [F.out, HP.out, Bool.and_true, HL.out]), rfl⟩
end Go.Proofs.YtpbbhjifgaeklaaGreatDoor

namespace Go.Proofs.YtpbbhjifgaeklaaGreatDoor
open Go.RowKit

end Go.Proofs.YtpbbhjifgaeklaaGreatDoor

namespace Go.Proofs.YtpbbhjifgaeklaaGreatDoor
open Go.RowKit

/-- a term in a box of the call's own -/
structure Box5 (W : World) (g : Nat) (n : ByteArray) (op e : Int) (u r : ByteArray) : Prop where
  c0 : W.cell? ⟨g, 0, none⟩ = some (.string n)
  c1 : W.cell? ⟨g, 1, none⟩ = some (.int .i64 op)
  c2 : W.cell? ⟨g, 2, none⟩ = some (.int .i64 e)
  c3 : W.cell? ⟨g, 3, none⟩ = some (.string u)
  c4 : W.cell? ⟨g, 4, none⟩ = some (.string r)
  f0 : W.frozen? ⟨g, 0, none⟩ = false
  f1 : W.frozen? ⟨g, 1, none⟩ = false
  f2 : W.frozen? ⟨g, 2, none⟩ = false
  f3 : W.frozen? ⟨g, 3, none⟩ = false
  f4 : W.frozen? ⟨g, 4, none⟩ = false

theorem Box5.below {W W' : World} {g : Nat} {n : ByteArray} {op e : Int} {u r : ByteArray} (h : Box5 W g n op e u r) (hb : Below W.heap.size W W') : Box5 W' g n op e u r :=
  have hz : g < W.heap.size := cell_lt h.c0
  ⟨kept hb h.c0, kept hb h.c1, kept hb h.c2, kept hb h.c3, kept hb h.c4, keptf hb hz h.f0, keptf hb hz h.f1, keptf hb hz h.f2, keptf hb hz h.f3, keptf hb hz h.f4⟩
theorem Box5.setU {W : World} {g : Nat} {n : ByteArray} {op e : Int} {u r : ByteArray} (h : Box5 W g n op e u r) (u' : ByteArray) : Box5 (W.setCell ⟨g, 3, none⟩ (.string u')) g n op e u' r := by
  obtain ⟨c0, c1, c2, c3, c4, f0, f1, f2, f3, f4⟩ := h
  exact ⟨by go_cell, by go_cell, by go_cell, by go_cell, by go_cell, by simp [go_sem, f0], by simp [go_sem, f1], by simp [go_sem, f2], by simp [go_sem, f3], by simp [go_sem, f4]⟩
theorem Box5.setR {W : World} {g : Nat} {n : ByteArray} {op e : Int} {u r : ByteArray} (h : Box5 W g n op e u r) (r' : ByteArray) : Box5 (W.setCell ⟨g, 4, none⟩ (.string r')) g n op e u r' := by
  obtain ⟨c0, c1, c2, c3, c4, f0, f1, f2, f3, f4⟩ := h
  exact ⟨by go_cell, by go_cell, by go_cell, by go_cell, by go_cell, by simp [go_sem, f0], by simp [go_sem, f1], by simp [go_sem, f2], by simp [go_sem, f3], by simp [go_sem, f4]⟩
theorem Box5.other {W : World} {g g' j : Nat} {n : ByteArray} {op e : Int} {u r : ByteArray} {v : Value} (h : Box5 W g n op e u r) (hne : g ≠ g') : Box5 (W.setCell ⟨g', j, none⟩ v) g n op e u r := by
  obtain ⟨c0, c1, c2, c3, c4, f0, f1, f2, f3, f4⟩ := h
  exact ⟨by go_cell, by go_cell, by go_cell, by go_cell, by go_cell, by simp [go_sem, f0], by simp [go_sem, f1], by simp [go_sem, f2], by simp [go_sem, f3], by simp [go_sem, f4]⟩
end Go.Proofs.YtpbbhjifgaeklaaGreatDoor

namespace Go.Proofs.YtpbbhjifgaeklaaGreatDoor
open Go.RowKit

/-- of some length at most, with numbers that are int's -/
structure Tv.wide (t : Tv) : Prop where
  n : t.n.size ≤ 200000
  u : t.u.size ≤ 200000
  r : t.r.size ≤ 200000
  ok : t.ok

end Go.Proofs.YtpbbhjifgaeklaaGreatDoor

namespace Go.Proofs.YtpbbhjifgaeklaaGreatDoor
open Go Go.RowKit

/-- a row of n bytes of the call's own -/
structure ByteRow (w0 w : World) (b : Nat) (n : Nat) (f : Nat → UInt8) : Prop where
  cells : ∀ j, j < n → w.cell? ⟨b, j, none⟩ = some (.int .u8 ((f j).toNat : Int))
  free : ∀ j, j < n → w.frozen? ⟨b, j, none⟩ = false
  below : Below w0.heap.size w0 w
  high : w0.heap.size ≤ b

end Go.Proofs.YtpbbhjifgaeklaaGreatDoor

namespace Go.Proofs.YtpbbhjifgaeklaaGreatDoor
open Go Go.RowKit

/-- the builder at b (of the call's own, from B on) holds these bytes -/
def BldAt (B b : Nat) (l : List UInt8) (w : World) : Prop := Lib.IsBuilderF 179 5 B b (Lib.byteCells l) w
theorem BldAt.alloc {B b : Nat} {l : List UInt8} {w : World} (h : BldAt B b l w) (o : Obj) : BldAt B b l (w.alloc o) := Lib.IsBuilderF.alloc h o
theorem BldAt.drewN {B b : Nat} {l : List UInt8} {w : World} (h : BldAt B b l w) (n : Nat) : BldAt B b l (w.drewN n) := h
end Go.Proofs.YtpbbhjifgaeklaaGreatDoor

namespace Go.Proofs.YtpbbhjifgaeklaaGreatDoor
open Go Go.RowKit

/-- cut at the first line feed -/
structure Cut10 (s A R : ByteArray) (m : Bool) (todo : List (List UInt8)) : Prop where
  pcs : VP.pieces 10 s.data.toList = A.data.toList :: todo
  more : m = true → VP.pieces 10 R.data.toList = todo
  none : m = false → todo = []
  small : A.size ≤ s.size
  less : m = true → R.size < s.size
/-- what is written so far, and what is to come -/
structure WroteAt (w w' : World) (T l todo : List UInt8) : Prop where
  eq : l ++ todo = T
  bld : BldAt w.heap.size w.heap.size l w'
  below : Below w.heap.size w w'
theorem WroteAt.len {w w' : World} {T l todo : List UInt8} (h : WroteAt w w' T l todo) : l.length + todo.length = T.length := by rw [← h.eq, List.length_append]
end Go.Proofs.YtpbbhjifgaeklaaGreatDoor

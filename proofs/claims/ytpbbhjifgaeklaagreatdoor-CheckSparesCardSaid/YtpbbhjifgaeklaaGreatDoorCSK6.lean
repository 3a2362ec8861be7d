/- A package, as it lies in memory. · The library's calls that comparing makes, said in our words. · version.weight: a byte's place among others. · cmp.Or at int: the first of two, or of three, numbers that is not 0. -/
import Derived.Test.YtpbbhjifgaeklaaGreatDoorCSK5
import Derived.Test.YtpbbhjifgaeklaaGreatDoorCSK1
import Derived.Test.YtpbbhjifgaeklaaGreatDoorCSK2
namespace Go.Proofs.YtpbbhjifgaeklaaGreatDoor
open Go Go.RowKit

structure Pv where
  n : ByteArray
  e : Int
  u : ByteArray
  r : ByteArray
  dep : List (List Tv)
  ahead : List (List Tv)
  ag : List Tv
  br : List Tv
  re : List Tv
  pr : List Tv
  se : List ByteArray
  li : List ByteArray
  fi : List Fv

/-- this value is a package that reads as p -/
def PackAt (w : World) (v : Value) (p : Pv) : Prop := ∃ v1 v2 v3 v4 v5 v6 v7 v8 v9 : Value,
  v = .agg #[.string p.n, .int .i64 p.e, .string p.u, .string p.r, v1, v2, v3, v4, v5, v6, v7, v8, v9] ∧
  AskedAt w v1 p.dep ∧ AskedAt w v2 p.ahead ∧ TermsAt w v3 p.ag ∧ TermsAt w v4 p.br ∧ TermsAt w v5 p.re ∧ TermsAt w v6 p.pr ∧ StrsAt w v7 p.se ∧ StrsAt w v8 p.li ∧ FieldsAt w v9 p.fi ∧
  -9223372036854775808 ≤ p.e ∧ p.e ≤ 9223372036854775807
theorem PackAt.below {w w' : World} {v : Value} {p : Pv} (h : PackAt w v p) (hb : Below w.heap.size w w') : PackAt w' v p := by
  obtain ⟨v1, v2, v3, v4, v5, v6, v7, v8, v9, hv, h1, h2, h3, h4, h5, h6, h7, h8, h9, hlo, hhi⟩ := h
  exact ⟨v1, v2, v3, v4, v5, v6, v7, v8, v9, hv, h1.below hb, h2.below hb, h3.below hb, h4.below hb, h5.below hb, h6.below hb, h7.below hb, h8.below hb, h9.below hb, hlo, hhi⟩

/-! short enough to be held -/
def textsB (ss : List ByteArray) : Bool := decide (ss.length ≤ 40) && ss.all fun s => decide (s.size ≤ 100)
def filesB (fs : List Fv) : Bool := decide (fs.length ≤ 30) && fs.all fun f => decide (f.n.size ≤ 100) && decide (f.v.size ≤ 500)
def saysB (p : Pv) : Bool :=
  decide (p.n.size ≤ 60) && (shortB p.u p.r && (termsB p.dep && (termsB p.ahead && (flatB p.ag && (flatB p.br && (flatB p.re && (flatB p.pr && (textsB p.se && (textsB p.li && filesB p.fi)))))))))
end Go.Proofs.YtpbbhjifgaeklaaGreatDoor

namespace Go.Proofs.YtpbbhjifgaeklaaGreatDoor
open Go.RowKit

theorem call_trimDigits (s : ByteArray) (w : World) : Calls Tryz.prog 310 #[.string s, .string ⟨#[48, 49, 50, 51, 52, 53, 54, 55, 56, 57]⟩] w
    fun e w' => ∃ t : ByteArray, e = .returned (.string t) ∧ Behind VP.dig s t ∧ t.size ≤ s.size ∧ Below w.heap.size w w' :=
  (Any.strings_TrimLeft_laid Tryz.lays161 info_set s digitsB w (by decide) (fun j b h => by
    have : b ∈ digitsB.data.toList := List.mem_of_getElem? h
    have hall : (digitsB.data.toList.all fun b => decide (b.toNat < 128)) = true := by decide
    simpa using List.all_eq_true.1 hall b this)).mono fun e w' ⟨he, hb⟩ => by
      have h : Behind VP.dig s ⟨(Lib.trimLeftS s.data.toList digitsB.data.toList).toArray⟩ := by
        unfold Behind Lib.trimLeftS
        show List.dropWhile _ _ = List.dropWhile _ _
        congr 1
        funext c
        exact digits_contains c
      exact ⟨_, he, h, h.size, hb⟩

theorem call_trimNoughts (s : ByteArray) (w : World) : Calls Tryz.prog 310 #[.string s, .string ⟨#[48]⟩] w
    fun e w' => ∃ t : ByteArray, e = .returned (.string t) ∧ Behind (· == 48) s t ∧ t.size ≤ s.size ∧ Below w.heap.size w w' :=
  (Tryz.strings_TrimLeft_one s 48 (by decide) w).mono fun e w' ⟨he, hw⟩ => by
    have h : Behind (· == 48) s ⟨(Lib.trimLeftB s.data.toList 48).toArray⟩ := by
      unfold Behind Lib.trimLeftB
      rfl
    exact ⟨_, he, h, h.size, by rw [hw]; exact Below.refl _ _⟩

theorem compareInt_eq (x y : Int) : Lib.compareInt x y = VP.cmpI x y := by
  unfold Lib.compareInt VP.cmpI
  rfl
theorem call_cmp (x y : Int) (w : World) : Calls Tryz.prog 285 #[.int .i64 x, .int .i64 y] w fun e w' => e = .returned (.int .i64 (VP.cmpI x y)) ∧ w = w' :=
  (Tryz.cmp_Compare_int x y w).mono fun e w' ⟨he, hw⟩ => ⟨by rw [he, compareInt_eq], hw.symm⟩

theorem compareBytes_eq (a b : List UInt8) : Lib.compareBytes a b = VP.cmpB a b := by
  induction a generalizing b with
  | nil => cases b <;> rfl
  | cons x a ih =>
    cases b with
    | nil => rfl
    | cons y b =>
      unfold Lib.compareBytes VP.cmpB
      rw [ih]
      unfold VP.orc VP.cmpI
      have e1 : (x < y) ↔ ((x.toNat : Int) < y.toNat) := by rw [UInt8.lt_iff_toNat_lt]; omega
      have e2 : (y < x) ↔ ((y.toNat : Int) < x.toNat) := by rw [UInt8.lt_iff_toNat_lt]; omega
      by_cases h1 : x < y
      · rw [if_pos h1, if_pos (e1.1 h1)]; rfl
      · rw [if_neg h1, if_neg (fun h => h1 (e1.2 h))]
        by_cases h2 : y < x
        · rw [if_pos h2, if_pos (e2.1 h2)]; rfl
        · rw [if_neg h2, if_neg (fun h => h2 (e2.2 h))]; rfl
theorem call_scmp (a b : ByteArray) (w : World) : Calls Tryz.prog 311 #[.string a, .string b] w fun e w' => e = .returned (.int .i64 (VP.cmpB a.data.toList b.data.toList)) ∧ w = w' :=
  (Tryz.strings_Compare a b w).mono fun e w' ⟨he, hw⟩ => ⟨by rw [he, compareBytes_eq], hw.symm⟩
end Go.Proofs.YtpbbhjifgaeklaaGreatDoor

namespace Go.Proofs.YtpbbhjifgaeklaaGreatDoor
open Go.RowKit

theorem weight_nil (w : World) : Calls Tryz.prog 309 #[.string ⟨#[]⟩] w fun e w' => e = .returned (.int .i64 0) ∧ w = w' := by
  go_enter Tryz.func309, Tryz.ntmps309
  go_wp2
  go_ret
  exact ⟨rfl, rfl⟩

set_option maxRecDepth 100000 in
theorem weight_cons (s : ByteArray) (w : World) (h : 0 < s.size) : Calls Tryz.prog 309 #[.string s] w fun e w' => e = .returned (.int .i64 (VP.wtc s[0])) ∧ w = w' := by
  have hne := isEmpty_false s h
  have hd := idxD_dig s[0]
  have hl := idxL_lett s[0]
  have hb : s[0].toNat < 256 := s[0].toNat_lt
  have hw : VP.wtc s[0] = if VP.dig s[0] then 0 else if s[0].toNat = 126 then -1 else if VP.lett s[0] then (s[0].toNat : Int) else (s[0].toNat : Int) + 256 := rfl
  cases h1 : VP.dig s[0] with
  | true =>
    rw [h1] at hd
    rw [h1, if_pos rfl] at hw
    have hd' : (0 ≤ idxD s[0]) := of_decide_eq_true hd
    clear hd hl h1
    have HW := Lib.hid hw
    clear hw
    go_enter Tryz.func309, Tryz.ntmps309
    go_wp2_with (go_at_call 140; refine (call_idxD _ _).mono ?_; rintro e w' ⟨rfl, rfl⟩)
    go_ret
    exact ⟨by rw [HW.out]; rfl, rfl⟩
  | false =>
    rw [h1] at hd
    rw [h1, if_neg (by simp)] at hw
    have hd' : ¬ (0 ≤ idxD s[0]) := of_decide_eq_false hd
    clear hd h1
    by_cases h2 : s[0].toNat = 126
    · rw [if_pos h2] at hw
      have h2' : (((s[0].toNat : Nat) : Int) == 126) = true := by rw [beq_iff_eq]; omega
      have HW := Lib.hid hw
      clear hw hl h2
      go_enter Tryz.func309, Tryz.ntmps309
      go_wp2_with (go_at_call 140; refine (call_idxD _ _).mono ?_; rintro e w' ⟨rfl, rfl⟩)
      go_ret
      exact ⟨by rw [HW.out]; rfl, rfl⟩
    · rw [if_neg h2] at hw
      have h2' : (((s[0].toNat : Nat) : Int) == 126) = false := by rw [beq_eq_false_iff_ne]; omega
      cases h3 : VP.lett s[0] with
      | true =>
        rw [h3] at hl
        rw [h3, if_pos rfl] at hw
        have hl' : (0 ≤ idxL s[0]) := of_decide_eq_true hl
        have HW := Lib.hid hw
        clear hw hl h2 h3
        go_enter Tryz.func309, Tryz.ntmps309
        go_wp2_with (go_at_call 140; first | ((with_reducible refine (call_idxD _ _).mono ?_); rintro e w' ⟨rfl, rfl⟩) | ((with_reducible refine (call_idxL _ _).mono ?_); rintro e w' ⟨rfl, rfl⟩))
        go_ret
        exact ⟨by rw [HW.out]; rfl, rfl⟩
      | false =>
        rw [h3] at hl
        rw [h3, if_neg (by simp)] at hw
        have hl' : ¬ (0 ≤ idxL s[0]) := of_decide_eq_false hl
        have HW := Lib.hid hw
        clear hw hl h2 h3
        go_enter Tryz.func309, Tryz.ntmps309
        go_wp2_with (go_at_call 140; first | ((with_reducible refine (call_idxD _ _).mono ?_); rintro e w' ⟨rfl, rfl⟩) | ((with_reducible refine (call_idxL _ _).mono ?_); rintro e w' ⟨rfl, rfl⟩))
        go_ret
        exact ⟨by rw [HW.out]; rfl, rfl⟩

/-! number -/
theorem weight_calls (s : ByteArray) (w : World) : Calls Tryz.prog 309 #[.string s] w fun e w' => e = .returned (.int .i64 (VP.wt s.data.toList)) ∧ w = w' := by
  by_cases h : s.size = 0
  · have hs := eq_empty s h
    subst hs
    exact weight_nil w
  · have h' : 0 < s.size := by omega
    rw [list_cons s h']
    exact weight_cons s w h'
end Go.Proofs.YtpbbhjifgaeklaaGreatDoor

namespace Go.Proofs.YtpbbhjifgaeklaaGreatDoor
open Go.RowKit

theorem or2_calls (b : Nat) (x y : Int) (w : World) (h0 : w.cell? ⟨b, 0, none⟩ = some (.int .i64 x)) (h1 : w.cell? ⟨b, 1, none⟩ = some (.int .i64 y)) :
    Calls Tryz.prog 284 #[.slice (some ⟨b, 0, none⟩) 2 2] w fun e w' => e = .returned (.int .i64 (VP.orc x y)) ∧ w = w' := by
  by_cases hx : x = 0
  · have hb : (x == 0) = true := by rw [beq_iff_eq]; exact hx
    have hb' : (x != 0) = false := by rw [bne, hb]; rfl
    have H := Lib.hid hx
    clear hx
    have hy : (y != 0) = true ∨ (y != 0) = false := by cases (y != 0) <;> simp
    have fin : VP.orc x y = y := by unfold VP.orc; rw [if_neg (by rw [H.out]; decide)]
    have F := Lib.hid fin
    clear fin
    rcases hy with hy | hy
    · go_enter Tryz.func284, Tryz.ntmps284
      go_wp2
      go_rounds 3
      all_goals (go_ret; exact ⟨ret_int (by rw [F.out]), rfl⟩)
    · have y0 := Lib.hid (show y = 0 by simpa using hy)
      go_enter Tryz.func284, Tryz.ntmps284
      go_wp2
      go_rounds 3
      all_goals (go_ret; exact ⟨ret_int (by rw [F.out, y0.out]), rfl⟩)
  · have hb' : (x != 0) = true := by rw [bne_iff_ne]; exact hx
    have fin : VP.orc x y = x := by unfold VP.orc; rw [if_pos hx]
    have F := Lib.hid fin
    clear fin hx
    go_enter Tryz.func284, Tryz.ntmps284
    go_wp2
    go_rounds 3
    all_goals (go_ret; exact ⟨ret_int (by rw [F.out]), rfl⟩)

theorem or3_calls (b : Nat) (x y z : Int) (w : World) (h0 : w.cell? ⟨b, 0, none⟩ = some (.int .i64 x)) (h1 : w.cell? ⟨b, 1, none⟩ = some (.int .i64 y)) (h2 : w.cell? ⟨b, 2, none⟩ = some (.int .i64 z)) :
    Calls Tryz.prog 284 #[.slice (some ⟨b, 0, none⟩) 3 3] w fun e w' => e = .returned (.int .i64 (VP.orc x (VP.orc y z))) ∧ w = w' := by
  by_cases hx : x = 0
  · have hb' : (x != 0) = false := by rw [hx]; rfl
    by_cases hy : y = 0
    · have hc' : (y != 0) = false := by rw [hy]; rfl
      have fin : VP.orc x (VP.orc y z) = z := by subst hx; subst hy; unfold VP.orc; rfl
      have F := Lib.hid fin
      clear fin hx hy
      have hz : (z != 0) = true ∨ (z != 0) = false := by cases (z != 0) <;> simp
      rcases hz with hz | hz
      · go_enter Tryz.func284, Tryz.ntmps284
        go_wp2
        go_rounds 4
        all_goals (go_ret; exact ⟨ret_int (by rw [F.out]), rfl⟩)
      · have z0 := Lib.hid (show z = 0 by simpa using hz)
        go_enter Tryz.func284, Tryz.ntmps284
        go_wp2
        go_rounds 4
        all_goals (go_ret; exact ⟨ret_int (by rw [F.out, z0.out]), rfl⟩)
    · have hc' : (y != 0) = true := by rw [bne_iff_ne]; exact hy
      have fin : VP.orc x (VP.orc y z) = y := by subst hx; unfold VP.orc; rw [if_neg (by decide), if_pos hy]
      have F := Lib.hid fin
      clear fin hx hy
      go_enter Tryz.func284, Tryz.ntmps284
      go_wp2
      go_rounds 4
      all_goals (go_ret; exact ⟨ret_int (by rw [F.out]), rfl⟩)
  · have hb' : (x != 0) = true := by rw [bne_iff_ne]; exact hx
    have fin : VP.orc x (VP.orc y z) = x := by unfold VP.orc; rw [if_pos hx]
    have F := Lib.hid fin
    clear fin hx
    go_enter Tryz.func284, Tryz.ntmps284
    go_wp2
    go_rounds 4
    all_goals (go_ret; exact ⟨ret_int (by rw [F.out]), rfl⟩)
end Go.Proofs.YtpbbhjifgaeklaaGreatDoor

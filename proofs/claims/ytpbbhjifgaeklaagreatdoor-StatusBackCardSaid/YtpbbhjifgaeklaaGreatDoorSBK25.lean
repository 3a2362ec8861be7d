/- StatusBack: for every status, text and state the call returns true: from the walks. -/
import Derived.Test.YtpbbhjifgaeklaaGreatDoorSBK23
import Derived.Test.YtpbbhjifgaeklaaGreatDoorSBK24
namespace Go.Proofs.YtpbbhjifgaeklaaGreatDoor
open Go Go.RowKit

theorem fit_textsK {z : St} (hs : shortB z.u z.r = true) (h1 : textsB z.ws = true) (h2 : textsB z.ts = true) : StFit z := by
  unfold shortB at hs
  unfold textsB at h1 h2
  simp only [Bool.and_eq_true, decide_eq_true_eq, List.all_eq_true] at hs h1 h2
  exact ⟨by omega, by omega, by omega, by omega, fun s h => Nat.le_trans (h1.2 s h) (by omega), fun s h => Nat.le_trans (h2.2 s h) (by omega)⟩

set_option maxHeartbeats 2000000 in
set_option maxRecDepth 100000 in
theorem stB_skip (z : St) (v1 v2 : Value) (t : ByteArray) (s : Int) (w : World) (hZ : StAt w v1 v2 z) (hno : ¬ (shortB z.u z.r = true ∧ textsB z.ws = true ∧ textsB z.ts = true ∧ t.size ≤ 400)) : Calls Tryz.prog 3 #[stV z v1 v2, .string t, .int .i64 s] w (BoolIs true w) := by
  have hb0 := below_alloc w (.cells #[.int .i64 z.n, .int .i64 z.e, .string z.u, .string z.r, .bool z.h, v1, v2] 26)
  have X0 := stBox_new w z v1 v2 26
  have C1 := Lib.hid (short_calls z.e z.u z.r (w.alloc (.cells #[.int .i64 z.n, .int .i64 z.e, .string z.u, .string z.r, .bool z.h, v1, v2] 26)))
  have C2 := Lib.hid (fun (W : World) (hb : Below w.heap.size w W) => keepTexts_calls v1 z.ws W (hZ.ws.below hb))
  have C3 := Lib.hid (fun (W : World) (hb : Below w.heap.size w W) => keepTexts_calls v2 z.ts W (hZ.ts.below hb))
  clear hZ
  obtain ⟨n, e, u, r, hh, ws, ts⟩ := z
  simp only at *
  obtain ⟨b0, hb0'⟩ : ∃ b, shortB u r = b := ⟨_, rfl⟩
  obtain ⟨b1, hb1⟩ : ∃ b, textsB ws = b := ⟨_, rfl⟩
  obtain ⟨b2, hb2⟩ : ∃ b, textsB ts = b := ⟨_, rfl⟩
  rw [hb0', hb1, hb2] at hno
  rw [hb0'] at C1
  rw [hb1] at C2
  rw [hb2] at C3
  clear hb0' hb1 hb2
  obtain ⟨c0, c1, c2, c3, c4, c5, c6⟩ := id X0
  show Calls Tryz.prog 3 #[.agg #[.int .i64 n, .int .i64 e, .string u, .string r, .bool hh, v1, v2], .string t, .int .i64 s] w _
  go_enter Tryz.func3, Tryz.ntmps3
  go_wp2_with fail
  refine C1.out.mono ?_
  rintro E w1 ⟨rfl, hb⟩
  have HB := Lib.hid (step_below hb0 hb)
  have X1 := X0.below hb
  clear c0 c1 c2 c3 c4 c5 c6 X0 hb hb0 C1
  cases b0 with
  | false =>
    go_wp2_with fail
    go_ret
    exact ⟨rfl, HB.out⟩
  | true =>
  obtain ⟨m, hm⟩ : ∃ m, w.heap.size = m := ⟨_, rfl⟩
  rw [hm] at X1
  (try rw [hm])
  clear hm
  have c5 := X1.c5
  go_wp2_with fail
  refine (C2.out _ HB.out).mono ?_
  rintro E w2 ⟨rfl, hb⟩
  have HB2 := Lib.hid (step_below HB.out hb)
  have X2 := X1.below hb
  clear c5 X1 hb HB C2
  cases b1 with
  | false =>
    go_wp2_with fail
    go_ret
    exact ⟨rfl, HB2.out⟩
  | true =>
  have c6 := X2.c6
  go_wp2_with fail
  refine (C3.out _ HB2.out).mono ?_
  rintro E w3 ⟨rfl, hb⟩
  have HB3 := Lib.hid (step_below HB2.out hb)
  clear c6 X2 hb HB2 C3
  cases b2 with
  | false =>
    go_wp2_with fail
    go_ret
    exact ⟨rfl, HB3.out⟩
  | true =>
    have h4 : 400 < t.size := by
      rcases Nat.lt_or_ge 400 t.size with h | h
      · exact h
      · simp at hno; omega
    clear hno
    go_wp2_with fail
    go_ret
    exact ⟨rfl, HB3.out⟩


/-! a fact -/
def stoodS : ByteArray := ⟨#[53, 32, 49, 46, 48, 32, 102, 114, 101, 101, 32, 97, 97, 44, 98, 98, 32, 45]⟩
def stoodZ : St := ⟨5, 0, ⟨#[49, 46, 48]⟩, ⟨#[]⟩, false, [⟨#[97, 97]⟩, ⟨#[98, 98]⟩], []⟩
theorem stood_right : rightS stoodZ = true := by decide +kernel
theorem stood_print : stoodS.data.toList = printS stoodZ := by
  unfold printS wordsS
  rw [itoa_one (by decide) (by decide)]
  decide +kernel
theorem stood_parse : parseS atoiO verOf stoodS = some stoodZ := parse_printS stood_right stood_print

set_option maxHeartbeats 1000000 in
set_option maxRecDepth 100000 in
theorem stood_calls (w : World) (hE : Env w) (hA : EnvA w) (hN : EnvN w) : Calls Tryz.prog 11 #[] w (BoolIs true w) := by
  have C := statParse_calls stoodS w hE hA (by decide)
  rw [stood_parse] at C
  have C := Lib.hid C
  have CN : Hid (∀ W : World, Below w.heap.size w W → Calls Tryz.prog 56 #[.int .i64 2, .int .i64 2] W fun E w' => E = .returned (.tuple #[.int .i64 3, .nilIface]) ∧ W = w') := Lib.hid (fun W hb => next_calls 2 2 (by decide) (by decide) (by decide) W (hN.below hb))
  clear hE hA hN
  go_enter Tryz.func11, Tryz.ntmps11
  go_wp2_with fail
  refine C.out.mono ?_
  rintro E w1 ⟨v1, v2, rfl, ha, hb⟩
  obtain ⟨A1, k1, hv1, _⟩ := ha.ws.open
  obtain ⟨A2, k2, hv2, _⟩ := ha.ts.open
  have hv1 : v1 = .slice A1 2 k1 := hv1
  have hv2 : v2 = .slice A2 0 k2 := hv2
  subst hv1 hv2
  have hb1 := below_alloc w1 (.cells #[.int .i64 5, .int .i64 0, .string ⟨#[49, 46, 48]⟩, .string ⟨#[]⟩, .bool false, .slice A1 2 k1, .slice A2 0 k2] 26)
  have X1 := stBox_new w1 stoodZ (.slice A1 2 k1) (.slice A2 0 k2) 26
  have HB := Lib.hid (step_below hb hb1)
  have c0 := X1.c0
  have c5 := X1.c5
  unfold stoodZ at c0 c5
  simp only at c0 c5
  clear ha hb hb1 C X1
  rw [show (Ending.returned (.tuple #[stV ((some stoodZ).getD st0) (.slice A1 2 k1) (.slice A2 0 k2), errV (if (some stoodZ).isSome then 0 else 3)])) = .returned (.tuple #[.agg #[.int .i64 5, .int .i64 0, .string ⟨#[49, 46, 48]⟩, .string ⟨#[]⟩, .bool false, .slice A1 2 k1, .slice A2 0 k2], .nilIface]) from rfl]
  go_wp2_with fail
  refine (CN.out _ HB.out).mono ?_
  rintro E w2 ⟨rfl, rfl⟩
  go_wp2_with fail
  go_ret
  exact ⟨rfl, HB.out⟩

/-- what a status is written as is read as that status -/
theorem back_parse {z : St} (h : rightS z = true) : parseS atoiO verOf (printB z) = some z := parse_printS h rfl
theorem back_text {z : St} {t : ByteArray} (h : parseS atoiO verOf t = some z) : rightS z = true ∧ printB z = t := by
  obtain ⟨h1, h2⟩ := parse_ok h
  exact ⟨h1, data_inj h2⟩

/-- what Parse hands on, of a status that it read -/
theorem parse_some {s : ByteArray} {z : St} {W : World} (h : parseS atoiO verOf s = some z) (hE : Env W) (hA : EnvA W) (hs : s.size ≤ 9000) :
    Calls Tryz.prog 13 #[.string s] W fun E W' => ∃ A1 n1 c1 A2 n2 c2, E = .returned (.tuple #[.agg #[.int .i64 z.n, .int .i64 z.e, .string z.u, .string z.r, .bool z.h, .slice A1 n1 c1, .slice A2 n2 c2], .nilIface]) ∧ StAt W' (.slice A1 n1 c1) (.slice A2 n2 c2) z ∧ Below W.heap.size W W' := by
  refine (statParse_calls s W hE hA hs).mono ?_
  rw [h]
  rintro E W' ⟨v1, v2, rfl, ha, hb⟩
  have ha : StAt W' v1 v2 z := ha
  obtain ⟨A1, n1, c1, rfl⟩ := strs_slice ha.ws
  obtain ⟨A2, n2, c2, rfl⟩ := strs_slice ha.ts
  exact ⟨A1, n1, c1, A2, n2, c2, rfl, ha, hb⟩
theorem parse_none {s : ByteArray} {W : World} (h : parseS atoiO verOf s = none) (hE : Env W) (hA : EnvA W) (hs : s.size ≤ 9000) :
    Calls Tryz.prog 13 #[.string s] W fun E W' => ∃ A1 c1 A2 c2, E = .returned (.tuple #[.agg #[.int .i64 0, .int .i64 0, .string ⟨#[]⟩, .string ⟨#[]⟩, .bool false, .slice A1 0 c1, .slice A2 0 c2], .iface 43 (.int .i64 3)]) ∧ Below W.heap.size W W' := by
  refine (statParse_calls s W hE hA hs).mono ?_
  rw [h]
  rintro E W' ⟨v1, v2, rfl, ha, hb⟩
  have ha : StAt W' v1 v2 st0 := ha
  obtain ⟨A1, c1, hv1, _⟩ := ha.ws.open
  obtain ⟨A2, c2, hv2, _⟩ := ha.ts.open
  have hv1 : v1 = .slice A1 0 c1 := hv1
  have hv2 : v2 = .slice A2 0 c2 := hv2
  subst hv1 hv2
  exact ⟨A1, c1, A2, c2, rfl, hb⟩

theorem fit_right {s : ByteArray} {z : St} (h : parseS atoiO verOf s = some z) : StFit z := by
  obtain ⟨h1, h2⟩ := back_text h
  obtain ⟨s1, s2⟩ := right_small h1
  have hv : z.u.size ≤ 10000 ∧ z.r.size ≤ 10000 := by
    rcases ((rightS_iff z).1 h1).2.2 with ⟨_, hn, _⟩ | ⟨_, hr, _⟩
    · unfold nov at hn
      simp only [Bool.and_eq_true, decide_eq_true_eq] at hn
      rw [hn.1.2, hn.2]
      decide
    · have H := ((VP.rightP_iff _ _ _).1 hr).len
      unfold VP.printP at H
      rw [size_eq_length, size_eq_length]
      simp only [List.length_append] at H
      split at H <;> split at H <;> simp_all <;> omega
  exact ⟨hv.1, hv.2, by have := s1.n; omega, by have := s2.n; omega, fun x hx => by have := s1.s x hx; omega, fun x hx => by have := s2.s x hx; omega⟩
theorem four_cells {W : World} {g a b c d : Nat} (h : W.cell? ⟨g, 0, none⟩ = some (.int .i64 a) ∧ W.cell? ⟨g, 1, none⟩ = some (.int .i64 b) ∧ W.cell? ⟨g, 2, none⟩ = some (.int .i64 c) ∧ W.cell? ⟨g, 3, none⟩ = some (.int .i64 d)) :
    ∀ i, i < 4 → W.cell? ⟨g, 0 + i, none⟩ = some (.int .i64 (([a, b, c, d].getD i 0 : Nat) : Int)) := by
  intro i hi
  match i, hi with
  | 0, _ => exact h.1
  | 1, _ => exact h.2.1
  | 2, _ => exact h.2.2.1
  | 3, _ => exact h.2.2.2
theorem opens_half : ∀ k : Fin 8, afterT 1 k.val = 2 := by decide
theorem up_steps (k : Nat) (hk : k ≤ 7) (W : World) (hN : EnvN W) (g : Nat) (h : W.cell? ⟨g, 0, none⟩ = some (.int .i64 1) ∧ W.cell? ⟨g, 1, none⟩ = some (.int .i64 2) ∧ W.cell? ⟨g, 2, none⟩ = some (.int .i64 3) ∧ W.cell? ⟨g, 3, none⟩ = some (.int .i64 4)) :
    Calls Tryz.prog 16 #[.int .i64 k, .slice (some ⟨g, 0, none⟩) 4 4] W fun E w' => E = .returned (.tuple #[.int .i64 7, .bool true]) ∧ W = w' :=
  steps_calls (fun i => [1, 2, 3, 4].getD i 0) (fun i => [k, 2, 3, 4, 7].getD i 0) 4 g 0 4 W hN (four_cells h) (by decide) (Nat.le_refl _)
    (fun i hi => by match i, hi with | 0, _ => exact ⟨by decide, by decide⟩ | 1, _ => exact ⟨by decide, by decide⟩ | 2, _ => exact ⟨by decide, by decide⟩ | 3, _ => exact ⟨by decide, by decide⟩)
    (fun i hi => by match i, hi with | 0, _ => exact hk | 1, _ => (show 2 ≤ 7; decide) | 2, _ => (show 3 ≤ 7; decide) | 3, _ => (show 4 ≤ 7; decide))
    (fun i hi => by match i, hi with | 0, _ => exact opens_half ⟨k, by omega⟩ | 1, _ => rfl | 2, _ => rfl | 3, _ => rfl)
theorem down_steps (k : Nat) (hk : k ≤ 7) (W : World) (hN : EnvN W) (g : Nat) (h : W.cell? ⟨g, 0, none⟩ = some (.int .i64 1) ∧ W.cell? ⟨g, 1, none⟩ = some (.int .i64 6) ∧ W.cell? ⟨g, 2, none⟩ = some (.int .i64 7) ∧ W.cell? ⟨g, 3, none⟩ = some (.int .i64 8)) :
    Calls Tryz.prog 16 #[.int .i64 k, .slice (some ⟨g, 0, none⟩) 4 4] W fun E w' => E = .returned (.tuple #[.int .i64 0, .bool true]) ∧ W = w' :=
  steps_calls (fun i => [1, 6, 7, 8].getD i 0) (fun i => [k, 2, 2, 1, 0].getD i 0) 4 g 0 4 W hN (four_cells h) (by decide) (Nat.le_refl _)
    (fun i hi => by match i, hi with | 0, _ => exact ⟨by decide, by decide⟩ | 1, _ => exact ⟨by decide, by decide⟩ | 2, _ => exact ⟨by decide, by decide⟩ | 3, _ => exact ⟨by decide, by decide⟩)
    (fun i hi => by match i, hi with | 0, _ => exact hk | 1, _ => (show 2 ≤ 7; decide) | 2, _ => (show 2 ≤ 7; decide) | 3, _ => (show 1 ≤ 7; decide))
    (fun i hi => by match i, hi with | 0, _ => exact opens_half ⟨k, by omega⟩ | 1, _ => rfl | 2, _ => rfl | 3, _ => rfl)

set_option maxHeartbeats 4000000 in
set_option maxRecDepth 100000 in
theorem stB_main (z : St) (v1 v2 : Value) (t : ByteArray) (s : Int) (w : World) (hE : Env w) (hA : EnvA w) (hN : EnvN w) (hZ : StAt w v1 v2 z) (h0 : shortB z.u z.r = true) (h1 : textsB z.ws = true) (h2 : textsB z.ts = true) (h4 : t.size ≤ 400) : Calls Tryz.prog 3 #[stV z v1 v2, .string t, .int .i64 s] w (BoolIs true w) := by
  have hf := fit_textsK h0 h1 h2
  have hb0 := below_alloc w (.cells #[.int .i64 z.n, .int .i64 z.e, .string z.u, .string z.r, .bool z.h, v1, v2] 26)
  have X0 := stBox_new w z v1 v2 26
  have C1 := short_calls z.e z.u z.r (w.alloc (.cells #[.int .i64 z.n, .int .i64 z.e, .string z.u, .string z.r, .bool z.h, v1, v2] 26))
  have C2 := Lib.hid (fun (W : World) (hb : Below w.heap.size w W) => (show Calls Tryz.prog 10 #[v1] W (BoolIs true W) from h1 ▸ keepTexts_calls v1 z.ws W (hZ.ws.below hb)))
  have C3 := Lib.hid (fun (W : World) (hb : Below w.heap.size w W) => (show Calls Tryz.prog 10 #[v2] W (BoolIs true W) from h2 ▸ keepTexts_calls v2 z.ts W (hZ.ts.below hb)))
  rw [h0] at C1
  have C1 := Lib.hid C1
  have C4 := Lib.hid (fun (W : World) (hb : Below w.heap.size w W) => stood_calls W (hE.below hb) (hA.below hb) (hN.below hb))
  have C5 := Lib.hid (fun (W : World) (hb : Below w.heap.size w W) => statPrint_calls z v1 v2 W (hE.below hb) (hZ.below hb) hf)
  have CR := Lib.hid (fun (y : St) (u1 u2 : Value) (hy : StFit y) (W : World) (hb : Below w.heap.size w W) (h : StAt W u1 u2 y) => statRight_calls y u1 u2 W (hE.below hb) h hy)
  have CP := Lib.hid (fun (y : St) (u1 u2 : Value) (hy : StFit y) (W : World) (hb : Below w.heap.size w W) (h : StAt W u1 u2 y) => statPrint_calls y u1 u2 W (hE.below hb) h hy)
  have CY := Lib.hid (fun (x : ByteArray) (y : St) (h : parseS atoiO verOf x = some y) (hx : x.size ≤ 9000) (W : World) (hb : Below w.heap.size w W) => parse_some (W := W) h (hE.below hb) (hA.below hb) hx)
  have CN := Lib.hid (fun (x : ByteArray) (h : parseS atoiO verOf x = none) (hx : x.size ≤ 9000) (W : World) (hb : Below w.heap.size w W) => parse_none (W := W) h (hE.below hb) (hA.below hb) hx)
  obtain ⟨k, hk8, hk⟩ := pick_num s 8 (by decide) (by decide)
  have CK : Hid (∀ W : World, Calls Tryz.prog 15 #[.int .i64 s, .int .i64 8] W fun E w' => E = .returned (.int .i64 (k : Int)) ∧ W = w') := Lib.hid (fun W => hk ▸ pick_calls s 8 (by decide) (by decide) W)
  have CU := Lib.hid (fun (W : World) (hb : Below w.heap.size w W) => up_steps k (by omega) W (hN.below hb))
  have CD := Lib.hid (fun (W : World) (hb : Below w.heap.size w W) => down_steps k (by omega) W (hN.below hb))
  have HF := Lib.hid hf
  have H4 := Lib.hid (show t.size ≤ 9000 by omega)
  clear hE hA hN hZ h0 h1 h2 hf hk hk8
  have h4' : ¬ 400 < t.size := by omega
  clear h4
  unfold stV at CR CP
  unfold PrintStIs at C5 CP
  obtain ⟨n, e, u, r, hh, ws, ts⟩ := z
  unfold stV at C5
  simp only at *
  obtain ⟨c0, c1, c2, c3, c4, c5, c6⟩ := id X0
  show Calls Tryz.prog 3 #[.agg #[.int .i64 n, .int .i64 e, .string u, .string r, .bool hh, v1, v2], .string t, .int .i64 s] w _
  go_enter Tryz.func3, Tryz.ntmps3
  go_wp2_with fail
  refine C1.out.mono ?_
  rintro E w1 ⟨rfl, hb⟩
  have HB := Lib.hid (step_below hb0 hb)
  have X1 := X0.below hb
  clear c0 c1 c2 c3 c4 c5 c6 X0 hb hb0 C1
  obtain ⟨m, hm⟩ : ∃ m, w.heap.size = m := ⟨_, rfl⟩
  rw [hm] at X1
  (try rw [hm])
  clear hm
  have c5 := X1.c5
  go_wp2_with fail
  refine (C2.out _ HB.out).mono ?_
  rintro E w2 ⟨rfl, hb⟩
  have HB2 := Lib.hid (step_below HB.out hb)
  have X2 := X1.below hb
  clear c5 X1 hb HB C2
  have c6 := X2.c6
  go_wp2_with fail
  refine (C3.out _ HB2.out).mono ?_
  rintro E w3 ⟨rfl, hb⟩
  have HB3 := Lib.hid (step_below HB2.out hb)
  have X3 := X2.below hb
  clear c6 X2 hb HB2 C3
  go_wp2_with fail
  refine (C4.out _ HB3.out).mono ?_
  rintro E w4 ⟨rfl, hb⟩
  have HB4 := Lib.hid (step_below HB3.out hb)
  obtain ⟨c0, c1, c2, c3, c4, c5, c6⟩ := X3.below hb
  clear X3 hb HB3 C4
  go_wp2_with fail
  have D5 := Lib.hid (C5.out _ HB4.out)
  clear C5
  cases hr : rightS ⟨n, e, u, r, hh, ws, ts⟩ with
  | false =>
    have D5' := D5.out
    rw [printV_no hr] at D5'
    refine D5'.mono ?_
    rintro E wq ⟨rfl, hb⟩
    have HBQ := Lib.hid (step_below HB4.out hb)
    clear hb c0 c1 c2 c3 c4 c5 c6 D5' D5 HB4
    go_upto_region 13 with fail
    cases hp : parseS atoiO verOf t with
    | none =>
      have D := Lib.hid (CN.out t hp H4.out wq HBQ.out)
      go_wp2_with fail
      refine D.out.mono ?_
      rintro E wr ⟨B1, l1, B2, l2, rfl, hb⟩
      have hba := below_alloc wr (.cells #[.int .i64 0, .int .i64 0, .string ⟨#[]⟩, .string ⟨#[]⟩, .bool false, .slice B1 0 l1, .slice B2 0 l2] 26)
      have HBT' := Lib.hid (step_below (step_below HBQ.out hb) hba)
      clear hb hba D
      go_upto_region 18 with fail
      obtain ⟨wt, hwt⟩ : ∃ W, wr.alloc (.cells #[.int .i64 0, .int .i64 0, .string ⟨#[]⟩, .string ⟨#[]⟩, .bool false, .slice B1 0 l1, .slice B2 0 l2] 26) = W := ⟨_, rfl⟩
      rw [hwt] at HBT'
      (try rw [hwt])
      clear hwt
      have HBT := HBT'
      clear HBT' HBQ
      go_wp2_with fail
      refine (CK.out _).mono ?_
      rintro E wk ⟨rfl, rfl⟩
      have hz1 := below_alloc wt (.cells #[.int .i64 1, .int .i64 2, .int .i64 3, .int .i64 4] 3)
      have HZ1 := Lib.hid (step_below HBT.out hz1)
      clear hz1
      go_wp2_with fail
      refine (CU.out _ HZ1.out _ ⟨by go_cell, by go_cell, by go_cell, by go_cell⟩).mono ?_
      rintro E wk ⟨rfl, hw⟩
      have HZ2 := Lib.hid (show Below w.heap.size w wk from hw ▸ HZ1.out)
      clear hw HZ1
      have hz1 := below_alloc wk (.cells #[.int .i64 1, .int .i64 6, .int .i64 7, .int .i64 8] 3)
      have HZ3 := Lib.hid (step_below HZ2.out hz1)
      clear hz1
      go_wp2_with fail
      refine (CD.out _ HZ3.out _ ⟨by go_cell, by go_cell, by go_cell, by go_cell⟩).mono ?_
      rintro E wl ⟨rfl, hw⟩
      have HZ4 := Lib.hid (show Below w.heap.size w wl from hw ▸ HZ3.out)
      clear hw HZ3 HZ2
      go_wp2_with fail
      go_ret
      exact ⟨rfl, HZ4.out⟩

    | some y =>
      have D := Lib.hid (CY.out t y hp H4.out wq HBQ.out)
      obtain ⟨hy1, hy2⟩ := back_text hp
      have HY1 := Lib.hid hy1
      have HY2 := Lib.hid hy2
      have HYF := Lib.hid (fit_right hp)
      clear hp hy1 hy2
      obtain ⟨yn, ye, yu, yr, yh, yws, yts⟩ := y
      (try simp only at *)
      go_wp2_with fail
      refine D.out.mono ?_
      rintro E wr ⟨B1, k1, l1, B2, k2, l2, rfl, hyy, hb⟩
      have hba := below_alloc wr (.cells #[.int .i64 yn, .int .i64 ye, .string yu, .string yr, .bool yh, .slice B1 k1 l1, .slice B2 k2 l2] 26)
      have Y := stBox_new wr ⟨yn, ye, yu, yr, yh, yws, yts⟩ (.slice B1 k1 l1) (.slice B2 k2 l2) 26
      have HBT' := Lib.hid (step_below (step_below HBQ.out hb) hba)
      have HYY := Lib.hid (hyy.below hba)
      clear hb hba D hyy
      go_upto_region 15 with fail
      (try simp only at Y)
      obtain ⟨q, hq⟩ : ∃ q, wr.heap.size = q := ⟨_, rfl⟩
      rw [hq] at Y
      (try rw [hq])
      obtain ⟨wx, hwt⟩ : ∃ W, wr.alloc (.cells #[.int .i64 yn, .int .i64 ye, .string yu, .string yr, .bool yh, .slice B1 k1 l1, .slice B2 k2 l2] 26) = W := ⟨_, rfl⟩
      rw [hwt] at HBT' Y HYY
      (try rw [hwt])
      clear hwt hq
      obtain ⟨d0, d1, d2, d3, d4, d5, d6⟩ := Y
      have D := CP.out ⟨yn, ye, yu, yr, yh, yws, yts⟩ (.slice B1 k1 l1) (.slice B2 k2 l2) HYF.out wx HBT'.out HYY.out
      rw [printV_yes HY1.out, HY2.out] at D
      have D := Lib.hid D
      have hqs : (t.toList != t.toList) = false := by simp
      go_wp2_with fail
      refine D.out.mono ?_
      rintro E wt ⟨rfl, hb⟩
      have HBT := Lib.hid (step_below HBT'.out hb)
      clear hb D d0 d1 d2 d3 d4 d5 d6 HBT' HYY HBQ
      go_wp2_with fail
      refine (CK.out _).mono ?_
      rintro E wk ⟨rfl, rfl⟩
      have hz1 := below_alloc wt (.cells #[.int .i64 1, .int .i64 2, .int .i64 3, .int .i64 4] 3)
      have HZ1 := Lib.hid (step_below HBT.out hz1)
      clear hz1
      go_wp2_with fail
      refine (CU.out _ HZ1.out _ ⟨by go_cell, by go_cell, by go_cell, by go_cell⟩).mono ?_
      rintro E wk ⟨rfl, hw⟩
      have HZ2 := Lib.hid (show Below w.heap.size w wk from hw ▸ HZ1.out)
      clear hw HZ1
      have hz1 := below_alloc wk (.cells #[.int .i64 1, .int .i64 6, .int .i64 7, .int .i64 8] 3)
      have HZ3 := Lib.hid (step_below HZ2.out hz1)
      clear hz1
      go_wp2_with fail
      refine (CD.out _ HZ3.out _ ⟨by go_cell, by go_cell, by go_cell, by go_cell⟩).mono ?_
      rintro E wl ⟨rfl, hw⟩
      have HZ4 := Lib.hid (show Below w.heap.size w wl from hw ▸ HZ3.out)
      clear hw HZ3 HZ2
      go_wp2_with fail
      go_ret
      exact ⟨rfl, HZ4.out⟩

  | true =>
    have D5' := D5.out
    rw [printV_yes hr] at D5'
    have HPR := Lib.hid (back_parse hr)
    have HPS := Lib.hid (show (printB ⟨n, e, u, r, hh, ws, ts⟩).size ≤ 9000 from by rw [size_eq_length]; exact Nat.le_trans (print_len hr) (by decide))
    have HPV := Lib.hid (printV_yes hr)
    obtain ⟨sP, hsP⟩ : ∃ y, printB ⟨n, e, u, r, hh, ws, ts⟩ = y := ⟨_, rfl⟩
    rw [hsP] at D5' HPR HPS HPV
    clear hsP
    refine D5'.mono ?_
    rintro E w5 ⟨rfl, hb⟩
    have HB5 := Lib.hid (step_below HB4.out hb)
    clear hb c0 c1 c2 c3 c4 c5 c6 D5' D5 HB4
    have D := Lib.hid (CY.out sP _ HPR.out HPS.out w5 HB5.out)
    (try simp only at D)
    go_wp2_with fail
    refine D.out.mono ?_
    rintro E w6 ⟨B1, k1, l1, B2, k2, l2, rfl, hyy, hb⟩
    have hba := below_alloc w6 (.cells #[.int .i64 n, .int .i64 e, .string u, .string r, .bool hh, .slice B1 k1 l1, .slice B2 k2 l2] 26)
    have Y := stBox_new w6 ⟨n, e, u, r, hh, ws, ts⟩ (.slice B1 k1 l1) (.slice B2 k2 l2) 26
    have HB6 := Lib.hid (step_below (step_below HB5.out hb) hba)
    have HYY := Lib.hid (hyy.below hba)
    clear hb hba D hyy HB5
    go_upto_region 8 with fail
    (try simp only at Y)
    obtain ⟨q, hq⟩ : ∃ q, w6.heap.size = q := ⟨_, rfl⟩
    rw [hq] at Y
    (try rw [hq])
    obtain ⟨w7, hwt⟩ : ∃ W, w6.alloc (.cells #[.int .i64 n, .int .i64 e, .string u, .string r, .bool hh, .slice B1 k1 l1, .slice B2 k2 l2] 26) = W := ⟨_, rfl⟩
    rw [hwt] at HB6 Y HYY
    (try rw [hwt])
    clear hwt hq
    obtain ⟨d0, d1, d2, d3, d4, d5, d6⟩ := id Y
    have D := CR.out ⟨n, e, u, r, hh, ws, ts⟩ (.slice B1 k1 l1) (.slice B2 k2 l2) HF.out w7 HB6.out HYY.out
    rw [hr] at D
    have D := Lib.hid D
    go_wp2_with fail
    refine D.out.mono ?_
    rintro E w8 ⟨rfl, hb⟩
    have HB8 := Lib.hid (step_below HB6.out hb)
    have HYZ := Lib.hid (HYY.out.below hb)
    have Y8 := Y.below hb
    clear hb D d0 d1 d2 d3 d4 d5 d6 HB6 HYY Y
    obtain ⟨d0, d1, d2, d3, d4, d5, d6⟩ := Y8
    have D := CP.out ⟨n, e, u, r, hh, ws, ts⟩ (.slice B1 k1 l1) (.slice B2 k2 l2) HF.out w8 HB8.out HYZ.out
    rw [HPV.out] at D
    have D := Lib.hid D
    have hqs : (sP.toList != sP.toList) = false := by simp
    go_wp2_with fail
    refine D.out.mono ?_
    rintro E wq ⟨rfl, hb⟩
    have HBQ := Lib.hid (step_below HB8.out hb)
    clear hb D d0 d1 d2 d3 d4 d5 d6 HB8 HYZ
    go_upto_region 13 with fail
    clear hqs
    cases hp : parseS atoiO verOf t with
    | none =>
      have D := Lib.hid (CN.out t hp H4.out wq HBQ.out)
      go_wp2_with fail
      refine D.out.mono ?_
      rintro E wr ⟨B1, l1, B2, l2, rfl, hb⟩
      have hba := below_alloc wr (.cells #[.int .i64 0, .int .i64 0, .string ⟨#[]⟩, .string ⟨#[]⟩, .bool false, .slice B1 0 l1, .slice B2 0 l2] 26)
      have HBT' := Lib.hid (step_below (step_below HBQ.out hb) hba)
      clear hb hba D
      go_upto_region 18 with fail
      obtain ⟨wt, hwt⟩ : ∃ W, wr.alloc (.cells #[.int .i64 0, .int .i64 0, .string ⟨#[]⟩, .string ⟨#[]⟩, .bool false, .slice B1 0 l1, .slice B2 0 l2] 26) = W := ⟨_, rfl⟩
      rw [hwt] at HBT'
      (try rw [hwt])
      clear hwt
      have HBT := HBT'
      clear HBT' HBQ
      go_wp2_with fail
      refine (CK.out _).mono ?_
      rintro E wk ⟨rfl, rfl⟩
      have hz1 := below_alloc wt (.cells #[.int .i64 1, .int .i64 2, .int .i64 3, .int .i64 4] 3)
      have HZ1 := Lib.hid (step_below HBT.out hz1)
      clear hz1
      go_wp2_with fail
      refine (CU.out _ HZ1.out _ ⟨by go_cell, by go_cell, by go_cell, by go_cell⟩).mono ?_
      rintro E wk ⟨rfl, hw⟩
      have HZ2 := Lib.hid (show Below w.heap.size w wk from hw ▸ HZ1.out)
      clear hw HZ1
      have hz1 := below_alloc wk (.cells #[.int .i64 1, .int .i64 6, .int .i64 7, .int .i64 8] 3)
      have HZ3 := Lib.hid (step_below HZ2.out hz1)
      clear hz1
      go_wp2_with fail
      refine (CD.out _ HZ3.out _ ⟨by go_cell, by go_cell, by go_cell, by go_cell⟩).mono ?_
      rintro E wl ⟨rfl, hw⟩
      have HZ4 := Lib.hid (show Below w.heap.size w wl from hw ▸ HZ3.out)
      clear hw HZ3 HZ2
      go_wp2_with fail
      go_ret
      exact ⟨rfl, HZ4.out⟩

    | some y =>
      have D := Lib.hid (CY.out t y hp H4.out wq HBQ.out)
      obtain ⟨hy1, hy2⟩ := back_text hp
      have HY1 := Lib.hid hy1
      have HY2 := Lib.hid hy2
      have HYF := Lib.hid (fit_right hp)
      clear hp hy1 hy2
      obtain ⟨yn, ye, yu, yr, yh, yws, yts⟩ := y
      (try simp only at *)
      go_wp2_with fail
      refine D.out.mono ?_
      rintro E wr ⟨B1, k1, l1, B2, k2, l2, rfl, hyy, hb⟩
      have hba := below_alloc wr (.cells #[.int .i64 yn, .int .i64 ye, .string yu, .string yr, .bool yh, .slice B1 k1 l1, .slice B2 k2 l2] 26)
      have Y := stBox_new wr ⟨yn, ye, yu, yr, yh, yws, yts⟩ (.slice B1 k1 l1) (.slice B2 k2 l2) 26
      have HBT' := Lib.hid (step_below (step_below HBQ.out hb) hba)
      have HYY := Lib.hid (hyy.below hba)
      clear hb hba D hyy
      go_upto_region 15 with fail
      (try simp only at Y)
      obtain ⟨q, hq⟩ : ∃ q, wr.heap.size = q := ⟨_, rfl⟩
      rw [hq] at Y
      (try rw [hq])
      obtain ⟨wx, hwt⟩ : ∃ W, wr.alloc (.cells #[.int .i64 yn, .int .i64 ye, .string yu, .string yr, .bool yh, .slice B1 k1 l1, .slice B2 k2 l2] 26) = W := ⟨_, rfl⟩
      rw [hwt] at HBT' Y HYY
      (try rw [hwt])
      clear hwt hq
      obtain ⟨d0, d1, d2, d3, d4, d5, d6⟩ := Y
      have D := CP.out ⟨yn, ye, yu, yr, yh, yws, yts⟩ (.slice B1 k1 l1) (.slice B2 k2 l2) HYF.out wx HBT'.out HYY.out
      rw [printV_yes HY1.out, HY2.out] at D
      have D := Lib.hid D
      have hqs : (t.toList != t.toList) = false := by simp
      go_wp2_with fail
      refine D.out.mono ?_
      rintro E wt ⟨rfl, hb⟩
      have HBT := Lib.hid (step_below HBT'.out hb)
      clear hb D d0 d1 d2 d3 d4 d5 d6 HBT' HYY HBQ
      go_wp2_with fail
      refine (CK.out _).mono ?_
      rintro E wk ⟨rfl, rfl⟩
      have hz1 := below_alloc wt (.cells #[.int .i64 1, .int .i64 2, .int .i64 3, .int .i64 4] 3)
      have HZ1 := Lib.hid (step_below HBT.out hz1)
      clear hz1
      go_wp2_with fail
      refine (CU.out _ HZ1.out _ ⟨by go_cell, by go_cell, by go_cell, by go_cell⟩).mono ?_
      rintro E wk ⟨rfl, hw⟩
      have HZ2 := Lib.hid (show Below w.heap.size w wk from hw ▸ HZ1.out)
      clear hw HZ1
      have hz1 := below_alloc wk (.cells #[.int .i64 1, .int .i64 6, .int .i64 7, .int .i64 8] 3)
      have HZ3 := Lib.hid (step_below HZ2.out hz1)
      clear hz1
      go_wp2_with fail
      refine (CD.out _ HZ3.out _ ⟨by go_cell, by go_cell, by go_cell, by go_cell⟩).mono ?_
      rintro E wl ⟨rfl, hw⟩
      have HZ4 := Lib.hid (show Below w.heap.size w wl from hw ▸ HZ3.out)
      clear hw HZ3 HZ2
      go_wp2_with fail
      go_ret
      exact ⟨rfl, HZ4.out⟩

theorem stBack_calls (z : St) (v1 v2 : Value) (t : ByteArray) (s : Int) (w : World) (hE : Env w) (hA : EnvA w) (hN : EnvN w) (hZ : StAt w v1 v2 z) : Calls Tryz.prog 3 #[stV z v1 v2, .string t, .int .i64 s] w (BoolIs true w) := by
  by_cases h : shortB z.u z.r = true ∧ textsB z.ws = true ∧ textsB z.ts = true ∧ t.size ≤ 400
  · exact stB_main z v1 v2 t s w hE hA hN hZ h.1 h.2.1 h.2.2.1 h.2.2.2
  · exact stB_skip z v1 v2 t s w hZ h
end Go.Proofs.YtpbbhjifgaeklaaGreatDoor

/- StatusTells: for every status and every text the call returns true: from the walks. -/
import Derived.Test.YtpbbhjifgaeklaaGreatDoorSTK28
import Derived.Test.YtpbbhjifgaeklaaGreatDoorSTK29
import Derived.Deep.RegionHeld3
namespace Go.Proofs.YtpbbhjifgaeklaaGreatDoor
open Go Go.RowKit

def pTx (z : St) : ByteArray := if rightS z then printB z else ⟨#[]⟩
def pEr (z : St) : Int := if rightS z then 0 else 1
theorem printV_pair (z : St) : printV z = .tuple #[.string (pTx z), errV (pEr z)] := by
  unfold printV pTx pEr
  cases rightS z <;> rfl
theorem refPrintV_pair (z : St) : refPrintV z = .tuple #[.string (pTx z), .int .i64 (pEr z)] := by
  unfold refPrintV pTx pEr
  cases rightS z <;> rfl

theorem fit_texts {z : St} (hs : shortB z.u z.r = true) (h1 : textsB z.ws = true) (h2 : textsB z.ts = true) : StFit z := by
  unfold shortB at hs
  unfold textsB at h1 h2
  simp only [Bool.and_eq_true, decide_eq_true_eq, List.all_eq_true] at hs h1 h2
  exact ⟨by omega, by omega, by omega, by omega, fun s h => Nat.le_trans (h1.2 s h) (by omega), fun s h => Nat.le_trans (h2.2 s h) (by omega)⟩

set_option maxHeartbeats 2000000 in
set_option maxRecDepth 100000 in
theorem stT_skip (z : St) (v1 v2 : Value) (t : ByteArray) (w : World) (hZ : StAt w v1 v2 z) (hno : ¬ (shortB z.u z.r = true ∧ textsB z.ws = true ∧ textsB z.ts = true ∧ t.size ≤ 400)) : Calls Tryz.prog 4 #[stV z v1 v2, .string t] w (BoolIs true w) := by
  have hb0 := below_alloc w (.cells #[.int .i64 z.n, .int .i64 z.e, .string z.u, .string z.r, .bool z.h, v1, v2] 42)
  have X0 := stBox_new w z v1 v2 42
  have C1 := Lib.hid (lawShort_calls z.e z.u z.r (w.alloc (.cells #[.int .i64 z.n, .int .i64 z.e, .string z.u, .string z.r, .bool z.h, v1, v2] 42)))
  have C2 := Lib.hid (fun (W : World) (hb : Below w.heap.size w W) => lawTexts_calls v1 z.ws W (hZ.ws.below hb))
  have C3 := Lib.hid (fun (W : World) (hb : Below w.heap.size w W) => lawTexts_calls v2 z.ts W (hZ.ts.below hb))
  clear hZ
  obtain ⟨n, e, u, r, hh, ws, ts⟩ := z
  simp only at *
  obtain ⟨b0, hb0'⟩ : ∃ b, shortB u r = b := ⟨_, rfl⟩
  obtain ⟨b1, hb1⟩ : ∃ b, textsB ws = b := ⟨_, rfl⟩
  obtain ⟨b2, hb2⟩ : ∃ b, textsB ts = b := ⟨_, rfl⟩
  rw [hb0', hb1, hb2] at hno
  rw [hb0'] at C1
  rw [hb1] at C2
  rw [hb2] at C3
  clear hb0' hb1 hb2
  obtain ⟨c0, c1, c2, c3, c4, c5, c6⟩ := id X0
  show Calls Tryz.prog 4 #[.agg #[.int .i64 n, .int .i64 e, .string u, .string r, .bool hh, v1, v2], .string t] w _
  go_enter Tryz.func4, Tryz.ntmps4
  go_wp2_with fail
  refine C1.out.mono ?_
  rintro E w1 ⟨rfl, hb⟩
  have HB := Lib.hid (step_below hb0 hb)
  have X1 := X0.below hb
  clear c0 c1 c2 c3 c4 c5 c6 X0 hb hb0 C1
  cases b0 with
  | false =>
    go_wp2_with fail
    go_ret
    exact ⟨rfl, HB.out⟩
  | true =>
  obtain ⟨m, hm⟩ : ∃ m, w.heap.size = m := ⟨_, rfl⟩
  rw [hm] at X1
  (try rw [hm])
  clear hm
  have c5 := X1.c5
  go_wp2_with fail
  refine (C2.out _ HB.out).mono ?_
  rintro E w2 ⟨rfl, hb⟩
  have HB2 := Lib.hid (step_below HB.out hb)
  have X2 := X1.below hb
  clear c5 X1 hb HB C2
  cases b1 with
  | false =>
    go_wp2_with fail
    go_ret
    exact ⟨rfl, HB2.out⟩
  | true =>
  have c6 := X2.c6
  go_wp2_with fail
  refine (C3.out _ HB2.out).mono ?_
  rintro E w3 ⟨rfl, hb⟩
  have HB3 := Lib.hid (step_below HB2.out hb)
  clear c6 X2 hb HB2 C3
  cases b2 with
  | false =>
    go_wp2_with fail
    go_ret
    exact ⟨rfl, HB3.out⟩
  | true =>
    have h4 : 400 < t.size := by
      rcases Nat.lt_or_ge 400 t.size with h | h
      · exact h
      · simp at hno; omega
    clear hno
    go_wp2_with fail
    go_ret
    exact ⟨rfl, HB3.out⟩

/-- two statuses' cells in boxes, and what lay before -/
def SB2 (w : World) (m q : Nat) (n e : Int) (u r : ByteArray) (hh : Bool) (v1 v2 : Value) (W : World) : Prop :=
  W.cell? ⟨m, 0, none⟩ = some (.int .i64 n) ∧ W.cell? ⟨m, 1, none⟩ = some (.int .i64 e) ∧ W.cell? ⟨m, 2, none⟩ = some (.string u) ∧ W.cell? ⟨m, 3, none⟩ = some (.string r) ∧ W.cell? ⟨m, 4, none⟩ = some (.bool hh) ∧ W.cell? ⟨m, 5, none⟩ = some v1 ∧ W.cell? ⟨m, 6, none⟩ = some v2 ∧
  W.cell? ⟨q, 0, none⟩ = some (.int .i64 n) ∧ W.cell? ⟨q, 1, none⟩ = some (.int .i64 e) ∧ W.cell? ⟨q, 2, none⟩ = some (.string u) ∧ W.cell? ⟨q, 3, none⟩ = some (.string r) ∧ W.cell? ⟨q, 4, none⟩ = some (.bool hh) ∧ W.cell? ⟨q, 5, none⟩ = some v1 ∧ W.cell? ⟨q, 6, none⟩ = some v2 ∧ Below w.heap.size w W
theorem sb2_of {w W : World} {m q : Nat} {n e : Int} {u r : ByteArray} {hh : Bool} {ws ts : List ByteArray} {v1 v2 : Value} (h : StBox W m ⟨n, e, u, r, hh, ws, ts⟩ v1 v2) (k : StBox W q ⟨n, e, u, r, hh, ws, ts⟩ v1 v2) (hb : Below w.heap.size w W) : SB2 w m q n e u r hh v1 v2 W := ⟨h.c0, h.c1, h.c2, h.c3, h.c4, h.c5, h.c6, k.c0, k.c1, k.c2, k.c3, k.c4, k.c5, k.c6, hb⟩
theorem sb2_below {w W : World} {m q : Nat} {n e : Int} {u r : ByteArray} {hh : Bool} {v1 v2 : Value} (h : SB2 w m q n e u r hh v1 v2 W) : Below w.heap.size w W := h.2.2.2.2.2.2.2.2.2.2.2.2.2.2
theorem sb2_go {w W W' : World} {m q : Nat} {n e : Int} {u r : ByteArray} {hh : Bool} {v1 v2 : Value} (h : SB2 w m q n e u r hh v1 v2 W) (hb : Below W.heap.size W W') : SB2 w m q n e u r hh v1 v2 W' := by
  obtain ⟨h0, h1, h2, h3, h4, h5, h6, k0, k1, k2, k3, k4, k5, k6, hz⟩ := h
  exact ⟨kept hb h0, kept hb h1, kept hb h2, kept hb h3, kept hb h4, kept hb h5, kept hb h6, kept hb k0, kept hb k1, kept hb k2, kept hb k3, kept hb k4, kept hb k5, kept hb k6, step_below hz hb⟩

set_option maxHeartbeats 4000000 in
set_option maxRecDepth 100000 in
theorem stT_main (z : St) (P1 P2 : Option Addr) (p1 p2 r1 r2 : Nat) (t : ByteArray) (w : World) (hE : Env w) (hG : EnvE w) (hA : EnvA w) (hZ : StAt w (.slice P1 p1 r1) (.slice P2 p2 r2) z) (he0 : -9223372036854775808 ≤ z.e) (he1 : z.e ≤ 9223372036854775807) (h0 : shortB z.u z.r = true) (h1 : textsB z.ws = true) (h2 : textsB z.ts = true) (h4 : t.size ≤ 400) : Calls Tryz.prog 4 #[stV z (.slice P1 p1 r1) (.slice P2 p2 r2), .string t] w (BoolIs true w) := by
  have hf := fit_texts h0 h1 h2
  have hb0 := below_alloc w (.cells #[.int .i64 z.n, .int .i64 z.e, .string z.u, .string z.r, .bool z.h, (.slice P1 p1 r1), (.slice P2 p2 r2)] 42)
  have X0 := stBox_new w z (.slice P1 p1 r1) (.slice P2 p2 r2) 42
  have C1 := lawShort_calls z.e z.u z.r (w.alloc (.cells #[.int .i64 z.n, .int .i64 z.e, .string z.u, .string z.r, .bool z.h, (.slice P1 p1 r1), (.slice P2 p2 r2)] 42))
  have C2 := Lib.hid (fun (W : World) (hb : Below w.heap.size w W) => (show Calls Tryz.prog 18 #[(.slice P1 p1 r1)] W (BoolIs true W) from h1 ▸ lawTexts_calls (.slice P1 p1 r1) z.ws W (hZ.ws.below hb)))
  have C3 := Lib.hid (fun (W : World) (hb : Below w.heap.size w W) => (show Calls Tryz.prog 18 #[(.slice P2 p2 r2)] W (BoolIs true W) from h2 ▸ lawTexts_calls (.slice P2 p2 r2) z.ts W (hZ.ts.below hb)))
  rw [h0] at C1
  have C1 := Lib.hid C1
  have C4 := Lib.hid (fun (W : World) (hb : Below w.heap.size w W) => refPrintSt_calls z (.slice P1 p1 r1) (.slice P2 p2 r2) W (hE.below hb) (hZ.below hb) hf he0 he1)
  have C5 := Lib.hid (fun (W : World) (hb : Below w.heap.size w W) => statPrint_calls z (.slice P1 p1 r1) (.slice P2 p2 r2) W (hE.below hb) (hZ.below hb) hf)
  unfold RefPrintStIs at C4
  unfold PrintStIs at C5
  rw [refPrintV_pair] at C4
  rw [printV_pair] at C5
  obtain ⟨sP, hsP⟩ : ∃ y, pTx z = y := ⟨_, rfl⟩
  obtain ⟨n1, hn1⟩ : ∃ y, pEr z = y := ⟨_, rfl⟩
  rw [hsP, hn1] at C4 C5
  clear hsP hn1
  have G1 : Gives w 20 #[errV n1, .int .i64 n1] (.bool true) := fun W hb => (bare_calls n1 n1 W (hG.below hb)).mono fun E W' h => ⟨by rw [h.1]; exact ret_bool (by simp), h.2⟩
  obtain ⟨bR, hbR⟩ : ∃ y, rightS z = y := ⟨_, rfl⟩
  have G2 : Gives w 14 #[stV z (.slice P1 p1 r1) (.slice P2 p2 r2)] (.bool bR) := fun W hb => by have := statRight_calls z (.slice P1 p1 r1) (.slice P2 p2 r2) W (hE.below hb) (hZ.below hb) hf; rw [hbR] at this; exact this
  have G3 : Gives w 21 #[stV z (.slice P1 p1 r1) (.slice P2 p2 r2)] (.bool bR) := fun W hb => by have := refStands_calls z (.slice P1 p1 r1) (.slice P2 p2 r2) W (hE.below hb) (hZ.below hb) hf he0 he1; rw [hbR] at this; exact this
  clear hbR
  obtain ⟨ev1, hev1⟩ : ∃ ev, errV n1 = ev := ⟨_, rfl⟩
  rw [hev1] at C5 G1
  clear hev1
  have C6 := Lib.hid (fun (W : World) (hb : Below w.heap.size w W) => refParseSt_calls t W (hE.below hb) (by omega))
  have C7 := Lib.hid (fun (W : World) (hb : Below w.heap.size w W) => statParse_calls t W (hE.below hb) (hA.below hb) (by omega))
  rw [parse_eq t] at C7
  unfold RefParseStIs at C6
  unfold ParseStIs at C7
  obtain ⟨y, hy⟩ : ∃ y, (parseS numO verR t).getD st0 = y := ⟨_, rfl⟩
  obtain ⟨n2, hn2⟩ : ∃ n2 : Int, (if (parseS numO verR t).isSome then 0 else 3) = n2 := ⟨_, rfl⟩
  rw [hy, hn2] at C6 C7
  clear hy hn2
  have G4 : Gives w 20 #[errV n2, .int .i64 n2] (.bool true) := fun W hb => (bare_calls n2 n2 W (hG.below hb)).mono fun E W' h => ⟨by rw [h.1]; exact ret_bool (by simp), h.2⟩
  obtain ⟨ev2, hev2⟩ : ∃ ev, errV n2 = ev := ⟨_, rfl⟩
  rw [hev2] at C7 G4
  clear hev2
  have G1 := Lib.hid G1
  have G2 := Lib.hid G2
  have G3 := Lib.hid G3
  have G4 := Lib.hid G4
  clear hE hG hA hZ he0 he1 h0 h1 h2 hf
  have h4' : ¬ 400 < t.size := by omega
  clear h4
  obtain ⟨n, e, u, r, hh, ws, ts⟩ := z
  unfold stV at C4 C5 G2 G3
  simp only at *
  obtain ⟨c0, c1, c2, c3, c4, c5, c6⟩ := id X0
  have hqs : (sP.toList != sP.toList) = false := by simp
  show Calls Tryz.prog 4 #[.agg #[.int .i64 n, .int .i64 e, .string u, .string r, .bool hh, (.slice P1 p1 r1), (.slice P2 p2 r2)], .string t] w _
  go_enter Tryz.func4, Tryz.ntmps4
  go_wp2_with fail
  refine C1.out.mono ?_
  rintro E w1 ⟨rfl, hb⟩
  have HB := Lib.hid (step_below hb0 hb)
  have X1 := X0.below hb
  clear c0 c1 c2 c3 c4 c5 c6 X0 hb hb0 C1
  obtain ⟨m, hm⟩ : ∃ m, w.heap.size = m := ⟨_, rfl⟩
  rw [hm] at X1
  (try rw [hm])
  clear hm
  have c5 := X1.c5
  go_wp2_with fail
  refine (C2.out _ HB.out).mono ?_
  rintro E w2 ⟨rfl, hb⟩
  have HB2 := Lib.hid (step_below HB.out hb)
  have X2 := X1.below hb
  clear c5 X1 hb HB C2
  have c6 := X2.c6
  go_wp2_with fail
  refine (C3.out _ HB2.out).mono ?_
  rintro E w3 ⟨rfl, hb⟩
  have HB3 := Lib.hid (step_below HB2.out hb)
  have X3 := X2.below hb
  clear c6 X2 hb HB2 C3
  obtain ⟨c0, c1, c2, c3, c4, c5, c6⟩ := id X3
  have hb4 := below_alloc w3 (.cells #[.int .i64 n, .int .i64 e, .string u, .string r, .bool hh, (.slice P1 p1 r1), (.slice P2 p2 r2)] 26)
  have Y4 := stBox_new w3 ⟨n, e, u, r, hh, ws, ts⟩ (.slice P1 p1 r1) (.slice P2 p2 r2) 26
  have X4 := X3.below hb4
  have HB4 := Lib.hid (step_below HB3.out hb4)
  clear X3 hb4
  go_upto_region 4 with fail
  clear c0 c1 c2 c3 c4 c5 c6
  obtain ⟨q, hq⟩ : ∃ q, w3.heap.size = q := ⟨_, rfl⟩
  rw [hq] at Y4
  (try rw [hq])
  obtain ⟨W4, hW4⟩ : ∃ W, w3.alloc (.cells #[.int .i64 n, .int .i64 e, .string u, .string r, .bool hh, (.slice P1 p1 r1), (.slice P2 p2 r2)] 26) = W := ⟨_, rfl⟩
  (try simp only at Y4)
  rw [hW4] at X4 Y4 HB4
  (try rw [hW4])
  clear hq hW4 HB3
  obtain ⟨c0, c1, c2, c3, c4, c5, c6⟩ := id X4
  go_wp2_with fail
  refine (C4.out _ HB4.out).mono ?_
  rintro E w5 ⟨rfl, hb⟩
  have X5 := X4.below hb
  have Y5 := Y4.below hb
  have HB5 := Lib.hid (step_below HB4.out hb)
  clear c0 c1 c2 c3 c4 c5 c6 X4 Y4 hb HB4 C4
  obtain ⟨d0, d1, d2, d3, d4, d5, d6⟩ := id Y5
  go_wp2_with fail
  refine (C5.out _ HB5.out).mono ?_
  rintro E w6 ⟨rfl, hb⟩
  have X6 := X5.below hb
  have Y6 := Y5.below hb
  have HB6 := Lib.hid (step_below HB5.out hb)
  clear d0 d1 d2 d3 d4 d5 d6 X5 Y5 hb HB5 C5
  have hN := sb2_of (w := w6) X6 Y6 (Below.refl _ _)
  clear X6 Y6
  go_upto_region 6 with fail
  go_cut [69] (fun s wx => s = .bool false ∧ Below w6.heap.size w6 wx)
  case first =>
    go_region_held3 (fun W => W.cell? ⟨m, 0, none⟩ = some (.int .i64 n) ∧ W.cell? ⟨m, 1, none⟩ = some (.int .i64 e) ∧ W.cell? ⟨m, 2, none⟩ = some (.string u) ∧ W.cell? ⟨m, 3, none⟩ = some (.string r) ∧ W.cell? ⟨m, 4, none⟩ = some (.bool hh) ∧ W.cell? ⟨m, 5, none⟩ = some (.slice P1 p1 r1) ∧ W.cell? ⟨m, 6, none⟩ = some (.slice P2 p2 r2) ∧ W.cell? ⟨q, 0, none⟩ = some (.int .i64 n) ∧ W.cell? ⟨q, 1, none⟩ = some (.int .i64 e) ∧ W.cell? ⟨q, 2, none⟩ = some (.string u) ∧ W.cell? ⟨q, 3, none⟩ = some (.string r) ∧ W.cell? ⟨q, 4, none⟩ = some (.bool hh) ∧ W.cell? ⟨q, 5, none⟩ = some (.slice P1 p1 r1) ∧ W.cell? ⟨q, 6, none⟩ = some (.slice P2 p2 r2) ∧ Below w6.heap.size w6 W)
      ((first | assumption | exact sb2_go (by assumption) hb | exact sb2_go hN (below_drew _) | exact sb2_go (by assumption) (below_drew _)))
      (first | (go_at_call 20; (with_reducible refine (Gives.at G1.out _ ?_).mono ?_); (exact step_below HB6.out (sb2_below (by assumption))); rintro E w' ⟨rfl, hb⟩) | (go_at_call 14; (with_reducible refine (Gives.at G2.out _ ?_).mono ?_); (exact step_below HB6.out (sb2_below (by assumption))); rintro E w' ⟨rfl, hb⟩) | (go_at_call 21; (with_reducible refine (Gives.at G3.out _ ?_).mono ?_); (exact step_below HB6.out (sb2_below (by assumption))); rintro E w' ⟨rfl, hb⟩))
    all_goals
      go_wp2_with fail
      go_meet
      exact ⟨by simp, sb2_below (by assumption)⟩
  case rest =>
  obtain ⟨rfl, hb⟩ := hcut
  have HB7 := Lib.hid (step_below HB6.out hb)
  clear hb hN G1 G2 G3 HB6 hqs
  go_wp2_with fail
  refine (C6.out _ HB7.out).mono ?_
  rintro E w8 ⟨a1, a2, rfl, ha, hb⟩
  obtain ⟨A1, i1, j1, rfl⟩ := strs_slice ha.ws
  obtain ⟨A2, i2, j2, rfl⟩ := strs_slice ha.ts
  have HB8 := Lib.hid (step_below HB7.out hb)
  clear hb HB7 C6
  obtain ⟨yn, ye, yu, yr, yh, yws, yts⟩ := y
  unfold stV at C7
  simp only at *
  have hb9 := below_alloc w8 (.cells #[.int .i64 yn, .int .i64 ye, .string yu, .string yr, .bool yh, .slice A1 i1 j1, .slice A2 i2 j2] 42)
  have X9 := stBox_new w8 ⟨yn, ye, yu, yr, yh, yws, yts⟩ (.slice A1 i1 j1) (.slice A2 i2 j2) 42
  have HB9 := Lib.hid (step_below HB8.out hb9)
  have HZ9 := Lib.hid (ha.below hb9)
  clear ha hb9 HB8
  rw [show stV ⟨yn, ye, yu, yr, yh, yws, yts⟩ (.slice A1 i1 j1) (.slice A2 i2 j2) = .agg #[.int .i64 yn, .int .i64 ye, .string yu, .string yr, .bool yh, .slice A1 i1 j1, .slice A2 i2 j2] from rfl]
  have D7 := Lib.hid (C7.out _ HB9.out)
  clear C7
  go_wp2_with fail
  refine D7.out.mono ?_
  rintro E w10 ⟨b1, b2, rfl, hbb, hb⟩
  obtain ⟨B1, k1, l1, rfl⟩ := strs_slice hbb.ws
  obtain ⟨B2, k2, l2, rfl⟩ := strs_slice hbb.ts
  have hb11 := below_alloc w10 (.cells #[.int .i64 yn, .int .i64 ye, .string yu, .string yr, .bool yh, .slice B1 k1 l1, .slice B2 k2 l2] 26)
  have Y11 := stBox_new w10 ⟨yn, ye, yu, yr, yh, yws, yts⟩ (.slice B1 k1 l1) (.slice B2 k2 l2) 26
  have X11 := (X9.below hb).below hb11
  have HB11 := Lib.hid (step_below (step_below HB9.out hb) hb11)
  have HZ11 := Lib.hid ((HZ9.out.below hb).below hb11)
  have HY11 := Lib.hid (hbb.below hb11)
  clear hbb hb hb11 HB9 HZ9 X9 D7
  obtain ⟨m8, hm8⟩ : ∃ m8, w8.heap.size = m8 := ⟨_, rfl⟩
  rw [hm8] at X11
  go_upto_region 10 with fail
  (try rw [hm8])
  obtain ⟨m10, hm10⟩ : ∃ m10, w10.heap.size = m10 := ⟨_, rfl⟩
  rw [hm10] at Y11
  (try rw [hm10])
  obtain ⟨W11, hW11⟩ : ∃ W, w10.alloc (.cells #[.int .i64 yn, .int .i64 ye, .string yu, .string yr, .bool yh, .slice B1 k1 l1, .slice B2 k2 l2] 26) = W := ⟨_, rfl⟩
  rw [hW11] at X11 Y11 HB11 HZ11 HY11
  (try rw [hW11])
  clear hm8 hm10 hW11
  have D8 := Lib.hid (fun (W : World) (hb : Below W11.heap.size W11 W) => sameStat_calls ⟨yn, ye, yu, yr, yh, yws, yts⟩ (.slice B1 k1 l1) (.slice B2 k2 l2) (.slice A1 i1 j1) (.slice A2 i2 j2) W (HY11.out.below hb) (HZ11.out.below hb))
  unfold stV at D8
  simp only at D8
  clear HZ11 HY11
  go_wp2_with fail
  refine (Gives.at G4.out _ HB11.out).mono ?_
  rintro E w12 ⟨rfl, hb⟩
  have HB12 := Lib.hid hb
  obtain ⟨c0, c1, c2, c3, c4, c5, c6⟩ := X11.below hb
  obtain ⟨d0, d1, d2, d3, d4, d5, d6⟩ := Y11.below hb
  clear hb X11 Y11 G4
  go_wp2_with fail
  refine (D8.out _ HB12.out).mono ?_
  rintro E w13 ⟨rfl, hb⟩
  have HB13 := Lib.hid (step_below HB11.out (step_below HB12.out hb))
  clear c0 c1 c2 c3 c4 c5 c6 d0 d1 d2 d3 d4 d5 d6 hb D8
  go_wp2_with fail
  go_ret
  exact ⟨rfl, HB13.out⟩

theorem stTells_calls (z : St) (v1 v2 : Value) (t : ByteArray) (w : World) (hE : Env w) (hG : EnvE w) (hA : EnvA w) (hZ : StAt w v1 v2 z) (he0 : -9223372036854775808 ≤ z.e) (he1 : z.e ≤ 9223372036854775807) : Calls Tryz.prog 4 #[stV z v1 v2, .string t] w (BoolIs true w) := by
  by_cases h : shortB z.u z.r = true ∧ textsB z.ws = true ∧ textsB z.ts = true ∧ t.size ≤ 400
  · obtain ⟨P1, p1, r1, rfl⟩ := strs_slice hZ.ws
    obtain ⟨P2, p2, r2, rfl⟩ := strs_slice hZ.ts
    exact stT_main z P1 P2 p1 p2 r1 r2 t w hE hG hA hZ he0 he1 h.1 h.2.1 h.2.2.1 h.2.2.2
  · exact stT_skip z v1 v2 t w hZ h
end Go.Proofs.YtpbbhjifgaeklaaGreatDoor

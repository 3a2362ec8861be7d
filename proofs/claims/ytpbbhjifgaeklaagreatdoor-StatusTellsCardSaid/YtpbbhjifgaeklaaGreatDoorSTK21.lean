/- status.Right: may a status be. -/
import Derived.Test.YtpbbhjifgaeklaaGreatDoorSTK14
import Derived.Test.YtpbbhjifgaeklaaGreatDoorSTK20
import Derived.Test.YtpbbhjifgaeklaaGreatDoorSTK3
namespace Go.Proofs.YtpbbhjifgaeklaaGreatDoor
open Go Go.RowKit

def stV (z : St) (v1 v2 : Value) : Value := .agg #[.int .i64 z.n, .int .i64 z.e, .string z.u, .string z.r, .bool z.h, v1, v2]
/-- a status in the heap, of bounded size -/
structure StAt (w : World) (v1 v2 : Value) (z : St) : Prop where
  ws : StrsAt w v1 z.ws
  ts : StrsAt w v2 z.ts
structure StFit (z : St) : Prop where
  u : z.u.size ≤ 10000
  r : z.r.size ≤ 10000
  wl : z.ws.length ≤ 10000
  tl : z.ts.length ≤ 10000
  wz : ∀ s ∈ z.ws, s.size ≤ 10000
  tz : ∀ s ∈ z.ts, s.size ≤ 10000
theorem StAt.below {w w' : World} {v1 v2 : Value} {z : St} (h : StAt w v1 v2 z) (hb : Below w.heap.size w w') : StAt w' v1 v2 z := ⟨h.ws.below hb, h.ts.below hb⟩

structure StBox (w : World) (m : Nat) (z : St) (v1 v2 : Value) : Prop where
  c0 : w.cell? ⟨m, 0, none⟩ = some (.int .i64 z.n)
  c1 : w.cell? ⟨m, 1, none⟩ = some (.int .i64 z.e)
  c2 : w.cell? ⟨m, 2, none⟩ = some (.string z.u)
  c3 : w.cell? ⟨m, 3, none⟩ = some (.string z.r)
  c4 : w.cell? ⟨m, 4, none⟩ = some (.bool z.h)
  c5 : w.cell? ⟨m, 5, none⟩ = some v1
  c6 : w.cell? ⟨m, 6, none⟩ = some v2
theorem StBox.below {w w' : World} {m : Nat} {z : St} {v1 v2 : Value} (h : StBox w m z v1 v2) (hb : Below w.heap.size w w') : StBox w' m z v1 v2 :=
  ⟨kept hb h.c0, kept hb h.c1, kept hb h.c2, kept hb h.c3, kept hb h.c4, kept hb h.c5, kept hb h.c6⟩
theorem stBox_new (w : World) (z : St) (v1 v2 : Value) (t : TypeId) : StBox (w.alloc (.cells #[.int .i64 z.n, .int .i64 z.e, .string z.u, .string z.r, .bool z.h, v1, v2] t)) w.heap.size z v1 v2 :=
  ⟨by go_cell, by go_cell, by go_cell, by go_cell, by go_cell, by go_cell, by go_cell⟩

theorem right_out {z : St} (h : ¬ (0 ≤ z.n ∧ z.n ≤ 7)) : rightS z = false := Bool.eq_false_iff.2 fun e => h ⟨((rightS_iff z).1 e).1, ((rightS_iff z).1 e).2.1⟩
theorem right_zero {z : St} (h : z.n = 0) : rightS z = (nov z && !z.h && z.ws.isEmpty && z.ts.isEmpty) := by
  unfold rightS
  rw [if_pos h, h]
  rfl
/-- of a state: the tests, in the program's order -/
def rightN (z : St) : Bool :=
  !(!VP.rightP z.e z.u.data.toList z.r.data.toList || !sortedS z.ws || !sortedS z.ts || decide (4 < z.ws.length) || decide (2 < z.ts.length)) && !(!apartS z.ws || !apartS z.ts) && !(!namesB z.ws || !tasksB z.ts)
    && !((decide (z.n = 6) && z.ts.isEmpty) || (decide (z.n = 5) && z.ws.isEmpty)) && ((z.ws.isEmpty || decide (z.n = 5)) && (z.ts.isEmpty || decide (z.n = 6) || decide (z.n = 5)))
theorem right_state {z : St} (h0 : 0 ≤ z.n) (h7 : z.n ≤ 7) (h : z.n ≠ 0) : rightS z = rightN z := by
  unfold rightS rightN
  rw [if_neg h, rises_eq, rises_eq, decide_eq_true h0, decide_eq_true h7]
  rw [show decide (z.ws.length ≤ 4) = !decide (4 < z.ws.length) by rw [Bool.eq_iff_iff]; simp, show decide (z.ts.length ≤ 2) = !decide (2 < z.ts.length) by rw [Bool.eq_iff_iff]; simp]
  generalize VP.rightP z.e z.u.data.toList z.r.data.toList = b1
  generalize sortedS z.ws = b2
  generalize sortedS z.ts = b3
  generalize decide (4 < z.ws.length) = b4
  generalize decide (2 < z.ts.length) = b5
  generalize apartS z.ws = b6
  generalize apartS z.ts = b7
  generalize namesB z.ws = b8
  generalize tasksB z.ts = b9
  generalize (decide (z.n = 6) && z.ts.isEmpty) = b10
  generalize (decide (z.n = 5) && z.ws.isEmpty) = b11
  generalize (z.ws.isEmpty || decide (z.n = 5)) = b12
  generalize (z.ts.isEmpty || decide (z.n = 6) || decide (z.n = 5)) = b13
  cases b1 <;> cases b2 <;> cases b3 <;> cases b4 <;> cases b5 <;> cases b6 <;> cases b7 <;> first | rfl | (cases b8 <;> cases b9 <;> cases b10 <;> cases b11 <;> cases b12 <;> cases b13 <;> rfl)

set_option maxHeartbeats 1000000 in
set_option maxRecDepth 100000 in
theorem statRight_out (z : St) (v1 v2 : Value) (w : World) (h : ¬ (0 ≤ z.n ∧ z.n ≤ 7)) : Calls Tryz.prog 14 #[stV z v1 v2] w (BoolIs (rightS z) w) := by
  have F := Lib.hid (right_out h)
  have hb0 := below_alloc w (.cells #[.int .i64 z.n, .int .i64 z.e, .string z.u, .string z.r, .bool z.h, v1, v2] 26)
  show Calls Tryz.prog 14 #[.agg #[.int .i64 z.n, .int .i64 z.e, .string z.u, .string z.r, .bool z.h, v1, v2]] w (BoolIs (rightS z) w)
  by_cases h0 : z.n < 0
  · clear h
    go_enter Tryz.func14, Tryz.ntmps14
    go_wp2_with fail
    go_ret
    exact ⟨ret_bool F.out.symm, hb0⟩
  · have h7 : 7 < z.n := by omega
    clear h
    go_enter Tryz.func14, Tryz.ntmps14
    go_wp2_with fail
    go_ret
    exact ⟨ret_bool F.out.symm, hb0⟩

set_option maxHeartbeats 1000000 in
set_option maxRecDepth 100000 in
theorem statRight_none (z : St) (v1 v2 : Value) (w : World) (h : z.n = 0) (hA : StAt w v1 v2 z) (hf : StFit z) : Calls Tryz.prog 14 #[stV z v1 v2] w (BoolIs (rightS z) w) := by
  obtain ⟨A1, k1, hv1, _⟩ := hA.ws.open
  obtain ⟨A2, k2, hv2, _⟩ := hA.ts.open
  have hwl := hf.wl
  have htl := hf.tl
  obtain ⟨n, e, u, r, hh, ws, ts⟩ := z
  simp only at h hv1 hv2 hwl htl
  subst h
  have F := Lib.hid (right_zero (z := ⟨0, e, u, r, hh, ws, ts⟩) rfl)
  clear hA hf
  have q1 : nov ⟨0, e, u, r, hh, ws, ts⟩ = (decide (e = 0) && u.toList.isEmpty && r.toList.isEmpty) := by
    unfold nov
    rw [← name_eq, ← name_eq]
    rw [show (u.toList == (⟨#[]⟩ : ByteArray).toList) = u.toList.isEmpty by rw [Lib.toList_data ⟨#[]⟩]; cases u.toList <;> rfl, show (r.toList == (⟨#[]⟩ : ByteArray).toList) = r.toList.isEmpty by rw [Lib.toList_data ⟨#[]⟩]; cases r.toList <;> rfl]
  have e1 : ws.isEmpty = decide (ws.length = 0) := by cases ws <;> simp
  have e2 : ts.isEmpty = decide (ts.length = 0) := by cases ts <;> simp
  obtain ⟨bR, hbR⟩ : ∃ y, rightS ⟨0, e, u, r, hh, ws, ts⟩ = y := ⟨_, rfl⟩
  rw [q1, hbR] at F
  rw [hbR]
  rw [e1, e2] at F
  obtain ⟨lw, hlw⟩ : ∃ y, ws.length = y := ⟨_, rfl⟩
  obtain ⟨lt, hlt⟩ : ∃ y, ts.length = y := ⟨_, rfl⟩
  rw [hlw, hlt] at F
  rw [hlw] at hv1 hwl
  rw [hlt] at hv2 htl
  subst hv1 hv2
  show Calls Tryz.prog 14 #[.agg #[.int .i64 0, .int .i64 e, .string u, .string r, .bool hh, .slice A1 lw k1, .slice A2 lt k2]] w (BoolIs bR w)
  have hb0 := below_alloc w (.cells #[.int .i64 0, .int .i64 e, .string u, .string r, .bool hh, .slice A1 lw k1, .slice A2 lt k2] 26)
  clear hlw hlt hbR e1 e2 q1
  have hw : wrap64 ((lw : Int) + (lt : Int)) = (lw : Int) + (lt : Int) := by unfold wrap64; omega
  by_cases he : e = 0
  case neg =>
    go_enter Tryz.func14, Tryz.ntmps14
    go_wp2_with fail
    go_ret
    exact ⟨ret_bool (by rw [F.out, decide_eq_false he]; rfl), hb0⟩
  rw [decide_eq_true he] at F
  subst he
  obtain ⟨bu, hbu⟩ : ∃ y, u.toList.isEmpty = y := ⟨_, rfl⟩
  rw [hbu] at F
  cases bu with
  | false =>
    have hu : ¬ u.toList = [] := fun e => by rw [e] at hbu; cases hbu
    go_enter Tryz.func14, Tryz.ntmps14
    go_wp2_with fail
    go_ret
    exact ⟨ret_bool (by rw [F.out]; rfl), hb0⟩
  | true =>
  have hu : u.toList = [] := List.isEmpty_iff.1 hbu
  obtain ⟨br, hbr⟩ : ∃ y, r.toList.isEmpty = y := ⟨_, rfl⟩
  rw [hbr] at F
  cases br with
  | false =>
    have hr : ¬ r.toList = [] := fun e => by rw [e] at hbr; cases hbr
    go_enter Tryz.func14, Tryz.ntmps14
    go_wp2_with fail
    go_ret
    exact ⟨ret_bool (by rw [F.out]; rfl), hb0⟩
  | true =>
  have hr : r.toList = [] := List.isEmpty_iff.1 hbr
  cases hh with
  | true =>
    go_enter Tryz.func14, Tryz.ntmps14
    go_wp2_with fail
    go_ret
    exact ⟨ret_bool (by rw [F.out]; rfl), hb0⟩
  | false =>
    go_enter Tryz.func14, Tryz.ntmps14
    go_wp2_with fail
    go_ret
    exact ⟨ret_bool (by
      rw [F.out, Bool.eq_iff_iff]
      simp
      omega), hb0⟩

def CompS (w0 : World) (m : Nat) (n : Int) (v1 v2 : Value) (W : World) : Prop := W.cell? ⟨m, 5, none⟩ = some v1 ∧ W.cell? ⟨m, 6, none⟩ = some v2 ∧ W.cell? ⟨m, 0, none⟩ = some (.int .i64 n) ∧ Below w0.heap.size w0 W
theorem compS_go {w0 : World} {m : Nat} {n : Int} {v1 v2 : Value} {W W' : World} (h : CompS w0 m n v1 v2 W) (hb : Below W.heap.size W W') : CompS w0 m n v1 v2 W' := ⟨kept hb h.1, kept hb h.2.1, kept hb h.2.2.1, step_below h.2.2.2 hb⟩
def KeptS (w0 : World) (m : Nat) (n : Int) (v1 v2 : Value) (W W' : World) (v : Value) (l : List ByteArray) : Prop := CompS w0 m n v1 v2 W ∧ ClonedAt W.heap.size W' v l ∧ Below W.heap.size W W'
theorem compS_below {w0 : World} {m : Nat} {n : Int} {v1 v2 : Value} {W : World} (h : CompS w0 m n v1 v2 W) : Below w0.heap.size w0 W := h.2.2.2

set_option maxHeartbeats 4000000 in
set_option maxRecDepth 100000 in
theorem statRight_main (z : St) (v1 v2 : Value) (w : World) (h0 : 0 ≤ z.n) (h7 : z.n ≤ 7) (hne : z.n ≠ 0) (hE : Env w) (hA : StAt w v1 v2 z) (hf : StFit z) : Calls Tryz.prog 14 #[stV z v1 v2] w (BoolIs (rightS z) w) := by
  have F := Lib.hid (right_state h0 h7 hne)
  unfold rightN at F
  obtain ⟨A1, k1, hv1, _⟩ := hA.ws.open
  obtain ⟨A2, k2, hv2, _⟩ := hA.ts.open
  have hu : z.u.size ≤ 1000000 := by have := hf.u; omega
  have hr : z.r.size ≤ 1000000 := by have := hf.r; omega
  have hwl := hf.wl
  have htl := hf.tl
  have hb0 := below_alloc w (.cells #[.int .i64 z.n, .int .i64 z.e, .string z.u, .string z.r, .bool z.h, v1, v2] 26)
  have X0 := stBox_new w z v1 v2 26
  have CR := Lib.hid (right_calls z.e z.u z.r _ (hE.below hb0) hu hr)
  have CS1 := Lib.hid (fun (W : World) (hb : Below w.heap.size w W) => sorted_calls v1 z.ws W (hA.ws.below hb))
  have CS2 := Lib.hid (fun (W : World) (hb : Below w.heap.size w W) => sorted_calls v2 z.ts W (hA.ts.below hb))
  have CK1 := Lib.hid (fun (W : World) (hb : Below w.heap.size w W) => clone_calls v1 z.ws W (hA.ws.below hb) (by omega))
  have CK2 := Lib.hid (fun (W : World) (hb : Below w.heap.size w W) => clone_calls v2 z.ts W (hA.ts.below hb) (by omega))
  have CP1 := Lib.hid (fun (W W' : World) (v : Value) (h : ClonedAt W.heap.size W' v z.ws) (hb : Below W.heap.size W W') => compact_calls W.heap.size W W' v z.ws h hb (by omega))
  have CP2 := Lib.hid (fun (W W' : World) (v : Value) (h : ClonedAt W.heap.size W' v z.ts) (hb : Below W.heap.size W W') => compact_calls W.heap.size W W' v z.ts h hb (by omega))
  have CN := Lib.hid (fun (W : World) (hb : Below w.heap.size w W) => anyName_calls v1 z.ws W (hA.ws.below hb))
  have CB := Lib.hid (fun (W : World) (hb : Below w.heap.size w W) => anyBad_calls v2 z.ts W (hA.ts.below hb) (fun s hs => by have := hf.tz s hs; omega))
  have e1 : z.ws.isEmpty = decide (z.ws.length = 0) := by cases z.ws <;> simp
  have e2 : z.ts.isEmpty = decide (z.ts.length = 0) := by cases z.ts <;> simp
  unfold RightIs at CR
  rw [e1, e2] at F
  clear e1 e2 hA hf hE
  obtain ⟨n, e, u, r, hh, ws, ts⟩ := z
  simp only at *
  obtain ⟨lw, hlw⟩ : ∃ y, ws.length = y := ⟨_, rfl⟩
  obtain ⟨lt, hlt⟩ : ∃ y, ts.length = y := ⟨_, rfl⟩
  obtain ⟨b1, hb1⟩ : ∃ y, VP.rightP e u.data.toList r.data.toList = y := ⟨_, rfl⟩
  obtain ⟨b2, hb2⟩ : ∃ y, sortedS ws = y := ⟨_, rfl⟩
  obtain ⟨b3, hb3⟩ : ∃ y, sortedS ts = y := ⟨_, rfl⟩
  obtain ⟨b6, hb6⟩ : ∃ y, apartS ws = y := ⟨_, rfl⟩
  obtain ⟨b7, hb7⟩ : ∃ y, apartS ts = y := ⟨_, rfl⟩
  obtain ⟨b8, hb8⟩ : ∃ y, namesB ws = y := ⟨_, rfl⟩
  obtain ⟨b9, hb9⟩ : ∃ y, tasksB ts = y := ⟨_, rfl⟩
  obtain ⟨bR, hbR⟩ : ∃ y, rightS ⟨n, e, u, r, hh, ws, ts⟩ = y := ⟨_, rfl⟩
  rw [hbR] at F ⊢
  rw [hlw, hlt, hb1, hb2, hb3, hb6, hb7, hb8, hb9] at F
  rw [hb1] at CR
  rw [hb2] at CS1
  rw [hb3] at CS2
  rw [hb6, hlw] at CP1
  rw [hb7, hlt] at CP2
  rw [hb8] at CN
  rw [hb9] at CB
  rw [hlw] at hv1 hwl
  rw [hlt] at hv2 htl
  subst hv1 hv2
  clear hbR hb1 hb2 hb3 hb6 hb7 hb8 hb9 hlw hlt hu hr
  show Calls Tryz.prog 14 #[.agg #[.int .i64 n, .int .i64 e, .string u, .string r, .bool hh, .slice A1 lw k1, .slice A2 lt k2]] w (BoolIs bR w)
  obtain ⟨c0, c1, c2, c3, c4, c5, c6⟩ := id X0
  go_enter Tryz.func14, Tryz.ntmps14
  go_wp2_with fail
  refine CR.out.mono ?_
  rintro E w1 ⟨rfl, hb⟩
  have X1 := X0.below hb
  have HB1 := Lib.hid (step_below hb0 hb)
  clear c0 c1 c2 c3 c4 c5 c6 X0 CR hb hb0
  obtain ⟨m, hm⟩ : ∃ m, w.heap.size = m := ⟨_, rfl⟩
  rw [hm] at X1
  have HX1 := Lib.hid X1
  have c5 := X1.c5
  have c6 := X1.c6
  clear X1
  (try rw [hm])
  clear hm
  cases b1 with
  | false =>
    go_wp2_with fail
    go_ret
    exact ⟨ret_bool (by rw [F.out]; rfl), HB1.out⟩
  | true =>
  go_wp2_with fail
  refine (CS1.out w1 HB1.out).mono ?_
  rintro E w2 ⟨rfl, hb⟩
  have HX2 := Lib.hid (HX1.out.below hb)
  have HB2 := Lib.hid (step_below HB1.out hb)
  clear c5 c6 hb HX1 HB1 CS1
  have c5 := HX2.out.c5
  have c6 := HX2.out.c6
  cases b2 with
  | false =>
    go_wp2_with fail
    go_ret
    exact ⟨ret_bool (by rw [F.out]; rfl), HB2.out⟩
  | true =>
  go_wp2_with fail
  refine (CS2.out w2 HB2.out).mono ?_
  rintro E w3 ⟨rfl, hb⟩
  have HX3 := Lib.hid (HX2.out.below hb)
  have HB3 := Lib.hid (step_below HB2.out hb)
  clear c5 c6 hb HX2 HB2 CS2
  have c5 := HX3.out.c5
  have c6 := HX3.out.c6
  cases b3 with
  | false =>
    go_wp2_with fail
    go_ret
    exact ⟨ret_bool (by rw [F.out]; rfl), HB3.out⟩
  | true =>
  by_cases h4 : 4 < lw
  · go_wp2_with fail
    go_ret
    exact ⟨ret_bool (by rw [F.out, decide_eq_true h4]; rfl), HB3.out⟩
  by_cases h2 : 2 < lt
  · go_wp2_with fail
    go_ret
    exact ⟨ret_bool (by rw [F.out, decide_eq_true h2]; simp), HB3.out⟩
  rw [decide_eq_false h4, decide_eq_false h2] at F
  have S0 : CompS w m n (.slice A1 lw k1) (.slice A2 lt k2) w3 := ⟨c5, c6, HX3.out.c0, HB3.out⟩
  have K1 := Lib.hid (fun (W : World) (h : W.cell? ⟨m, 5, none⟩ = some (.slice A1 lw k1) ∧ W.cell? ⟨m, 6, none⟩ = some (.slice A2 lt k2) ∧ W.cell? ⟨m, 0, none⟩ = some (.int .i64 n) ∧ Below w.heap.size w W) => (CK1.out W h.2.2.2).mono (R' := fun E W' => ∃ v', E = .returned v' ∧ KeptS w m n (.slice A1 lw k1) (.slice A2 lt k2) W W' v' ws ∧ Below W.heap.size W W') fun E W' ⟨v', he, hc, hb⟩ => ⟨v', he, ⟨h, hc, hb⟩, hb⟩)
  have K2 := Lib.hid (fun (W : World) (h : W.cell? ⟨m, 5, none⟩ = some (.slice A1 lw k1) ∧ W.cell? ⟨m, 6, none⟩ = some (.slice A2 lt k2) ∧ W.cell? ⟨m, 0, none⟩ = some (.int .i64 n) ∧ Below w.heap.size w W) => (CK2.out W h.2.2.2).mono (R' := fun E W' => ∃ v', E = .returned v' ∧ KeptS w m n (.slice A1 lw k1) (.slice A2 lt k2) W W' v' ts ∧ Below W.heap.size W W') fun E W' ⟨v', he, hc, hb⟩ => ⟨v', he, ⟨h, hc, hb⟩, hb⟩)
  have P1 := Lib.hid (fun (W W' : World) (v : Value) (h : KeptS w m n (.slice A1 lw k1) (.slice A2 lt k2) W W' v ws) => (CP1.out W W' v h.2.1 h.2.2).mono (R' := fun E W'' => ∃ A q c, E = .returned (.slice A q c) ∧ decide ((q : Int) < (lw : Int)) = (!b6) ∧ CompS w m n (.slice A1 lw k1) (.slice A2 lt k2) W'') fun E W'' ⟨A, q, c, he, hq, hb⟩ => ⟨A, q, c, he, hq, compS_go h.1 hb⟩)
  have P2 := Lib.hid (fun (W W' : World) (v : Value) (h : KeptS w m n (.slice A1 lw k1) (.slice A2 lt k2) W W' v ts) => (CP2.out W W' v h.2.1 h.2.2).mono (R' := fun E W'' => ∃ A q c, E = .returned (.slice A q c) ∧ decide ((q : Int) < (lt : Int)) = (!b7) ∧ CompS w m n (.slice A1 lw k1) (.slice A2 lt k2) W'') fun E W'' ⟨A, q, c, he, hq, hb⟩ => ⟨A, q, c, he, hq, compS_go h.1 hb⟩)
  clear CK1 CK2 CP1 CP2
  go_upto_region 7 with fail
  go_cut [64] (fun s64 wx => s64 = .bool (!b6 || !b7) ∧ CompS w m n (.slice A1 lw k1) (.slice A2 lt k2) wx)
  case first =>
    clear c5 c6
    have S1 := compS_go S0 (below_drew w3)
    cases b6 with
    | false =>
      refine wp_region_held_drew (S := (fun W => W.cell? ⟨m, 5, none⟩ = some (.slice A1 lw k1) ∧ W.cell? ⟨m, 6, none⟩ = some (.slice A2 lt k2) ∧ W.cell? ⟨m, 0, none⟩ = some (.int .i64 n) ∧ Below w.heap.size w W)) (by kernel_rfl) ?_ (fun hHeld => ?_)
      · exact S1
      refine wpAnyH_take (i := 0) (v := ?_) rfl (by kernel_rfl) (by kernel_rfl) (by kernel_rfl) (fun _ _ _ h => h) (Or.inl ⟨by rfl, ?_⟩) (by assumption) ?_
      rotate_left
      · (intro w hSw; (try dsimp only at hSw); go_simp; (try with_reducible rfl))
      simp only [List.getElem_toArray, List.getElem_cons_zero, Act.put, List.setIfInBounds_toArray, List.set_cons_zero, List.set_cons_succ]
      refine wpAnyH_take (i := 1) (v := ?_) rfl (by kernel_rfl) (by kernel_rfl) (by kernel_rfl) (fun _ _ _ h => h) (Or.inl ⟨by rfl, ?_⟩) (by assumption) ?_
      rotate_left
      · (intro w hSw; (try dsimp only at hSw); go_simp; (try with_reducible rfl))
      simp only [List.getElem_toArray, List.getElem_cons_succ, List.getElem_cons_zero, Act.put, List.setIfInBounds_toArray, List.set_cons_zero, List.set_cons_succ]
      refine wpAnyH_take (i := 5) (v := ?_) rfl (by kernel_rfl) (by kernel_rfl) (by kernel_rfl) (fun _ _ _ h => h) (Or.inl ⟨by rfl, ?_⟩) (by assumption) ?_
      rotate_left
      · (intro w hSw; (try dsimp only at hSw); go_simp; (try with_reducible rfl))
      simp only [List.getElem_toArray, List.getElem_cons_succ, List.getElem_cons_zero, Act.put, List.setIfInBounds_toArray, List.set_cons_zero, List.set_cons_succ]
      refine wpAnyH_take (i := 6) (v := ?_) rfl (by kernel_rfl) (by kernel_rfl) (by kernel_rfl) (fun _ _ _ h => h) (Or.inl ⟨by rfl, ?_⟩) (by assumption) ?_
      rotate_left
      · (intro w hSw; (try dsimp only at hSw); go_simp; (try with_reducible rfl))
      simp only [List.getElem_toArray, List.getElem_cons_succ, List.getElem_cons_zero, Act.put, List.setIfInBounds_toArray, List.set_cons_zero, List.set_cons_succ]
      refine wpAnyH_take (i := 7) (v := ?_) rfl (by kernel_rfl) (by kernel_rfl) (by kernel_rfl) (fun _ _ _ h => h) (Or.inl ⟨by rfl, ?_⟩) (by assumption) ?_
      rotate_left
      · (intro w hSw; (try dsimp only at hSw); go_simp; (try with_reducible rfl))
      simp only [List.getElem_toArray, List.getElem_cons_succ, List.getElem_cons_zero, Act.put, List.setIfInBounds_toArray, List.set_cons_zero, List.set_cons_succ]
      refine wpAnyH_ready (rs := [2]) (by kernel_rfl) (by simp) ?_
      refine AllReadyH.cons rfl (fun K hK => ?_) AllReadyH.nil
      go_simp
      go_at_call 68
      refine Calls.mono (K1.out _ hHeld) ?_
      rintro E w5 ⟨v5, rfl, hc5, hb5⟩
      (try go_wp2_with fail)
      refine hK.out _ _ ?_ (fun hHeld => ?_)
      · exact compS_go hc5.1 hc5.2.2
      clear hK K
      (try simp only [List.getElem_toArray, List.getElem_cons_succ, List.getElem_cons_zero, Act.put, List.setIfInBounds_toArray, List.set_cons_zero, List.set_cons_succ])
      refine wpAnyH_ready (rs := [3]) (by kernel_rfl) (by simp) ?_
      refine AllReadyH.cons rfl (fun K hK => ?_) AllReadyH.nil
      go_simp
      go_at_call 67
      refine Calls.mono (P1.out _ _ _ hc5) ?_
      rintro E w6 ⟨A6, n6, k6, rfl, hn6, hb⟩
      have hm6 : decide (n6 < lw) = true := (decide_eq_decide.2 (by omega)).trans hn6
      replace hn6 : decide ((n6 : Int) < (lw : Int)) = true := hn6
      (try go_wp2_with fail)
      refine hK.out _ _ ?_ (fun hHeld => ?_)
      · exact hb
      clear hK K
      (try simp only [List.getElem_toArray, List.getElem_cons_succ, List.getElem_cons_zero, Act.put, List.setIfInBounds_toArray, List.set_cons_zero, List.set_cons_succ])
      refine wpAnyH_take (i := 4) (v := ?_) rfl (by kernel_rfl) (by kernel_rfl) (by kernel_rfl) (fun _ _ _ h => h) (Or.inl ⟨by rfl, ?_⟩) (by assumption) ?_
      rotate_left
      · (intro w hSw; (try dsimp only at hSw); go_simp; (try with_reducible rfl))
      simp only [List.getElem_toArray, List.getElem_cons_succ, List.getElem_cons_zero, Act.put, List.setIfInBounds_toArray, List.set_cons_zero, List.set_cons_succ]
      refine wpAnyH_take (i := 8) (v := ?_) rfl (by kernel_rfl) (by kernel_rfl) (by kernel_rfl) (fun _ _ _ h => h) (Or.inl ⟨by rfl, ?_⟩) (by assumption) ?_
      rotate_left
      · (intro w hSw; (try dsimp only at hSw); go_simp; (try with_reducible rfl))
      simp only [List.getElem_toArray, List.getElem_cons_succ, List.getElem_cons_zero, Act.put, List.setIfInBounds_toArray, List.set_cons_zero, List.set_cons_succ]
      refine wpAnyH_take (i := 9) (v := ?_) rfl (by kernel_rfl) (by kernel_rfl) (by kernel_rfl) (fun _ _ _ h => h) (Or.inl ⟨by rfl, ?_⟩) (by assumption) ?_
      rotate_left
      · (intro w hSw; (try dsimp only at hSw); go_simp; (try with_reducible rfl))
      simp only [List.getElem_toArray, List.getElem_cons_succ, List.getElem_cons_zero, Act.put, List.setIfInBounds_toArray, List.set_cons_zero, List.set_cons_succ]
      refine wpAnyH_take (i := 10) (v := undef) rfl (by kernel_rfl) (by kernel_rfl) (by kernel_rfl) (fun _ _ _ h => h) (Or.inr ⟨by rfl, rfl⟩) (by assumption) ?_
      simp only [List.getElem_toArray, List.getElem_cons_succ, List.getElem_cons_zero, Act.put, List.setIfInBounds_toArray, List.set_cons_zero, List.set_cons_succ]
      refine wpAnyH_take (i := 11) (v := undef) rfl (by kernel_rfl) (by kernel_rfl) (by kernel_rfl) (fun _ _ _ h => h) (Or.inr ⟨by rfl, rfl⟩) (by assumption) ?_
      simp only [List.getElem_toArray, List.getElem_cons_succ, List.getElem_cons_zero, Act.put, List.setIfInBounds_toArray, List.set_cons_zero, List.set_cons_succ]
      refine wpAnyH_take (i := 12) (v := undef) rfl (by kernel_rfl) (by kernel_rfl) (by kernel_rfl) (fun _ _ _ h => h) (Or.inr ⟨by rfl, rfl⟩) (by assumption) ?_
      simp only [List.getElem_toArray, List.getElem_cons_succ, List.getElem_cons_zero, Act.put, List.setIfInBounds_toArray, List.set_cons_zero, List.set_cons_succ]
      refine wpAnyH_take (i := 13) (v := undef) rfl (by kernel_rfl) (by kernel_rfl) (by kernel_rfl) (fun _ _ _ h => h) (Or.inr ⟨by rfl, rfl⟩) (by assumption) ?_
      simp only [List.getElem_toArray, List.getElem_cons_succ, List.getElem_cons_zero, Act.put, List.setIfInBounds_toArray, List.set_cons_zero, List.set_cons_succ]
      refine wpAnyH_take (i := 14) (v := undef) rfl (by kernel_rfl) (by kernel_rfl) (by kernel_rfl) (fun _ _ _ h => h) (Or.inr ⟨by rfl, rfl⟩) (by assumption) ?_
      simp only [List.getElem_toArray, List.getElem_cons_succ, List.getElem_cons_zero, Act.put, List.setIfInBounds_toArray, List.set_cons_zero, List.set_cons_succ]
      refine wpAnyH_take (i := 15) (v := undef) rfl (by kernel_rfl) (by kernel_rfl) (by kernel_rfl) (fun _ _ _ h => h) (Or.inr ⟨by rfl, rfl⟩) (by assumption) ?_
      simp only [List.getElem_toArray, List.getElem_cons_succ, List.getElem_cons_zero, Act.put, List.setIfInBounds_toArray, List.set_cons_zero, List.set_cons_succ]
      refine wpAnyH_take (i := 16) (v := undef) rfl (by kernel_rfl) (by kernel_rfl) (by kernel_rfl) (fun _ _ _ h => h) (Or.inr ⟨by rfl, rfl⟩) (by assumption) ?_
      simp only [List.getElem_toArray, List.getElem_cons_succ, List.getElem_cons_zero, Act.put, List.setIfInBounds_toArray, List.set_cons_zero, List.set_cons_succ]
      refine wpAnyH_take (i := 17) (v := undef) rfl (by kernel_rfl) (by kernel_rfl) (by kernel_rfl) (fun _ _ _ h => h) (Or.inr ⟨by rfl, rfl⟩) (by assumption) ?_
      simp only [List.getElem_toArray, List.getElem_cons_succ, List.getElem_cons_zero, Act.put, List.setIfInBounds_toArray, List.set_cons_zero, List.set_cons_succ]
      refine wpAnyH_take (i := 18) (v := undef) rfl (by kernel_rfl) (by kernel_rfl) (by kernel_rfl) (fun _ _ _ h => h) (Or.inr ⟨by rfl, rfl⟩) (by assumption) ?_
      simp only [List.getElem_toArray, List.getElem_cons_succ, List.getElem_cons_zero, Act.put, List.setIfInBounds_toArray, List.set_cons_zero, List.set_cons_succ]
      refine wpAnyH_take (i := 19) (v := ?_) rfl (by kernel_rfl) (by kernel_rfl) (by kernel_rfl) (fun _ _ _ h => h) (Or.inl ⟨by rfl, ?_⟩) (by assumption) ?_
      rotate_left
      · (intro w hSw; (try dsimp only at hSw); go_simp; (try with_reducible rfl))
      simp only [List.getElem_toArray, List.getElem_cons_succ, List.getElem_cons_zero, Act.put, List.setIfInBounds_toArray, List.set_cons_zero, List.set_cons_succ]
      refine wpAnyH_take (i := 20) (v := ?_) rfl (by kernel_rfl) (by kernel_rfl) (by kernel_rfl) (fun _ _ _ h => h) (Or.inl ⟨by rfl, ?_⟩) (by assumption) ?_
      rotate_left
      · (intro w hSw; (try dsimp only at hSw); go_simp; (try with_reducible rfl))
      simp only [List.getElem_toArray, List.getElem_cons_succ, List.getElem_cons_zero, Act.put, List.setIfInBounds_toArray, List.set_cons_zero, List.set_cons_succ]
      refine wpAnyH_done (by kernel_rfl) ?_ _
      go_wp2_with fail
      go_meet
      exact ⟨rfl, by assumption⟩
    | true =>
      (go_region_held3 (fun W => W.cell? ⟨m, 5, none⟩ = some (.slice A1 lw k1) ∧ W.cell? ⟨m, 6, none⟩ = some (.slice A2 lt k2) ∧ W.cell? ⟨m, 0, none⟩ = some (.int .i64 n) ∧ Below w.heap.size w W)
            ((first | assumption | exact compS_go (by assumption) hb))
            (first | (go_at_call 68; first | ((with_reducible refine (K1.out _ (by assumption)).mono ?_); rintro E w5 ⟨v5, rfl, hc5, hb⟩) | ((with_reducible refine (K2.out _ (by assumption)).mono ?_); rintro E w5 ⟨v5, rfl, hc5, hb⟩)) | (go_at_call 67; first | ((with_reducible refine (P1.out _ _ _ (by assumption)).mono ?_); rintro E w6 ⟨A6, n6, k6, rfl, hn6, hb⟩; replace hn6 : decide ((n6 : Int) < (lw : Int)) = false := hn6; have hm6 : decide (n6 < lw) = false := (decide_eq_decide.2 (by omega)).trans hn6) | ((with_reducible refine (P2.out _ _ _ (by assumption)).mono ?_); rintro E w6 ⟨A6, n6, k6, rfl, hn6, hb⟩))))
      all_goals
        go_wp2_with fail
        go_meet
        exact ⟨by simp_all, by assumption⟩
  case rest =>
  obtain ⟨hs, hS⟩ := hcut
  obtain ⟨bq, hbq⟩ : ∃ y, (!b6 || !b7) = y := ⟨_, rfl⟩
  rw [hbq] at hs F
  subst hs
  have HS := Lib.hid hS
  clear hS S0 c5 c6 HX3 K1 K2 P1 P2 hbq
  have c5 := HS.out.1
  have c6 := HS.out.2.1
  cases bq with
  | true =>
    go_wp2_with fail
    go_ret
    exact ⟨ret_bool (by rw [F.out]; simp), compS_below HS.out⟩
  | false =>
  go_wp2_with fail
  refine (CN.out wc (compS_below HS.out)).mono ?_
  rintro E w8 ⟨rfl, hb⟩
  have HS8 := Lib.hid (compS_go HS.out hb)
  clear c5 c6 hb HS CN
  have c5 := HS8.out.1
  have c6 := HS8.out.2.1
  cases b8 with
  | false =>
    go_wp2_with fail
    go_ret
    exact ⟨ret_bool (by rw [F.out]; simp), compS_below HS8.out⟩
  | true =>
  go_wp2_with fail
  refine (CB.out w8 (compS_below HS8.out)).mono ?_
  rintro E w9 ⟨rfl, hb⟩
  have HS9 := Lib.hid (compS_go HS8.out hb)
  clear c5 c6 hb HS8 CB
  have c5 := HS9.out.1
  have c6 := HS9.out.2.1
  have c0 := HS9.out.2.2.1
  cases b9 with
  | false =>
    go_wp2_with fail
    go_ret
    exact ⟨ret_bool (by rw [F.out]; simp), compS_below HS9.out⟩
  | true =>
  have F' := Lib.hid (show bR = (!((decide (n = 6) && decide (lt = 0)) || (decide (n = 5) && decide (lw = 0))) && ((decide (lw = 0) || decide (n = 5)) && (decide (lt = 0) || decide (n = 6) || decide (n = 5)))) by rw [F.out]; simp)
  clear F
  by_cases n6 : n = 6
  · subst n6
    by_cases l0 : lt = 0
    · subst l0
      go_wp2_with fail
      go_ret
      exact ⟨ret_bool (by rw [F'.out]; simp), compS_below HS9.out⟩
    · by_cases m0 : lw = 0
      · subst m0
        go_wp2_with fail
        go_ret
        exact ⟨ret_bool (by rw [F'.out]; simp [l0]), compS_below HS9.out⟩
      · go_wp2_with fail
        go_ret
        exact ⟨ret_bool (by rw [F'.out]; simp [l0, m0]), compS_below HS9.out⟩
  · by_cases n5 : n = 5
    · subst n5
      by_cases m0 : lw = 0
      · subst m0
        go_wp2_with fail
        go_ret
        exact ⟨ret_bool (by rw [F'.out]; simp), compS_below HS9.out⟩
      · by_cases l0 : lt = 0
        · subst l0
          go_wp2_with fail
          go_ret
          exact ⟨ret_bool (by rw [F'.out]; simp [m0]), compS_below HS9.out⟩
        · go_wp2_with fail
          go_ret
          exact ⟨ret_bool (by rw [F'.out]; simp [m0]), compS_below HS9.out⟩
    · by_cases m0 : lw = 0
      · subst m0
        by_cases l0 : lt = 0
        · subst l0
          go_wp2_with fail
          go_ret
          exact ⟨ret_bool (by rw [F'.out]; simp [n5, n6]), compS_below HS9.out⟩
        · go_wp2_with fail
          go_ret
          exact ⟨ret_bool (by rw [F'.out]; simp [n5, n6, l0]), compS_below HS9.out⟩
      · go_wp2_with fail
        go_ret
        exact ⟨ret_bool (by rw [F'.out]; simp [n5, m0]), compS_below HS9.out⟩

theorem statRight_calls (z : St) (v1 v2 : Value) (w : World) (hE : Env w) (hA : StAt w v1 v2 z) (hf : StFit z) : Calls Tryz.prog 14 #[stV z v1 v2] w (BoolIs (rightS z) w) := by
  by_cases h : 0 ≤ z.n ∧ z.n ≤ 7
  · by_cases h0 : z.n = 0
    · exact statRight_none z v1 v2 w h0 hA hf
    · exact statRight_main z v1 v2 w h.1 h.2 h0 hE hA hf
  · exact statRight_out z v1 v2 w h
end Go.Proofs.YtpbbhjifgaeklaaGreatDoor

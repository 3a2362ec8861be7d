/- The reference's Stands: may a status be. -/
import Derived.Test.YtpbbhjifgaeklaaGreatDoorSTK21
import Derived.Test.YtpbbhjifgaeklaaGreatDoorSTK8
import Derived.Test.YtpbbhjifgaeklaaGreatDoorSTK19
import Derived.Deep.QuietTactic
import Derived.BigQuiet
namespace Go.Proofs.YtpbbhjifgaeklaaGreatDoor
open Go Go.RowKit

theorem stands_len {z : St} (h : ¬ (z.ws.length ≤ 4 ∧ z.ts.length ≤ 2 ∧ risesB z.ws = true ∧ risesB z.ts = true)) : rightS z = false := by
  refine Bool.eq_false_iff.2 fun e => h ?_
  rcases ((rightS_iff z).1 e).2.2 with ⟨_, _, _, e1, e2⟩ | ⟨_, _, r1, r2, l1, l2, _⟩
  · rw [e1, e2]; exact ⟨by simp, by simp, rfl, rfl⟩
  · exact ⟨l1, l2, r1, r2⟩
theorem stands_names {z : St} (hn : z.n ≠ 0) (h : namesB z.ws = false) : rightS z = false := by
  refine Bool.eq_false_iff.2 fun e => ?_
  rcases ((rightS_iff z).1 e).2.2 with ⟨e0, _⟩ | ⟨_, _, _, _, _, _, k1, _⟩
  · exact hn e0
  · rw [h] at k1; cases k1
theorem stands_tasks {z : St} (hn : z.n ≠ 0) (h : tasksB z.ts = false) : rightS z = false := by
  refine Bool.eq_false_iff.2 fun e => ?_
  rcases ((rightS_iff z).1 e).2.2 with ⟨e0, _⟩ | ⟨_, _, _, _, _, _, _, k2, _⟩
  · exact hn e0
  · rw [h] at k2; cases k2
theorem stands_rest {z : St} (h0 : 0 ≤ z.n) (h7 : z.n ≤ 7) (hn : z.n ≠ 0) (l1 : z.ws.length ≤ 4) (l2 : z.ts.length ≤ 2) (r1 : risesB z.ws = true) (r2 : risesB z.ts = true) (k1 : namesB z.ws = true) (k2 : tasksB z.ts = true) :
    rightS z = (VP.rightP z.e z.u.data.toList z.r.data.toList && (!((decide (z.n = 6) && decide (z.ts.length = 0)) || (decide (z.n = 5) && decide (z.ws.length = 0))) && ((decide (z.ws.length = 0) || decide (z.n = 5)) && (decide (z.ts.length = 0) || decide (z.n = 6) || decide (z.n = 5))))) := by
  have e1 : z.ws.isEmpty = decide (z.ws.length = 0) := by cases z.ws <;> simp
  have e2 : z.ts.isEmpty = decide (z.ts.length = 0) := by cases z.ts <;> simp
  unfold rightS
  rw [if_neg hn, r1, r2, k1, k2, decide_eq_true h0, decide_eq_true h7, decide_eq_true l1, decide_eq_true l2, e1, e2]
  generalize VP.rightP z.e z.u.data.toList z.r.data.toList = b1
  generalize (decide (z.n = 6) && decide (z.ts.length = 0)) = b10
  generalize (decide (z.n = 5) && decide (z.ws.length = 0)) = b11
  generalize (decide (z.ws.length = 0) || decide (z.n = 5)) = b12
  generalize (decide (z.ts.length = 0) || decide (z.n = 6) || decide (z.n = 5)) = b13
  cases b1 <;> cases b10 <;> cases b11 <;> cases b12 <;> cases b13 <;> rfl

theorem in_is (n lo hi : Int) (b : Bool) (h : inB n lo hi = b) (w : World) : Calls Tryz.prog 75 #[.int .i64 n, .int .i64 lo, .int .i64 hi] w fun e w' => e = .returned (.bool b) ∧ w = w' := by
  have := in_calls n lo hi w
  rwa [h] at this
theorem inB_yes {n lo hi : Int} (h1 : lo ≤ n) (h2 : n ≤ hi) : inB n lo hi = true := by unfold inB; simp [h1, h2]
theorem inB_no {n lo hi : Int} (h : n < lo ∨ hi < n) : inB n lo hi = false := by unfold inB; simp; omega

set_option maxHeartbeats 1000000 in
set_option maxRecDepth 100000 in
theorem refStands_out (z : St) (v1 v2 : Value) (w : World) (h : ¬ (0 ≤ z.n ∧ z.n ≤ 7)) : Calls Tryz.prog 21 #[stV z v1 v2] w (BoolIs (rightS z) w) := by
  have F := Lib.hid (right_out h)
  have CI := Lib.hid (fun W => in_is z.n 0 7 false (inB_no (by omega)) W)
  obtain ⟨n, e, u, r, hh, ws, ts⟩ := z
  simp only at *
  have hb0 := below_alloc w (.cells #[.int .i64 n, .int .i64 e, .string u, .string r, .bool hh, v1, v2] 42)
  obtain ⟨bR, hbR⟩ : ∃ y, rightS ⟨n, e, u, r, hh, ws, ts⟩ = y := ⟨_, rfl⟩
  rw [hbR] at F ⊢
  clear h hbR
  show Calls Tryz.prog 21 #[.agg #[.int .i64 n, .int .i64 e, .string u, .string r, .bool hh, v1, v2]] w (BoolIs bR w)
  go_enter Tryz.func21, Tryz.ntmps21
  go_wp2_with (go_at_call 75; refine (CI.out _).mono ?_; rintro E w' ⟨rfl, rfl⟩)
  go_ret
  exact ⟨ret_bool F.out.symm, hb0⟩

set_option maxHeartbeats 4000000 in
set_option maxRecDepth 100000 in
theorem refStands_main (z : St) (v1 v2 : Value) (w : World) (h0 : 0 ≤ z.n) (h7 : z.n ≤ 7) (hE : Env w) (hA : StAt w v1 v2 z) (hf : StFit z) (he0 : -9223372036854775808 ≤ z.e) (he1 : z.e ≤ 9223372036854775807) :
    Calls Tryz.prog 21 #[stV z v1 v2] w (BoolIs (rightS z) w) := by
  obtain ⟨A1, k1, hv1, hc1, hm1, hr1⟩ := hA.ws.open
  obtain ⟨A2, k2, hv2, hc2, hm2, hr2⟩ := hA.ts.open
  have HR1 := Lib.hid hr1
  have HR2 := Lib.hid hr2
  have HF := Lib.hid hf
  have hb0 := below_alloc w (.cells #[.int .i64 z.n, .int .i64 z.e, .string z.u, .string z.r, .bool z.h, v1, v2] 42)
  have X0 := stBox_new w z v1 v2 42
  have CI := Lib.hid (fun W => in_is z.n 0 7 true (inB_yes h0 h7) W)
  have CS1 := Lib.hid (fun (W : World) (hb : Below w.heap.size w W) => rises_calls v1 z.ws W (hA.ws.below hb))
  have CS2 := Lib.hid (fun (W : World) (hb : Below w.heap.size w W) => rises_calls v2 z.ts W (hA.ts.below hb))
  have CR := Lib.hid (fun (W : World) (hb : Below w.heap.size w W) => refRight_calls z.e z.u z.r W (hE.below hb) he0 he1 (by have := hf.u; omega) (by have := hf.r; omega))
  unfold RightIs at CR
  have FL := Lib.hid (fun h => stands_len (z := z) h)
  have F0 := Lib.hid (fun h => right_zero (z := z) h)
  have FN := Lib.hid (fun hn h => stands_names (z := z) hn h)
  have FT := Lib.hid (fun hn h => stands_tasks (z := z) hn h)
  have FR := Lib.hid (fun hn l1 l2 r1 r2 k1 k2 => stands_rest (z := z) h0 h7 hn l1 l2 r1 r2 k1 k2)
  clear hA hf hE he0 he1 hr1 hr2
  obtain ⟨n, e, u, r, hh, ws, ts⟩ := z
  simp only at *
  obtain ⟨lw, hlw⟩ : ∃ y, ws.length = y := ⟨_, rfl⟩
  obtain ⟨lt, hlt⟩ : ∃ y, ts.length = y := ⟨_, rfl⟩
  obtain ⟨b1, hb1⟩ : ∃ y, VP.rightP e u.data.toList r.data.toList = y := ⟨_, rfl⟩
  obtain ⟨b2, hb2⟩ : ∃ y, risesB ws = y := ⟨_, rfl⟩
  obtain ⟨b3, hb3⟩ : ∃ y, risesB ts = y := ⟨_, rfl⟩
  obtain ⟨bR, hbR⟩ : ∃ y, rightS ⟨n, e, u, r, hh, ws, ts⟩ = y := ⟨_, rfl⟩
  rw [hbR] at F0 FL FN FT FR ⊢
  rw [hlw, hlt, hb2, hb3] at FL FR
  rw [hb1] at CR FR
  rw [hb2] at CS1
  rw [hb3] at CS2
  rw [hlw] at hv1 hc1 hm1
  rw [hlt] at hv2 hc2 hm2
  subst hv1 hv2
  have HLW := Lib.hid hlw
  have HLT := Lib.hid hlt
  clear hbR hb1 hb2 hb3 hlw hlt
  show Calls Tryz.prog 21 #[.agg #[.int .i64 n, .int .i64 e, .string u, .string r, .bool hh, .slice A1 lw k1, .slice A2 lt k2]] w (BoolIs bR w)
  obtain ⟨c0, c1, c2, c3, c4, c5, c6⟩ := id X0
  by_cases h4 : 4 < lw
  · have F := Lib.hid (FL.out (by omega))
    clear FL F0 FN FT FR CS1 CS2 CR
    go_enter Tryz.func21, Tryz.ntmps21
    go_wp2_with (go_at_call 75; refine (CI.out _).mono ?_; rintro E w' ⟨rfl, rfl⟩)
    go_ret
    exact ⟨ret_bool F.out.symm, hb0⟩
  by_cases h2 : 2 < lt
  · have F := Lib.hid (FL.out (by omega))
    clear FL F0 FN FT FR CS1 CS2 CR
    go_enter Tryz.func21, Tryz.ntmps21
    go_wp2_with (go_at_call 75; refine (CI.out _).mono ?_; rintro E w' ⟨rfl, rfl⟩)
    go_ret
    exact ⟨ret_bool F.out.symm, hb0⟩
  go_enter Tryz.func21, Tryz.ntmps21
  go_wp2_with (go_at_call 75; refine (CI.out _).mono ?_; rintro E w' ⟨rfl, rfl⟩)
  refine (CS1.out _ hb0).mono ?_
  rintro E w1 ⟨rfl, hb⟩
  have X1 := X0.below hb
  have HB1 := Lib.hid (step_below hb0 hb)
  clear c0 c1 c2 c3 c4 c5 c6 X0 CI CS1 hb hb0
  obtain ⟨m, hm⟩ : ∃ m, w.heap.size = m := ⟨_, rfl⟩
  rw [hm] at X1
  (try rw [hm])
  clear hm
  have c6 := X1.c6
  cases b2 with
  | false =>
    have F := Lib.hid (FL.out (by simp))
    go_wp2_with fail
    go_ret
    exact ⟨ret_bool F.out.symm, HB1.out⟩
  | true =>
  go_wp2_with fail
  refine (CS2.out _ HB1.out).mono ?_
  rintro E w2 ⟨rfl, hb⟩
  have HX2 := Lib.hid (X1.below hb)
  have HB2 := Lib.hid (step_below HB1.out hb)
  clear c6 X1 CS2 hb HB1
  cases b3 with
  | false =>
    have F := Lib.hid (FL.out (by simp))
    go_wp2_with fail
    go_ret
    exact ⟨ret_bool F.out.symm, HB2.out⟩
  | true =>
  have c0 := HX2.out.c0
  by_cases hn : n = 0
  · subst hn
    have F := Lib.hid (F0.out rfl)
    have q1 : nov ⟨0, e, u, r, hh, ws, ts⟩ = (decide (e = 0) && u.toList.isEmpty && r.toList.isEmpty) := by
      unfold nov
      rw [← name_eq, ← name_eq]
      rw [show (u.toList == (⟨#[]⟩ : ByteArray).toList) = u.toList.isEmpty by rw [Lib.toList_data ⟨#[]⟩]; cases u.toList <;> rfl, show (r.toList == (⟨#[]⟩ : ByteArray).toList) = r.toList.isEmpty by rw [Lib.toList_data ⟨#[]⟩]; cases r.toList <;> rfl]
    have e1 : ws.isEmpty = decide (lw = 0) := by rw [← HLW.out]; cases ws <;> simp
    have e2 : ts.isEmpty = decide (lt = 0) := by rw [← HLT.out]; cases ts <;> simp
    rw [q1, e1, e2] at F
    clear q1 e1 e2 F0 FN FT FR FL CR
    have c1 := HX2.out.c1
    have c2 := HX2.out.c2
    have c3 := HX2.out.c3
    have c4 := HX2.out.c4
    have c5 := HX2.out.c5
    have c6 := HX2.out.c6
    by_cases he : e = 0
    case neg =>
      go_wp2_with fail
      go_ret
      exact ⟨ret_bool (by rw [F.out, decide_eq_false he]; rfl), HB2.out⟩
    rw [decide_eq_true he] at F
    subst he
    obtain ⟨bu, hbu⟩ : ∃ y, u.toList.isEmpty = y := ⟨_, rfl⟩
    rw [hbu] at F
    cases bu with
    | false =>
      have hu : ¬ u.toList = [] := fun e => by rw [e] at hbu; cases hbu
      go_wp2_with fail
      go_ret
      exact ⟨ret_bool (by rw [F.out]; rfl), HB2.out⟩
    | true =>
    have hu : u.toList = [] := List.isEmpty_iff.1 hbu
    obtain ⟨br, hbr⟩ : ∃ y, r.toList.isEmpty = y := ⟨_, rfl⟩
    rw [hbr] at F
    cases br with
    | false =>
      have hr : ¬ r.toList = [] := fun e => by rw [e] at hbr; cases hbr
      go_wp2_with fail
      go_ret
      exact ⟨ret_bool (by rw [F.out]; rfl), HB2.out⟩
    | true =>
    have hr : r.toList = [] := List.isEmpty_iff.1 hbr
    cases hh with
    | true =>
      go_wp2_with fail
      go_ret
      exact ⟨ret_bool (by rw [F.out]; rfl), HB2.out⟩
    | false =>
      by_cases m0 : lw = 0
      · subst m0
        go_wp2_with fail
        go_ret
        exact ⟨ret_bool (by rw [F.out, Bool.eq_iff_iff]; simp), HB2.out⟩
      · go_wp2_with fail
        go_ret
        exact ⟨ret_bool (by rw [F.out]; simp [m0]), HB2.out⟩
  have c5 := HX2.out.c5
  have HN := Lib.hid hn
  have hnb : (n == 0) = false := beq_eq_false_iff_ne.2 hn
  clear FL F0 hn
  go_wp2_with fail
  clear c0 c5
  go_loopw [65] (fun i wr => ∃ k : Nat, k ≤ lw ∧ i = .int .i64 k ∧ Hid ((ws.take k).all (fun s => VP.nameP s.data.toList) = true) ∧ Below w2.heap.size w2 wr) (fun i _ => lw - (intOf i).toNat)
  case atStart => exact ⟨0, Nat.zero_le _, rfl, Lib.hid rfl, Below.refl _ _⟩
  case round =>
    obtain ⟨k, hk, rfl, hall, hB⟩ := hrel
    by_cases hlt : k < lw
    · have hne : ws ≠ [] := by
        intro e
        have := HLW.out
        rw [e] at this
        simp at this
        omega
      obtain ⟨x, ht⟩ : ∃ x, ws[k]? = some x := ⟨ws[k]'(by have := HLW.out; omega), List.getElem?_eq_getElem _⟩
      obtain ⟨b', off, rfl, hi⟩ := HR1.out hne
      have c0 := kept (step_below HB2.out hB) (hi k x ht)
      have HT := Lib.hid ht
      have CP := Lib.hid (fun W => packName_calls x W (by have := HF.out.wz x (List.mem_of_getElem? ht); omega))
      obtain ⟨pb, hpb⟩ : ∃ pb, VP.nameP x.data.toList = pb := ⟨_, rfl⟩
      have HP := Lib.hid hpb
      rw [hpb] at CP
      clear ht hi hne hpb
      cases pb with
      | false =>
        have F := Lib.hid (FN.out HN.out (all_stop HT.out HP.out))
        go_wp2_with (go_at_call 77; refine (CP.out _).mono ?_; rintro E w' ⟨rfl, rfl⟩)
        go_ret
        exact ⟨ret_bool F.out.symm, step_below HB2.out hB⟩
      | true =>
        go_wp2_with (go_at_call 77; refine (CP.out _).mono ?_; rintro E w' ⟨rfl, rfl⟩)
        go_roundw
        case rel => first | exact ⟨k + 1, by omega, by go_num, Lib.hid (all_take_succ hall.out HT.out HP.out), hB⟩ | ((repeat apply Exists.intro); exact ⟨⟨k + 1, by omega, by go_num, Lib.hid (all_take_succ hall.out HT.out HP.out), hB⟩, rfl⟩)
        case measure => simp [intOf]; omega
    · obtain rfl : k = lw := by omega
      have HK1 := Lib.hid (show namesB ws = true by have := hall.out; rw [← HLW.out] at this; exact all_done this)
      have HX3 := Lib.hid (HX2.out.below hB)
      have HB3 := Lib.hid (step_below HB2.out hB)
      have c6 := HX3.out.c6
      clear hall hB HX2 HB2 FN HR1 hlt hk
      go_wp2_with fail
      clear c6
      go_loopw [76] (fun i wx => ∃ j : Nat, j ≤ lt ∧ i = .int .i64 j ∧ Hid ((ts.take j).all (fun s => taskP s.data.toList) = true) ∧ Below wr.heap.size wr wx) (fun i _ => lt - (intOf i).toNat)
      case atStart => exact ⟨0, Nat.zero_le _, rfl, Lib.hid rfl, Below.refl _ _⟩
      case round =>
        obtain ⟨j, hj, rfl, hall, hB⟩ := hrel
        by_cases hlt : j < lt
        · have hne : ts ≠ [] := by
            intro e
            have := HLT.out
            rw [e] at this
            simp at this
            omega
          obtain ⟨x, ht⟩ : ∃ x, ts[j]? = some x := ⟨ts[j]'(by have := HLT.out; omega), List.getElem?_eq_getElem _⟩
          obtain ⟨b', off, rfl, hi⟩ := HR2.out hne
          have c0 := kept (step_below HB3.out hB) (hi j x ht)
          have HT := Lib.hid ht
          have hxs : x.size ≤ 10000 := HF.out.tz x (List.mem_of_getElem? ht)
          have HBW := Lib.hid (step_below HB3.out hB)
          clear ht hi hne
          go_wp2_with fail
          go_loop [82] (fun i => ∃ q : Nat, q ≤ x.size ∧ i = .int .i64 q ∧ Hid ((x.data.toList.take q).all taskC = true)) (fun i => x.size - (intOf i).toNat)
          case atStart => exact ⟨0, Nat.zero_le _, rfl, Lib.hid rfl⟩
          case round =>
            obtain ⟨q, hq, rfl, hok⟩ := hrel
            by_cases hqt : q < x.size
            · have hbt : x[q].toNat < 256 := x[q].toNat_lt
              have hts := Lib.hid (take_snoc x q hqt)
              have ho := taskC_at x[q]
              by_cases hk : taskC x[q] = true
              · have HK := Lib.hid (show (x.data.toList.take (q + 1)).all taskC = true by rw [hts.out, List.all_append, hok.out]; simp [hk])
                rw [ho] at hk
                simp only [Bool.and_eq_true, decide_eq_true_eq, Bool.not_eq_true', decide_eq_false_iff_not] at hk
                obtain ⟨⟨h1, h2'⟩, h3⟩ := hk
                have hb := beqI_ne 44 rfl h3
                have CI := Lib.hid (fun W => in_is (x[q].toNat : Int) 33 126 true (inB_yes (by omega) (by omega)) W)
                clear ho hts hok h3
                go_wp2_with (go_at_call 75; refine (CI.out _).mono ?_; rintro E w' ⟨rfl, rfl⟩)
                go_round
                case rel => first | exact ⟨q + 1, by omega, by go_num, HK⟩ | ((repeat apply Exists.intro); exact ⟨⟨q + 1, by omega, by go_num, HK⟩, rfl⟩)
                case measure => simp [intOf]; omega
              · have HP := Lib.hid (task_bad hqt (Bool.eq_false_iff.2 hk))
                have F := Lib.hid (FT.out HN.out (all_stop HT.out HP.out))
                have hc : (x[q].toNat < 33 ∨ 126 < x[q].toNat) ∨ (33 ≤ x[q].toNat ∧ x[q].toNat ≤ 126 ∧ x[q].toNat = 44) := by
                  rw [ho] at hk
                  simp only [Bool.and_eq_true, decide_eq_true_eq, Bool.not_eq_true', decide_eq_false_iff_not] at hk
                  omega
                clear ho hk hts hok HP
                rcases hc with h1 | ⟨h1, h2', h3⟩
                · have CI := Lib.hid (fun W => in_is (x[q].toNat : Int) 33 126 false (inB_no (by omega)) W)
                  go_wp2_with (go_at_call 75; refine (CI.out _).mono ?_; rintro E w' ⟨rfl, rfl⟩)
                  go_ret
                  exact ⟨ret_bool F.out.symm, HBW.out⟩
                · have hb := beqI 44 rfl h3
                  have CI := Lib.hid (fun W => in_is (x[q].toNat : Int) 33 126 true (inB_yes (by omega) (by omega)) W)
                  clear h3
                  go_wp2_with (go_at_call 75; refine (CI.out _).mono ?_; rintro E w' ⟨rfl, rfl⟩)
                  go_ret
                  exact ⟨ret_bool F.out.symm, HBW.out⟩
            · have ha : x.data.toList.all taskC = true := by
                have hl := size_eq_length x
                have := hok.out
                rwa [List.take_of_length_le (by omega)] at this
              have FX := Lib.hid (task_rest ha)
              clear ha hok
              obtain rfl : q = x.size := by omega
              clear hqt hq
              by_cases hz : 1 ≤ x.size ∧ x.size ≤ 60
              case neg =>
                have HP := Lib.hid (show taskP x.data.toList = false by
                  rw [FX.out]
                  by_cases h60 : x.size ≤ 60
                  · rw [List.eq_nil_of_length_eq_zero (by rw [← size_eq_length]; omega : x.data.toList.length = 0)]; rfl
                  · rw [decide_eq_false h60, Bool.and_false])
                have F := Lib.hid (FT.out HN.out (all_stop HT.out HP.out))
                have CI := Lib.hid (fun W => in_is (x.size : Int) 1 60 false (inB_no (by omega)) W)
                clear FX HP hz
                go_wp2_with (go_at_call 75; refine (CI.out _).mono ?_; rintro E w' ⟨rfl, rfl⟩)
                go_ret
                exact ⟨ret_bool F.out.symm, HBW.out⟩
              have CI := Lib.hid (fun W => in_is (x.size : Int) 1 60 true (inB_yes (by omega) (by omega)) W)
              by_cases hd : x.toList = [45]
              · have HP := Lib.hid (show taskP x.data.toList = false by rw [FX.out, ← Lib.toList_data, hd]; simp)
                have F := Lib.hid (FT.out HN.out (all_stop HT.out HP.out))
                have hdb : (x.toList == [45]) = true := beq_iff_eq.2 hd
                clear FX HP hz hd
                go_wp2_with (go_at_call 75; refine (CI.out _).mono ?_; rintro E w' ⟨rfl, rfl⟩)
                go_ret
                exact ⟨ret_bool F.out.symm, HBW.out⟩
              · have HP := Lib.hid (show taskP x.data.toList = true by
                  have h1 : ¬ x.data.toList = [] := fun e => by
                    have := size_eq_length x
                    rw [e, List.length_nil] at this
                    omega
                  have h2' : ¬ x.data.toList = [45] := by rwa [← Lib.toList_data]
                  rw [FX.out, decide_eq_true hz.2, beq_eq_false_iff_ne.2 h1, beq_eq_false_iff_ne.2 h2']
                  rfl)
                have hdb : (x.toList == [45]) = false := beq_eq_false_iff_ne.2 hd
                clear FX hz hd
                go_wp2_with (go_at_call 75; refine (CI.out _).mono ?_; rintro E w' ⟨rfl, rfl⟩)
                go_roundw
                case rel => first | exact ⟨j + 1, by omega, by go_num, Lib.hid (all_take_succ hall.out HT.out HP.out), hB⟩ | ((repeat apply Exists.intro); exact ⟨⟨j + 1, by omega, by go_num, Lib.hid (all_take_succ hall.out HT.out HP.out), hB⟩, rfl⟩)
                case measure => simp [intOf]; omega
        · obtain rfl : j = lt := by omega
          have HK2 := Lib.hid (show tasksB ts = true by have := hall.out; rw [← HLT.out] at this; exact all_done this)
          have HX4 := Lib.hid (HX3.out.below hB)
          have HB4 := Lib.hid (step_below HB3.out hB)
          have F := Lib.hid (FR.out HN.out (by omega) (by omega) (by first | rfl | trivial) (by first | rfl | trivial) HK1.out HK2.out)
          have c0 := HX4.out.c0
          have c1 := HX4.out.c1
          have c2 := HX4.out.c2
          have c3 := HX4.out.c3
          clear hall hB HX3 HB3 FT FR HR2 hlt hj HK1 HK2 HF HLW HLT HN
          rcases (show n = 5 ∨ n = 6 ∨ (¬ n = 5 ∧ ¬ n = 6) by omega) with rfl | rfl | ⟨n5, n6⟩
          all_goals
            go_wp2_with fail
            go_quiet (fail)
            go_wp2_with fail
            refine (CR.out _ (step_below HB4.out (by first | exact Below.refl _ _ | exact below_drew _ | exact below_drewN _ _ _))).mono ?_
            rintro E w5 ⟨rfl, hb⟩
            have HB5 := Lib.hid (step_below HB4.out (by first | exact hb | exact step_below (below_drew _) hb | exact step_below (below_drewN _ _ _) hb))
            have HX5 := Lib.hid (HX4.out.below (by first | exact hb | exact step_below (below_drew _) hb | exact step_below (below_drewN _ _ _) hb))
            have c5 := HX5.out.c5
            have c6 := HX5.out.c6
            clear hb c0 c1 c2 c3 CR HX4 HB4
            cases b1 with
            | false =>
              go_wp2_with fail
              go_ret
              exact ⟨ret_bool (by rw [F.out]; rfl), HB5.out⟩
            | true =>
              by_cases m0 : k = 0
              all_goals by_cases l0 : j = 0
              all_goals
                (try have hk1 : decide ((0 : Int) < (k : Int)) = true := decide_eq_true (by omega))
                (try have hk2 : decide (0 < k) = true := decide_eq_true (by omega))
                (try have hn5 : (n == 5) = false := beq_eq_false_iff_ne.2 n5)
                (try have hj1 : decide ((0 : Int) < (j : Int)) = true := decide_eq_true (by omega))
                (try subst m0)
                (try subst l0)
                go_wp2_with fail
                go_ret
                exact ⟨ret_bool (by rw [F.out]; simp (config := { failIfUnchanged := false, decide := true }) [*]), HB5.out⟩

theorem refStands_calls (z : St) (v1 v2 : Value) (w : World) (hE : Env w) (hA : StAt w v1 v2 z) (hf : StFit z) (he0 : -9223372036854775808 ≤ z.e) (he1 : z.e ≤ 9223372036854775807) : Calls Tryz.prog 21 #[stV z v1 v2] w (BoolIs (rightS z) w) := by
  by_cases h : 0 ≤ z.n ∧ z.n ≤ 7
  · exact refStands_main z v1 v2 w h.1 h.2 hE hA hf he0 he1
  · exact refStands_out z v1 v2 w h
end Go.Proofs.YtpbbhjifgaeklaaGreatDoor

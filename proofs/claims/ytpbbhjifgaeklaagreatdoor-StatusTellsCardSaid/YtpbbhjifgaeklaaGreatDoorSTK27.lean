/- status.Parse of five words. -/
import Derived.Test.YtpbbhjifgaeklaaGreatDoorSTK26
namespace Go.Proofs.YtpbbhjifgaeklaaGreatDoor
open Go Go.RowKit

theorem held_eq (c : ByteArray) : decide (c = heldB) = (c.toList == [104, 101, 108, 100]) := by
  rw [Bool.eq_iff_iff, decide_eq_true_iff, beq_iff_eq, Lib.toList_data]
  constructor
  · rintro rfl; rfl
  · intro h; rw [← Lib.mk_data c, h]; rfl
theorem way_none {s a b c d e : ByteArray} {n : Int} {hh : Bool} (HP : parseS atoiO verOf s = readS atoiO verOf s a b c d e) (hn : atoiO a = some n) (hb : b.toList = [45]) (hd : decide (c = heldB) = hh) :
    parseS atoiO verOf s = if okS ⟨n, 0, ⟨#[]⟩, ⟨#[]⟩, hh, listOf d, listOf e⟩ s then some ⟨n, 0, ⟨#[]⟩, ⟨#[]⟩, hh, listOf d, listOf e⟩ else none := by
  have hb' : b = dashB := by rw [← Lib.mk_data b, ← Lib.toList_data, hb]; rfl
  rw [HP]
  unfold readS
  rw [hn, show verOf b = some (0, [], []) by unfold verOf; rw [if_pos hb']]
  subst hd
  rfl
theorem way_some {s a b c d e u r : ByteArray} {n x : Int} {hh : Bool} (HP : parseS atoiO verOf s = readS atoiO verOf s a b c d e) (hn : atoiO a = some n) (hb : ¬ b.toList = [45]) (hv : VP.parseP b.data.toList = some (x, u.data.toList, r.data.toList)) (hd : decide (c = heldB) = hh) :
    parseS atoiO verOf s = if okS ⟨n, x, u, r, hh, listOf d, listOf e⟩ s then some ⟨n, x, u, r, hh, listOf d, listOf e⟩ else none := by
  have hb' : ¬ b = dashB := fun h => hb (by rw [h, Lib.toList_data]; rfl)
  rw [HP]
  unfold readS
  rw [hn, show verOf b = some (x, u.data.toList, r.data.toList) by unfold verOf; rw [if_neg hb', hv]]
  subst hd
  show (if okS ⟨n, x, ⟨u.data.toList.toArray⟩, ⟨r.data.toList.toArray⟩, decide (c = heldB), listOf d, listOf e⟩ s = true then some (⟨n, x, ⟨u.data.toList.toArray⟩, ⟨r.data.toList.toArray⟩, decide (c = heldB), listOf d, listOf e⟩ : St) else none) = _
  rw [Lib.mk_data, Lib.mk_data]
theorem way_ver {s a b c d e : ByteArray} (HP : parseS atoiO verOf s = readS atoiO verOf s a b c d e) (hb : ¬ b.toList = [45]) (hv : VP.parseP b.data.toList = none) : parseS atoiO verOf s = none := by
  have hb' : ¬ b = dashB := fun h => hb (by rw [h, Lib.toList_data]; rfl)
  rw [HP]
  unfold readS
  rw [show verOf b = none by unfold verOf; rw [if_neg hb', hv]]
  cases atoiO a <;> rfl
theorem way_num {s a b c d e : ByteArray} (HP : parseS atoiO verOf s = readS atoiO verOf s a b c d e) (hn : atoiO a = none) : parseS atoiO verOf s = none := by
  rw [HP]
  unfold readS
  rw [hn]
theorem listOf_small {s : ByteArray} (hs : s.size ≤ 9000) : (listOf s).length ≤ 10000 ∧ ∀ x ∈ listOf s, x.size ≤ 10000 := by
  unfold listOf
  split
  · exact ⟨by simp, fun x hx => by cases hx⟩
  · refine ⟨?_, fun x hx => Nat.le_trans (piece_size hx) (by omega)⟩
    have hpc := VP.pieces_count 44 s.data.toList
    have h1 := size_eq_length s
    unfold piecesB
    rw [List.length_map]
    omega
theorem fit5 {n x : Int} {u r d e : ByteArray} {hh : Bool} (hu : u.size ≤ 10000) (hr : r.size ≤ 10000) (hd : d.size ≤ 9000) (he : e.size ≤ 9000) : StFit ⟨n, x, u, r, hh, listOf d, listOf e⟩ := by
  have h1 := listOf_small (s := d) hd
  have h2 := listOf_small (s := e) he
  exact ⟨hu, hr, h1.1, h2.1, h1.2, h2.2⟩

theorem strs_slice {w : World} {v : Value} {ss : List ByteArray} (h : StrsAt w v ss) : ∃ A n c, v = .slice A n c := by
  obtain ⟨A, c, hv, _⟩ := h
  exact ⟨A, _, c, hv⟩
theorem strsOff_set7 {m q b : Nat} {W : World} {v : Value} {ss : List ByteArray} (h : StrsOff m q W v ss) (hb : b = m ∨ b = q) (v0 v1 v2 v3 v4 v5 v6 : Value) :
    StrsOff m q (((((((W.setCell ⟨b, 0, none⟩ v0).setCell ⟨b, 1, none⟩ v1).setCell ⟨b, 2, none⟩ v2).setCell ⟨b, 3, none⟩ v3).setCell ⟨b, 4, none⟩ v4).setCell ⟨b, 5, none⟩ v5).setCell ⟨b, 6, none⟩ v6) v ss :=
  ((((((h.set hb).set hb).set hb).set hb).set hb).set hb).set hb
theorem pst_ver {w W : World} {m q : Nat} {n e0 : Int} {u0 r0 : ByteArray} {hh : Bool} {ws ts : List ByteArray} {v1 v2 : Value} (h : PSt w m q ⟨n, e0, u0, r0, hh, ws, ts⟩ v1 v2 W) (x : Int) (u r : ByteArray) :
    PSt w m q ⟨n, x, u, r, hh, ws, ts⟩ v1 v2 (((W.setCell ⟨q, 1, none⟩ (.int .i64 x)).setCell ⟨q, 2, none⟩ (.string u)).setCell ⟨q, 3, none⟩ (.string r)) := by
  have hne : q ≠ m := by have := h.lt; omega
  have hq : w.heap.size ≤ q := by have := h.lt; have := h.low; omega
  have h0 : Blk 26 W q #[.int .i64 n, .int .i64 e0, .string u0, .string r0, .bool hh, v1, v2] := h.x
  have h1 := h0.set 1 (.int .i64 x)
  simp only [List.setIfInBounds_toArray, List.set_cons_zero, List.set_cons_succ] at h1
  have h2 := h1.set 2 (.string u)
  simp only [List.setIfInBounds_toArray, List.set_cons_zero, List.set_cons_succ] at h2
  have h3 := h2.set 3 (.string r)
  simp only [List.setIfInBounds_toArray, List.set_cons_zero, List.set_cons_succ] at h3
  exact ⟨((h.r.other hne _ _).other hne _ _).other hne _ _, h3, ((h.a.set (.inr rfl)).set (.inr rfl)).set (.inr rfl), ((h.b.set (.inr rfl)).set (.inr rfl)).set (.inr rfl), h.lt, h.low, ((h.w.setCell (p := ⟨q, 1, none⟩) hq _).setCell (p := ⟨q, 2, none⟩) hq _).setCell (p := ⟨q, 3, none⟩) hq _⟩
theorem okS_no {z : St} {s : ByteArray} (h : rightS z = false) : okS z s = false := by unfold okS; rw [h]; rfl
theorem okS_yes {z : St} (h : rightS z = true) (s : ByteArray) : okS z s = ((printB z).toList == s.toList) := by
  unfold okS
  rw [h, Bool.true_and, Bool.eq_iff_iff, decide_eq_true_iff, beq_iff_eq, Lib.toList_data, Lib.toList_data]
  rfl
theorem printV_no {z : St} (h : rightS z = false) : printV z = .tuple #[.string ⟨#[]⟩, .iface 43 (.int .i64 1)] := by unfold printV; rw [h]; rfl
theorem printV_yes {z : St} (h : rightS z = true) : printV z = .tuple #[.string (printB z), .nilIface] := by unfold printV; rw [h]; rfl
theorem ver_small {l : List UInt8} {x : Int} {u r : ByteArray} (h : VP.parseP l = some (x, u.data.toList, r.data.toList)) : u.size ≤ 40 ∧ r.size ≤ 40 := by
  have H := (VP.parseP_right h).len
  unfold VP.printP at H
  rw [size_eq_length, size_eq_length]
  simp only [List.length_append] at H
  split at H <;> split at H <;> simp_all <;> omega

set_option maxHeartbeats 4000000 in
set_option maxRecDepth 100000 in
theorem statParse_five (s a b c d e : ByteArray) (w : World) (hE : Env w) (hA : EnvA w) (hs : s.size ≤ 9000) (h5 : piecesB 32 s = [a, b, c, d, e]) : Calls Tryz.prog 13 #[.string s] w (ParseStIs (parseS atoiO verOf s) w) := by
  have hz : ∀ x ∈ [a, b, c, d, e], x.size ≤ 9000 := fun x hx => Nat.le_trans (piece_size (h5 ▸ hx)) hs
  have hb0 := below_alloc w (.cells zero7 26)
  have R0 := blk_new 26 w zero7
  have C := Lib.hid (call_split s 32 _ (hE.below hb0) (by omega))
  have HP := Lib.hid (parse_five atoiO verOf h5)
  have H5 := Lib.hid h5
  have CA := Lib.hid (fun (W : World) (hb : Below w.heap.size w W) => atoi_calls a W (hA.below hb) (by have := hz a (by simp); omega))
  have CV := Lib.hid (fun (W : World) (hb : Below w.heap.size w W) => parse_calls b W (hE.below hb))
  have CD := Lib.hid (fun (W : World) (hb : Below w.heap.size w W) => statList_calls d W (hE.below hb) (by have := hz d (by simp); omega))
  have CE := Lib.hid (fun (W : World) (hb : Below w.heap.size w W) => statList_calls e W (hE.below hb) (by have := hz e (by simp); omega))
  have HZ := Lib.hid hz
  have HEE := Lib.hid hE
  clear hE hA hs h5 hz
  go_enter Tryz.func13, Tryz.ntmps13
  go_wp2_with fail
  refine C.out.mono ?_
  rintro E w1 ⟨np, rfl, hnp, hb, hcell⟩
  obtain rfl : np = 5 := by rw [hnp, H5.out]; rfl
  rw [H5.out] at hcell
  have P1 : Pre5 w w.heap.size (w.alloc (.cells zero7 26)).heap.size a b c d e w1 := ⟨hcell 0 a rfl, hcell 1 b rfl, hcell 2 c rfl, hcell 3 d rfl, hcell 4 e rfl, R0.keep hb, step_below hb0 hb⟩
  have hgm : (w.alloc (.cells zero7 26)).heap.size = w.heap.size + 1 := World.size_alloc _ _
  clear C hcell hb hnp R0 hb0 H5
  rw [hgm] at P1
  obtain ⟨m, hm⟩ : ∃ m, w.heap.size = m := ⟨_, rfl⟩
  have HM := Lib.hid hm
  rw [hm] at P1
  (try rw [hgm])
  (try rw [hm])
  clear hm hgm
  have k0 := P1.1
  go_wp2_with fail
  refine (CA.out w1 P1.2.2.2.2.2.2).mono ?_
  rintro E w2 ⟨hb, H⟩
  have P2 := P1.go hb
  clear hb k0 P1 CA
  -- the number, or none
  obtain ⟨n, ev, hE2, HN⟩ : ∃ (n : Int) (ev : Value), E = .returned (.tuple #[.int .i64 n, ev]) ∧ Hid ((ev = .nilIface ∧ atoiO a = some n) ∨ (∃ t p, ev = .iface t p) ∧ atoiO a = none) := by
    unfold atoiO
    rcases H with ⟨v, he, hv⟩ | ⟨v, t, p, he, hv⟩
    · exact ⟨v, _, he, Lib.hid (.inl ⟨rfl, by rw [hv]⟩)⟩
    · refine ⟨v, _, he, Lib.hid (.inr ⟨⟨t, p, rfl⟩, ?_⟩)⟩
      split
      · rename_i u hu
        exact absurd hu (hv u)
      · rfl
  subst hE2
  clear H
  have k2 := P2.2.2.1
  have k3 := P2.2.2.2.1
  have k4 := P2.2.2.2.2.1
  obtain ⟨hh, hhh⟩ : ∃ y, (c.toList == [104, 101, 108, 100]) = y := ⟨_, rfl⟩
  go_upto_region 6 with fail
  have HP2 := Lib.hid P2
  go_cut [8] (fun s8 wx => ∃ q v1 v2, s8 = .pointer (some ⟨q, 0, none⟩) ∧ PSt w m q ⟨n, 0, ⟨#[]⟩, ⟨#[]⟩, hh, listOf d, listOf e⟩ v1 v2 wx ∧ Below w2.heap.size w2 wx)
  case first =>
    have Q0 := Lib.hid (P2.go (below_drew w2))
    have Qa := Lib.hid (fun o => (P2.go (below_alloc w2 o)).go (below_drew (w2.alloc o)))
    have q0 := Q0.out.s
    have hq2 : m + 1 ≠ w2.heap.size := by have h : m + 1 < w2.heap.size := cell_lt HP2.out.1; omega
    go_region_held3 (fun W => W.cell? ⟨m + 1, 2, none⟩ = some (.string c) ∧ W.cell? ⟨m + 1, 3, none⟩ = some (.string d) ∧ W.cell? ⟨m + 1, 4, none⟩ = some (.string e))
      ((first | (with_reducible assumption) | (with_reducible exact Q0.out.s) | (with_reducible exact (Qa.out _).s) | (with_reducible exact Q6.out.s) | (with_reducible exact Q5.out.s) | (with_reducible exact (Q5a.out _).s) | (with_reducible exact (Q6a.out _).s) | (with_reducible exact s_set7 Q6.out.s hq2 _ _ _ _ _ _ _) | (with_reducible exact s_set7 Q6.out.s hq5 _ _ _ _ _ _ _) | (with_reducible exact s_set7 (Q6a.out _).s hq6 _ _ _ _ _ _ _)))
      (first | (go_at_call 62; first | ((with_reducible refine (CD.out _ (by first | exact Q0.out.w | exact (Qa.out _).w)).mono ?_); rintro E w5 ⟨A5, n5, c5, rfl, h5, hb5⟩; have Q5 := Lib.hid (show Pre5 w m (m + 1) a b c d e w5 from by first | exact Q0.out.go hb5 | exact (Qa.out _).go hb5); have Q5a := Lib.hid (fun o => Q5.out.go (below_alloc w5 o)); have H5 := Lib.hid h5; have HB5 := Lib.hid hb5; have hq5 : m + 1 ≠ w5.heap.size := (by have h : m + 1 < w5.heap.size := cell_lt Q5.out.1; omega); clear h5 hb5; (try (have kb5 : Blk 26 w5 w2.heap.size zero7 := ((blk_new 26 w2 zero7).keep (below_drew _)).keep HB5.out))) | ((with_reducible refine (CE.out _ (by first | exact Q5.out.w | exact (Q5a.out _).w)).mono ?_); rintro E w6 ⟨A6, n6, c6, rfl, h6, hb6⟩; have Q6 := Lib.hid (show Pre5 w m (m + 1) a b c d e w6 from by first | exact Q5.out.go hb6 | exact (Q5a.out _).go hb6); have Q6a := Lib.hid (fun o => Q6.out.go (below_alloc w6 o)); have H6 := Lib.hid h6; have HB6 := Lib.hid hb6; have hq6 : m + 1 ≠ w6.heap.size := (by have h : m + 1 < w6.heap.size := cell_lt Q6.out.1; omega); clear h6 hb6; (try (have kb6 : Blk 26 w6 w2.heap.size zero7 := kb5.keep HB6.out; obtain ⟨fz, y0, y1, y2, y3, y4, y5, y6⟩ := blk7 kb6)); (try (have kb6 : Blk 26 w6 w5.heap.size zero7 := (blk_new 26 w5 zero7).keep HB6.out; obtain ⟨fz, y0, y1, y2, y3, y4, y5, y6⟩ := blk7 kb6)))))
    all_goals
      go_wp2_with fail
      go_meet
      have hm2 : m < w2.heap.size := HP2.out.r.lt
      have hb25 : Below w2.heap.size w2 w5 := by first | exact step_below (below_drew w2) HB5.out | exact step_below (step_below (below_alloc w2 _) (below_drew _)) HB5.out
      first
        | (with_reducible refine ⟨w6.heap.size, .slice A5 n5 c5, .slice A6 n6 c6, rfl, ?_, ?_⟩); exact ⟨Q6.out.r.keep (below_alloc _ _), blk_new _ w6 _, (strsOff_of (H5.out.below HB6.out) hm2 (.inr (Nat.le_refl _))).below (below_alloc _ _), (strsOff_of H6.out (Nat.lt_of_lt_of_le hm2 hb25.size) (.inr (Nat.le_refl _))).below (below_alloc _ _), Nat.lt_of_lt_of_le hm2 (Nat.le_trans hb25.size HB6.out.size), Nat.le_of_eq HM.out, step_below Q6.out.w (below_alloc _ _)⟩; exact step_below (step_below hb25 HB6.out) (below_alloc _ _)
        | (with_reducible refine ⟨w5.heap.size, .slice A5 n5 c5, .slice A6 n6 c6, rfl, ?_, ?_⟩); exact pst_made ⟨n, 0, ⟨#[]⟩, ⟨#[]⟩, hh, listOf d, listOf e⟩ Q6.out.r kb6 (((strsOff_of H5.out hm2 (.inr (Nat.le_refl _))).below (below_alloc w5 _)).below HB6.out) (strsOff_of H6.out (by have := hb25.size; simp; omega) (.inl (by simp))) (Nat.lt_of_lt_of_le hm2 hb25.size) (Nat.le_of_eq HM.out) Q6.out.w; exact below_set7 (step_below (step_below hb25 (below_alloc w5 _)) HB6.out) hb25.size _ _ _ _ _ _ _
        | (with_reducible refine ⟨w2.heap.size, .slice A5 n5 c5, .slice A6 n6 c6, rfl, ?_, ?_⟩); exact pst_made ⟨n, 0, ⟨#[]⟩, ⟨#[]⟩, hh, listOf d, listOf e⟩ Q6.out.r kb6 ((strsOff_of H5.out (by simp; omega) (.inl (by simp))).below HB6.out) (strsOff_of H6.out (Nat.lt_of_lt_of_le hm2 hb25.size) (.inl (by have h := HB5.out.size; simp at h; omega))) hm2 (Nat.le_of_eq HM.out) Q6.out.w; exact below_set7 (step_below hb25 HB6.out) (Nat.le_refl _) _ _ _ _ _ _ _
  case rest =>
  obtain ⟨q, v1, v2, rfl, hP, hzz⟩ := hcut
  obtain ⟨A1, i1, j1, rfl⟩ := strs_slice hP.a.1
  obtain ⟨A2, i2, j2, rfl⟩ := strs_slice hP.b.1
  have k1 := (HP2.out.go hzz).2.1
  have HPS := Lib.hid hP
  have HDec := Lib.hid (held_eq c)
  rw [hhh] at HDec
  clear hP hzz k2 k3 k4 CD CE hhh HP2 P2
  -- the four ways
  rcases HN.out with ⟨rfl, hn⟩ | ⟨⟨t, p, rfl⟩, hn⟩
  · by_cases hb : b.toList = [45]
    · have HO := Lib.hid (way_none HP.out hn hb HDec.out)
      have HFit := Lib.hid (fit5 (n := n) (x := 0) (u := ⟨#[]⟩) (r := ⟨#[]⟩) (hh := hh) (d := d) (e := e) (by decide) (by decide) (HZ.out d (by simp)) (HZ.out e (by simp)))
      have hbb : (b.toList == [45]) = true := beq_iff_eq.2 hb
      clear hn hb HN HP
      have CP := Lib.hid (statPrint_calls ⟨n, 0, ⟨#[]⟩, ⟨#[]⟩, hh, listOf d, listOf e⟩ (.slice A1 i1 j1) (.slice A2 i2 j2) wc (HEE.out.below HPS.out.w) ⟨HPS.out.a.1, HPS.out.b.1⟩ HFit.out)
      unfold PrintStIs stV at CP
      obtain ⟨fx, x0, x1, x2, x3, x4, x5, x6⟩ := blk7 (show Blk 26 wc q #[.int .i64 n, .int .i64 0, .string ⟨#[]⟩, .string ⟨#[]⟩, .bool hh, .slice A1 i1 j1, .slice A2 i2 j2] from HPS.out.x)
      cases hr : rightS ⟨n, 0, ⟨#[]⟩, ⟨#[]⟩, hh, listOf d, listOf e⟩ with
      | false =>
        have HNo := Lib.hid (HO.out.trans (if_neg (by rw [okS_no hr]; decide)))
        rw [printV_no hr] at CP
        go_wp2_with fail
        refine CP.out.mono ?_
        rintro E w7 ⟨rfl, hb7⟩
        have HP7 := Lib.hid (HPS.out.go hb7)
        clear fx x0 x1 x2 x3 x4 x5 x6 CP hb7 HPS
        obtain ⟨fz, z0, z1, z2, z3, z4, z5, z6⟩ := blk7 (show Blk 26 w7 m #[.int .i64 0, .int .i64 0, .string ⟨#[]⟩, .string ⟨#[]⟩, .bool false, .slice none 0 0, .slice none 0 0] from HP7.out.r)
        go_wp2_with fail
        refine bodyPost_ret (v := .tuple #[.agg zero7, .iface 43 (.int .i64 3)]) (by simp [results, zero7, Tryz.results13, go_sem, z0, z1, z2, z3, z4, z5, z6]) rfl ?_
        exact parseSt_err HNo.out (below_set7 HP7.out.w HP7.out.low _ _ _ _ _ _ _)
      | true =>
        rw [printV_yes hr] at CP
        have HOk := Lib.hid (okS_yes hr s)
        obtain ⟨sP, hsP⟩ : ∃ y, printB ⟨n, 0, ⟨#[]⟩, ⟨#[]⟩, hh, listOf d, listOf e⟩ = y := ⟨_, rfl⟩
        rw [hsP] at CP HOk
        clear hsP
        by_cases he : sP.toList = s.toList
        · have hq1 : (sP.toList == s.toList) = true := beq_iff_eq.2 he
          have hq2 : (sP.toList != s.toList) = false := by rw [bne, hq1]; rfl
          have HYes := Lib.hid (HO.out.trans (if_pos (HOk.out.trans hq1)))
          clear he HO HOk
          go_wp2_with fail
          refine CP.out.mono ?_
          rintro E w7 ⟨rfl, hb7⟩
          have HP7 := Lib.hid (HPS.out.go hb7)
          clear fx x0 x1 x2 x3 x4 x5 x6 CP hb7 HPS
          obtain ⟨fz, z0, z1, z2, z3, z4, z5, z6⟩ := blk7 (show Blk 26 w7 m #[.int .i64 0, .int .i64 0, .string ⟨#[]⟩, .string ⟨#[]⟩, .bool false, .slice none 0 0, .slice none 0 0] from HP7.out.r)
          obtain ⟨fx, x0, x1, x2, x3, x4, x5, x6⟩ := blk7 (show Blk 26 w7 q #[.int .i64 n, .int .i64 0, .string ⟨#[]⟩, .string ⟨#[]⟩, .bool hh, .slice A1 i1 j1, .slice A2 i2 j2] from HP7.out.x)
          go_wp2_with fail
          refine bodyPost_ret (v := .tuple #[.agg (cells7 ⟨n, 0, ⟨#[]⟩, ⟨#[]⟩, hh, listOf d, listOf e⟩ (.slice A1 i1 j1) (.slice A2 i2 j2)), .nilIface]) (by simp [results, cells7, Tryz.results13, go_sem, z0, z1, z2, z3, z4, z5, z6]) rfl ?_
          exact parseSt_ok HYes.out ⟨(strsOff_set7 HP7.out.a (.inl rfl) _ _ _ _ _ _ _).1, (strsOff_set7 HP7.out.b (.inl rfl) _ _ _ _ _ _ _).1⟩ (below_set7 HP7.out.w HP7.out.low _ _ _ _ _ _ _)
        · have hq1 : (sP.toList == s.toList) = false := beq_eq_false_iff_ne.2 he
          have hq2 : (sP.toList != s.toList) = true := by rw [bne, hq1]; rfl
          have HNo := Lib.hid (HO.out.trans (if_neg (by rw [HOk.out.trans hq1]; decide)))
          clear he HO HOk
          go_wp2_with fail
          refine CP.out.mono ?_
          rintro E w7 ⟨rfl, hb7⟩
          have HP7 := Lib.hid (HPS.out.go hb7)
          clear fx x0 x1 x2 x3 x4 x5 x6 CP hb7 HPS
          obtain ⟨fz, z0, z1, z2, z3, z4, z5, z6⟩ := blk7 (show Blk 26 w7 m #[.int .i64 0, .int .i64 0, .string ⟨#[]⟩, .string ⟨#[]⟩, .bool false, .slice none 0 0, .slice none 0 0] from HP7.out.r)
          go_wp2_with fail
          refine bodyPost_ret (v := .tuple #[.agg zero7, .iface 43 (.int .i64 3)]) (by simp [results, zero7, Tryz.results13, go_sem, z0, z1, z2, z3, z4, z5, z6]) rfl ?_
          exact parseSt_err HNo.out (below_set7 HP7.out.w HP7.out.low _ _ _ _ _ _ _)
    · have hbb : (b.toList == [45]) = false := beq_eq_false_iff_ne.2 hb
      go_wp2_with fail
      refine (CV.out wc HPS.out.w).mono ?_
      rintro E w5 ⟨hb5, H⟩
      have HP5 := Lib.hid (HPS.out.go hb5)
      clear CV hb5 HPS k1
      obtain ⟨fx, x0, x1, x2, x3, x4, x5, x6⟩ := blk7 (show Blk 26 w5 q #[.int .i64 n, .int .i64 0, .string ⟨#[]⟩, .string ⟨#[]⟩, .bool hh, .slice A1 i1 j1, .slice A2 i2 j2] from HP5.out.x)
      rcases H with ⟨hv, rfl⟩ | ⟨x, u, r, hv, rfl⟩
      · have HNo := Lib.hid (way_ver HP.out hb hv)
        have HFit := Lib.hid (fit5 (n := n) (x := 0) (u := ⟨#[]⟩) (r := ⟨#[]⟩) (hh := hh) (d := d) (e := e) (by decide) (by decide) (HZ.out d (by simp)) (HZ.out e (by simp)))
        have HPS := Lib.hid (pst_ver HP5.out 0 ⟨#[]⟩ ⟨#[]⟩)
        rw [show noVersion = .tuple #[.agg #[.int .i64 0, .string ⟨#[]⟩, .string ⟨#[]⟩], .iface 43 (.int .i64 3)] from rfl]
        clear hn hb HN HP hv HP5
        go_upto_region 9 with fail
        clear fx x0 x1 x2 x3 x4 x5 x6
        obtain ⟨W6, hW6⟩ : ∃ W, ((w5.setCell ⟨q, 1, none⟩ (.int .i64 0)).setCell ⟨q, 2, none⟩ (.string ⟨#[]⟩)).setCell ⟨q, 3, none⟩ (.string ⟨#[]⟩) = W := ⟨_, rfl⟩
        rw [hW6] at HPS ⊢
        clear hW6
        have CP := Lib.hid (statPrint_calls ⟨n, 0, ⟨#[]⟩, ⟨#[]⟩, hh, listOf d, listOf e⟩ (.slice A1 i1 j1) (.slice A2 i2 j2) W6 (HEE.out.below HPS.out.w) ⟨HPS.out.a.1, HPS.out.b.1⟩ HFit.out)
        unfold PrintStIs stV at CP
        obtain ⟨fx, x0, x1, x2, x3, x4, x5, x6⟩ := blk7 (show Blk 26 W6 q #[.int .i64 n, .int .i64 0, .string ⟨#[]⟩, .string ⟨#[]⟩, .bool hh, .slice A1 i1 j1, .slice A2 i2 j2] from HPS.out.x)
        cases hr : rightS ⟨n, 0, ⟨#[]⟩, ⟨#[]⟩, hh, listOf d, listOf e⟩ with
        | false =>
          rw [printV_no hr] at CP
          go_wp2_with fail
          refine CP.out.mono ?_
          rintro E w7 ⟨rfl, hb7⟩
          have HP7 := Lib.hid (HPS.out.go hb7)
          clear fx x0 x1 x2 x3 x4 x5 x6 CP hb7 HPS
          obtain ⟨fz, z0, z1, z2, z3, z4, z5, z6⟩ := blk7 (show Blk 26 w7 m #[.int .i64 0, .int .i64 0, .string ⟨#[]⟩, .string ⟨#[]⟩, .bool false, .slice none 0 0, .slice none 0 0] from HP7.out.r)
          go_wp2_with fail
          refine bodyPost_ret (v := .tuple #[.agg zero7, .iface 43 (.int .i64 3)]) (by simp [results, zero7, Tryz.results13, go_sem, z0, z1, z2, z3, z4, z5, z6]) rfl ?_
          exact parseSt_err HNo.out (below_set7 HP7.out.w HP7.out.low _ _ _ _ _ _ _)
        | true =>
          rw [printV_yes hr] at CP
          go_wp2_with fail
          refine CP.out.mono ?_
          rintro E w7 ⟨rfl, hb7⟩
          have HP7 := Lib.hid (HPS.out.go hb7)
          clear fx x0 x1 x2 x3 x4 x5 x6 CP hb7 HPS
          obtain ⟨fz, z0, z1, z2, z3, z4, z5, z6⟩ := blk7 (show Blk 26 w7 m #[.int .i64 0, .int .i64 0, .string ⟨#[]⟩, .string ⟨#[]⟩, .bool false, .slice none 0 0, .slice none 0 0] from HP7.out.r)
          go_wp2_with fail
          refine bodyPost_ret (v := .tuple #[.agg zero7, .iface 43 (.int .i64 3)]) (by simp [results, zero7, Tryz.results13, go_sem, z0, z1, z2, z3, z4, z5, z6]) rfl ?_
          exact parseSt_err HNo.out (below_set7 HP7.out.w HP7.out.low _ _ _ _ _ _ _)
      · have HO := Lib.hid (way_some HP.out hn hb hv HDec.out)
        have hsm := ver_small hv
        have HFit := Lib.hid (fit5 (n := n) (x := x) (u := u) (r := r) (hh := hh) (d := d) (e := e) (by omega) (by omega) (HZ.out d (by simp)) (HZ.out e (by simp)))
        have HPS := Lib.hid (pst_ver HP5.out x u r)
        clear hn hb HN HP hv HP5 hsm
        go_upto_region 9 with fail
        clear fx x0 x1 x2 x3 x4 x5 x6
        obtain ⟨W6, hW6⟩ : ∃ W, ((w5.setCell ⟨q, 1, none⟩ (.int .i64 x)).setCell ⟨q, 2, none⟩ (.string u)).setCell ⟨q, 3, none⟩ (.string r) = W := ⟨_, rfl⟩
        rw [hW6] at HPS ⊢
        clear hW6
        have CP := Lib.hid (statPrint_calls ⟨n, x, u, r, hh, listOf d, listOf e⟩ (.slice A1 i1 j1) (.slice A2 i2 j2) W6 (HEE.out.below HPS.out.w) ⟨HPS.out.a.1, HPS.out.b.1⟩ HFit.out)
        unfold PrintStIs stV at CP
        obtain ⟨fx, x0, x1, x2, x3, x4, x5, x6⟩ := blk7 (show Blk 26 W6 q #[.int .i64 n, .int .i64 x, .string u, .string r, .bool hh, .slice A1 i1 j1, .slice A2 i2 j2] from HPS.out.x)
        cases hr : rightS ⟨n, x, u, r, hh, listOf d, listOf e⟩ with
        | false =>
          have HNo := Lib.hid (HO.out.trans (if_neg (by rw [okS_no hr]; decide)))
          rw [printV_no hr] at CP
          go_wp2_with fail
          refine CP.out.mono ?_
          rintro E w7 ⟨rfl, hb7⟩
          have HP7 := Lib.hid (HPS.out.go hb7)
          clear fx x0 x1 x2 x3 x4 x5 x6 CP hb7 HPS
          obtain ⟨fz, z0, z1, z2, z3, z4, z5, z6⟩ := blk7 (show Blk 26 w7 m #[.int .i64 0, .int .i64 0, .string ⟨#[]⟩, .string ⟨#[]⟩, .bool false, .slice none 0 0, .slice none 0 0] from HP7.out.r)
          go_wp2_with fail
          refine bodyPost_ret (v := .tuple #[.agg zero7, .iface 43 (.int .i64 3)]) (by simp [results, zero7, Tryz.results13, go_sem, z0, z1, z2, z3, z4, z5, z6]) rfl ?_
          exact parseSt_err HNo.out (below_set7 HP7.out.w HP7.out.low _ _ _ _ _ _ _)
        | true =>
          rw [printV_yes hr] at CP
          have HOk := Lib.hid (okS_yes hr s)
          obtain ⟨sP, hsP⟩ : ∃ y, printB ⟨n, x, u, r, hh, listOf d, listOf e⟩ = y := ⟨_, rfl⟩
          rw [hsP] at CP HOk
          clear hsP
          by_cases he : sP.toList = s.toList
          · have hq1 : (sP.toList == s.toList) = true := beq_iff_eq.2 he
            have hq2 : (sP.toList != s.toList) = false := by rw [bne, hq1]; rfl
            have HYes := Lib.hid (HO.out.trans (if_pos (HOk.out.trans hq1)))
            clear he HO HOk
            go_wp2_with fail
            refine CP.out.mono ?_
            rintro E w7 ⟨rfl, hb7⟩
            have HP7 := Lib.hid (HPS.out.go hb7)
            clear fx x0 x1 x2 x3 x4 x5 x6 CP hb7 HPS
            obtain ⟨fz, z0, z1, z2, z3, z4, z5, z6⟩ := blk7 (show Blk 26 w7 m #[.int .i64 0, .int .i64 0, .string ⟨#[]⟩, .string ⟨#[]⟩, .bool false, .slice none 0 0, .slice none 0 0] from HP7.out.r)
            obtain ⟨fx, x0, x1, x2, x3, x4, x5, x6⟩ := blk7 (show Blk 26 w7 q #[.int .i64 n, .int .i64 x, .string u, .string r, .bool hh, .slice A1 i1 j1, .slice A2 i2 j2] from HP7.out.x)
            go_wp2_with fail
            refine bodyPost_ret (v := .tuple #[.agg (cells7 ⟨n, x, u, r, hh, listOf d, listOf e⟩ (.slice A1 i1 j1) (.slice A2 i2 j2)), .nilIface]) (by simp [results, cells7, Tryz.results13, go_sem, z0, z1, z2, z3, z4, z5, z6]) rfl ?_
            exact parseSt_ok HYes.out ⟨(strsOff_set7 HP7.out.a (.inl rfl) _ _ _ _ _ _ _).1, (strsOff_set7 HP7.out.b (.inl rfl) _ _ _ _ _ _ _).1⟩ (below_set7 HP7.out.w HP7.out.low _ _ _ _ _ _ _)
          · have hq1 : (sP.toList == s.toList) = false := beq_eq_false_iff_ne.2 he
            have hq2 : (sP.toList != s.toList) = true := by rw [bne, hq1]; rfl
            have HNo := Lib.hid (HO.out.trans (if_neg (by rw [HOk.out.trans hq1]; decide)))
            clear he HO HOk
            go_wp2_with fail
            refine CP.out.mono ?_
            rintro E w7 ⟨rfl, hb7⟩
            have HP7 := Lib.hid (HPS.out.go hb7)
            clear fx x0 x1 x2 x3 x4 x5 x6 CP hb7 HPS
            obtain ⟨fz, z0, z1, z2, z3, z4, z5, z6⟩ := blk7 (show Blk 26 w7 m #[.int .i64 0, .int .i64 0, .string ⟨#[]⟩, .string ⟨#[]⟩, .bool false, .slice none 0 0, .slice none 0 0] from HP7.out.r)
            go_wp2_with fail
            refine bodyPost_ret (v := .tuple #[.agg zero7, .iface 43 (.int .i64 3)]) (by simp [results, zero7, Tryz.results13, go_sem, z0, z1, z2, z3, z4, z5, z6]) rfl ?_
            exact parseSt_err HNo.out (below_set7 HP7.out.w HP7.out.low _ _ _ _ _ _ _)
  · have HNo := Lib.hid (way_num HP.out hn)
    have HFit := Lib.hid (fit5 (n := n) (x := 0) (u := ⟨#[]⟩) (r := ⟨#[]⟩) (hh := hh) (d := d) (e := e) (by decide) (by decide) (HZ.out d (by simp)) (HZ.out e (by simp)))
    clear hn HN HP
    have CP := Lib.hid (statPrint_calls ⟨n, 0, ⟨#[]⟩, ⟨#[]⟩, hh, listOf d, listOf e⟩ (.slice A1 i1 j1) (.slice A2 i2 j2) wc (HEE.out.below HPS.out.w) ⟨HPS.out.a.1, HPS.out.b.1⟩ HFit.out)
    unfold PrintStIs stV at CP
    obtain ⟨fx, x0, x1, x2, x3, x4, x5, x6⟩ := blk7 (show Blk 26 wc q #[.int .i64 n, .int .i64 0, .string ⟨#[]⟩, .string ⟨#[]⟩, .bool hh, .slice A1 i1 j1, .slice A2 i2 j2] from HPS.out.x)
    cases hr : rightS ⟨n, 0, ⟨#[]⟩, ⟨#[]⟩, hh, listOf d, listOf e⟩ with
    | false =>
      rw [printV_no hr] at CP
      go_wp2_with fail
      refine CP.out.mono ?_
      rintro E w7 ⟨rfl, hb7⟩
      have HP7 := Lib.hid (HPS.out.go hb7)
      clear fx x0 x1 x2 x3 x4 x5 x6 CP hb7 HPS
      obtain ⟨fz, z0, z1, z2, z3, z4, z5, z6⟩ := blk7 (show Blk 26 w7 m #[.int .i64 0, .int .i64 0, .string ⟨#[]⟩, .string ⟨#[]⟩, .bool false, .slice none 0 0, .slice none 0 0] from HP7.out.r)
      go_wp2_with fail
      refine bodyPost_ret (v := .tuple #[.agg zero7, .iface 43 (.int .i64 3)]) (by simp [results, zero7, Tryz.results13, go_sem, z0, z1, z2, z3, z4, z5, z6]) rfl ?_
      exact parseSt_err HNo.out (below_set7 HP7.out.w HP7.out.low _ _ _ _ _ _ _)
    | true =>
      rw [printV_yes hr] at CP
      go_wp2_with fail
      refine CP.out.mono ?_
      rintro E w7 ⟨rfl, hb7⟩
      have HP7 := Lib.hid (HPS.out.go hb7)
      clear fx x0 x1 x2 x3 x4 x5 x6 CP hb7 HPS
      obtain ⟨fz, z0, z1, z2, z3, z4, z5, z6⟩ := blk7 (show Blk 26 w7 m #[.int .i64 0, .int .i64 0, .string ⟨#[]⟩, .string ⟨#[]⟩, .bool false, .slice none 0 0, .slice none 0 0] from HP7.out.r)
      go_wp2_with fail
      refine bodyPost_ret (v := .tuple #[.agg zero7, .iface 43 (.int .i64 3)]) (by simp [results, zero7, Tryz.results13, go_sem, z0, z1, z2, z3, z4, z5, z6]) rfl ?_
      exact parseSt_err HNo.out (below_set7 HP7.out.w HP7.out.low _ _ _ _ _ _ _)

theorem statParse_calls (s : ByteArray) (w : World) (hE : Env w) (hA : EnvA w) (hs : s.size ≤ 9000) : Calls Tryz.prog 13 #[.string s] w (ParseStIs (parseS atoiO verOf s) w) := by
  by_cases h5 : (piecesB 32 s).length = 5
  · obtain ⟨a, b, c, d, e, hp⟩ := five_of h5
    exact statParse_five s a b c d e w hE hA hs hp
  · exact statParse_few s w hE (by omega) h5
end Go.Proofs.YtpbbhjifgaeklaaGreatDoor

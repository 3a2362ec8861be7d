/- The reference's WriteArchive: the walk. · ArchiveWrites: for every package the call returns true: from the walks. -/
import Derived.Test.YtodbbfgkclkpgaaGreatDoorAW47
import Derived.Test.YtodbbfgkclkpgaaGreatDoorAW49
import Derived.Test.YtodbbfgkclkpgaaGreatDoorAW45
import Derived.Test.YtodbbfgkclkpgaaGreatDoorAW48
namespace Go.Proofs.YtodbbfgkclkpgaaGreatDoor
open Go Go.RowKit

set_option maxHeartbeats 4000000 in
set_option maxRecDepth 100000 in
theorem refArcWrite_calls (v : Value) (p : Pv) (w : World) (hE : Env w) (h : PackAt w v p) (hf : p.Fit) (hz : ∀ f ∈ p.fi, f.n.size ≤ 1000 ∧ f.v.size ≤ 1000) : Calls Tryz.prog 20 #[v] w (RefArcWIs p w) := by
  obtain ⟨v1, v2, v3, v4, v5, v6, v7, v8, v9, rfl, h1, h2, h3, h4, h5, h6, h7, h8, h9, hlo, hhi⟩ := id h
  obtain ⟨len, hlen⟩ : ∃ len, p.fi.length = len := ⟨_, rfl⟩
  obtain ⟨A9, k9, rfl, hc9, hm9, hr9⟩ := h9.open
  rw [hlen] at hc9 hm9 h h9 ⊢
  have hB0 := below_alloc w (.cells #[.string p.n, .int .i64 p.e, .string p.u, .string p.r, v1, v2, v3, v4, v5, v6, v7, v8, .slice A9 len k9] 29)
  have CR := Lib.hid (refArc_calls _ p _ (hE.below hB0) (h.below hB0) hf (fun f hf => by have := (hz f hf).1; omega))
  have CF := Lib.hid (fun (W : World) (hb : Below w.heap.size w W) => refFields_calls _ p W (hE.below hb) (h.below hb) hf)
  obtain ⟨bs, hbs⟩ : ∃ y, archB p = y := ⟨_, rfl⟩
  have HBS := Lib.hid hbs
  rw [hbs] at CR
  have X0 := packBox_new w p v1 v2 v3 v4 v5 v6 v7 v8 (.slice A9 len k9) 29
  obtain ⟨c0, c1, c2, c3, c4, c5, c6, c7, c8, c9, c10, c11, c12⟩ := id X0
  have HL := Lib.hid hlen
  have HR := Lib.hid hr9
  have HEE := Lib.hid hE
  have HZ := Lib.hid hz
  have HF := Lib.hid hf
  clear h1 h2 h3 h4 h5 h6 h7 h8 h9 h hf hE hz hbs hlen hr9
  go_enter Tryz.func20, Tryz.ntmps20
  go_wp2_with fail
  refine CR.out.mono ?_
  rintro E w1 ⟨rfl, hb⟩
  have X1 := X0.below hb
  have HB1 := Lib.hid (step_below hB0 hb)
  clear c0 c1 c2 c3 c4 c5 c6 c7 c8 c9 c10 c11 c12 X0 CR hb hB0
  obtain ⟨m, hm⟩ : ∃ m, w.heap.size = m := ⟨_, rfl⟩
  rw [hm] at X1
  have HX1 := Lib.hid X1
  cases bs with
  | false =>
    have HN := Lib.hid (arc_no HBS.out)
    clear X1 CF
    go_wp2_with fail
    go_ret2
    exact ⟨by rw [HN.out.1, HN.out.2]; rfl, HB1.out⟩
  | true =>
  have HPT := Lib.hid (arch_parts HBS.out)
  have CF1 := Lib.hid (CF.out w1 HB1.out)
  obtain ⟨c0, c1, c2, c3, c4, c5, c6, c7, c8, c9, c10, c11, c12⟩ := id X1
  clear CF X1
  go_wp2_with fail
  (try rw [hm])
  clear hm c0 c1 c2 c3 c4 c5 c6 c7 c8 c9 c10 c11 c12
  refine CF1.out.mono ?_
  rintro E w2 ⟨x2, rfl, hx2, hb⟩
  have HB2 := Lib.hid (step_below HB1.out hb)
  have HX2 := Lib.hid (HX1.out.below hb)
  have HV2 := Lib.hid hx2
  clear hx2 hb CF1 HX1 HB1
  obtain ⟨bz, hbz⟩ : ∃ y, stanzaB (fldB p) = y := ⟨_, rfl⟩
  have HBZ := Lib.hid hbz
  clear hbz
  cases bz with
  | false =>
    have HN := Lib.hid (arc_limit HBS.out HBZ.out)
    rw [fld_limit HPT.out.1 HBZ.out]
    go_wp2_with fail
    go_ret2
    exact ⟨by rw [HN.out.1, HN.out.2]; rfl, HB2.out⟩
  | true =>
  have HFF := Lib.hid (fld_fine HPT.out.1 HBZ.out)
  rw [HFF.out.1]
  rw [HFF.out.2] at HV2
  have HSZ := Lib.hid (fldB_sizes (ok_of HPT.out.1) HF.out.n)
  have HT4 := Lib.hid (stanza_full HBZ.out)
  have hl20 : len ≤ 20 := by have := HPT.out.2; rw [HL.out] at this; exact this
  have HTL : Hid ((bodyL p).length ≤ 100000) := Lib.hid (by
    have e1 := HT4.out.2
    have e2 := files_len p.fi HZ.out
    rw [HL.out] at e2
    unfold bodyL textS
    rw [List.length_append, List.length_append]
    show _ + (1 + _) ≤ 100000
    have : len * 2100 ≤ 20 * 2100 := Nat.mul_le_mul_right _ hl20
    omega)
  have CP := Lib.hid (refText_calls x2 (fldB p) w2 (HEE.out.below HB2.out) HV2.out HSZ.out (by have := HT4.out.2; omega))
  have hts : (⟨(textS p).toArray⟩ : ByteArray).size ≤ 4000 := by rw [size_eq_length]; exact HT4.out.2
  obtain ⟨TS, hTS⟩ : ∃ TS : ByteArray, (⟨(textS p).toArray⟩ : ByteArray) = TS := ⟨_, rfl⟩
  have CP' : Hid (Calls Tryz.prog 78 #[x2] w2 fun E w' => E = .returned (.string TS) ∧ Below w2.heap.size w2 w') := by rw [← hTS]; exact CP
  have HTS := Lib.hid (show TS.data.toList = textS p by rw [← hTS])
  rw [hTS] at hts
  obtain ⟨TT, hTT⟩ : ∃ TT, bodyL p = TT := ⟨_, rfl⟩
  have HTT := Lib.hid hTT
  have HBZ2 := Lib.hid HBZ.out
  clear hTS CP hTT HV2 HSZ HT4 HFF HBZ
  go_wp2_with fail
  refine CP'.out.mono ?_
  rintro E w4 ⟨rfl, hb⟩
  have HB4 := Lib.hid (step_below HB2.out hb)
  have HX4 := Lib.hid (HX2.out.below hb)
  clear CP' hb HX2 HB2
  have HT1 := Lib.hid (show TT.length ≤ 100000 by have := HTL.out; rw [HTT.out] at this; omega)
  have H0 := Lib.hid (show SoFar TT (TS ++ ⟨#[10]⟩) ((p.fi.drop 0).flatMap fileL) by unfold SoFar; rw [← HTT.out, append_data, HTS.out, List.drop_zero]; show _ = textS p ++ ([10] ++ p.fi.flatMap fileL); rw [List.append_assoc])
  have c12 := HX4.out.c12
  go_wp2_with fail
  clear c12 hts
  go_loopw [6, 26] (fun sv i wr => ∃ (k : Nat) (S : ByteArray), k ≤ len ∧ sv = .string S ∧ i = .int .i64 k ∧ Hid (SoFar TT S ((p.fi.drop k).flatMap fileL)) ∧ Below w4.heap.size w4 wr) (fun _ i _ => len - (intOf i).toNat)
  case atStart => exact ⟨0, _, Nat.zero_le _, rfl, rfl, H0, Below.refl _ _⟩
  case round =>
    clear H0
    obtain ⟨k, S, hk, rfl, rfl, hw, hB⟩ := hrel
    have hSz : S.size ≤ 100000 := by have := hw.out.size; have := HT1.out; omega
    by_cases hlt : k < len
    · have hne : p.fi ≠ [] := by
        intro e
        have := HL.out
        rw [e] at this
        simp at this
        omega
      obtain ⟨f, ht⟩ : ∃ f, p.fi[k]? = some f := ⟨p.fi[k]'(by have := HL.out; omega), List.getElem?_eq_getElem _⟩
      obtain ⟨b, off, rfl, hi⟩ := HR.out hne
      obtain ⟨c0, c1⟩ := hi k f ht
      have hBw := step_below HB4.out hB
      replace c0 := kept hBw c0
      replace c1 := kept hBw c1
      obtain ⟨z0, z1⟩ := HZ.out f (List.mem_of_getElem? ht)
      have ha := below_alloc wr (.cells #[.string f.n, .string f.v] 81)
      have hblk : (wr.alloc (.cells #[.string f.n, .string f.v] 81)).heap[wr.heap.size]? = some (.cells #[.string f.n, .string f.v] 81 (0, 0)) := heap_alloc_new wr _
      have HE0 := Lib.hid (HEE.out.below (step_below hBw ha))
      have HBa := Lib.hid (step_below hB ha)
      have HDR := Lib.hid (files_drop ht)
      clear hi hne ht hBw ha hB
      go_upto_region 10 with fail
      obtain ⟨mg, hmg⟩ : ∃ mg, wr.heap.size = mg := ⟨_, rfl⟩
      obtain ⟨W0, hW0⟩ : ∃ x, x = wr.alloc (.cells #[.string f.n, .string f.v] 81) := ⟨_, rfl⟩
      rw [← hW0, hmg] at hblk
      rw [← hW0] at HE0 HBa
      (try rw [← hW0])
      (try rw [hmg])
      clear hW0 hmg c0 c1
      have tz := itoaS_size f.v.size z1
      have CI := Lib.hid (itoaS_calls (f.v.size : Int) W0.drew (HE0.out.below (below_drew W0)) (by omega) (by omega))
      obtain ⟨tt, htt⟩ : ∃ tt, itoaS (f.v.size : Int) = tt := ⟨_, rfl⟩
      have HFS := Lib.hid (show fileL f = (((((f.n ++ ⟨#[32]⟩) ++ tt) ++ ⟨#[10]⟩) ++ f.v) ++ ⟨#[10]⟩).data.toList by unfold fileL fileS; rw [htt])
      have hfz := fileS_size z0 z1
      unfold fileS at hfz
      rw [htt] at tz CI hfz
      obtain ⟨a1, a2, a3, a4, a5⟩ := cats (n := f.n) (t := tt) (v := f.v) z0 tz z1
      have a6 : ∀ W : World, (Op.stringOp .add S (((((f.n ++ ⟨#[32]⟩) ++ tt) ++ ⟨#[10]⟩) ++ f.v) ++ ⟨#[10]⟩)).run Tryz.prog W = .ok (.string (S ++ (((((f.n ++ ⟨#[32]⟩) ++ tt) ++ ⟨#[10]⟩) ++ f.v) ++ ⟨#[10]⟩))) W := fun W => run_string_add_sum W _ _ (by omega)
      have hblk1 : W0.drew.heap[mg]? = some (.cells #[.string f.n, .string f.v] 81 (0, 0)) := hblk
      have hw1 := hw.out
      rw [HDR.out, HFS.out] at hw1
      have HW1 := Lib.hid (hw1.add (s := ((((f.n ++ ⟨#[32]⟩) ++ tt) ++ ⟨#[10]⟩) ++ f.v) ++ ⟨#[10]⟩) rfl)
      obtain ⟨fn, hfn⟩ : ∃ fn, f.n = fn := ⟨_, rfl⟩
      obtain ⟨fv, hfv⟩ : ∃ fv, f.v = fv := ⟨_, rfl⟩
      rw [hfn, hfv] at hblk1 HW1 a6
      rw [hfn] at a1 a2 a3 a4 a5
      rw [hfv] at CI a4 a5
      (try rw [hfn])
      (try rw [hfv])
      clear htt HFS hblk hfn hfv hw1 hw hfz
      go_region_held3 (fun W => W.cell? ⟨mg, 0, none⟩ = some (.string fn) ∧ W.cell? ⟨mg, 1, none⟩ = some (.string fv))
        ((first | assumption | exact two_cells hblk2 | exact two_cells hblk1))
        (first | (go_at_call 79; refine CI.out.mono ?_; rintro E y1 ⟨rfl, hb1⟩; have hblk2 := (hb1.block mg (Array.getElem?_eq_some_iff.1 hblk1).1).trans hblk1; have HB2 := Lib.hid (step_below HBa.out (step_below (below_drew W0) hb1))))
      all_goals
        go_wp2_with fail
        go_roundw
        case rel => first | exact ⟨k + 1, _, by omega, rfl, by go_num, HW1, HB2.out⟩ | ((repeat apply Exists.intro); exact ⟨⟨k + 1, _, by omega, rfl, by go_num, HW1, HB2.out⟩, rfl⟩)
        case measure => simp [intOf]; omega
    · obtain rfl : k = len := by omega
      have hw1 := hw.out
      rw [← HL.out, List.drop_length] at hw1
      have hl : S.data.toList = TT := by
        have : S.data.toList ++ [] = TT := hw1
        simpa using this
      have HSE := Lib.hid (show S = ⟨TT.toArray⟩ by rw [← hl, mk_data])
      have HSL := Lib.hid (show S.size = TT.length by rw [size_eq_length, hl])
      have HBL := Lib.hid (step_below HB4.out hB)
      clear hw hw1 hl hB
      by_cases h4 : S.size ≤ 4000
      · have HYES := Lib.hid (arc_yes HBS.out HBZ2.out (by rw [HTT.out, ← HSL.out]; exact h4))
        go_wp2_with fail
        go_ret2
        exact ⟨by rw [HYES.out.1, HYES.out.2, HTT.out, ← HSE.out]; rfl, HBL.out⟩
      · have HNO := Lib.hid (arc_long HBS.out (by rw [HTT.out, ← HSL.out]; exact h4))
        go_wp2_with fail
        go_ret2
        exact ⟨by rw [HNO.out.1, HNO.out.2]; rfl, HBL.out⟩
end Go.Proofs.YtodbbfgkclkpgaaGreatDoor

namespace Go.Proofs.YtodbbfgkclkpgaaGreatDoor
open Go Go.RowKit

set_option maxHeartbeats 2000000 in
set_option maxRecDepth 100000 in
theorem writes_main (p : Pv) (v1 v2 v3 v4 v5 v6 v7 v8 v9 : Value) (w : World) (H0 : Gives2 w 11 #[.agg #[.string p.n, .int .i64 p.e, .string p.u, .string p.r, v1, v2, v3, v4, v5, v6, v7, v8, v9]] (.bool true))
    (s : ByteArray) (n : Int) (H1 : Gives2 w 20 #[.agg #[.string p.n, .int .i64 p.e, .string p.u, .string p.r, v1, v2, v3, v4, v5, v6, v7, v8, v9]] (.tuple #[.string s, .int .i64 n]))
    (H2 : Gives2 w 21 #[.agg #[.string p.n, .int .i64 p.e, .string p.u, .string p.r, v1, v2, v3, v4, v5, v6, v7, v8, v9]] (.tuple #[.string s, errV n]))
    (H3 : Gives2 w 14 #[errV n, .int .i64 n] (.bool true))
    (b : Bool) (R1 : Gives2 w 22 #[.agg #[.string p.n, .int .i64 p.e, .string p.u, .string p.r, v1, v2, v3, v4, v5, v6, v7, v8, v9]] (.bool b)) (R2 : Gives2 w 23 #[.agg #[.string p.n, .int .i64 p.e, .string p.u, .string p.r, v1, v2, v3, v4, v5, v6, v7, v8, v9]] (.bool b)) :
    Calls Tryz.prog 4 #[.agg #[.string p.n, .int .i64 p.e, .string p.u, .string p.r, v1, v2, v3, v4, v5, v6, v7, v8, v9]] w (BoolIs true w) := by
  have HB := Lib.hid (below_alloc w (.cells #[.string p.n, .int .i64 p.e, .string p.u, .string p.r, v1, v2, v3, v4, v5, v6, v7, v8, v9] 29))
  have X0 := packBox_new w p v1 v2 v3 v4 v5 v6 v7 v8 v9 29
  obtain ⟨c0, c1, c2, c3, c4, c5, c6, c7, c8, c9, c10, c11, c12⟩ := id X0
  have D0 := Lib.hid (Gives2.at H0 HB.out)
  obtain ⟨ev, hev⟩ : ∃ ev, errV n = ev := ⟨_, rfl⟩
  rw [hev] at H2 H3
  clear H0 hev
  go_enter Tryz.func4, Tryz.ntmps4
  go_wp2_with fail
  refine D0.out.mono ?_
  rintro E w1 ⟨rfl, hb⟩
  have HB1 := Lib.hid (step_below HB.out hb)
  have X1 := X0.below hb
  clear c0 c1 c2 c3 c4 c5 c6 c7 c8 c9 c10 c11 c12 hb X0 D0
  obtain ⟨c0, c1, c2, c3, c4, c5, c6, c7, c8, c9, c10, c11, c12⟩ := id X1
  have D1 := Lib.hid (Gives2.at H1 HB1.out)
  clear H1
  obtain ⟨m, hm⟩ : ∃ m, w.heap.size = m := ⟨_, rfl⟩
  rw [hm] at c0 c1 c2 c3 c4 c5 c6 c7 c8 c9 c10 c11 c12 X1
  go_wp2_with fail
  (try rw [hm])
  clear hm
  refine D1.out.mono ?_
  rintro E w2 ⟨rfl, hb⟩
  have HB2 := Lib.hid (step_below HB1.out hb)
  have X2 := X1.below hb
  clear c0 c1 c2 c3 c4 c5 c6 c7 c8 c9 c10 c11 c12 hb X1 D1
  obtain ⟨c0, c1, c2, c3, c4, c5, c6, c7, c8, c9, c10, c11, c12⟩ := id X2
  have D2 := Lib.hid (Gives2.at H2 HB2.out)
  clear H2
  go_wp2_with fail
  refine D2.out.mono ?_
  rintro E w3 ⟨rfl, hb⟩
  have HB3 := Lib.hid (step_below HB2.out hb)
  have X3 := X2.below hb
  clear c0 c1 c2 c3 c4 c5 c6 c7 c8 c9 c10 c11 c12 hb X2 D2
  have G3 := H3.step HB3.out
  have G5 := R1.step HB3.out
  have G6 := R2.step HB3.out
  clear R1 R2 H3
  have hN := pb_of (w := w3) X3 (Below.refl _ _)
  clear X3
  go_upto_region 5 with fail
  go_region_held3 (fun W => W.cell? ⟨m, 0, none⟩ = some (.string p.n) ∧ W.cell? ⟨m, 1, none⟩ = some (.int .i64 p.e) ∧ W.cell? ⟨m, 2, none⟩ = some (.string p.u) ∧ W.cell? ⟨m, 3, none⟩ = some (.string p.r) ∧ W.cell? ⟨m, 4, none⟩ = some (v1) ∧ W.cell? ⟨m, 5, none⟩ = some (v2) ∧ W.cell? ⟨m, 6, none⟩ = some (v3) ∧ W.cell? ⟨m, 7, none⟩ = some (v4) ∧ W.cell? ⟨m, 8, none⟩ = some (v5) ∧ W.cell? ⟨m, 9, none⟩ = some (v6) ∧ W.cell? ⟨m, 10, none⟩ = some (v7) ∧ W.cell? ⟨m, 11, none⟩ = some (v8) ∧ W.cell? ⟨m, 12, none⟩ = some (v9) ∧ Below w3.heap.size w3 W)
    ((first | assumption | exact pb_go (by assumption) hb | exact pb_go hN (below_drew _) | exact pb_go (by assumption) (below_drew _)))
    (first | (go_at_call 14; (with_reducible refine (Gives2.at G3 ?_).mono ?_); (exact pb_below (by assumption)); rintro E w' ⟨rfl, hb⟩) | (go_at_call 22; (with_reducible refine (Gives2.at G5 ?_).mono ?_); (exact pb_below (by assumption)); rintro E w' ⟨rfl, hb⟩) | (go_at_call 23; (with_reducible refine (Gives2.at G6 ?_).mono ?_); (exact pb_below (by assumption)); rintro E w' ⟨rfl, hb⟩))
  all_goals
    go_wp2_with fail
    go_ret
    exact ⟨ret_bool (by simp), step_below HB3.out (pb_below (by assumption))⟩

set_option maxRecDepth 100000 in
theorem writes_no (p : Pv) (v1 v2 v3 v4 v5 v6 v7 v8 v9 : Value) (w : World) (H0 : Gives2 w 11 #[.agg #[.string p.n, .int .i64 p.e, .string p.u, .string p.r, v1, v2, v3, v4, v5, v6, v7, v8, v9]] (.bool false)) :
    Calls Tryz.prog 4 #[.agg #[.string p.n, .int .i64 p.e, .string p.u, .string p.r, v1, v2, v3, v4, v5, v6, v7, v8, v9]] w (BoolIs true w) := by
  have HB := Lib.hid (below_alloc w (.cells #[.string p.n, .int .i64 p.e, .string p.u, .string p.r, v1, v2, v3, v4, v5, v6, v7, v8, v9] 29))
  have X0 := packBox_new w p v1 v2 v3 v4 v5 v6 v7 v8 v9 29
  obtain ⟨c0, c1, c2, c3, c4, c5, c6, c7, c8, c9, c10, c11, c12⟩ := X0
  have D0 := Lib.hid (Gives2.at H0 HB.out)
  clear H0
  go_enter Tryz.func4, Tryz.ntmps4
  go_wp2_with fail
  refine D0.out.mono ?_
  rintro E w1 ⟨rfl, hb⟩
  have HB1 := Lib.hid (step_below HB.out hb)
  clear c0 c1 c2 c3 c4 c5 c6 c7 c8 c9 c10 c11 c12 hb D0
  go_wp2_with fail
  go_ret
  exact ⟨rfl, HB1.out⟩

theorem says_files {p : Pv} (h : saysB p = true) : ∀ f ∈ p.fi, f.n.size ≤ 100 ∧ f.v.size ≤ 500 := by
  unfold saysB at h
  simp only [Bool.and_eq_true] at h
  obtain ⟨_, _, _, _, _, _, _, _, _, _, k10⟩ := h
  unfold filesB at k10
  rw [Bool.and_eq_true, List.all_eq_true] at k10
  intro f hf
  have := k10.2 f hf
  rw [Bool.and_eq_true, decide_eq_true_eq, decide_eq_true_eq] at this
  exact this
theorem writes_calls (v : Value) (p : Pv) (w : World) (hE : Env w) (hG : EnvE w) (hS : EnvS w) (h : PackAt w v p) : Calls Tryz.prog 4 #[v] w (BoolIs true w) := by
  obtain ⟨v1, v2, v3, v4, v5, v6, v7, v8, v9, rfl, _⟩ := id h
  cases hsy : saysB p with
  | false => exact writes_no p v1 v2 v3 v4 v5 v6 v7 v8 v9 w (fun W hb => by have := lawSays_calls _ p W (h.below hb); rw [hsy] at this; exact this)
  | true =>
    have hf := fit_of h hsy
    have hz := says_files hsy
    have hz1 : ∀ f ∈ p.fi, f.n.size ≤ 1000 ∧ f.v.size ≤ 1000 := fun f hf => by have := hz f hf; omega
    have hz2 : ∀ f ∈ p.fi, f.n.size ≤ 1000000 := fun f hf => by have := hz f hf; omega
    exact writes_main p v1 v2 v3 v4 v5 v6 v7 v8 v9 w (fun W hb => by have := lawSays_calls _ p W (h.below hb); rw [hsy] at this; exact this)
      (arcS p) (arcE p) (fun W hb => refArcWrite_calls _ p W (hE.below hb) (h.below hb) hf hz1) (fun W hb => arcWrite_calls _ p W (hE.below hb) (hS.below hb) (h.below hb) hf hz1)
      (fun W hb => (bare_calls _ _ W (hG.below hb)).mono fun E W' h => ⟨by rw [h.1]; exact ret_bool (by simp), h.2⟩)
      (archB p) (fun W hb => arcRight_calls _ p W (hE.below hb) (h.below hb) hf hz2) (fun W hb => refArc_calls _ p W (hE.below hb) (h.below hb) hf hz2)
end Go.Proofs.YtodbbfgkclkpgaaGreatDoor

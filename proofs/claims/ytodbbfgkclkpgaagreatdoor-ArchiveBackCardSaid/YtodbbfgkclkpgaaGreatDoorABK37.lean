/- archive.Write: a package's bytes: the walk. -/
import Derived.Test.YtodbbfgkclkpgaaGreatDoorABK23
namespace Go.Proofs.YtodbbfgkclkpgaaGreatDoor
open Go Go.RowKit

set_option maxHeartbeats 4000000 in
set_option maxRecDepth 100000 in
theorem arcWrite_calls (v : Value) (p : Pv) (w : World) (hE : Env w) (hS : EnvS w) (h : PackAt w v p) (hf : p.Fit) (hz : ∀ f ∈ p.fi, f.n.size ≤ 1000 ∧ f.v.size ≤ 1000) : Calls Tryz.prog 21 #[v] w (ArcWIs p w) := by
  obtain ⟨v1, v2, v3, v4, v5, v6, v7, v8, v9, rfl, h1, h2, h3, h4, h5, h6, h7, h8, h9, hlo, hhi⟩ := id h
  obtain ⟨len, hlen⟩ : ∃ len, p.fi.length = len := ⟨_, rfl⟩
  obtain ⟨A9, k9, rfl, hc9, hm9, hr9⟩ := h9.open
  rw [hlen] at hc9 hm9 h h9 ⊢
  have hB0 := below_alloc w (.cells #[.string p.n, .int .i64 p.e, .string p.u, .string p.r, v1, v2, v3, v4, v5, v6, v7, v8, .slice A9 len k9] 29)
  have CR := Lib.hid (arcRight_calls _ p _ (hE.below hB0) (h.below hB0) hf (fun f hf => by have := (hz f hf).1; omega))
  have CF := Lib.hid (fun (W : World) (hb : Below w.heap.size w W) => recFields_calls _ p W (hE.below hb) (hS.below hb) (h.below hb) hf)
  obtain ⟨bs, hbs⟩ : ∃ y, archB p = y := ⟨_, rfl⟩
  have HBS := Lib.hid hbs
  rw [hbs] at CR
  have X0 := packBox_new w p v1 v2 v3 v4 v5 v6 v7 v8 (.slice A9 len k9) 29
  obtain ⟨c0, c1, c2, c3, c4, c5, c6, c7, c8, c9, c10, c11, c12⟩ := id X0
  have HL := Lib.hid hlen
  have HR := Lib.hid hr9
  have HEE := Lib.hid hE
  have HZ := Lib.hid hz
  have HF := Lib.hid hf
  clear h1 h2 h3 h4 h5 h6 h7 h8 h9 h hf hE hz hbs hlen hr9
  go_enter Tryz.func21, Tryz.ntmps21
  go_wp2_with fail
  refine CR.out.mono ?_
  rintro E w1 ⟨rfl, hb⟩
  have X1 := X0.below hb
  have HB1 := Lib.hid (step_below hB0 hb)
  clear c0 c1 c2 c3 c4 c5 c6 c7 c8 c9 c10 c11 c12 X0 CR hb hB0
  obtain ⟨m, hm⟩ : ∃ m, w.heap.size = m := ⟨_, rfl⟩
  rw [hm] at X1
  have HX1 := Lib.hid X1
  cases bs with
  | false =>
    have HN := Lib.hid (arc_no HBS.out)
    clear X1 CF
    go_wp2_with fail
    go_ret2
    exact ⟨by rw [HN.out.1, HN.out.2]; rfl, HB1.out⟩
  | true =>
  have HPT := Lib.hid (arch_parts HBS.out)
  have CF1 := Lib.hid (CF.out w1 HB1.out)
  obtain ⟨c0, c1, c2, c3, c4, c5, c6, c7, c8, c9, c10, c11, c12⟩ := id X1
  clear CF X1
  go_wp2_with fail
  (try rw [hm])
  clear hm c0 c1 c2 c3 c4 c5 c6 c7 c8 c9 c10 c11 c12
  refine CF1.out.mono ?_
  rintro E w2 ⟨x2, rfl, hx2, hb⟩
  have HB2 := Lib.hid (step_below HB1.out hb)
  have HX2 := Lib.hid (HX1.out.below hb)
  have HV2 := Lib.hid hx2
  clear hx2 hb CF1 HX1 HB1
  obtain ⟨bz, hbz⟩ : ∃ y, stanzaB (fldB p) = y := ⟨_, rfl⟩
  have HBZ := Lib.hid hbz
  clear hbz
  cases bz with
  | false =>
    have HN := Lib.hid (arc_limit HBS.out HBZ.out)
    rw [fld_limit HPT.out.1 HBZ.out]
    rw [show errV 4 = .iface 32 (.int .i64 4) from rfl]
    go_wp2_with fail
    go_ret2
    exact ⟨by rw [HN.out.1, HN.out.2]; rfl, HB2.out⟩
  | true =>
  have HFF := Lib.hid (fld_fine HPT.out.1 HBZ.out)
  rw [HFF.out.1]
  rw [show errV 0 = .nilIface from rfl]
  rw [HFF.out.2] at HV2
  have HSZ := Lib.hid (fldB_sizes (ok_of HPT.out.1) HF.out.n)
  have HT4 := Lib.hid (stanza_full HBZ.out)
  have hl20 : len ≤ 20 := by have := HPT.out.2; rw [HL.out] at this; exact this
  have HTL : Hid ((bodyL p).length ≤ 100000) := Lib.hid (by
    have e1 := HT4.out.2
    have e2 := files_len p.fi HZ.out
    rw [HL.out] at e2
    unfold bodyL textS
    rw [List.length_append, List.length_append]
    show _ + (1 + _) ≤ 100000
    have : len * 2100 ≤ 20 * 2100 := Nat.mul_le_mul_right _ hl20
    omega)
  have CP := Lib.hid (stanzaPrint_yes x2 (fldB p) w2 (HEE.out.below HB2.out) HV2.out HSZ.out HBZ.out)
  have hts : (⟨(textS p).toArray⟩ : ByteArray).size ≤ 4000 := by rw [size_eq_length]; exact HT4.out.2
  obtain ⟨TS, hTS⟩ : ∃ TS : ByteArray, (⟨(textS p).toArray⟩ : ByteArray) = TS := ⟨_, rfl⟩
  have CP' : Hid (Calls Tryz.prog 80 #[x2] w2 fun E w' => E = .returned (.tuple #[.string TS, .nilIface]) ∧ Below w2.heap.size w2 w') := by rw [← hTS]; exact CP
  have HTS := Lib.hid (show TS.data.toList = textS p by rw [← hTS])
  rw [hTS] at hts
  obtain ⟨TT, hTT⟩ : ∃ TT, bodyL p = TT := ⟨_, rfl⟩
  have HTT := Lib.hid hTT
  have HBZ2 := Lib.hid HBZ.out
  clear hTS CP hTT HV2 HSZ HT4 HFF HBZ
  go_wp2_with fail
  refine CP'.out.mono ?_
  rintro E w4 ⟨rfl, hb⟩
  have HB4 := Lib.hid (step_below HB2.out hb)
  have HX4 := Lib.hid (HX2.out.below hb)
  clear CP' hb HX2 HB2
  have HT1 := Lib.hid (show TT.length ≤ 100000000000 by have := HTL.out; rw [HTT.out] at this; omega)
  have H0 := Lib.hid (show WroteAt w4 (w4.alloc (.cells #[.pointer none, .slice none 0 0] 108)) TT [] ((TS ++ ⟨#[10]⟩).data.toList ++ p.fi.flatMap fileL) from ⟨by rw [← HTT.out, append_data, HTS.out]; show _ = textS p ++ ([10] ++ p.fi.flatMap fileL); rw [List.nil_append, List.append_assoc], bld_fresh w4, below_alloc _ _⟩)
  have C0 := Lib.hid (H0.out.write (TS ++ ⟨#[10]⟩) rfl HT1.out)
  clear H0
  go_wp2_with fail
  refine C0.out.mono ?_
  rintro E w5 ⟨r5, rfl, h5⟩
  have H5 := Lib.hid (show WroteAt w4 w5 TT ([] ++ (TS ++ ⟨#[10]⟩).data.toList) ((p.fi.drop 0).flatMap fileL) from h5)
  have c12 := (HX4.out.below h5.below).c12
  obtain ⟨bb, hbb⟩ : ∃ bb, w4.heap.size = bb := ⟨_, rfl⟩
  have HBB := Lib.hid hbb
  (try rw [hbb])
  clear C0 h5 hbb hts
  go_wp2_with fail
  clear c12
  go_loopw [36] (fun i wr => ∃ (k : Nat) (l : List UInt8), k ≤ len ∧ i = .int .i64 k ∧ Hid (WroteAt w4 wr TT l ((p.fi.drop k).flatMap fileL))) (fun i _ => len - (intOf i).toNat)
  case atStart => exact ⟨0, _, Nat.zero_le _, rfl, H5⟩
  case round =>
    clear H5
    obtain ⟨k, l, hk, rfl, hw⟩ := hrel
    by_cases hlt : k < len
    · have hne : p.fi ≠ [] := by
        intro e
        have := HL.out
        rw [e] at this
        simp at this
        omega
      obtain ⟨f, ht⟩ : ∃ f, p.fi[k]? = some f := ⟨p.fi[k]'(by have := HL.out; omega), List.getElem?_eq_getElem _⟩
      obtain ⟨b, off, rfl, hi⟩ := HR.out hne
      obtain ⟨c0, c1⟩ := hi k f ht
      have hBw := step_below HB4.out hw.out.below
      replace c0 := kept hBw c0
      replace c1 := kept hBw c1
      obtain ⟨z0, z1⟩ := HZ.out f (List.mem_of_getElem? ht)
      have ha := below_alloc wr (.cells #[.string f.n, .string f.v] 81)
      have HW0 := Lib.hid (hw.out.keeps ha)
      have hblk : (wr.alloc (.cells #[.string f.n, .string f.v] 81)).heap[wr.heap.size]? = some (.cells #[.string f.n, .string f.v] 81 (0, 0)) := heap_alloc_new wr _
      have HNB := Lib.hid (show wr.heap.size ≠ w4.heap.size by have := hw.out.bld.lt; omega)
      have HE0 := Lib.hid (HEE.out.below (step_below hBw ha))
      have HDR := Lib.hid (files_drop ht)
      clear hi hne ht hBw ha hw
      go_upto_region 14 with fail
      obtain ⟨mg, hmg⟩ : ∃ mg, wr.heap.size = mg := ⟨_, rfl⟩
      obtain ⟨W0, hW0⟩ : ∃ x, x = wr.alloc (.cells #[.string f.n, .string f.v] 81) := ⟨_, rfl⟩
      rw [← hW0, hmg] at hblk
      rw [← hW0] at HW0 HE0
      rw [hmg] at HNB
      (try rw [← hW0])
      (try rw [hmg])
      clear hW0 hmg c0 c1
      have tz := itoaS_size f.v.size z1
      have CI := Lib.hid (itoaS_calls (f.v.size : Int) W0.drew (HE0.out.below (below_drew W0)) (by omega) (by omega))
      obtain ⟨tt, htt⟩ : ∃ tt, itoaS (f.v.size : Int) = tt := ⟨_, rfl⟩
      have HFS := Lib.hid (show fileL f = (((((f.n ++ ⟨#[32]⟩) ++ tt) ++ ⟨#[10]⟩) ++ f.v) ++ ⟨#[10]⟩).data.toList by unfold fileL fileS; rw [htt])
      rw [htt] at tz CI
      obtain ⟨a1, a2, a3, a4, a5⟩ := cats (n := f.n) (t := tt) (v := f.v) z0 tz z1
      have hblk1 : W0.drew.heap[mg]? = some (.cells #[.string f.n, .string f.v] 81 (0, 0)) := hblk
      have HW1 := Lib.hid (HW0.out.keeps (below_drew W0))
      rw [HDR.out, HFS.out] at HW1
      obtain ⟨fn, hfn⟩ : ∃ fn, f.n = fn := ⟨_, rfl⟩
      obtain ⟨fv, hfv⟩ : ∃ fv, f.v = fv := ⟨_, rfl⟩
      rw [hfn, hfv] at hblk1 HW1
      rw [hfn] at a1 a2 a3 a4 a5
      rw [hfv] at CI a4 a5
      (try rw [hfn])
      (try rw [hfv])
      clear htt HFS HW0 hblk hfn hfv
      go_region_held3 (fun W => W.cell? ⟨mg, 0, none⟩ = some (.string fn) ∧ W.cell? ⟨mg, 1, none⟩ = some (.string fv))
        ((first | assumption | exact two_cells hblk3 | exact two_cells hblk2 | exact two_cells hblk1))
        (first | (go_at_call 79; refine CI.out.mono ?_; rintro E y1 ⟨rfl, hb1⟩; have hblk2 := (hb1.block mg (Array.getElem?_eq_some_iff.1 hblk1).1).trans hblk1; have HW2 := Lib.hid (HW1.out.keeps hb1)) | (go_at_call 81; have CW := HW2.out.writeK _ rfl HT1.out mg _ _ _ hblk2 (by decide) HNB.out; rw [HBB.out] at CW; refine CW.mono ?_; rintro E y2 ⟨r2, rfl, h6, hblk3⟩; have HW3 := Lib.hid h6))
      all_goals
        go_wp2_with fail
        go_roundw
        case rel => first | exact ⟨k + 1, _, by omega, by go_num, HW3⟩ | ((repeat apply Exists.intro); exact ⟨⟨k + 1, _, by omega, by go_num, HW3⟩, rfl⟩)
        case measure => simp [intOf]; omega
    · obtain rfl : k = len := by omega
      have hw1 := hw.out
      rw [← HL.out, List.drop_length] at hw1
      have hl : l = TT := by
        have := hw1.eq
        simpa using this
      subst hl
      have CL := Lib.hid (bld_len _ _ _ wr hw1.bld)
      have CS := Lib.hid (bld_string _ _ _ wr hw1.bld hw1.below.size)
      have HBL := Lib.hid (step_below HB4.out hw1.below)
      rw [HBB.out] at CL CS
      have hbb4 : w4.heap.size = bb := HBB.out
      have HLS := Lib.hid hw1.below
      clear hw hw1 HT1
      by_cases h4 : l.length ≤ 4000
      · have HYES := Lib.hid (arc_yes HBS.out HBZ2.out (by rw [HTT.out]; exact h4))
        clear hbb4
        go_wp2_with fail
        refine CL.out.mono ?_
        rintro E wx ⟨rfl, rfl⟩
        go_wp2_with fail
        refine CS.out.mono ?_
        rintro E w9 ⟨rfl, _, hb9⟩
        have HB9 := Lib.hid (HBL.out.trans (hb9.mono (by rw [← HBB.out]; have := HB4.out.size; exact this)))
        clear hb9 CS CL
        go_wp2_with fail
        go_ret2
        exact ⟨by rw [HYES.out.1, HYES.out.2, HTT.out]; rfl, HB9.out⟩
      · have HNO := Lib.hid (arc_long HBS.out (by rw [HTT.out]; exact h4))
        clear hbb4
        go_wp2_with fail
        refine CL.out.mono ?_
        rintro E wx ⟨rfl, rfl⟩
        go_wp2_with fail
        go_ret2
        exact ⟨by rw [HNO.out.1, HNO.out.2]; rfl, HBL.out⟩
end Go.Proofs.YtodbbfgkclkpgaaGreatDoor

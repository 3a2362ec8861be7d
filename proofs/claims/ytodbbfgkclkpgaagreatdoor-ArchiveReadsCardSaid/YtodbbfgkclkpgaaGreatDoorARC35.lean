/- The reference's ReadFields: all six are lists; the lines (B). -/
import Derived.Test.YtodbbfgkclkpgaaGreatDoorARC31
namespace Go.Proofs.YtodbbfgkclkpgaaGreatDoor
open Go Go.RowKit

set_option maxHeartbeats 16000000 in
set_option maxRecDepth 100000 in
theorem refRead_six_b (lv : Value) (fs : List Fv) (w : World) (hE : Env w) (h : FieldsAt w lv fs) (hs : ∀ f ∈ fs, f.n.size ≤ 6000 ∧ f.v.size ≤ 6000) (hvs : (VP.parseP (sayF fs nVersion).data.toList).isSome = true) (L0 : List (List Tv)) (hx0 : readT (sayF fs nDepends) = .ok L0) (L1 : List (List Tv)) (hx1 : readT (sayF fs nPre) = .ok L1) (L2 : List Tv) (hx2 : readS (sayF fs nConflicts) = .ok L2) (L3 : List Tv) (hx3 : readS (sayF fs nBreaks) = .ok L3) (L4 : List Tv) (hx4 : readS (sayF fs nReplaces) = .ok L4) (L5 : List Tv) (hx5 : readS (sayF fs nProvides) = .ok L5) (hA : linesOk fs nConffiles = true) (hB : linesOk fs nTriggers = false) (hm : ((getB fs nPackage).isSome && (getB fs nVersion).isSome) = true) : Calls Tryz.prog 25 #[lv] w (RefReadIs fs w) := by
  have HA := Lib.hid hA
  have HB := Lib.hid hB
  have LOW := Lib.hid (get_low fs)
  have CG := Lib.hid (fun (n : ByteArray) (hn : n.size ≤ 1000) (W : World) (hb : Below w.heap.size w W) => (show Calls Tryz.prog 89 #[lv, .string n] W (fun E W' => E = .returned (.tuple #[.string (sayF fs n), .bool (getB fs n).isSome]) ∧ Below W.heap.size W W') from refGet_calls lv fs n W (h.below hb) (fun f hf => by have := (hs f hf).1; omega) (by omega)))
  have CR := Lib.hid (fun (n : ByteArray) (hn : n.size ≤ 1000) (b : Nat) (W : World) (hb : Below w.heap.size w W) (hl : W.cell? ⟨b, 0, none⟩ = some lv) => rget_calls n fs lv b W hl (h.below hb) (fun f hf => (hs f hf).1) hn)
  have HSZ := Lib.hid (fun (n : ByteArray) => (show (sayF fs n).size ≤ 6000 from getB_size (fun f hf => (hs f hf).2)))
  have HV1 := Lib.hid (fun f hf => (hs f hf).2)
  obtain ⟨A0, n0, k0, rfl⟩ : ∃ A n c, lv = .slice A n c := by obtain ⟨A, c, hv, _⟩ := h; exact ⟨A, _, c, hv⟩
  have HM := Lib.hid hm
  obtain ⟨hm1, hm2⟩ := Bool.and_eq_true_iff.1 hm
  have C1 := Lib.hid (CG.out lPackage (by decide))
  have C2 := Lib.hid (CG.out lVersion (by decide))
  rw [show sayF fs lPackage = sayF fs nPackage by unfold sayF; rw [LOW.out.1], LOW.out.1, hm1] at C1
  rw [show sayF fs lVersion = sayF fs nVersion by unfold sayF; rw [LOW.out.2.1], LOW.out.2.1, hm2] at C2
  have HE := Lib.hid hE
  have R0 := RfSt.start w (.slice A0 n0 k0)
  have hB0 := R0.w
  have l0 := R0.l
  clear hA hB hm hm1 hm2 h hs hE
  go_enter Tryz.func25, Tryz.ntmps25
  go_wp2_with fail
  refine (C1.out _ hB0).mono ?_
  rintro E w1 ⟨rfl, hb⟩
  have R1 := R0.below hb
  have hB1 := R1.w
  clear hb hB0 R0 l0
  have l1 := R1.l
  go_wp2_with fail
  refine (C2.out _ hB1).mono ?_
  rintro E w2 ⟨rfl, hb⟩
  have R2 := R1.below hb
  clear C1 C2 hb hB1 R1 l1
  obtain ⟨rb, hrb⟩ : ∃ rb, w.heap.size = rb := ⟨_, rfl⟩
  rw [hrb] at R2
  have fk := R2.k.frozen
  have kk := R2.k.cell (i := 0) rfl
  have R3 := Lib.hid (R2.put (i := 0) (.string (sayF fs nPackage)) (q' := { pack0 with n := sayF fs nPackage }) (u1 := (.slice none 0 0)) (u2 := (.slice none 0 0)) (u3 := (.slice none 0 0)) (u4 := (.slice none 0 0)) (u5 := (.slice none 0 0)) (u6 := (.slice none 0 0)) (u7 := (.slice none 0 0)) (u8 := (.slice none 0 0)) rfl ⟨R2.v.d, R2.v.a, R2.v.g, R2.v.b, R2.v.r, R2.v.p, R2.v.s, R2.v.l, rfl⟩)
  clear R2
  go_wp2_with fail
  (try rw [hrb])
  clear fk kk hrb
  have CV := Lib.hid (refParse_calls (sayF fs nVersion) _ (HE.out.below R3.out.w))
  refine CV.out.mono ?_
  rintro E w3 ⟨hb, hor⟩
  have R4 := R3.out.below hb
  clear R3 hb CV
  have fk := R4.k.frozen
  have k1 := R4.k.cell (i := 1) rfl
  have k2 := R4.k.cell (i := 2) rfl
  have k3 := R4.k.cell (i := 3) rfl
  rcases hor with ⟨hn, rfl⟩ | ⟨e, u, r, hp, rfl⟩
  · rw [hn] at hvs; cases hvs
  · have HP := Lib.hid (readP_six HM.out hp)
    have HFIT := Lib.hid (fun (q : Pv) (hq : rdTo fs (rdP1 fs e u r) 6 = .ok q) => rd_fit HV1.out hp hq)
    have HEE := Lib.hid (rightP_len (parseP_rt hp)).2
    have Ra := R4.put (i := 1) (.int .i64 e) (q' := { pack0 with n := sayF fs nPackage, e := e }) (u1 := (.slice none 0 0)) (u2 := (.slice none 0 0)) (u3 := (.slice none 0 0)) (u4 := (.slice none 0 0)) (u5 := (.slice none 0 0)) (u6 := (.slice none 0 0)) (u7 := (.slice none 0 0)) (u8 := (.slice none 0 0)) rfl ⟨R4.v.d, R4.v.a, R4.v.g, R4.v.b, R4.v.r, R4.v.p, R4.v.s, R4.v.l, rfl⟩
    have Rb := Ra.put (i := 2) (.string u) (q' := { pack0 with n := sayF fs nPackage, e := e, u := u }) (u1 := (.slice none 0 0)) (u2 := (.slice none 0 0)) (u3 := (.slice none 0 0)) (u4 := (.slice none 0 0)) (u5 := (.slice none 0 0)) (u6 := (.slice none 0 0)) (u7 := (.slice none 0 0)) (u8 := (.slice none 0 0)) rfl ⟨Ra.v.d, Ra.v.a, Ra.v.g, Ra.v.b, Ra.v.r, Ra.v.p, Ra.v.s, Ra.v.l, rfl⟩
    have Rc := Rb.put (i := 3) (.string r) (q' := rdP1 fs e u r) (u1 := (.slice none 0 0)) (u2 := (.slice none 0 0)) (u3 := (.slice none 0 0)) (u4 := (.slice none 0 0)) (u5 := (.slice none 0 0)) (u6 := (.slice none 0 0)) (u7 := (.slice none 0 0)) (u8 := (.slice none 0 0)) rfl ⟨Rb.v.d, Rb.v.a, Rb.v.g, Rb.v.b, Rb.v.r, Rb.v.p, Rb.v.s, Rb.v.l, rfl⟩
    obtain ⟨P1, hP1⟩ : ∃ P1, rdP1 fs e u r = P1 := ⟨_, rfl⟩
    rw [hP1] at Rc HP HFIT
    have HPE := Lib.hid (show P1.e = e by rw [← hP1]; rfl)
    have HPS := Lib.hid hP1.symm
    have Q0 := Lib.hid (show rdTo fs P1 0 = .ok P1 from rfl)
    have lr := Rc.l
    clear R4 Ra Rb hp hP1
    go_wp2_with fail
    clear fk k1 k2 k3
    refine (CR.out lDepends (by decide) rb _ Rc.w Rc.l).mono ?_
    rintro E a0 ⟨rfl, hb⟩
    rw [show sayF fs lDepends = sayF fs nDepends by unfold sayF; rw [LOW.out.2.2.1]]
    have T0 := Rc.below hb
    have hlt0 := T0.k.lt
    have hrd0 := Lib.hid (show rdTo fs P1 1 = rdK fs P1 0 by show (match rdTo fs P1 0 with | .error e => Except.error e | .ok q => rdK fs q 0) = _; rw [Q0.out])
    clear Rc hb lr
    have Q1 := Lib.hid (show rdTo fs P1 1 = .ok { P1 with dep := L0 } by rw [hrd0.out]; show (readT (sayF fs nDepends)).map _ = _; rw [hx0]; rfl)
    have C := Lib.hid (rtermsR_ok hx0 a0 (HE.out.below T0.w) (by have := HSZ.out nDepends; omega))
    clear hx0 hrd0 Q0
    go_wp2_with fail
    refine C.out.mono ?_
    rintro E b0 ⟨B0, m0, c0, rfl, hA, hb⟩
    have S0 := T0.below hb
    have fk := S0.k.frozen
    have kk := S0.k.cell (i := 4) rfl
    obtain ⟨q1, hq⟩ : ∃ q1, ({ P1 with dep := L0 } : Pv) = q1 := ⟨_, rfl⟩
    have U0 := S0.put (i := 4) (.slice B0 m0 c0) (q' := { P1 with dep := L0 }) (u1 := (.slice B0 m0 c0)) (u2 := (.slice none 0 0)) (u3 := (.slice none 0 0)) (u4 := (.slice none 0 0)) (u5 := (.slice none 0 0)) (u6 := (.slice none 0 0)) (u7 := (.slice none 0 0)) (u8 := (.slice none 0 0)) rfl ⟨(hA.up (by have := hlt0; omega)), S0.v.a, S0.v.g, S0.v.b, S0.v.r, S0.v.p, S0.v.s, S0.v.l, S0.v.f⟩
    rw [hq] at U0 Q1
    have lr := U0.l
    clear S0 T0 hb C hA hlt0 hq
    go_wp2_with fail
    clear fk kk
    refine (CR.out lPre (by decide) rb _ U0.w U0.l).mono ?_
    rintro E a1 ⟨rfl, hb⟩
    rw [show sayF fs lPre = sayF fs nPre by unfold sayF; rw [LOW.out.2.2.2.1]]
    have T1 := U0.below hb
    have hlt1 := T1.k.lt
    have hrd1 := Lib.hid (show rdTo fs P1 2 = rdK fs q1 1 by show (match rdTo fs P1 1 with | .error e => Except.error e | .ok q => rdK fs q 1) = _; rw [Q1.out])
    clear U0 hb lr
    have Q2 := Lib.hid (show rdTo fs P1 2 = .ok { q1 with ahead := L1 } by rw [hrd1.out]; show (readT (sayF fs nPre)).map _ = _; rw [hx1]; rfl)
    have C := Lib.hid (rtermsR_ok hx1 a1 (HE.out.below T1.w) (by have := HSZ.out nPre; omega))
    clear hx1 hrd1 Q1
    go_wp2_with fail
    refine C.out.mono ?_
    rintro E b1 ⟨B1, m1, c1, rfl, hA, hb⟩
    have S1 := T1.below hb
    have fk := S1.k.frozen
    have kk := S1.k.cell (i := 5) rfl
    obtain ⟨q2, hq⟩ : ∃ q2, ({ q1 with ahead := L1 } : Pv) = q2 := ⟨_, rfl⟩
    have U1 := S1.put (i := 5) (.slice B1 m1 c1) (q' := { q1 with ahead := L1 }) (u1 := (.slice B0 m0 c0)) (u2 := (.slice B1 m1 c1)) (u3 := (.slice none 0 0)) (u4 := (.slice none 0 0)) (u5 := (.slice none 0 0)) (u6 := (.slice none 0 0)) (u7 := (.slice none 0 0)) (u8 := (.slice none 0 0)) rfl ⟨S1.v.d, (hA.up (by have := hlt1; omega)), S1.v.g, S1.v.b, S1.v.r, S1.v.p, S1.v.s, S1.v.l, S1.v.f⟩
    rw [hq] at U1 Q2
    have lr := U1.l
    clear S1 T1 hb C hA hlt1 hq
    go_wp2_with fail
    clear fk kk
    refine (CR.out lConflicts (by decide) rb _ U1.w U1.l).mono ?_
    rintro E a2 ⟨rfl, hb⟩
    rw [show sayF fs lConflicts = sayF fs nConflicts by unfold sayF; rw [LOW.out.2.2.2.2.1]]
    have T2 := U1.below hb
    have hlt2 := T2.k.lt
    have hrd2 := Lib.hid (show rdTo fs P1 3 = rdK fs q2 2 by show (match rdTo fs P1 2 with | .error e => Except.error e | .ok q => rdK fs q 2) = _; rw [Q2.out])
    clear U1 hb lr
    have Q3 := Lib.hid (show rdTo fs P1 3 = .ok { q2 with ag := L2 } by rw [hrd2.out]; show (readS (sayF fs nConflicts)).map _ = _; rw [hx2]; rfl)
    have C := Lib.hid (rlistR_ok hx2 a2 (HE.out.below T2.w) (by have := HSZ.out nConflicts; omega))
    clear hx2 hrd2 Q2
    go_wp2_with fail
    refine C.out.mono ?_
    rintro E b2 ⟨B2, m2, c2, rfl, hA, hb⟩
    have S2 := T2.below hb
    have fk := S2.k.frozen
    have kk := S2.k.cell (i := 6) rfl
    obtain ⟨q3, hq⟩ : ∃ q3, ({ q2 with ag := L2 } : Pv) = q3 := ⟨_, rfl⟩
    have U2 := S2.put (i := 6) (.slice B2 m2 c2) (q' := { q2 with ag := L2 }) (u1 := (.slice B0 m0 c0)) (u2 := (.slice B1 m1 c1)) (u3 := (.slice B2 m2 c2)) (u4 := (.slice none 0 0)) (u5 := (.slice none 0 0)) (u6 := (.slice none 0 0)) (u7 := (.slice none 0 0)) (u8 := (.slice none 0 0)) rfl ⟨S2.v.d, S2.v.a, (hA.up (by have := hlt2; omega)), S2.v.b, S2.v.r, S2.v.p, S2.v.s, S2.v.l, S2.v.f⟩
    rw [hq] at U2 Q3
    have lr := U2.l
    clear S2 T2 hb C hA hlt2 hq
    go_wp2_with fail
    clear fk kk
    refine (CR.out lBreaks (by decide) rb _ U2.w U2.l).mono ?_
    rintro E a3 ⟨rfl, hb⟩
    rw [show sayF fs lBreaks = sayF fs nBreaks by unfold sayF; rw [LOW.out.2.2.2.2.2.1]]
    have T3 := U2.below hb
    have hlt3 := T3.k.lt
    have hrd3 := Lib.hid (show rdTo fs P1 4 = rdK fs q3 3 by show (match rdTo fs P1 3 with | .error e => Except.error e | .ok q => rdK fs q 3) = _; rw [Q3.out])
    clear U2 hb lr
    have Q4 := Lib.hid (show rdTo fs P1 4 = .ok { q3 with br := L3 } by rw [hrd3.out]; show (readS (sayF fs nBreaks)).map _ = _; rw [hx3]; rfl)
    have C := Lib.hid (rlistR_ok hx3 a3 (HE.out.below T3.w) (by have := HSZ.out nBreaks; omega))
    clear hx3 hrd3 Q3
    go_wp2_with fail
    refine C.out.mono ?_
    rintro E b3 ⟨B3, m3, c3, rfl, hA, hb⟩
    have S3 := T3.below hb
    have fk := S3.k.frozen
    have kk := S3.k.cell (i := 7) rfl
    obtain ⟨q4, hq⟩ : ∃ q4, ({ q3 with br := L3 } : Pv) = q4 := ⟨_, rfl⟩
    have U3 := S3.put (i := 7) (.slice B3 m3 c3) (q' := { q3 with br := L3 }) (u1 := (.slice B0 m0 c0)) (u2 := (.slice B1 m1 c1)) (u3 := (.slice B2 m2 c2)) (u4 := (.slice B3 m3 c3)) (u5 := (.slice none 0 0)) (u6 := (.slice none 0 0)) (u7 := (.slice none 0 0)) (u8 := (.slice none 0 0)) rfl ⟨S3.v.d, S3.v.a, S3.v.g, (hA.up (by have := hlt3; omega)), S3.v.r, S3.v.p, S3.v.s, S3.v.l, S3.v.f⟩
    rw [hq] at U3 Q4
    have lr := U3.l
    clear S3 T3 hb C hA hlt3 hq
    go_wp2_with fail
    clear fk kk
    refine (CR.out lReplaces (by decide) rb _ U3.w U3.l).mono ?_
    rintro E a4 ⟨rfl, hb⟩
    rw [show sayF fs lReplaces = sayF fs nReplaces by unfold sayF; rw [LOW.out.2.2.2.2.2.2.1]]
    have T4 := U3.below hb
    have hlt4 := T4.k.lt
    have hrd4 := Lib.hid (show rdTo fs P1 5 = rdK fs q4 4 by show (match rdTo fs P1 4 with | .error e => Except.error e | .ok q => rdK fs q 4) = _; rw [Q4.out])
    clear U3 hb lr
    have Q5 := Lib.hid (show rdTo fs P1 5 = .ok { q4 with re := L4 } by rw [hrd4.out]; show (readS (sayF fs nReplaces)).map _ = _; rw [hx4]; rfl)
    have C := Lib.hid (rlistR_ok hx4 a4 (HE.out.below T4.w) (by have := HSZ.out nReplaces; omega))
    clear hx4 hrd4 Q4
    go_wp2_with fail
    refine C.out.mono ?_
    rintro E b4 ⟨B4, m4, c4, rfl, hA, hb⟩
    have S4 := T4.below hb
    have fk := S4.k.frozen
    have kk := S4.k.cell (i := 8) rfl
    obtain ⟨q5, hq⟩ : ∃ q5, ({ q4 with re := L4 } : Pv) = q5 := ⟨_, rfl⟩
    have U4 := S4.put (i := 8) (.slice B4 m4 c4) (q' := { q4 with re := L4 }) (u1 := (.slice B0 m0 c0)) (u2 := (.slice B1 m1 c1)) (u3 := (.slice B2 m2 c2)) (u4 := (.slice B3 m3 c3)) (u5 := (.slice B4 m4 c4)) (u6 := (.slice none 0 0)) (u7 := (.slice none 0 0)) (u8 := (.slice none 0 0)) rfl ⟨S4.v.d, S4.v.a, S4.v.g, S4.v.b, (hA.up (by have := hlt4; omega)), S4.v.p, S4.v.s, S4.v.l, S4.v.f⟩
    rw [hq] at U4 Q5
    have lr := U4.l
    clear S4 T4 hb C hA hlt4 hq
    go_wp2_with fail
    clear fk kk
    refine (CR.out lProvides (by decide) rb _ U4.w U4.l).mono ?_
    rintro E a5 ⟨rfl, hb⟩
    rw [show sayF fs lProvides = sayF fs nProvides by unfold sayF; rw [LOW.out.2.2.2.2.2.2.2.1]]
    have T5 := U4.below hb
    have hlt5 := T5.k.lt
    have hrd5 := Lib.hid (show rdTo fs P1 6 = rdK fs q5 5 by show (match rdTo fs P1 5 with | .error e => Except.error e | .ok q => rdK fs q 5) = _; rw [Q5.out])
    clear U4 hb lr
    have Q6 := Lib.hid (show rdTo fs P1 6 = .ok { q5 with pr := L5 } by rw [hrd5.out]; show (readS (sayF fs nProvides)).map _ = _; rw [hx5]; rfl)
    have C := Lib.hid (rlistR_ok hx5 a5 (HE.out.below T5.w) (by have := HSZ.out nProvides; omega))
    clear hx5 hrd5 Q5
    go_wp2_with fail
    refine C.out.mono ?_
    rintro E b5 ⟨B5, m5, c5, rfl, hA, hb⟩
    have S5 := T5.below hb
    have fk := S5.k.frozen
    have kk := S5.k.cell (i := 9) rfl
    obtain ⟨q6, hq⟩ : ∃ q6, ({ q5 with pr := L5 } : Pv) = q6 := ⟨_, rfl⟩
    have U5 := S5.put (i := 9) (.slice B5 m5 c5) (q' := { q5 with pr := L5 }) (u1 := (.slice B0 m0 c0)) (u2 := (.slice B1 m1 c1)) (u3 := (.slice B2 m2 c2)) (u4 := (.slice B3 m3 c3)) (u5 := (.slice B4 m4 c4)) (u6 := (.slice B5 m5 c5)) (u7 := (.slice none 0 0)) (u8 := (.slice none 0 0)) rfl ⟨S5.v.d, S5.v.a, S5.v.g, S5.v.b, S5.v.r, (hA.up (by have := hlt5; omega)), S5.v.s, S5.v.l, S5.v.f⟩
    rw [hq] at U5 Q6
    have lr := U5.l
    clear S5 T5 hb C hA hlt5 hq
    go_wp2_with fail
    clear fk kk
    have HSE := Lib.hid (show q6.se = [] ∧ q6.li = [] ∧ q6.e = e by
      obtain ⟨_, _, _, _, _, _, _, _, _, _, _, _, hqq⟩ := six_read Q6.out
      rw [hqq]
      refine ⟨?_, ?_, HPE.out⟩ <;> rw [HPS.out] <;> rfl)
    have HPQ := Lib.hid (show readP fs = if linesOk fs nConffiles && linesOk fs nTriggers then (if saysOk (rdEnd fs q6) then .ok (rdEnd fs q6) else .error 1) else .error 3 by rw [HP.out, Q6.out])
    have HFT := Lib.hid (HFIT.out q6 Q6.out)
    have RN := U5.below (below_alloc (b5.setCell ⟨rb + 3, 9, none⟩ (.slice B5 m5 c5)) (.cells #[.string ⟨#[99, 111, 110, 102, 102, 105, 108, 101, 115]⟩, .string ⟨#[116, 114, 105, 103, 103, 101, 114, 115]⟩] 9))
    have NN : ((b5.setCell ⟨rb + 3, 9, none⟩ (.slice B5 m5 c5)).alloc (.cells #[.string ⟨#[99, 111, 110, 102, 102, 105, 108, 101, 115]⟩, .string ⟨#[116, 114, 105, 103, 103, 101, 114, 115]⟩] 9)).heap[b5.heap.size]? = some (.cells #[.string ⟨#[99, 111, 110, 102, 102, 105, 108, 101, 115]⟩, .string ⟨#[116, 114, 105, 103, 103, 101, 114, 115]⟩] 9 (0, 0)) := by
      have := heap_alloc_new (b5.setCell ⟨rb + 3, 9, none⟩ (.slice B5 m5 c5)) (.cells #[.string ⟨#[99, 111, 110, 102, 102, 105, 108, 101, 115]⟩, .string ⟨#[116, 114, 105, 103, 103, 101, 114, 115]⟩] 9)
      have e2 : (b5.setCell ⟨rb + 3, 9, none⟩ (.slice B5 m5 c5)).heap.size = b5.heap.size := by simp
      rw [e2] at this
      exact this
    clear U5 lr HP HFIT
    go_wp2_with fail
    obtain ⟨gn, hgn⟩ : ∃ gn, b5.heap.size = gn := ⟨_, rfl⟩
    obtain ⟨W6, hW6⟩ : ∃ x, x = (b5.setCell ⟨rb + 3, 9, none⟩ (.slice B5 m5 c5)).alloc (.cells #[.string ⟨#[99, 111, 110, 102, 102, 105, 108, 101, 115]⟩, .string ⟨#[116, 114, 105, 103, 103, 101, 114, 115]⟩] 9) := ⟨_, rfl⟩
    rw [← hW6] at RN
    rw [← hW6, hgn] at NN
    (try rw [← hW6])
    (try rw [hgn])
    have HRN := Lib.hid RN
    have HNN := Lib.hid NN
    clear RN NN hW6 hgn
    go_loopw [116] (fun i wr => ∃ (k : Nat) (Aa : Option Addr) (na ca : Nat) (Ab : Option Addr) (nb cb : Nat), k ≤ 2 ∧ i = .int .i64 k ∧ Hid (RfSt w rb (.slice A0 n0 k0) (lnK fs q6 k) (.slice B0 m0 c0) (.slice B1 m1 c1) (.slice B2 m2 c2) (.slice B3 m3 c3) (.slice B4 m4 c4) (.slice B5 m5 c5) (.slice Aa na ca) (.slice Ab nb cb) wr) ∧ Hid (lnOk fs k = true) ∧ Hid (wr.heap[gn]? = some (.cells #[.string ⟨#[99, 111, 110, 102, 102, 105, 108, 101, 115]⟩, .string ⟨#[116, 114, 105, 103, 103, 101, 114, 115]⟩] 9 (0, 0)))) (fun i _ => 2 - (intOf i).toNat)
    case atStart => exact ⟨0, none, 0, 0, none, 0, 0, by omega, rfl, HRN, Lib.hid rfl, HNN⟩
    case round =>
      clear HRN HNN
      obtain ⟨k, Aa, na, ca, Ab, nb, cb, hk, rfl, HR, HO, HN⟩ := hrel
      by_cases hk2 : k < 2
      · have hgne : rb + 3 ≠ gn := fun e2 => by
          have h1 : wr.heap[rb + 3]? = _ := HR.out.k
          rw [e2, HN.out] at h1
          injection h1 with h1
          injection h1 with _ h1 _
          exact absurd h1 (by decide)
        obtain hkk | hkk : k = 0 ∨ k = 1 := by omega
        · subst hkk
          have nc : wr.cell? ⟨gn, 0, none⟩ = some (.string ⟨#[99, 111, 110, 102, 102, 105, 108, 101, 115]⟩) := by unfold World.cell?; rw [HN.out]; rfl
          have lr := HR.out.l
          have CK := Lib.hid (CG.out lConffiles (by decide) wr HR.out.w)
          rw [show sayF fs lConffiles = sayF fs nConffiles by unfold sayF; rw [LOW.out.2.2.2.2.2.2.2.2.1], LOW.out.2.2.2.2.2.2.2.2.1] at CK
          cases hg : getB fs nConffiles with
          | none =>
            rw [hg] at CK
            have HLV := Lib.hid (show linesV fs nConffiles = [] by unfold linesV; rw [hg])
            have HLO := Lib.hid (show linesOk fs nConffiles = true by unfold linesOk; rw [hg])
            clear hg
            go_wp2_with fail
            refine CK.out.mono ?_
            rintro E y1 ⟨rfl, hb⟩
            have R1 := Lib.hid (HR.out.below hb)
            have N1 := Lib.hid ((hb.block gn (Array.getElem?_eq_some_iff.1 HN.out).1).trans HN.out)
            have HQ := Lib.hid (show lnK fs q6 1 = lnK fs q6 0 from lnK_skip0 HSE.out HLV.out)
            have HO1 := Lib.hid (show lnOk fs 1 = true from lnOk_succ0 HO.out HLO.out)
            clear hb CK nc lr HR HN
            go_wp2_with fail
            go_roundw
            case rel => exact ⟨1, Aa, na, ca, Ab, nb, cb, by omega, by go_num, Lib.hid (by rw [HQ.out]; exact R1.out), HO1, N1⟩
            case measure => simp [intOf]
          | some v =>
            rw [hg] at CK
            have hvz : v.size ≤ 6000 := by have := HSZ.out nConffiles; unfold sayF at this; rw [hg] at this; exact this
            have hsv : sayF fs nConffiles = v := by unfold sayF; rw [hg]; rfl
            rw [hsv] at CK
            go_wp2_with fail
            refine CK.out.mono ?_
            rintro E y1 ⟨rfl, hb⟩
            have R1 := HR.out.below hb
            have N1 := (hb.block gn (Array.getElem?_eq_some_iff.1 HN.out).1).trans HN.out
            clear hb CK nc lr HN hsv
            by_cases h0 : v.size = 0
            · exact absurd (show linesOk fs nConffiles = false by unfold linesOk; rw [hg]; exact lines_empty h0) (by rw [HA.out]; simp)
            · obtain ⟨e3, e2⟩ := text_ne2 h0
              have e1 := isEmpty_false v (by omega)
              have h00 : 0 < v.size := by omega
              by_cases hc : v[0].toNat = 10
              · have hct := lines_feed (t := v.extract 1 v.size) h00 hc (tail_dt v)
                have HLV := Lib.hid (show linesV fs nConffiles = piecesB 10 (v.extract 1 v.size) by unfold linesV; rw [hg]; exact hct.2)
                have HLO := Lib.hid (show linesOk fs nConffiles = true by unfold linesOk; rw [hg]; exact hct.1)
                have hc1 : ((v[0].toNat : Int) == 10) = true := by rw [hc]; rfl
                have hc2 : ((v[0].toNat : Int) != 10) = false := by rw [hc]; rfl
                have hcI : (v[0].toNat : Int) = 10 := by omega
                have CS := Lib.hid (call_split (v.extract 1 v.size) 10 y1 (HE.out.below R1.w) (by rw [size_eq_length]; simp; omega))
                clear hg hct
                go_wp2_with fail
                refine CS.out.mono ?_
                rintro E y2 ⟨n, rfl, hn, hb2, hcell⟩
                have R2 := R1.below hb2
                have N2 := (hb2.block gn (Array.getElem?_eq_some_iff.1 N1).1).trans N1
                have hlt := R1.k.lt
                have hst : StrsFrom (rb + 4) y2 (.slice (some ⟨y1.heap.size, 0, none⟩) n n) (linesV fs nConffiles) := ⟨by rw [HLV.out]; exact strs_all hn (by rw [hn]; exact pieces_few hvz) hcell, fun b off n' c' e => by cases e; omega⟩
                have fk := R2.k.frozen
                have kk := R2.k.cell (i := 10) rfl
                have R3 := Lib.hid (R2.put (i := 10) (.slice (some ⟨y1.heap.size, 0, none⟩) n n) (q' := lnK fs q6 1) (u1 := (.slice B0 m0 c0)) (u2 := (.slice B1 m1 c1)) (u3 := (.slice B2 m2 c2)) (u4 := (.slice B3 m3 c3)) (u5 := (.slice B4 m4 c4)) (u6 := (.slice B5 m5 c5)) (u7 := (.slice (some ⟨y1.heap.size, 0, none⟩) n n)) (u8 := (.slice Ab nb cb)) rfl ⟨R2.v.d, R2.v.a, R2.v.g, R2.v.b, R2.v.r, R2.v.p, hst, R2.v.l, R2.v.f⟩)
                have N3 := Lib.hid (show (y2.setCell ⟨rb + 3, 10, none⟩ (.slice (some ⟨y1.heap.size, 0, none⟩) n n)).heap[gn]? = _ from (fromOther y2 hgne).trans N2)
                have HO1 := Lib.hid (show lnOk fs 1 = true from lnOk_succ0 HO.out HLO.out)
                clear R2 R1 HR hst hcell hn hb2 CS N1 N2 hc hcI
                go_wp2_with fail
                go_roundw
                case rel => exact ⟨1, _, _, _, _, _, _, by omega, by go_num, R3, HO1, N3⟩
                case measure => simp [intOf]
              · exact absurd (show linesOk fs nConffiles = false by unfold linesOk; rw [hg]; exact lines_other h00 hc) (by rw [HA.out]; simp)
        · subst hkk
          have nc : wr.cell? ⟨gn, 1, none⟩ = some (.string ⟨#[116, 114, 105, 103, 103, 101, 114, 115]⟩) := by unfold World.cell?; rw [HN.out]; rfl
          have lr := HR.out.l
          have CK := Lib.hid (CG.out lTriggers (by decide) wr HR.out.w)
          rw [show sayF fs lTriggers = sayF fs nTriggers by unfold sayF; rw [LOW.out.2.2.2.2.2.2.2.2.2], LOW.out.2.2.2.2.2.2.2.2.2] at CK
          cases hg : getB fs nTriggers with
          | none =>
            exact absurd (show linesOk fs nTriggers = true by unfold linesOk; rw [hg]) (by rw [HB.out]; simp)
          | some v =>
            rw [hg] at CK
            have hvz : v.size ≤ 6000 := by have := HSZ.out nTriggers; unfold sayF at this; rw [hg] at this; exact this
            have hsv : sayF fs nTriggers = v := by unfold sayF; rw [hg]; rfl
            rw [hsv] at CK
            go_wp2_with fail
            refine CK.out.mono ?_
            rintro E y1 ⟨rfl, hb⟩
            have R1 := HR.out.below hb
            have N1 := (hb.block gn (Array.getElem?_eq_some_iff.1 HN.out).1).trans HN.out
            clear hb CK nc lr HN hsv
            by_cases h0 : v.size = 0
            · have HRR := Lib.hid (rd_error (e := 3) (fs := fs) (by rw [HPQ.out, (show (linesOk fs nConffiles && linesOk fs nTriggers) = false by rw [show linesOk fs nTriggers = false by unfold linesOk; rw [hg]; exact lines_empty h0]; exact Bool.and_false _)]; rfl))
              have hv0 : v = ⟨#[]⟩ := eq_empty v h0
              subst hv0
              have z := R1
              have fz := z.z.frozen
              have z0 := (z.z.cell (i := 0) rfl); have z1 := (z.z.cell (i := 1) rfl); have z2 := (z.z.cell (i := 2) rfl); have z3 := (z.z.cell (i := 3) rfl); have z4 := (z.z.cell (i := 4) rfl); have z5 := (z.z.cell (i := 5) rfl); have z6 := (z.z.cell (i := 6) rfl); have z7 := (z.z.cell (i := 7) rfl); have z8 := (z.z.cell (i := 8) rfl); have z9 := (z.z.cell (i := 9) rfl); have z10 := (z.z.cell (i := 10) rfl); have z11 := (z.z.cell (i := 11) rfl); have z12 := (z.z.cell (i := 12) rfl)
              obtain ⟨o0, o1, o2, o3, o4, o5, o6, o7, o8, o9, o10, o11, o12⟩ := (zero_box z.n)
              have hlow : w.heap.size ≤ rb + 1 := by have := z.low; omega
              have HBE := Lib.hid (R1.w)
              clear z R1 HR N1 hg
              go_wp2_with fail
              refine bodyPost_ret (v := .tuple #[.agg zeros, .int .i64 3]) (by simp [results, zeros, pack0, Tryz.results25, go_sem, z0, z1, z2, z3, z4, z5, z6, z7, z8, z9, z10, z11, z12]) rfl ?_
              exact refReadIs_err HRR.out (below_set13 HBE.out hlow _ _ _ _ _ _ _ _ _ _ _ _ _)
            · obtain ⟨e3, e2⟩ := text_ne2 h0
              have e1 := isEmpty_false v (by omega)
              have h00 : 0 < v.size := by omega
              by_cases hc : v[0].toNat = 10
              · have hct := lines_feed (t := v.extract 1 v.size) h00 hc (tail_dt v)
                exact absurd (show linesOk fs nTriggers = true by unfold linesOk; rw [hg]; exact hct.1) (by rw [HB.out]; simp)
              · have HRR := Lib.hid (rd_error (e := 3) (fs := fs) (by rw [HPQ.out, (show (linesOk fs nConffiles && linesOk fs nTriggers) = false by rw [show linesOk fs nTriggers = false by unfold linesOk; rw [hg]; exact lines_other h00 hc]; exact Bool.and_false _)]; rfl))
                have hc1 : ((v[0].toNat : Int) == 10) = false := by rw [beq_eq_false_iff_ne]; omega
                have hc2 : ((v[0].toNat : Int) != 10) = true := by rw [bne, hc1]; rfl
                have hcI : ¬ (v[0].toNat : Int) = 10 := by omega
                have z := R1
                have fz := z.z.frozen
                have z0 := (z.z.cell (i := 0) rfl); have z1 := (z.z.cell (i := 1) rfl); have z2 := (z.z.cell (i := 2) rfl); have z3 := (z.z.cell (i := 3) rfl); have z4 := (z.z.cell (i := 4) rfl); have z5 := (z.z.cell (i := 5) rfl); have z6 := (z.z.cell (i := 6) rfl); have z7 := (z.z.cell (i := 7) rfl); have z8 := (z.z.cell (i := 8) rfl); have z9 := (z.z.cell (i := 9) rfl); have z10 := (z.z.cell (i := 10) rfl); have z11 := (z.z.cell (i := 11) rfl); have z12 := (z.z.cell (i := 12) rfl)
                obtain ⟨o0, o1, o2, o3, o4, o5, o6, o7, o8, o9, o10, o11, o12⟩ := (zero_box z.n)
                have hlow : w.heap.size ≤ rb + 1 := by have := z.low; omega
                have HBE := Lib.hid (R1.w)
                clear z R1 HR N1 hg hc
                go_wp2_with fail
                refine bodyPost_ret (v := .tuple #[.agg zeros, .int .i64 3]) (by simp [results, zeros, pack0, Tryz.results25, go_sem, z0, z1, z2, z3, z4, z5, z6, z7, z8, z9, z10, z11, z12]) rfl ?_
                exact refReadIs_err HRR.out (below_set13 HBE.out hlow _ _ _ _ _ _ _ _ _ _ _ _ _)
      · obtain rfl : k = 2 := by omega
        exact absurd HO.out (by show ¬ (linesOk fs nConffiles && linesOk fs nTriggers) = true; rw [HB.out]; simp)
end Go.Proofs.YtodbbfgkclkpgaaGreatDoor

/- The reference's Put: the walk. -/
import Derived.Test.YtofogjfemlhffaaGreatDoorSPK32
namespace Go.Proofs.YtofogjfemlhffaaGreatDoor
open Go Go.RowKit Go.Maps

set_option maxHeartbeats 8000000 in
set_option maxRecDepth 100000 in
theorem rput_calls (r b0 b1 b2 cq : Nat) (Wm Dm Sm : Fm) (own : List ByteArray) (p : Pv) (tk : ByteArray → Bool) (a : List Bool) (A1 A2 A3 A4 A5 A6 A7 A8 A9 : Option Addr) (m1 m2 m3 m4 m5 m6 m7 m8 m9 c1 c2 c3 c4 c5 c6 c7 c8 c9 : Nat) (va : Value) (w : World) (hE : Env w) (hF : EnvFi w) (h : RShAt w r b0 b1 b2 Wm Dm Sm) (hown : OwnersR Wm own)
    (hl : Wm.length ≤ 1000000) (hlD : Dm.length ≤ 1000000) (hlS : Sm.length ≤ 1000000) (hz0 : ∀ q n, getF Wm q = some n → q.size ≤ 900000 ∧ n.size ≤ 900000) (hp : PackAt w (.agg #[.string p.n, .int .i64 p.e, .string p.u, .string p.r, .slice A1 m1 c1, .slice A2 m2 c2, .slice A3 m3 c3, .slice A4 m4 c4, .slice A5 m5 c5, .slice A6 m6 c6, .slice A7 m7 c7, .slice A8 m8 c8, .slice A9 m9 c9]) p) (hpf : p.Fit) (hz : ∀ f ∈ p.fi, f.n.size ≤ 1000) (hzv : ∀ f ∈ p.fi, f.v.size ≤ 1000000) (hzn : p.n.size ≤ 1000000) (hsl0 : p.se.length ≤ 1000000) (hA : BoolsAt w va a)
    (C : ∀ (W : World) (s : ByteArray), Below w.heap.size w W → Calls Tryz.prog 8 #[.string s, .pointer (some ⟨cq, 0, none⟩)] W (BoolIs (tk s) W)) :
    Calls Tryz.prog 13 #[.pointer (some ⟨r, 0, none⟩), .agg #[.string p.n, .int .i64 p.e, .string p.u, .string p.r, .slice A1 m1 c1, .slice A2 m2 c2, .slice A3 m3 c3, .slice A4 m4 c4, .slice A5 m5 c5, .slice A6 m6 c6, .slice A7 m7 c7, .slice A8 m8 c8, .slice A9 m9 c9], .func (.func 8) #[] #[.pointer (some ⟨cq, 0, none⟩)], va] w (RPutIs r b0 b1 b2 Wm Dm Sm own p tk a w) := by
  obtain ⟨Aa, ca, rfl, hca, hcm, hai⟩ := id hA
  obtain ⟨na, hna⟩ : ∃ n, a.length = n := ⟨_, rfl⟩
  have HNA := Lib.hid hna
  rw [hna] at hA hca ⊢
  have HA := Lib.hid hA
  have H := Lib.hid h
  have HE := Lib.hid hE
  have HF := Lib.hid hF
  have HP := Lib.hid hp
  have HPF := Lib.hid hpf
  have HZ := Lib.hid hz
  have HZV := Lib.hid hzv
  have HZ0 := Lib.hid hz0
  have HOWN := Lib.hid hown
  have HC := Lib.hid C
  have HLB := Lib.hid (show b0 < w.heap.size ∧ b1 < w.heap.size ∧ b2 < w.heap.size from ⟨h.m0.lt, h.m1.lt, h.m2.lt⟩)
  have h7 : StrsAt w (.slice A7 m7 c7) p.se := by
    obtain ⟨_, _, _, _, _, _, _, _, _, hv, _, _, _, _, _, _, h7, _⟩ := hp
    injection hv with hv
    injection hv with hv
    simp only [List.cons.injEq] at hv
    obtain ⟨_, _, _, _, _, _, _, _, _, _, e7, _⟩ := hv
    rw [e7]
    exact h7
  have h9 : FieldsAt w (.slice A9 m9 c9) p.fi := by
    obtain ⟨_, _, _, _, _, _, _, _, _, hv, _, _, _, _, _, _, _, _, h9, _⟩ := hp
    injection hv with hv
    injection hv with hv
    simp only [List.cons.injEq] at hv
    obtain ⟨_, _, _, _, _, _, _, _, _, _, _, _, e9, _⟩ := hv
    rw [e9]
    exact h9
  have H7 := Lib.hid h7
  have H9 := Lib.hid h9
  have hmm := @run_makeMap Tryz.prog
  -- the two boxes
  have hb1 := below_alloc w (.cells #[.string p.n, .int .i64 p.e, .string p.u, .string p.r, .slice A1 m1 c1, .slice A2 m2 c2, .slice A3 m3 c3, .slice A4 m4 c4, .slice A5 m5 c5, .slice A6 m6 c6, .slice A7 m7 c7, .slice A8 m8 c8, .slice A9 m9 c9] 43)
  have hx1 := blk_new 43 w #[.string p.n, .int .i64 p.e, .string p.u, .string p.r, .slice A1 m1 c1, .slice A2 m2 c2, .slice A3 m3 c3, .slice A4 m4 c4, .slice A5 m5 c5, .slice A6 m6 c6, .slice A7 m7 c7, .slice A8 m8 c8, .slice A9 m9 c9]
  obtain ⟨W1, hW1⟩ : ∃ W, w.alloc (.cells #[.string p.n, .int .i64 p.e, .string p.u, .string p.r, .slice A1 m1 c1, .slice A2 m2 c2, .slice A3 m3 c3, .slice A4 m4 c4, .slice A5 m5 c5, .slice A6 m6 c6, .slice A7 m7 c7, .slice A8 m8 c8, .slice A9 m9 c9] 43) = W := ⟨_, rfl⟩
  rw [hW1] at hb1 hx1
  have hs1 : W1.heap.size = w.heap.size + 1 := by rw [← hW1]; exact World.size_alloc _ _
  have hb2 := below_alloc W1 (.cells #[.int .i64 0, .int .i64 0] 54)
  have hx2 := blk_new 54 W1 #[.int .i64 0, .int .i64 0]
  obtain ⟨W2, hW2⟩ : ∃ W, W1.alloc (.cells #[.int .i64 0, .int .i64 0] 54) = W := ⟨_, rfl⟩
  rw [hW2] at hb2 hx2
  rw [hs1] at hx2
  have HX2 := Lib.hid (hx1.keep hb2)
  have HR2 := Lib.hid hx2
  have HB2 := Lib.hid (hb1.trans (hb2.mono hb1.size))
  have q0 : W2.cell? ⟨w.heap.size, 0, none⟩ = some (.string p.n) := HX2.out.cell rfl
  have q1 : W2.cell? ⟨w.heap.size, 1, none⟩ = some (.int .i64 p.e) := HX2.out.cell rfl
  have q2 : W2.cell? ⟨w.heap.size, 2, none⟩ = some (.string p.u) := HX2.out.cell rfl
  have q3 : W2.cell? ⟨w.heap.size, 3, none⟩ = some (.string p.r) := HX2.out.cell rfl
  have q4 : W2.cell? ⟨w.heap.size, 4, none⟩ = some (.slice A1 m1 c1) := HX2.out.cell rfl
  have q5 : W2.cell? ⟨w.heap.size, 5, none⟩ = some (.slice A2 m2 c2) := HX2.out.cell rfl
  have q6 : W2.cell? ⟨w.heap.size, 6, none⟩ = some (.slice A3 m3 c3) := HX2.out.cell rfl
  have q7 : W2.cell? ⟨w.heap.size, 7, none⟩ = some (.slice A4 m4 c4) := HX2.out.cell rfl
  have q8 : W2.cell? ⟨w.heap.size, 8, none⟩ = some (.slice A5 m5 c5) := HX2.out.cell rfl
  have q9 : W2.cell? ⟨w.heap.size, 9, none⟩ = some (.slice A6 m6 c6) := HX2.out.cell rfl
  have q10 : W2.cell? ⟨w.heap.size, 10, none⟩ = some (.slice A7 m7 c7) := HX2.out.cell rfl
  have q11 : W2.cell? ⟨w.heap.size, 11, none⟩ = some (.slice A8 m8 c8) := HX2.out.cell rfl
  have q12 : W2.cell? ⟨w.heap.size, 12, none⟩ = some (.slice A9 m9 c9) := HX2.out.cell rfl
  clear hE hF h hp hpf hz hzv hz0 hown C h7 h9 hA hna hai hb1 hx1 hb2 hx2
  go_enter Tryz.func13, Tryz.ntmps13
  go_upto_region 1 with fail
  (try rw [hW1]); (try rw [hs1]); (try rw [hW2])
  clear hW1 hW2 hs1
  obtain ⟨x8, hx8⟩ : ∃ x, w.heap.size + 1 = x := ⟨_, rfl⟩
  have HX8 := Lib.hid hx8
  rw [hx8] at HR2 ⊢
  clear hx8
  go_wp2_with fail
  refine (refArc_calls _ p W2 (HE.out.below HB2.out) (HP.out.below HB2.out) HPF.out (fun f hf => Nat.le_trans (HZ.out f hf) (by omega))).mono ?_
  rintro E w3 ⟨rfl, hb3⟩
  have HB3 := Lib.hid (HB2.out.trans (hb3.mono HB2.out.size))
  have HX3 := Lib.hid (HX2.out.keep hb3)
  have HR3 := Lib.hid (HR2.out.keep hb3)
  clear hb3 HB2 HX2 HR2 q0 q1 q2 q3 q4 q5 q6 q7 q8 q9 q10 q11 q12
  have HLR := Lib.hid (show r < w.heap.size from H.out.bx.lt)
  cases hab : archB p with
  | false =>
    have HAB := Lib.hid hab
    clear hab
    go_wp2_with fail
    refine (bareFault_calls 1 w3).mono ?_
    rintro E w4 ⟨rfl, hb4⟩
    have HR4 := Lib.hid (HR3.out.keep hb4)
    have HB4 := Lib.hid (HB3.out.trans (hb4.mono HB3.out.size))
    have HZ4 := Lib.hid (set_row HR4.out #[.int .i64 1, .int .i64 (-1)])
    have HBB := Lib.hid (HZ4.out.2 _ _ HB4.out (show w.heap.size ≤ x8 by have := HX8.out; omega))
    clear hb4 HX3 HR3 HB3
    go_wp2_with (refine wpList_store_row rfl 54 _ _ rfl x8 #[.int .i64 1, .int .i64 (-1)] rfl rfl 54 _ HR4.out (by kernel_rfl) rfl (by simp [Value.oneCell']) ?_)
    have z0 : (w4.setRow x8 #[.int .i64 1, .int .i64 (-1)]).cell? ⟨x8, 0, none⟩ = some (.int .i64 1) := HZ4.out.1.cell rfl
    have z1 : (w4.setRow x8 #[.int .i64 1, .int .i64 (-1)]).cell? ⟨x8, 1, none⟩ = some (.int .i64 (-1)) := HZ4.out.1.cell rfl
    (try simp only [Exit.inBlock, Exit.then])
    refine bodyPost_ret (v := .agg #[.int .i64 1, .int .i64 (-1)]) (by simp [results, Tryz.results13, go_sem, z0, z1]) rfl ?_
    exact ⟨.of HBB.out, .inl ⟨HAB.out, rfl, H.out.far HBB.out HLR.out HLB.out.1 HLB.out.2.1 HLB.out.2.2⟩⟩
  | true =>
    have HAB := Lib.hid hab
    clear hab
    have HLEN := Lib.hid (arch_len HAB.out)
    have HSH3 := Lib.hid (H.out.keep HB3.out)
    have HCL := Lib.hid (rclash_calls r b0 b1 b2 cq Wm Dm Sm own p tk (.slice A1 m1 c1) (.slice A2 m2 c2) (.slice A3 m3 c3) (.slice A4 m4 c4) (.slice A5 m5 c5) (.slice A6 m6 c6) (.slice A7 m7 c7) (.slice A8 m8 c8) (.slice A9 m9 c9) w3 HSH3.out HOWN.out hl HZ0.out (H9.out.below HB3.out) HZ.out (fun W s hb => HC.out W s (HB3.out.trans (hb.mono HB3.out.size))))
    obtain ⟨ci, hci⟩ : ∃ c, (clashR Wm own p.n tk p.fi).1 = c := ⟨_, rfl⟩
    obtain ⟨cn, hcn⟩ : ∃ c, (clashR Wm own p.n tk p.fi).2 = c := ⟨_, rfl⟩
    rw [hci, hcn] at HCL
    have HCI := Lib.hid hci
    clear hci hcn
    have q0 : w3.cell? ⟨w.heap.size, 0, none⟩ = some (.string p.n) := HX3.out.cell rfl
    have q1 : w3.cell? ⟨w.heap.size, 1, none⟩ = some (.int .i64 p.e) := HX3.out.cell rfl
    have q2 : w3.cell? ⟨w.heap.size, 2, none⟩ = some (.string p.u) := HX3.out.cell rfl
    have q3 : w3.cell? ⟨w.heap.size, 3, none⟩ = some (.string p.r) := HX3.out.cell rfl
    have q4 : w3.cell? ⟨w.heap.size, 4, none⟩ = some (.slice A1 m1 c1) := HX3.out.cell rfl
    have q5 : w3.cell? ⟨w.heap.size, 5, none⟩ = some (.slice A2 m2 c2) := HX3.out.cell rfl
    have q6 : w3.cell? ⟨w.heap.size, 6, none⟩ = some (.slice A3 m3 c3) := HX3.out.cell rfl
    have q7 : w3.cell? ⟨w.heap.size, 7, none⟩ = some (.slice A4 m4 c4) := HX3.out.cell rfl
    have q8 : w3.cell? ⟨w.heap.size, 8, none⟩ = some (.slice A5 m5 c5) := HX3.out.cell rfl
    have q9 : w3.cell? ⟨w.heap.size, 9, none⟩ = some (.slice A6 m6 c6) := HX3.out.cell rfl
    have q10 : w3.cell? ⟨w.heap.size, 10, none⟩ = some (.slice A7 m7 c7) := HX3.out.cell rfl
    have q11 : w3.cell? ⟨w.heap.size, 11, none⟩ = some (.slice A8 m8 c8) := HX3.out.cell rfl
    have q12 : w3.cell? ⟨w.heap.size, 12, none⟩ = some (.slice A9 m9 c9) := HX3.out.cell rfl
    go_wp2_with fail
    refine HCL.out.mono ?_
    rintro E w4 ⟨rfl, hb4⟩
    have HB4 := Lib.hid (HB3.out.trans (hb4.mono HB3.out.size))
    have HX4 := Lib.hid (HX3.out.keep hb4)
    have HR4 := Lib.hid (HR3.out.keep hb4)
    clear hb4 HX3 HR3 HB3 HSH3 HCL q0 q1 q2 q3 q4 q5 q6 q7 q8 q9 q10 q11 q12
    by_cases hc0 : 0 ≤ ci
    · have HZ4 := Lib.hid (set_row HR4.out #[.int .i64 9, .int .i64 ci])
      have HBB := Lib.hid (HZ4.out.2 _ _ HB4.out (show w.heap.size ≤ x8 by have := HX8.out; omega))
      have hd0 : decide (0 ≤ ci) = true := decide_eq_true hc0
      go_wp2_with (refine wpList_store_row rfl 54 _ _ rfl x8 #[.int .i64 9, .int .i64 ci] rfl rfl 54 _ HR4.out (by kernel_rfl) rfl (by simp [Value.oneCell']) ?_)
      have z0 : (w4.setRow x8 #[.int .i64 9, .int .i64 ci]).cell? ⟨x8, 0, none⟩ = some (.int .i64 9) := HZ4.out.1.cell rfl
      have z1 : (w4.setRow x8 #[.int .i64 9, .int .i64 ci]).cell? ⟨x8, 1, none⟩ = some (.int .i64 ci) := HZ4.out.1.cell rfl
      (try simp only [Exit.inBlock, Exit.then])
      refine bodyPost_ret (v := .agg #[.int .i64 9, .int .i64 ci]) (by simp [results, Tryz.results13, go_sem, z0, z1]) rfl ?_
      exact ⟨.of HBB.out, .inr (.inl ⟨HAB.out, by rw [HCI.out]; exact hc0, by rw [HCI.out], H.out.far HBB.out HLR.out HLB.out.1 HLB.out.2.1 HLB.out.2.2⟩)⟩
    · have HNC := Lib.hid hc0
      have hd0 : decide (0 ≤ ci) = false := decide_eq_false hc0
      have hbm := below_alloc w4 (.map #[] 0)
      have HSN := Lib.hid (setAt_new w4)
      obtain ⟨W0, hW0⟩ : ∃ W, w4.alloc (.map #[] 0) = W := ⟨_, rfl⟩
      rw [hW0] at hbm HSN
      obtain ⟨bm, hbme⟩ : ∃ b, w4.heap.size = b := ⟨_, rfl⟩
      have HST := Lib.hid (show RPutSt w W0 r b0 b1 b2 bm x8 Wm Dm Sm 0 [] W0 from ⟨H.out.keep (HB4.out.trans (hbm.mono HB4.out.size)), hbme ▸ HSN.out, HR4.out.keep hbm, fun _ _ h => h, .of (HB4.out.trans (hbm.mono HB4.out.size)), by have := HB4.out.size; omega, HLB.out, Nat.le_refl _⟩)
      have HB0 := Lib.hid (HB4.out.trans (hbm.mono HB4.out.size))
      have HX0 := Lib.hid (HX4.out.keep hbm)
      have z7 : W0.cell? ⟨w.heap.size, 10, none⟩ = some (.slice A7 m7 c7) := HX0.out.cell rfl
      have z9 : W0.cell? ⟨w.heap.size, 12, none⟩ = some (.slice A9 m9 c9) := HX0.out.cell rfl
      have H70 := Lib.hid (H7.out.below HB0.out)
      have H90 := Lib.hid (H9.out.below HB0.out)
      have HA0 := Lib.hid (rbools_keep HA.out HB0.out)
      obtain ⟨pn, pe, pu, pr, dep, ahd, ag, br, re, prr, se, li, fi⟩ := p
      (try simp only [] at *)
      (try dsimp only at *)
      obtain ⟨A7', c7', hv7, _, hi7⟩ := strs_at H70.out
      injection hv7 with e1 e2 e3
      subst e1 e3
      have HI7 := Lib.hid hi7
      have HM7 := Lib.hid e2
      obtain ⟨A9', c9', hv9, _, _, _⟩ := H90.out.open
      injection hv9 with e4 e5 e6
      subst e4 e6
      have HM9 := Lib.hid e5
      have hm7b : m7 ≤ 1000000 := by have := HM7.out; (try dsimp only at *); omega
      have hm9b : m9 ≤ 20 := by have := HLEN.out; have := HM9.out; (try dsimp only at *); omega
      clear hbm HSN HX4 HR4 hc0 hi7 e2 e5
      go_wp2_with fail
      (try rw [hW0])
      (try rw [hbme])
      clear hW0 hbme hd0
      have HDL := Lib.hid (And.intro hlD hlS)
      go_loopw [3, 43] (fun v3 i wr => ∃ (k : Nat) (a' : List Bool) (D1 S1 : Fm), k ≤ m9 ∧ i = .int .i64 k ∧ Hid (rputL se fi a Dm Sm = rputL se (fi.drop k) a' D1 S1) ∧ Hid (D1.length ≤ Dm.length + k ∧ S1.length ≤ Sm.length + k) ∧ Hid (RPutSt w W0 r b0 b1 b2 bm x8 Wm D1 S1 k ((fi.take k).map (·.n)) wr) ∧ Hid (BoolsAt W0 v3 a')) (fun _ i _ => m9 - (intOf i).toNat)
      case atStart => exact ⟨0, a, Dm, Sm, Nat.zero_le _, rfl, Lib.hid rfl, Lib.hid ⟨Nat.le_refl _, Nat.le_refl _⟩, HST, HA0⟩
      case round =>
        obtain ⟨k, a', D1, S1, hk, rfl, hT, hLL, hst, hba⟩ := hrel
        by_cases hlt : k < m9
        · obtain ⟨f, hf⟩ : ∃ f, fi[k]? = some f := ⟨fi[k]'(by have := HM9.out; (try dsimp only at *); omega), List.getElem?_eq_getElem _⟩
          obtain ⟨Aq, cq', hvq, _, _, hiq⟩ := (hst.out.files H90.out).open
          injection hvq with e1 e2 e3
          subst e1 e3
          clear e2
          obtain ⟨bq, oq, rfl, hcq⟩ := hiq (fun e => by rw [e] at hf; simp at hf)
          obtain ⟨p0, p1⟩ := hcq k f hf
          have HFT := Lib.hid hf
          have hfz := HZ.out f (List.mem_of_getElem? hf)
          have hfvz := HZV.out f (List.mem_of_getElem? hf)
          obtain ⟨fn, fv⟩ := f
          simp only at p0 p1 hfz hfvz
          have hnm := names_take hf
          have HNM := Lib.hid hnm
          have hfnx : fn.size ≤ maxLen := by unfold maxLen; omega
          have hfvx : fv.size ≤ maxLen := by unfold maxLen; omega
          have i1 : (k : Int) < m9 := by omega
          have i2 : (0 : Int) ≤ k := by omega
          have hbf := below_alloc wr (.cells #[.string fn, .string fv] 72)
          have hxf0 := blk_new 72 wr #[.string fn, .string fv]
          obtain ⟨Wa, hWa⟩ : ∃ W, wr.alloc (.cells #[.string fn, .string fv] 72) = W := ⟨_, rfl⟩
          obtain ⟨xf, hxf⟩ : ∃ x, wr.heap.size = x := ⟨_, rfl⟩
          rw [hWa] at hbf hxf0
          rw [hxf] at hxf0
          have HSA := Lib.hid (hst.out.below hbf)
          obtain ⟨cm, Wb, hcm, hlook, hrun, hset, htm⟩ := HSA.out.mine.add fn hfnx (by unfold maxLen; omega) (by rw [List.length_map, List.length_take]; omega)
          have HSB := Lib.hid (HSA.out.turnM htm hset)
          have f0 : Wa.cell? ⟨xf, 0, none⟩ = some (.string fn) := hxf0.cell rfl
          have f1 : Wa.cell? ⟨xf, 1, none⟩ = some (.string fv) := hxf0.cell rfl
          have HF0 := Lib.hid (set_cell HSA.out.mine htm f0)
          have HF1 := Lib.hid (set_cell HSA.out.mine htm f1)
          have y7 := HSB.out.ce _ _ z7
          have hcmb : cm ≤ 1000000 := by rw [List.length_map, List.length_take] at hcm; omega
          clear hf hiq hcq hbf hxf0 htm hset hcm hst
          go_upto_region 12 with fail
          clear hWa hxf p0 p1 f1
          go_wp2_with fail
          clear y7 f0 hlook hrun
          go_loopw [14, 55] (fun v14 i wq => ∃ (j : Nat) (b : Bool), j ≤ m7 ∧ i = .int .i64 j ∧ v14 = .bool b ∧ Hid (b = hasB (se.take j) fn) ∧ wq = Wb) (fun _ i _ => m7 - (intOf i).toNat)
          case atStart => exact ⟨0, false, Nat.zero_le _, rfl, rfl, Lib.hid rfl, rfl⟩
          case round =>
            obtain ⟨j, b, hj, rfl, rfl, hb, hwq⟩ := hrel
            subst hwq
            by_cases hjl : j < m7
            · obtain ⟨q, hq⟩ : ∃ q, se[j]? = some q := ⟨se[j]'(by have := HM7.out; (try dsimp only at *); omega), List.getElem?_eq_getElem _⟩
              obtain ⟨b7, o7, rfl, hc7q⟩ := HI7.out j q hq
              have q1 := HSB.out.ce _ _ hc7q
              have f0 := HF0.out
              have HQT := Lib.hid (hasB_take (x := fn) hq)
              have j1 : (j : Int) < m7 := by omega
              have j2 : (0 : Int) ≤ j := by omega
              obtain ⟨bb, hbb⟩ : ∃ bb, decide (q = fn) = bb := ⟨_, rfl⟩
              have hqf : (q.toList == fn.toList) = bb := by rw [← hbb]; exact name_eq q fn
              have HBB := Lib.hid hbb
              clear hq hc7q hbb
              cases b with
              | true =>
                go_wp2_with fail
                go_roundw
                case rel => first | exact ⟨j + 1, true, by omega, by go_num, rfl, Lib.hid (by rw [HQT.out, ← hb.out]; first | rfl | done), (by first | trivial | rfl)⟩ | ((repeat apply Exists.intro); exact ⟨⟨j + 1, true, by omega, by go_num, rfl, Lib.hid (by rw [HQT.out, ← hb.out]; first | rfl | done), (by first | trivial | rfl)⟩, rfl⟩)
                case measure => simp [intOf]; omega
              | false =>
                go_wp2_with fail
                go_roundw
                case rel => first | exact ⟨j + 1, bb, by omega, by go_num, rfl, Lib.hid (by rw [HQT.out, ← hb.out, HBB.out]; first | rfl | done), (by first | trivial | rfl)⟩ | ((repeat apply Exists.intro); exact ⟨⟨j + 1, bb, by omega, by go_num, rfl, Lib.hid (by rw [HQT.out, ← hb.out, HBB.out]; first | rfl | done), (by first | trivial | rfl)⟩, rfl⟩)
                case measure => simp [intOf]; omega
            · obtain rfl : j = m7 := by omega
              have HHB := Lib.hid (show hasB se fn = b from by rw [hb.out, List.take_of_length_le (by have := HM7.out; (try dsimp only at *); omega)])
              have ⟨wb, hwb⟩ : ∃ W, W = wr := ⟨_, rfl⟩
              subst hwb
              clear hb hjl
              have hdl : D1.length ≤ 1000100 := by have := hLL.out.1; have := HDL.out.1; omega
              have hsl : S1.length ≤ 1000100 := by have := hLL.out.2; have := HDL.out.2; omega
              cases b with
              | false =>
                obtain ⟨X2, hrun2, hm2, ht2⟩ := (HSB.out.below (below_drew wb)).sh.m1.store fn fv hfnx hfvx (by unfold maxLen; omega)
                have HS2 := Lib.hid ((HSB.out.below (below_drew wb)).turn1 ht2 hm2)
                obtain ⟨X3, hrun3, hm3, ht3⟩ := (HS2.out.below (below_drew X2)).sh.m2.drop fn hfnx 0
                have HS3 := Lib.hid ((HS2.out.below (below_drew X2)).turn2 ht3 hm3)
                have HC2 := Lib.hid (fun (a : Addr) (u : Value) (h : wb.cell? a = some u) => map_cell (HSB.out.below (below_drew wb)).sh.m1 ht2 (kept (below_drew wb) h))
                have HC3 := Lib.hid (fun (a : Addr) (u : Value) (h : X2.cell? a = some u) => map_cell (HS2.out.below (below_drew X2)).sh.m2 ht3 (kept (below_drew X2) h))
                have f0 := HF0.out
                have f1 := HF1.out
                have c1' := HSB.out.sh.c1
                have c2' := HS2.out.sh.c2
                have g0 := HC2.out _ _ f0
                clear hm2 ht2 hm3 ht3
                go_upto_region 18 with fail
                refine wp_region_held_drew (S := (fun W => W.cell? ⟨r, 1, none⟩ = some (.map (some b1)) ∧ W.cell? ⟨xf, 0, none⟩ = some (.string fn) ∧ W.cell? ⟨xf, 1, none⟩ = some (.string fv))) (by kernel_rfl) ?_ (fun hHeld => ?_)
                · exact ⟨kept (below_drew _) c1', kept (below_drew _) f0, kept (below_drew _) f1⟩
                refine wpAnyH_take (i := 0) (v := ?_) rfl (by kernel_rfl) (by kernel_rfl) (by kernel_rfl) (fun _ _ _ h => h) (Or.inl ⟨by rfl, ?_⟩) (by assumption) ?_
                rotate_left
                · (intro w hSw; (try dsimp only at hSw); go_simp; (try with_reducible rfl))
                (try simp only [List.getElem_toArray, List.getElem_cons_zero, Act.put, List.setIfInBounds_toArray, List.set_cons_zero, List.set_cons_succ])
                refine wpAnyH_take (i := 1) (v := ?_) rfl (by kernel_rfl) (by kernel_rfl) (by kernel_rfl) (fun _ _ _ h => h) (Or.inl ⟨by rfl, ?_⟩) (by assumption) ?_
                rotate_left
                · (intro w hSw; (try dsimp only at hSw); go_simp; (try with_reducible rfl))
                (try simp only [List.getElem_toArray, List.getElem_cons_succ, List.getElem_cons_zero, Act.put, List.setIfInBounds_toArray, List.set_cons_zero, List.set_cons_succ])
                refine wpAnyH_take (i := 2) (v := ?_) rfl (by kernel_rfl) (by kernel_rfl) (by kernel_rfl) (fun _ _ _ h => h) (Or.inl ⟨by rfl, ?_⟩) (by assumption) ?_
                rotate_left
                · (intro w hSw; (try dsimp only at hSw); go_simp; (try with_reducible rfl))
                (try simp only [List.getElem_toArray, List.getElem_cons_succ, List.getElem_cons_zero, Act.put, List.setIfInBounds_toArray, List.set_cons_zero, List.set_cons_succ])
                refine wpAnyH_take (i := 3) (v := ?_) rfl (by kernel_rfl) (by kernel_rfl) (by kernel_rfl) (fun _ _ _ h => h) (Or.inl ⟨by rfl, ?_⟩) (by assumption) ?_
                rotate_left
                · (intro w hSw; (try dsimp only at hSw); go_simp; (try with_reducible rfl))
                (try simp only [List.getElem_toArray, List.getElem_cons_succ, List.getElem_cons_zero, Act.put, List.setIfInBounds_toArray, List.set_cons_zero, List.set_cons_succ])
                refine wpAnyH_take (i := 4) (v := ?_) rfl (by kernel_rfl) (by kernel_rfl) (by kernel_rfl) (fun _ _ _ h => h) (Or.inl ⟨by rfl, ?_⟩) (by assumption) ?_
                rotate_left
                · (intro w hSw; (try dsimp only at hSw); go_simp; (try with_reducible rfl))
                (try simp only [List.getElem_toArray, List.getElem_cons_succ, List.getElem_cons_zero, Act.put, List.setIfInBounds_toArray, List.set_cons_zero, List.set_cons_succ])
                refine wpAnyH_take (i := 5) (v := ?_) rfl (by kernel_rfl) (by kernel_rfl) (by kernel_rfl) (fun _ _ _ h => h) (Or.inl ⟨by rfl, ?_⟩) (by assumption) ?_
                rotate_left
                · (intro w hSw; (try dsimp only at hSw); go_simp; (try with_reducible rfl))
                (try simp only [List.getElem_toArray, List.getElem_cons_succ, List.getElem_cons_zero, Act.put, List.setIfInBounds_toArray, List.set_cons_zero, List.set_cons_succ])
                refine wpAnyH_take (i := 6) (v := ?_) rfl (by kernel_rfl) (by kernel_rfl) (by kernel_rfl) (fun _ _ _ h => h) (Or.inl ⟨by rfl, ?_⟩) (by assumption) ?_
                rotate_left
                · (intro w hSw; (try dsimp only at hSw); go_simp; (try with_reducible rfl))
                (try simp only [List.getElem_toArray, List.getElem_cons_succ, List.getElem_cons_zero, Act.put, List.setIfInBounds_toArray, List.set_cons_zero, List.set_cons_succ])
                refine wpAnyH_take (i := 7) (v := ?_) rfl (by kernel_rfl) (by kernel_rfl) (by kernel_rfl) (fun _ _ _ h => h) (Or.inl ⟨by rfl, ?_⟩) (by assumption) ?_
                rotate_left
                · (intro w hSw; (try dsimp only at hSw); go_simp; (try with_reducible rfl))
                (try simp only [List.getElem_toArray, List.getElem_cons_succ, List.getElem_cons_zero, Act.put, List.setIfInBounds_toArray, List.set_cons_zero, List.set_cons_succ])
                refine wpAnyH_ready (rs := [8]) (by kernel_rfl) (by simp) ?_
                refine AllReadyH.cons rfl (fun K hK => ?_) AllReadyH.nil
                go_simp
                (try go_wp2_with fail)
                refine hK.out _ _ ?_ (fun hHeld2 => ?_)
                · exact ⟨HC2.out _ _ c1', HC2.out _ _ f0, HC2.out _ _ f1⟩
                clear hK K hHeld
                have hHeld := hHeld2
                clear hHeld2
                (try simp only [List.getElem_toArray, List.getElem_cons_succ, List.getElem_cons_zero, Act.put, List.setIfInBounds_toArray, List.set_cons_zero, List.set_cons_succ])
                refine wpAnyH_done (by kernel_rfl) ?_ _
                clear hHeld c1' f0 f1 hrun2
                go_upto_region 19 with fail
                refine wp_region_held_drew (S := (fun W => W.cell? ⟨r, 2, none⟩ = some (.map (some b2)) ∧ W.cell? ⟨xf, 0, none⟩ = some (.string fn))) (by kernel_rfl) ?_ (fun hHeld => ?_)
                · exact ⟨kept (below_drew _) c2', kept (below_drew _) g0⟩
                refine wpAnyH_take (i := 0) (v := ?_) rfl (by kernel_rfl) (by kernel_rfl) (by kernel_rfl) (fun _ _ _ h => h) (Or.inl ⟨by rfl, ?_⟩) (by assumption) ?_
                rotate_left
                · (intro w hSw; (try dsimp only at hSw); go_simp; (try with_reducible rfl))
                (try simp only [List.getElem_toArray, List.getElem_cons_zero, Act.put, List.setIfInBounds_toArray, List.set_cons_zero, List.set_cons_succ])
                refine wpAnyH_take (i := 1) (v := ?_) rfl (by kernel_rfl) (by kernel_rfl) (by kernel_rfl) (fun _ _ _ h => h) (Or.inl ⟨by rfl, ?_⟩) (by assumption) ?_
                rotate_left
                · (intro w hSw; (try dsimp only at hSw); go_simp; (try with_reducible rfl))
                (try simp only [List.getElem_toArray, List.getElem_cons_succ, List.getElem_cons_zero, Act.put, List.setIfInBounds_toArray, List.set_cons_zero, List.set_cons_succ])
                refine wpAnyH_take (i := 2) (v := ?_) rfl (by kernel_rfl) (by kernel_rfl) (by kernel_rfl) (fun _ _ _ h => h) (Or.inl ⟨by rfl, ?_⟩) (by assumption) ?_
                rotate_left
                · (intro w hSw; (try dsimp only at hSw); go_simp; (try with_reducible rfl))
                (try simp only [List.getElem_toArray, List.getElem_cons_succ, List.getElem_cons_zero, Act.put, List.setIfInBounds_toArray, List.set_cons_zero, List.set_cons_succ])
                refine wpAnyH_take (i := 3) (v := ?_) rfl (by kernel_rfl) (by kernel_rfl) (by kernel_rfl) (fun _ _ _ h => h) (Or.inl ⟨by rfl, ?_⟩) (by assumption) ?_
                rotate_left
                · (intro w hSw; (try dsimp only at hSw); go_simp; (try with_reducible rfl))
                (try simp only [List.getElem_toArray, List.getElem_cons_succ, List.getElem_cons_zero, Act.put, List.setIfInBounds_toArray, List.set_cons_zero, List.set_cons_succ])
                refine wpAnyH_take (i := 4) (v := ?_) rfl (by kernel_rfl) (by kernel_rfl) (by kernel_rfl) (fun _ _ _ h => h) (Or.inl ⟨by rfl, ?_⟩) (by assumption) ?_
                rotate_left
                · (intro w hSw; (try dsimp only at hSw); go_simp; (try with_reducible rfl))
                (try simp only [List.getElem_toArray, List.getElem_cons_succ, List.getElem_cons_zero, Act.put, List.setIfInBounds_toArray, List.set_cons_zero, List.set_cons_succ])
                refine wpAnyH_take (i := 5) (v := ?_) rfl (by kernel_rfl) (by kernel_rfl) (by kernel_rfl) (fun _ _ _ h => h) (Or.inl ⟨by rfl, ?_⟩) (by assumption) ?_
                rotate_left
                · (intro w hSw; (try dsimp only at hSw); go_simp; (try with_reducible rfl))
                (try simp only [List.getElem_toArray, List.getElem_cons_succ, List.getElem_cons_zero, Act.put, List.setIfInBounds_toArray, List.set_cons_zero, List.set_cons_succ])
                refine wpAnyH_ready (rs := [6]) (by kernel_rfl) (by simp) ?_
                refine AllReadyH.cons rfl (fun K hK => ?_) AllReadyH.nil
                go_simp
                (try go_wp2_with fail)
                refine hK.out _ _ ?_ (fun hHeld2 => ?_)
                · exact ⟨HC3.out _ _ c2', HC3.out _ _ g0⟩
                clear hK K hHeld
                have hHeld := hHeld2
                clear hHeld2
                (try simp only [List.getElem_toArray, List.getElem_cons_succ, List.getElem_cons_zero, Act.put, List.setIfInBounds_toArray, List.set_cons_zero, List.set_cons_succ])
                refine wpAnyH_done (by kernel_rfl) ?_ _
                clear hHeld c2' g0 hrun3
                have HT' := Lib.hid (hT.out.trans (rputL_no HFT.out HHB.out a' D1 S1))
                have HSN := Lib.hid (show RPutSt w W0 r b0 b1 b2 bm x8 Wm (putF D1 fn fv) (delF S1 fn) (k + 1) ((fi.take (k + 1)).map (·.n)) X3 from by rw [HNM.out]; exact HS3.out)
                have HL' := Lib.hid (show (putF D1 fn fv).length ≤ Dm.length + (k + 1) ∧ (delF S1 fn).length ≤ Sm.length + (k + 1) from ⟨by have := len_put_le D1 fn fv; have := hLL.out.1; omega, by have := len_del_le S1 fn; have := hLL.out.2; omega⟩)
                go_wp2_with fail
                go_roundw
                case rel => first | exact ⟨k + 1, a', _, _, by omega, by go_num, HT', HL', HSN, hba⟩ | ((repeat apply Exists.intro); exact ⟨⟨k + 1, a', _, _, by omega, by go_num, HT', HL', HSN, hba⟩, rfl⟩)
                case measure => simp [intOf]; omega
              | true =>
                obtain ⟨A3, k3, rfl, hk3, hm3, hr3⟩ := id hba.out
                obtain ⟨n3, hn3⟩ : ∃ x, a'.length = x := ⟨_, rfl⟩
                rw [hn3] at hba hk3
                (try rw [hn3])
                have HN3 := Lib.hid hn3
                have HR3 := Lib.hid hr3
                have HBA3 := hba
                have hbd := below_alloc wb (.cells #[.string fv] 9)
                have hxd0 := blk_new 9 wb #[.string fv]
                have f0 := HF0.out
                have f1 := HF1.out
                obtain ⟨Wc, hWc⟩ : ∃ W, wb.alloc (.cells #[.string fv] 9) = W := ⟨_, rfl⟩
                obtain ⟨xd, hxd⟩ : ∃ x, wb.heap.size = x := ⟨_, rfl⟩
                rw [hWc] at hbd hxd0
                rw [hxd] at hxd0
                have HSC := Lib.hid (HSB.out.below hbd)
                have g0 : Wc.cell? ⟨xf, 0, none⟩ = some (.string fn) := kept hbd f0
                have d0 : Wc.cell? ⟨xd, 0, none⟩ = some (.string fv) := hxd0.cell rfl
                have k1' := HSC.out.sh.c1
                have k2' := HSC.out.sh.c2
                obtain ⟨cc, hcc⟩ : ∃ c, choiceD (getF S1 fn) (getF D1 fn) fv = c := ⟨_, rfl⟩
                have HCC := Lib.hid hcc
                have CX := Lib.hid (fun (W : World) (vo vn : Value) (ho : PtrAt 0 W vo (getF S1 fn)) (hn : PtrAt 0 W vn (getF D1 fn)) (hx : W.cell? ⟨xd, 0, none⟩ = some (.string fv)) => rchoice_calls 0 (getF S1 fn) (getF D1 fn) fv vo vn (.pointer (some ⟨xd, 0, none⟩)) W ho hn ⟨xd, rfl, Nat.zero_le _, hx⟩)
                rw [hcc] at CX
                clear hn3 hr3 hbd hxd0 hcc hba
                go_upto_region 21 with fail
                clear hWc hxd f0 f1
                refine wp_region_held_drew (S := (fun W => (W.cell? ⟨r, 1, none⟩ = some (.map (some b1)) ∧ W.cell? ⟨r, 2, none⟩ = some (.map (some b2)) ∧ W.cell? ⟨xf, 0, none⟩ = some (.string fn) ∧ W.cell? ⟨xd, 0, none⟩ = some (.string fv)) ∧ Below Wc.heap.size Wc W)) (by kernel_rfl) ?_ (fun hHeld => ?_)
                · have hb := below_drew Wc
                  exact ⟨⟨kept hb k1', kept hb k2', kept hb g0, kept hb d0⟩, hb⟩
                refine wpAnyH_take (i := 0) (v := ?_) rfl (by kernel_rfl) (by kernel_rfl) (by kernel_rfl) (fun _ _ _ h => h) (Or.inl ⟨by rfl, ?_⟩) (by assumption) ?_
                rotate_left
                · (intro w hSw; (try dsimp only at hSw); go_simp; (try with_reducible rfl))
                (try simp only [List.getElem_toArray, List.getElem_cons_zero, Act.put, List.setIfInBounds_toArray, List.set_cons_zero, List.set_cons_succ])
                refine wpAnyH_take (i := 1) (v := ?_) rfl (by kernel_rfl) (by kernel_rfl) (by kernel_rfl) (fun _ _ _ h => h) (Or.inl ⟨by rfl, ?_⟩) (by assumption) ?_
                rotate_left
                · (intro w hSw; (try dsimp only at hSw); go_simp; (try with_reducible rfl))
                (try simp only [List.getElem_toArray, List.getElem_cons_succ, List.getElem_cons_zero, Act.put, List.setIfInBounds_toArray, List.set_cons_zero, List.set_cons_succ])
                refine wpAnyH_take (i := 2) (v := ?_) rfl (by kernel_rfl) (by kernel_rfl) (by kernel_rfl) (fun _ _ _ h => h) (Or.inl ⟨by rfl, ?_⟩) (by assumption) ?_
                rotate_left
                · (intro w hSw; (try dsimp only at hSw); go_simp; (try with_reducible rfl))
                (try simp only [List.getElem_toArray, List.getElem_cons_succ, List.getElem_cons_zero, Act.put, List.setIfInBounds_toArray, List.set_cons_zero, List.set_cons_succ])
                refine wpAnyH_take (i := 3) (v := ?_) rfl (by kernel_rfl) (by kernel_rfl) (by kernel_rfl) (fun _ _ _ h => h) (Or.inl ⟨by rfl, ?_⟩) (by assumption) ?_
                rotate_left
                · (intro w hSw; (try dsimp only at hSw); go_simp; (try with_reducible rfl))
                (try simp only [List.getElem_toArray, List.getElem_cons_succ, List.getElem_cons_zero, Act.put, List.setIfInBounds_toArray, List.set_cons_zero, List.set_cons_succ])
                refine wpAnyH_take (i := 4) (v := ?_) rfl (by kernel_rfl) (by kernel_rfl) (by kernel_rfl) (fun _ _ _ h => h) (Or.inl ⟨by rfl, ?_⟩) (by assumption) ?_
                rotate_left
                · (intro w hSw; (try dsimp only at hSw); go_simp; (try with_reducible rfl))
                (try simp only [List.getElem_toArray, List.getElem_cons_succ, List.getElem_cons_zero, Act.put, List.setIfInBounds_toArray, List.set_cons_zero, List.set_cons_succ])
                refine wpAnyH_take (i := 5) (v := ?_) rfl (by kernel_rfl) (by kernel_rfl) (by kernel_rfl) (fun _ _ _ h => h) (Or.inl ⟨by rfl, ?_⟩) (by assumption) ?_
                rotate_left
                · (intro w hSw; (try dsimp only at hSw); go_simp; (try with_reducible rfl))
                (try simp only [List.getElem_toArray, List.getElem_cons_succ, List.getElem_cons_zero, Act.put, List.setIfInBounds_toArray, List.set_cons_zero, List.set_cons_succ])
                refine wpAnyH_take (i := 7) (v := ?_) rfl (by kernel_rfl) (by kernel_rfl) (by kernel_rfl) (fun _ _ _ h => h) (Or.inl ⟨by rfl, ?_⟩) (by assumption) ?_
                rotate_left
                · (intro w hSw; (try dsimp only at hSw); go_simp; (try with_reducible rfl))
                (try simp only [List.getElem_toArray, List.getElem_cons_succ, List.getElem_cons_zero, Act.put, List.setIfInBounds_toArray, List.set_cons_zero, List.set_cons_succ])
                refine wpAnyH_take (i := 8) (v := ?_) rfl (by kernel_rfl) (by kernel_rfl) (by kernel_rfl) (fun _ _ _ h => h) (Or.inl ⟨by rfl, ?_⟩) (by assumption) ?_
                rotate_left
                · (intro w hSw; (try dsimp only at hSw); go_simp; (try with_reducible rfl))
                (try simp only [List.getElem_toArray, List.getElem_cons_succ, List.getElem_cons_zero, Act.put, List.setIfInBounds_toArray, List.set_cons_zero, List.set_cons_succ])
                refine wpAnyH_take (i := 9) (v := ?_) rfl (by kernel_rfl) (by kernel_rfl) (by kernel_rfl) (fun _ _ _ h => h) (Or.inl ⟨by rfl, ?_⟩) (by assumption) ?_
                rotate_left
                · (intro w hSw; (try dsimp only at hSw); go_simp; (try with_reducible rfl))
                (try simp only [List.getElem_toArray, List.getElem_cons_succ, List.getElem_cons_zero, Act.put, List.setIfInBounds_toArray, List.set_cons_zero, List.set_cons_succ])
                refine wpAnyH_take (i := 10) (v := ?_) rfl (by kernel_rfl) (by kernel_rfl) (by kernel_rfl) (fun _ _ _ h => h) (Or.inl ⟨by rfl, ?_⟩) (by assumption) ?_
                rotate_left
                · (intro w hSw; (try dsimp only at hSw); go_simp; (try with_reducible rfl))
                (try simp only [List.getElem_toArray, List.getElem_cons_succ, List.getElem_cons_zero, Act.put, List.setIfInBounds_toArray, List.set_cons_zero, List.set_cons_succ])
                refine wpAnyH_take (i := 11) (v := ?_) rfl (by kernel_rfl) (by kernel_rfl) (by kernel_rfl) (fun _ _ _ h => h) (Or.inl ⟨by rfl, ?_⟩) (by assumption) ?_
                rotate_left
                · (intro w hSw; (try dsimp only at hSw); go_simp; (try with_reducible rfl))
                (try simp only [List.getElem_toArray, List.getElem_cons_succ, List.getElem_cons_zero, Act.put, List.setIfInBounds_toArray, List.set_cons_zero, List.set_cons_succ])
                refine wpAnyH_take (i := 12) (v := ?_) rfl (by kernel_rfl) (by kernel_rfl) (by kernel_rfl) (fun _ _ _ h => h) (Or.inl ⟨by rfl, ?_⟩) (by assumption) ?_
                rotate_left
                · (intro w hSw; (try dsimp only at hSw); go_simp; (try with_reducible rfl))
                (try simp only [List.getElem_toArray, List.getElem_cons_succ, List.getElem_cons_zero, Act.put, List.setIfInBounds_toArray, List.set_cons_zero, List.set_cons_succ])
                refine wpAnyH_ready (rs := [6]) (by kernel_rfl) (by simp) ?_
                refine AllReadyH.cons rfl (fun K hK => ?_) AllReadyH.nil
                go_simp
                go_at_call 40
                refine Calls.mono (rat_calls b2 S1 fn _ (HSC.out.below hHeld.2).sh.m2 hfnx) ?_
                rintro E y1 ⟨vy1, rfl, hpy1, hby1⟩
                (try go_wp2_with fail)
                refine hK.out _ _ ?_ (fun hHeld2 => ?_)
                · exact ⟨⟨kept hby1 hHeld.1.1, kept hby1 hHeld.1.2.1, kept hby1 hHeld.1.2.2.1, kept hby1 hHeld.1.2.2.2⟩, hHeld.2.trans (hby1.mono hHeld.2.size)⟩
                clear hK K hHeld
                have hHeld := hHeld2
                clear hHeld2
                (try simp only [List.getElem_toArray, List.getElem_cons_succ, List.getElem_cons_zero, Act.put, List.setIfInBounds_toArray, List.set_cons_zero, List.set_cons_succ])
                refine wpAnyH_ready (rs := [13]) (by kernel_rfl) (by simp) ?_
                refine AllReadyH.cons rfl (fun K hK => ?_) AllReadyH.nil
                go_simp
                go_at_call 40
                refine Calls.mono (rat_calls b1 D1 fn _ (HSC.out.below hHeld.2).sh.m1 hfnx) ?_
                rintro E y2 ⟨vy2, rfl, hpy2, hby2⟩
                (try go_wp2_with fail)
                refine hK.out _ _ ?_ (fun hHeld2 => ?_)
                · exact ⟨⟨kept hby2 hHeld.1.1, kept hby2 hHeld.1.2.1, kept hby2 hHeld.1.2.2.1, kept hby2 hHeld.1.2.2.2⟩, hHeld.2.trans (hby2.mono hHeld.2.size)⟩
                clear hK K hHeld
                have hHeld := hHeld2
                clear hHeld2
                (try simp only [List.getElem_toArray, List.getElem_cons_succ, List.getElem_cons_zero, Act.put, List.setIfInBounds_toArray, List.set_cons_zero, List.set_cons_succ])
                refine wpAnyH_ready (rs := [14]) (by kernel_rfl) (by simp) ?_
                refine AllReadyH.cons rfl (fun K hK => ?_) AllReadyH.nil
                go_simp
                go_at_call 39
                refine Calls.mono (CX.out _ _ _ ((ptr_low hpy1).below hby2) (ptr_low hpy2) hHeld.1.2.2.2) ?_
                rintro E y3 ⟨rfl, hby3⟩
                (try go_wp2_with fail)
                refine hK.out _ _ ?_ (fun hHeld2 => ?_)
                · exact ⟨⟨kept hby3 hHeld.1.1, kept hby3 hHeld.1.2.1, kept hby3 hHeld.1.2.2.1, kept hby3 hHeld.1.2.2.2⟩, hHeld.2.trans (hby3.mono hHeld.2.size)⟩
                clear hK K hHeld
                have hHeld := hHeld2
                clear hHeld2
                (try simp only [List.getElem_toArray, List.getElem_cons_succ, List.getElem_cons_zero, Act.put, List.setIfInBounds_toArray, List.set_cons_zero, List.set_cons_succ])
                refine wpAnyH_take (i := 15) (v := ?_) rfl (by kernel_rfl) (by kernel_rfl) (by kernel_rfl) (fun _ _ _ h => h) (Or.inl ⟨by rfl, ?_⟩) (by assumption) ?_
                rotate_left
                · (intro w hSw; (try dsimp only at hSw); go_simp; (try with_reducible rfl))
                (try simp only [List.getElem_toArray, List.getElem_cons_succ, List.getElem_cons_zero, Act.put, List.setIfInBounds_toArray, List.set_cons_zero, List.set_cons_succ])
                refine wpAnyH_done (by kernel_rfl) ?_ _
                have HSD := Lib.hid (HSC.out.below hHeld.2)
                have HXF := Lib.hid hHeld.1.2.2.1
                have HXD := Lib.hid hHeld.1.2.2.2
                clear hHeld k1' k2' g0 d0 hpy1 hpy2 hby1 hby2 hby3 CX
                obtain ⟨bb, hbb⟩ : ∃ b, (decide (cc = 2) && decide (0 < n3)) = b := ⟨_, rfl⟩
                have HBB := Lib.hid hbb
                go_upto_region 22 with fail
                go_cut [106] (fun v wx => v = .bool bb ∧ wx = y3)
                case first =>
                  by_cases h2 : cc = 2
                  · subst h2
                    by_cases h0 : 0 < n3
                    · have h0' : decide ((n3 : Int) > 0) = true := decide_eq_true (by omega)
                      rw [decide_eq_true h0] at hbb
                      subst hbb
                      clear HBB
                      go_wp2_with fail
                      go_meet
                      exact ⟨rfl, rfl⟩
                    · have h0' : decide ((n3 : Int) > 0) = false := decide_eq_false (by omega)
                      rw [decide_eq_false h0, Bool.and_false] at hbb
                      subst hbb
                      clear HBB
                      go_wp2_with fail
                      go_meet
                      exact ⟨rfl, rfl⟩
                  · have h2' : ((cc : Int) == 2) = false := by rw [beq_eq_false_iff_ne]; omega
                    rw [decide_eq_false h2, Bool.false_and] at hbb
                    subst hbb
                    clear HBB
                    go_wp2_with fail
                    go_meet
                    exact ⟨rfl, rfl⟩
                case rest =>
                obtain ⟨rfl, hwc⟩ := hcut
                subst hwc
                clear hbb
                go_upto_if 106 with fail
                go_cut [3, 18] (fun s3 s18 wx => ∃ (c2 : Nat) (a2 : List Bool), Hid (whatD cc a' = (c2, a2)) ∧ s18 = .int .i64 c2 ∧ Hid (BoolsAt W0 s3 a2) ∧ wx = wc)
                case first =>
                  cases bb
                  · have HW2 : Hid (whatD cc a' = (cc, a')) := Lib.hid (whatD_no HBB.out HN3.out)
                    go_wp2_with fail
                    go_meet
                    exact ⟨cc, a', HW2, rfl, HBA3, rfl⟩
                  · obtain ⟨h2, h0⟩ : cc = 2 ∧ 0 < n3 := by have := HBB.out; rwa [Bool.and_eq_true, decide_eq_true_iff, decide_eq_true_iff] at this
                    subst h2
                    obtain ⟨x, rr, rfl⟩ : ∃ x r, a' = x :: r := by
                      cases a' with
                      | nil => have := HN3.out; simp at this; omega
                      | cons x r => exact ⟨x, r, rfl⟩
                    obtain ⟨m3, rfl⟩ : ∃ m3, n3 = m3 + 1 := ⟨n3 - 1, by omega⟩
                    have HR1 : Hid (rr.length = m3) := Lib.hid (by have := HN3.out; simpa using this)
                    obtain ⟨b3, o3, rfl, hi3⟩ := HR3.out (List.cons_ne_nil _ _)
                    have c0 : wc.cell? ⟨b3, o3, none⟩ = some (.bool x) := HSD.out.ce _ _ (hi3 0 x rfl)
                    clear hi3 HBB HN3 HR3
                    cases x
                    · have HWA : Hid (whatD 2 (false :: rr) = (2, rr)) := Lib.hid rfl
                      clear h0
                      go_wp2_with fail
                      · go_meet
                        exact ⟨2, rr, HWA, rfl, Lib.hid (bools_none HR1.out (by omega) (by omega)), rfl⟩
                      · go_meet
                        exact ⟨2, rr, HWA, rfl, Lib.hid (rbools_tail HBA3.out HR1.out), rfl⟩
                    · have HWA : Hid (whatD 2 (true :: rr) = (0, rr)) := Lib.hid rfl
                      clear h0
                      go_wp2_with fail
                      · go_meet
                        exact ⟨0, rr, HWA, rfl, Lib.hid (bools_none HR1.out (by omega) (by omega)), rfl⟩
                      · go_meet
                        exact ⟨0, rr, HWA, rfl, Lib.hid (rbools_tail HBA3.out HR1.out), rfl⟩
                case rest =>
                obtain ⟨c2, a2, hw2, rfl, hba2, hwc2⟩ := hcut
                subst hwc2
                have ⟨wd, hwd⟩ : ∃ W, W = wc := ⟨_, rfl⟩
                subst hwd
                have HTY := Lib.hid (hT.out.trans (rputL_yes HFT.out HHB.out (show whatD (choiceD (getF S1 fn) (getF D1 fn) fv) a' = (c2, a2) from by rw [HCC.out]; exact hw2.out)))
                have x0 := HXF.out
                have x1 := HXD.out
                clear hw2 HBB HN3 HR3 HBA3 hk3 hm3
                by_cases h0 : c2 = 0
                · subst h0
                  obtain ⟨X2, hrun2, hm2, ht2⟩ := (HSD.out.below (below_drew wd)).sh.m1.store fn fv hfnx hfvx (by unfold maxLen; omega)
                  have HS2 := Lib.hid ((HSD.out.below (below_drew wd)).turn1 ht2 hm2)
                  obtain ⟨X3, hrun3, hm3, ht3⟩ := (HS2.out.below (below_drew X2)).sh.m2.store fn fv hfnx hfvx (by unfold maxLen; omega)
                  have HS3 := Lib.hid ((HS2.out.below (below_drew X2)).turn2 ht3 hm3)
                  have HC2 := Lib.hid (fun (a : Addr) (u : Value) (h : wd.cell? a = some u) => map_cell (HSD.out.below (below_drew wd)).sh.m1 ht2 (kept (below_drew wd) h))
                  have HC3 := Lib.hid (fun (a : Addr) (u : Value) (h : X2.cell? a = some u) => map_cell (HS2.out.below (below_drew X2)).sh.m2 ht3 (kept (below_drew X2) h))
                  have cc1 := HSD.out.sh.c1
                  have cc2 := HS2.out.sh.c2
                  have y0 := HC2.out _ _ x0
                  have y1' := HC2.out _ _ x1
                  clear hm2 ht2 hm3 ht3
                  go_upto_region 27 with fail
                  refine wp_region_held_drew (S := (fun W => W.cell? ⟨r, 1, none⟩ = some (.map (some b1)) ∧ W.cell? ⟨xf, 0, none⟩ = some (.string fn) ∧ W.cell? ⟨xd, 0, none⟩ = some (.string fv))) (by kernel_rfl) ?_ (fun hHeld => ?_)
                  · exact ⟨kept (below_drew _) cc1, kept (below_drew _) x0, kept (below_drew _) x1⟩
                  refine wpAnyH_take (i := 0) (v := ?_) rfl (by kernel_rfl) (by kernel_rfl) (by kernel_rfl) (fun _ _ _ h => h) (Or.inl ⟨by rfl, ?_⟩) (by assumption) ?_
                  rotate_left
                  · (intro w hSw; (try dsimp only at hSw); go_simp; (try with_reducible rfl))
                  (try simp only [List.getElem_toArray, List.getElem_cons_zero, Act.put, List.setIfInBounds_toArray, List.set_cons_zero, List.set_cons_succ])
                  refine wpAnyH_take (i := 1) (v := ?_) rfl (by kernel_rfl) (by kernel_rfl) (by kernel_rfl) (fun _ _ _ h => h) (Or.inl ⟨by rfl, ?_⟩) (by assumption) ?_
                  rotate_left
                  · (intro w hSw; (try dsimp only at hSw); go_simp; (try with_reducible rfl))
                  (try simp only [List.getElem_toArray, List.getElem_cons_succ, List.getElem_cons_zero, Act.put, List.setIfInBounds_toArray, List.set_cons_zero, List.set_cons_succ])
                  refine wpAnyH_take (i := 2) (v := ?_) rfl (by kernel_rfl) (by kernel_rfl) (by kernel_rfl) (fun _ _ _ h => h) (Or.inl ⟨by rfl, ?_⟩) (by assumption) ?_
                  rotate_left
                  · (intro w hSw; (try dsimp only at hSw); go_simp; (try with_reducible rfl))
                  (try simp only [List.getElem_toArray, List.getElem_cons_succ, List.getElem_cons_zero, Act.put, List.setIfInBounds_toArray, List.set_cons_zero, List.set_cons_succ])
                  refine wpAnyH_take (i := 3) (v := ?_) rfl (by kernel_rfl) (by kernel_rfl) (by kernel_rfl) (fun _ _ _ h => h) (Or.inl ⟨by rfl, ?_⟩) (by assumption) ?_
                  rotate_left
                  · (intro w hSw; (try dsimp only at hSw); go_simp; (try with_reducible rfl))
                  (try simp only [List.getElem_toArray, List.getElem_cons_succ, List.getElem_cons_zero, Act.put, List.setIfInBounds_toArray, List.set_cons_zero, List.set_cons_succ])
                  refine wpAnyH_take (i := 4) (v := ?_) rfl (by kernel_rfl) (by kernel_rfl) (by kernel_rfl) (fun _ _ _ h => h) (Or.inl ⟨by rfl, ?_⟩) (by assumption) ?_
                  rotate_left
                  · (intro w hSw; (try dsimp only at hSw); go_simp; (try with_reducible rfl))
                  (try simp only [List.getElem_toArray, List.getElem_cons_succ, List.getElem_cons_zero, Act.put, List.setIfInBounds_toArray, List.set_cons_zero, List.set_cons_succ])
                  refine wpAnyH_take (i := 5) (v := ?_) rfl (by kernel_rfl) (by kernel_rfl) (by kernel_rfl) (fun _ _ _ h => h) (Or.inl ⟨by rfl, ?_⟩) (by assumption) ?_
                  rotate_left
                  · (intro w hSw; (try dsimp only at hSw); go_simp; (try with_reducible rfl))
                  (try simp only [List.getElem_toArray, List.getElem_cons_succ, List.getElem_cons_zero, Act.put, List.setIfInBounds_toArray, List.set_cons_zero, List.set_cons_succ])
                  refine wpAnyH_take (i := 6) (v := ?_) rfl (by kernel_rfl) (by kernel_rfl) (by kernel_rfl) (fun _ _ _ h => h) (Or.inl ⟨by rfl, ?_⟩) (by assumption) ?_
                  rotate_left
                  · (intro w hSw; (try dsimp only at hSw); go_simp; (try with_reducible rfl))
                  (try simp only [List.getElem_toArray, List.getElem_cons_succ, List.getElem_cons_zero, Act.put, List.setIfInBounds_toArray, List.set_cons_zero, List.set_cons_succ])
                  refine wpAnyH_ready (rs := [7]) (by kernel_rfl) (by simp) ?_
                  refine AllReadyH.cons rfl (fun K hK => ?_) AllReadyH.nil
                  go_simp
                  (try go_wp2_with fail)
                  refine hK.out _ _ ?_ (fun hHeld2 => ?_)
                  · exact ⟨HC2.out _ _ cc1, HC2.out _ _ x0, HC2.out _ _ x1⟩
                  clear hK K hHeld
                  have hHeld := hHeld2
                  clear hHeld2
                  (try simp only [List.getElem_toArray, List.getElem_cons_succ, List.getElem_cons_zero, Act.put, List.setIfInBounds_toArray, List.set_cons_zero, List.set_cons_succ])
                  refine wpAnyH_done (by kernel_rfl) ?_ _
                  clear hHeld
                  clear cc1 x0 x1 hrun2
                  go_upto_region 28 with fail
                  refine wp_region_held_drew (S := (fun W => W.cell? ⟨r, 2, none⟩ = some (.map (some b2)) ∧ W.cell? ⟨xf, 0, none⟩ = some (.string fn) ∧ W.cell? ⟨xd, 0, none⟩ = some (.string fv))) (by kernel_rfl) ?_ (fun hHeld => ?_)
                  · exact ⟨kept (below_drew _) cc2, kept (below_drew _) y0, kept (below_drew _) y1'⟩
                  refine wpAnyH_take (i := 0) (v := ?_) rfl (by kernel_rfl) (by kernel_rfl) (by kernel_rfl) (fun _ _ _ h => h) (Or.inl ⟨by rfl, ?_⟩) (by assumption) ?_
                  rotate_left
                  · (intro w hSw; (try dsimp only at hSw); go_simp; (try with_reducible rfl))
                  (try simp only [List.getElem_toArray, List.getElem_cons_zero, Act.put, List.setIfInBounds_toArray, List.set_cons_zero, List.set_cons_succ])
                  refine wpAnyH_take (i := 1) (v := ?_) rfl (by kernel_rfl) (by kernel_rfl) (by kernel_rfl) (fun _ _ _ h => h) (Or.inl ⟨by rfl, ?_⟩) (by assumption) ?_
                  rotate_left
                  · (intro w hSw; (try dsimp only at hSw); go_simp; (try with_reducible rfl))
                  (try simp only [List.getElem_toArray, List.getElem_cons_succ, List.getElem_cons_zero, Act.put, List.setIfInBounds_toArray, List.set_cons_zero, List.set_cons_succ])
                  refine wpAnyH_take (i := 2) (v := ?_) rfl (by kernel_rfl) (by kernel_rfl) (by kernel_rfl) (fun _ _ _ h => h) (Or.inl ⟨by rfl, ?_⟩) (by assumption) ?_
                  rotate_left
                  · (intro w hSw; (try dsimp only at hSw); go_simp; (try with_reducible rfl))
                  (try simp only [List.getElem_toArray, List.getElem_cons_succ, List.getElem_cons_zero, Act.put, List.setIfInBounds_toArray, List.set_cons_zero, List.set_cons_succ])
                  refine wpAnyH_take (i := 3) (v := ?_) rfl (by kernel_rfl) (by kernel_rfl) (by kernel_rfl) (fun _ _ _ h => h) (Or.inl ⟨by rfl, ?_⟩) (by assumption) ?_
                  rotate_left
                  · (intro w hSw; (try dsimp only at hSw); go_simp; (try with_reducible rfl))
                  (try simp only [List.getElem_toArray, List.getElem_cons_succ, List.getElem_cons_zero, Act.put, List.setIfInBounds_toArray, List.set_cons_zero, List.set_cons_succ])
                  refine wpAnyH_take (i := 4) (v := ?_) rfl (by kernel_rfl) (by kernel_rfl) (by kernel_rfl) (fun _ _ _ h => h) (Or.inl ⟨by rfl, ?_⟩) (by assumption) ?_
                  rotate_left
                  · (intro w hSw; (try dsimp only at hSw); go_simp; (try with_reducible rfl))
                  (try simp only [List.getElem_toArray, List.getElem_cons_succ, List.getElem_cons_zero, Act.put, List.setIfInBounds_toArray, List.set_cons_zero, List.set_cons_succ])
                  refine wpAnyH_take (i := 5) (v := ?_) rfl (by kernel_rfl) (by kernel_rfl) (by kernel_rfl) (fun _ _ _ h => h) (Or.inl ⟨by rfl, ?_⟩) (by assumption) ?_
                  rotate_left
                  · (intro w hSw; (try dsimp only at hSw); go_simp; (try with_reducible rfl))
                  (try simp only [List.getElem_toArray, List.getElem_cons_succ, List.getElem_cons_zero, Act.put, List.setIfInBounds_toArray, List.set_cons_zero, List.set_cons_succ])
                  refine wpAnyH_take (i := 6) (v := ?_) rfl (by kernel_rfl) (by kernel_rfl) (by kernel_rfl) (fun _ _ _ h => h) (Or.inl ⟨by rfl, ?_⟩) (by assumption) ?_
                  rotate_left
                  · (intro w hSw; (try dsimp only at hSw); go_simp; (try with_reducible rfl))
                  (try simp only [List.getElem_toArray, List.getElem_cons_succ, List.getElem_cons_zero, Act.put, List.setIfInBounds_toArray, List.set_cons_zero, List.set_cons_succ])
                  refine wpAnyH_ready (rs := [7]) (by kernel_rfl) (by simp) ?_
                  refine AllReadyH.cons rfl (fun K hK => ?_) AllReadyH.nil
                  go_simp
                  (try go_wp2_with fail)
                  refine hK.out _ _ ?_ (fun hHeld2 => ?_)
                  · exact ⟨HC3.out _ _ cc2, HC3.out _ _ y0, HC3.out _ _ y1'⟩
                  clear hK K hHeld
                  have hHeld := hHeld2
                  clear hHeld2
                  (try simp only [List.getElem_toArray, List.getElem_cons_succ, List.getElem_cons_zero, Act.put, List.setIfInBounds_toArray, List.set_cons_zero, List.set_cons_succ])
                  refine wpAnyH_done (by kernel_rfl) ?_ _
                  clear hHeld
                  clear cc2 y0 y1' hrun3
                  have HT' := Lib.hid (show _ = rputL se (fi.drop (k + 1)) a2 (putF D1 fn fv) (putF S1 fn fv) from HTY.out)
                  have HSN := Lib.hid (show RPutSt w W0 r b0 b1 b2 bm x8 Wm (putF D1 fn fv) (putF S1 fn fv) (k + 1) ((fi.take (k + 1)).map (·.n)) X3 from by rw [HNM.out]; exact HS3.out)
                  have HL' := Lib.hid (show (putF D1 fn fv).length ≤ Dm.length + (k + 1) ∧ (putF S1 fn fv).length ≤ Sm.length + (k + 1) from ⟨by have := len_put_le D1 fn fv; have := hLL.out.1; omega, by have := len_put_le S1 fn fv; have := hLL.out.2; omega⟩)
                  go_wp2_with fail
                  go_roundw
                  case rel => first | exact ⟨k + 1, a2, _, _, by omega, by go_num, HT', HL', HSN, hba2⟩ | ((repeat apply Exists.intro); exact ⟨⟨k + 1, a2, _, _, by omega, by go_num, HT', HL', HSN, hba2⟩, rfl⟩)
                  case measure => simp [intOf]; omega
                · have e0 : ((c2 : Int) == 0) = false := by rw [beq_eq_false_iff_ne]; omega
                  obtain ⟨X3, hrun3, hm3, ht3⟩ := (HSD.out.below (below_drew wd)).sh.m2.store fn fv hfnx hfvx (by unfold maxLen; omega)
                  have HS3 := Lib.hid ((HSD.out.below (below_drew wd)).turn2 ht3 hm3)
                  have HC3 := Lib.hid (fun (a : Addr) (u : Value) (h : wd.cell? a = some u) => map_cell (HSD.out.below (below_drew wd)).sh.m2 ht3 (kept (below_drew wd) h))
                  have cc2 := HSD.out.sh.c2
                  have HH0 := Lib.hid h0
                  clear hm3 ht3
                  go_upto_region 28 with fail
                  refine wp_region_held_drew (S := (fun W => W.cell? ⟨r, 2, none⟩ = some (.map (some b2)) ∧ W.cell? ⟨xf, 0, none⟩ = some (.string fn) ∧ W.cell? ⟨xd, 0, none⟩ = some (.string fv))) (by kernel_rfl) ?_ (fun hHeld => ?_)
                  · exact ⟨kept (below_drew _) cc2, kept (below_drew _) x0, kept (below_drew _) x1⟩
                  refine wpAnyH_take (i := 0) (v := ?_) rfl (by kernel_rfl) (by kernel_rfl) (by kernel_rfl) (fun _ _ _ h => h) (Or.inl ⟨by rfl, ?_⟩) (by assumption) ?_
                  rotate_left
                  · (intro w hSw; (try dsimp only at hSw); go_simp; (try with_reducible rfl))
                  (try simp only [List.getElem_toArray, List.getElem_cons_zero, Act.put, List.setIfInBounds_toArray, List.set_cons_zero, List.set_cons_succ])
                  refine wpAnyH_take (i := 1) (v := ?_) rfl (by kernel_rfl) (by kernel_rfl) (by kernel_rfl) (fun _ _ _ h => h) (Or.inl ⟨by rfl, ?_⟩) (by assumption) ?_
                  rotate_left
                  · (intro w hSw; (try dsimp only at hSw); go_simp; (try with_reducible rfl))
                  (try simp only [List.getElem_toArray, List.getElem_cons_succ, List.getElem_cons_zero, Act.put, List.setIfInBounds_toArray, List.set_cons_zero, List.set_cons_succ])
                  refine wpAnyH_take (i := 2) (v := ?_) rfl (by kernel_rfl) (by kernel_rfl) (by kernel_rfl) (fun _ _ _ h => h) (Or.inl ⟨by rfl, ?_⟩) (by assumption) ?_
                  rotate_left
                  · (intro w hSw; (try dsimp only at hSw); go_simp; (try with_reducible rfl))
                  (try simp only [List.getElem_toArray, List.getElem_cons_succ, List.getElem_cons_zero, Act.put, List.setIfInBounds_toArray, List.set_cons_zero, List.set_cons_succ])
                  refine wpAnyH_take (i := 3) (v := ?_) rfl (by kernel_rfl) (by kernel_rfl) (by kernel_rfl) (fun _ _ _ h => h) (Or.inl ⟨by rfl, ?_⟩) (by assumption) ?_
                  rotate_left
                  · (intro w hSw; (try dsimp only at hSw); go_simp; (try with_reducible rfl))
                  (try simp only [List.getElem_toArray, List.getElem_cons_succ, List.getElem_cons_zero, Act.put, List.setIfInBounds_toArray, List.set_cons_zero, List.set_cons_succ])
                  refine wpAnyH_take (i := 4) (v := ?_) rfl (by kernel_rfl) (by kernel_rfl) (by kernel_rfl) (fun _ _ _ h => h) (Or.inl ⟨by rfl, ?_⟩) (by assumption) ?_
                  rotate_left
                  · (intro w hSw; (try dsimp only at hSw); go_simp; (try with_reducible rfl))
                  (try simp only [List.getElem_toArray, List.getElem_cons_succ, List.getElem_cons_zero, Act.put, List.setIfInBounds_toArray, List.set_cons_zero, List.set_cons_succ])
                  refine wpAnyH_take (i := 5) (v := ?_) rfl (by kernel_rfl) (by kernel_rfl) (by kernel_rfl) (fun _ _ _ h => h) (Or.inl ⟨by rfl, ?_⟩) (by assumption) ?_
                  rotate_left
                  · (intro w hSw; (try dsimp only at hSw); go_simp; (try with_reducible rfl))
                  (try simp only [List.getElem_toArray, List.getElem_cons_succ, List.getElem_cons_zero, Act.put, List.setIfInBounds_toArray, List.set_cons_zero, List.set_cons_succ])
                  refine wpAnyH_take (i := 6) (v := ?_) rfl (by kernel_rfl) (by kernel_rfl) (by kernel_rfl) (fun _ _ _ h => h) (Or.inl ⟨by rfl, ?_⟩) (by assumption) ?_
                  rotate_left
                  · (intro w hSw; (try dsimp only at hSw); go_simp; (try with_reducible rfl))
                  (try simp only [List.getElem_toArray, List.getElem_cons_succ, List.getElem_cons_zero, Act.put, List.setIfInBounds_toArray, List.set_cons_zero, List.set_cons_succ])
                  refine wpAnyH_ready (rs := [7]) (by kernel_rfl) (by simp) ?_
                  refine AllReadyH.cons rfl (fun K hK => ?_) AllReadyH.nil
                  go_simp
                  (try go_wp2_with fail)
                  refine hK.out _ _ ?_ (fun hHeld2 => ?_)
                  · exact ⟨HC3.out _ _ cc2, HC3.out _ _ x0, HC3.out _ _ x1⟩
                  clear hK K hHeld
                  have hHeld := hHeld2
                  clear hHeld2
                  (try simp only [List.getElem_toArray, List.getElem_cons_succ, List.getElem_cons_zero, Act.put, List.setIfInBounds_toArray, List.set_cons_zero, List.set_cons_succ])
                  refine wpAnyH_done (by kernel_rfl) ?_ _
                  clear hHeld
                  clear cc2 x0 x1 hrun3
                  have HT' := Lib.hid (show _ = rputL se (fi.drop (k + 1)) a2 D1 (putF S1 fn fv) from HTY.out.trans (by rw [if_neg HH0.out]))
                  have HSN := Lib.hid (show RPutSt w W0 r b0 b1 b2 bm x8 Wm D1 (putF S1 fn fv) (k + 1) ((fi.take (k + 1)).map (·.n)) X3 from by rw [HNM.out]; exact HS3.out)
                  have HL' := Lib.hid (show D1.length ≤ Dm.length + (k + 1) ∧ (putF S1 fn fv).length ≤ Sm.length + (k + 1) from ⟨by have := hLL.out.1; omega, by have := len_put_le S1 fn fv; have := hLL.out.2; omega⟩)
                  go_wp2_with fail
                  go_roundw
                  case rel => first | exact ⟨k + 1, a2, _, _, by omega, by go_num, HT', HL', HSN, hba2⟩ | ((repeat apply Exists.intro); exact ⟨⟨k + 1, a2, _, _, by omega, by go_num, HT', HL', HSN, hba2⟩, rfl⟩)
                  case measure => simp [intOf]; omega
        · obtain rfl : k = m9 := by omega
          have ⟨wl, hwl⟩ : ∃ W, W = wr := ⟨_, rfl⟩
          subst hwl
          have HDS := Lib.hid (show rputL se fi a Dm Sm = (D1, S1) from by rw [hT.out, List.drop_eq_nil_of_le (by have := HM9.out; (try dsimp only at *); omega)]; rfl)
          have HSL := Lib.hid (show RPutSt w W0 r b0 b1 b2 bm x8 Wm D1 S1 k (fi.map (·.n)) wl from by
            have h1 := hst.out
            rwa [List.take_of_length_le (by have := HM9.out; (try dsimp only at *); omega)] at h1)
          obtain ⟨ps, hps⟩ : ∃ ps, fi.map (·.n) = ps := ⟨_, rfl⟩
          have HPS := Lib.hid hps
          rw [hps] at HSL
          have zn : W0.cell? ⟨w.heap.size, 0, none⟩ = some (.string pn) := HX0.out.cell rfl
          have yn := HSL.out.ce _ _ zn
          have CP := Lib.hid (rpaths_calls r b0 b1 b2 Wm D1 S1 pn wl HSL.out.sh hl)
          have HPZ := Lib.hid (show ∀ q ∈ pathsR Wm pn, q.size ≤ maxLen from fun q hq => Nat.le_trans (HZ0.out q pn ((mem_pathsR H.out.m0.2).1 hq)).1 (by unfold maxLen; omega))
          have HPL := Lib.hid (show (pathsR Wm pn).length ≤ 1000000 from by unfold pathsR; rw [List.length_map]; exact Nat.le_trans (List.length_filter_le _ _) hl)
          obtain ⟨P, hP⟩ : ∃ P, pathsR Wm pn = P := ⟨_, rfl⟩
          have HPE := Lib.hid hP
          rw [hP] at CP HPZ HPL
          clear hps hP hT hst hba
          go_wp2_with fail
          refine CP.out.mono ?_
          rintro E w6 ⟨v6, rfl, hs6, hb6⟩
          obtain ⟨A6', c6', rfl, _, _⟩ := strs_at hs6
          obtain ⟨pl, hpl⟩ : ∃ n, P.length = n := ⟨_, rfl⟩
          have HPN := Lib.hid hpl
          have hpl1 : pl ≤ 1000000 := by have := HPL.out; omega
          rw [hpl] at hs6 ⊢
          have HS6 := Lib.hid hs6
          have HST6 := Lib.hid (HSL.out.below hb6)
          clear hpl hs6 hb6 CP yn
          go_wp2_with fail
          go_loopw [134] (fun i wr => ∃ (k3 : Nat) (D2 W2 : Fm), k3 ≤ pl ∧ i = .int .i64 k3 ∧ Hid (rgoneL ps S1 P D1 Wm = rgoneL ps S1 (P.drop k3) D2 W2) ∧ Hid (D2.length ≤ D1.length ∧ W2.length ≤ Wm.length) ∧ Hid (RPutSt w W0 r b0 b1 b2 bm x8 W2 D2 S1 k ps wr) ∧ Hid (StrsAt wr (.slice A6' pl c6') P)) (fun i _ => pl - (intOf i).toNat)
          case atStart => exact ⟨0, D1, Wm, Nat.zero_le _, rfl, Lib.hid rfl, Lib.hid ⟨Nat.le_refl _, Nat.le_refl _⟩, HST6, HS6⟩
          case round =>
            obtain ⟨k3, D2, W2x, hk3, rfl, hG, hLG, hst, hS⟩ := hrel
            by_cases hlt3 : k3 < pl
            · obtain ⟨q, hq⟩ : ∃ q, P[k3]? = some q := ⟨P[k3]'(by have := HPN.out; omega), List.getElem?_eq_getElem _⟩
              obtain ⟨Aq, cq', hvq, _, hiq⟩ := strs_at hS.out
              rw [HPN.out] at hvq
              injection hvq with e1 _ e3
              subst e1 e3
              obtain ⟨bq, oq, rfl, hcq⟩ := hiq k3 q hq
              have hqz := HPZ.out q (List.mem_of_getElem? hq)
              have c0 := hst.out.sh.c0
              have c1' := hst.out.sh.c1
              have c2' := hst.out.sh.c2
              have hlook := (hst.out.sh.m2.look q hqz).1
              obtain ⟨cm, hlk, _, hcm⟩ := hst.out.mine.look q hqz
              have hnx := rgoneL_next (ps := ps) (S := S1) hq D2 W2x
              obtain ⟨sv, hsv⟩ : ∃ sv, (getF S1 q).getD ⟨#[]⟩ = sv := ⟨_, rfl⟩
              obtain ⟨sb, hsb⟩ : ∃ sb, (getF S1 q).isSome = sb := ⟨_, rfl⟩
              rw [hsv, hsb] at hlook
              have hcond : (!hasB ps q && (getF S1 q).isNone) = (decide (cm = 0) && !sb) := by
                rw [← hsb]
                have e1 : (!hasB ps q) = decide (cm = 0) := by
                  by_cases e : q ∈ ps
                  · rw [hasB_iff.2 e, decide_eq_false (fun h => (hcm.1 h) e)]; rfl
                  · rw [decide_eq_true (hcm.2 e)]
                    cases hb : hasB ps q with
                    | true => exact absurd (hasB_iff.1 hb) e
                    | false => rfl
                rw [e1]
                congr 1
                cases getF S1 q <;> rfl
              rw [hcond] at hnx
              obtain ⟨X1, hr1, hm1, ht1⟩ := hst.out.sh.m1.drop q hqz 0
              have R1 := hst.out.turn1 ht1 hm1
              obtain ⟨X2, hr2, hm2, ht2⟩ := R1.sh.m0.drop q hqz 0
              have R2 := Lib.hid (R1.turn0 ht2 hm2)
              have S2x := Lib.hid (show StrsAt X2 (.slice (some ⟨bq, oq, none⟩) pl c6') P from strs_cells (strs_cells hS.out fun a u => map_cell hst.out.sh.m1 ht1) fun a u => map_cell R1.sh.m0 ht2)
              have d0 := R1.sh.c0
              have HG' := Lib.hid (hG.out.trans hnx)
              have HLG' := Lib.hid (show (delF D2 q).length ≤ D1.length ∧ (delF W2x q).length ≤ Wm.length from ⟨Nat.le_trans (len_del_le D2 q) hLG.out.1, Nat.le_trans (len_del_le W2x q) hLG.out.2⟩)
              have i1 : (k3 : Int) < pl := by omega
              have i2 : (0 : Int) ≤ k3 := by omega
              clear hq hiq hsv hsb hnx hcond hm1 ht1 R1 hm2 ht2 hG hcm
              by_cases hz0 : cm = 0
              · subst hz0
                cases sb with
                | false =>
                  go_wp2_with fail
                  go_roundw
                  case rel => first | exact ⟨k3 + 1, _, _, by omega, by go_num, Lib.hid (by rw [HG'.out]; simp), HLG', R2, S2x⟩ | ((repeat apply Exists.intro); exact ⟨⟨k3 + 1, _, _, by omega, by go_num, Lib.hid (by rw [HG'.out]; simp), HLG', R2, S2x⟩, rfl⟩)
                  case measure => simp [intOf]; omega
                | true =>
                  go_wp2_with fail
                  go_roundw
                  case rel => first | exact ⟨k3 + 1, D2, W2x, by omega, by go_num, Lib.hid (by rw [HG'.out]; simp), hLG, hst, hS⟩ | ((repeat apply Exists.intro); exact ⟨⟨k3 + 1, D2, W2x, by omega, by go_num, Lib.hid (by rw [HG'.out]; simp), hLG, hst, hS⟩, rfl⟩)
                  case measure => simp [intOf]; omega
              · have e0 : ((cm : Int) == 0) = false := by rw [beq_eq_false_iff_ne]; omega
                have HZ := Lib.hid hz0
                go_wp2_with fail
                go_roundw
                case rel => first | exact ⟨k3 + 1, D2, W2x, by omega, by go_num, Lib.hid (by rw [HG'.out, decide_eq_false HZ.out]; simp), hLG, hst, hS⟩ | ((repeat apply Exists.intro); exact ⟨⟨k3 + 1, D2, W2x, by omega, by go_num, Lib.hid (by rw [HG'.out, decide_eq_false HZ.out]; simp), hLG, hst, hS⟩, rfl⟩)
                case measure => simp [intOf]; omega
            · obtain rfl : k3 = pl := by omega
              have ⟨wm, hwm⟩ : ∃ W, W = wr := ⟨_, rfl⟩
              subst hwm
              have HGE := Lib.hid (show rgoneL ps S1 P D1 Wm = (D2, W2x) from by rw [hG.out, List.drop_eq_nil_of_le (by have := HPN.out; omega)]; rfl)
              have HSM := Lib.hid hst.out
              have hset0 := hst.out.mine
              have hW2l : W2x.length ≤ 1000000 := Nat.le_trans hLG.out.2 hl
              have HLG2 := Lib.hid hLG.out
              clear hG hS hst hlt3
              go_wp2_with (at_range; refine wpList_rangeS _ rfl _ rfl bm k ps rfl hset0 ?_; intro w7 left7 cnt7 hr7 hlf7 hct7 hg7 hs7)
              go_frame
              obtain ⟨r1, hr1⟩ : ∃ x, wm.heap.size = x := ⟨_, rfl⟩
              rw [hr1] at hr7 ⊢
              have hb7 : Below wm.heap.size wm w7 := (Below.refl _ _).grown hg7 (Nat.le_refl _) (fun g e => by cases e)
              have HR7 := Lib.hid hr7
              have HLF := Lib.hid hlf7
              have HS7 := Lib.hid (HSM.out.below hb7)
              have HW0 := Lib.hid (show W0.heap.size ≤ r1 ∧ bm < W0.heap.size ∧ x8 < W0.heap.size ∧ w.heap.size ≤ W0.heap.size ∧ bm < r1 from by
                have h1 := HST.out.mine.lt
                have h2 := HST.out.rb.lt
                have h3 := HB0.out.size
                have h5 := HSM.out.sz
                refine ⟨?_, h1, h2, h3, ?_⟩
                · omega
                · have := hset0.lt
                  omega)
              have HCT := Lib.hid hct7
              clear hr7 hlf7 hct7 hg7 hs7 hr1 hb7 hset0
              go_loopw [23] (fun _ wr => ∃ (left : Lit → Bool) (cnt : Nat) (W3 : Fm), Hid (W3.length + cnt ≤ W2x.length + k) ∧ Hid (RangesS wr bm r1 ps left cnt) ∧ Hid (∀ q : ByteArray, getF W3 q = if (hasB ps q && !left (.string q.data.toList)) = true then some pn else getF W2x q) ∧ Hid (RPutSt w W0 r b0 b1 b2 bm x8 W3 D2 S1 k ps wr)) (fun _ wr => wr.rangeLeft bm r1)
              case atStart => exact ⟨_, _, W2x, Lib.hid (by have := HCT.out; omega), HR7, Lib.hid (fun q => by rw [if_neg (fun h => by rw [Bool.and_eq_true] at h; have h2 := (HLF.out q).2 (hasB_iff.1 h.1); rw [h2] at h; cases h.2)]), HS7⟩
              case round =>
                obtain ⟨left, cnt, W3, hlc, hrg, hgf, hst⟩ := hrel
                have hrgo := hrg.out
                go_wp2_with (at_next; refine wpList_nextS _ rfl _ rfl bm r1 ps left cnt rfl hrgo ?_ ?_)
                · intro hc0 hl0
                  have HGF := Lib.hid (show ∀ q : ByteArray, getF W3 q = if hasB ps q = true then some pn else getF W2x q from fun q => by
                    rw [hgf.out, hl0, Bool.not_false, Bool.and_true])
                  have z0 := hst.out.ce _ _ (HF.out.below HB0.out).1
                  have z1 := hst.out.ce _ _ (HF.out.below HB0.out).2
                  have HRB := Lib.hid hst.out.rb
                  have HZR := Lib.hid (set_row HRB.out #[.int .i64 0, .int .i64 (-1)])
                  have HOF := Lib.hid (show ROff w.heap.size b0 b1 b2 w (wr.setRow x8 #[.int .i64 0, .int .i64 (-1)]) from hst.out.off.trans (.of (HZR.out.2 _ _ (Below.refl _ _) (by have := HX8.out; omega))))
                  have HSF := Lib.hid (hst.out.sh.far (HZR.out.2 _ _ (Below.refl _ _) (show w.heap.size ≤ x8 by have := HX8.out; omega)) HLR.out HLB.out.1 HLB.out.2.1 HLB.out.2.2)
                  have HLC := Lib.hid hlc.out
                  clear hl0 hrgo hrg hgf hst
                  go_wp2_with (refine wpList_store_row rfl 54 _ _ rfl x8 #[.int .i64 0, .int .i64 (-1)] rfl rfl 54 _ HRB.out (by kernel_rfl) rfl (by simp [Value.oneCell']) ?_)
                  have y0 : (wr.setRow x8 #[.int .i64 0, .int .i64 (-1)]).cell? ⟨x8, 0, none⟩ = some (.int .i64 0) := HZR.out.1.cell rfl
                  have y1 : (wr.setRow x8 #[.int .i64 0, .int .i64 (-1)]).cell? ⟨x8, 1, none⟩ = some (.int .i64 (-1)) := HZR.out.1.cell rfl
                  (try simp only [Exit.inBlock, Exit.then])
                  refine bodyPost_ret (v := .agg #[.int .i64 0, .int .i64 (-1)]) (by simp [results, Tryz.results13, go_sem, y0, y1]) rfl ?_
                  refine ⟨HOF.out, .inr (.inr ⟨HAB.out, by rw [HCI.out]; have := HNC.out; omega, rfl, W3, ?_⟩)⟩
                  have e1 : putDS ⟨pn, pe, pu, pr, dep, ahd, ag, br, re, prr, se, li, fi⟩ a Dm Sm = (D1, S1) := HDS.out
                  have e2 : namesK ⟨pn, pe, pu, pr, dep, ahd, ag, br, re, prr, se, li, fi⟩ = ps := HPS.out
                  have e3 : goneDW ⟨pn, pe, pu, pr, dep, ahd, ag, br, re, prr, se, li, fi⟩ a Wm Dm Sm = (D2, W2x) := by
                    unfold goneDW
                    rw [e1, e2]
                    show rgoneL ps S1 (pathsR Wm pn) D1 Wm = _
                    rw [HPE.out]
                    exact HGE.out
                  rw [e1, e2, e3]
                  have l1 := HLC.out
                  have l2 := hLL.out
                  have l3 := HLG2.out
                  exact ⟨HSF.out, by omega, by show D2.length ≤ _; omega, by show S1.length ≤ _; omega, HGF.out⟩
                · intro x cc w8 cnt1 hxL hxs hlx hrg1 hlt1 hg1 hs1 hen
                  have HS8 := Lib.hid (hst.out.grow hg1 HW0.out.1 HW0.out.2.2.2.1 HLR.out HW0.out.2.1 HW0.out.2.2.1)
                  have HSD := Lib.hid (HS8.out.below (below_drew w8))
                  obtain ⟨X1, hrun1, hm1, ht1⟩ := HSD.out.sh.m0.store x pn hxs (by unfold maxLen; omega) (by have := hlc.out; unfold maxLen; omega)
                  have HS1 := Lib.hid (HSD.out.turn0 ht1 hm1)
                  have hnb := HSD.out.nb
                  have hlb := HSD.out.lb.1
                  have hw0 := HW0.out.1
                  have hw3 := HW0.out.2.2.2.1
                  have n1 : (some bm : Option Nat) ≠ some b0 := fun e => by injection e with e; omega
                  have n2 : (some r1 : Option Nat) ≠ some b0 := fun e => by injection e with e; omega
                  have hrg2 : RangesS w8.drew bm r1 ps (fun z => left z && !z.sameKey (.string x.data.toList)) cnt1 := RangesS.kept (row := none) hrg1 (show w8.grownBy w8.drew none from ⟨(below_drew w8).os, (below_drew w8).tape, (below_drew w8).output, (below_drew w8).size, fun i hi _ => (below_drew w8).block i hi⟩) (fun e => by cases e) (fun e => by cases e)
                  have hrg3 : RangesS X1 bm r1 ps (fun z => left z && !z.sameKey (.string x.data.toList)) cnt1 := RangesS.kept (row := some b0) hrg2 ht1.grown n1 n2
                  have HRX := Lib.hid hrg3
                  clear hrg2 hrg3 n1 n2 hnb hlb hw0 hw3
                  have HC1 := Lib.hid (fun (a : Addr) (u : Value) (h : w8.cell? a = some u) => map_cell HSD.out.sh.m0 ht1 (kept (below_drew w8) h))
                  have HE1 := Lib.hid HRX.out.left_eq
                  have HE0 := Lib.hid hrg.out.left_eq
                  have c0 := HS8.out.sh.c0
                  have p0 := HS8.out.ce _ _ zn
                  have HGF := Lib.hid (show ∀ q : ByteArray, getF (putF W3 x pn) q = if (hasB ps q && !(left (.string q.data.toList) && !(Lit.string q.data.toList).sameKey (.string x.data.toList))) = true then some pn else getF W2x q from fun q => by
                    rw [getF_put, same_iff]
                    by_cases e : q = x
                    · subst e
                      rw [if_pos rfl, if_pos (by rw [hasB_iff.2 hxL]; simp)]
                    · rw [if_neg e, hgf.out, decide_eq_false e]
                      simp)
                  have HLC := Lib.hid (show (putF W3 x pn).length + cnt1 ≤ W2x.length + k from by have := len_put_le W3 x pn; have := hlc.out; omega)
                  clear hxL hlx hrg1 hg1 hs1 hm1 ht1 hrgo hgf hst hrg
                  go_upto_region 41 with fail
                  refine wp_region_held_drew (S := (fun W => W.cell? ⟨r, 0, none⟩ = some (.map (some b0)) ∧ W.cell? ⟨w.heap.size, 0, none⟩ = some (.string pn))) (by kernel_rfl) ?_ (fun hHeld => ?_)
                  · exact ⟨kept (below_drew _) c0, kept (below_drew _) p0⟩
                  refine wpAnyH_take (i := 0) (v := ?_) rfl (by kernel_rfl) (by kernel_rfl) (by kernel_rfl) (fun _ _ _ h => h) (Or.inl ⟨by rfl, ?_⟩) (by assumption) ?_
                  rotate_left
                  · (intro w hSw; (try dsimp only at hSw); go_simp; (try with_reducible rfl))
                  (try simp only [List.getElem_toArray, List.getElem_cons_zero, Act.put, List.setIfInBounds_toArray, List.set_cons_zero, List.set_cons_succ])
                  refine wpAnyH_take (i := 1) (v := ?_) rfl (by kernel_rfl) (by kernel_rfl) (by kernel_rfl) (fun _ _ _ h => h) (Or.inl ⟨by rfl, ?_⟩) (by assumption) ?_
                  rotate_left
                  · (intro w hSw; (try dsimp only at hSw); go_simp; (try with_reducible rfl))
                  (try simp only [List.getElem_toArray, List.getElem_cons_succ, List.getElem_cons_zero, Act.put, List.setIfInBounds_toArray, List.set_cons_zero, List.set_cons_succ])
                  refine wpAnyH_take (i := 2) (v := ?_) rfl (by kernel_rfl) (by kernel_rfl) (by kernel_rfl) (fun _ _ _ h => h) (Or.inl ⟨by rfl, ?_⟩) (by assumption) ?_
                  rotate_left
                  · (intro w hSw; (try dsimp only at hSw); go_simp; (try with_reducible rfl))
                  (try simp only [List.getElem_toArray, List.getElem_cons_succ, List.getElem_cons_zero, Act.put, List.setIfInBounds_toArray, List.set_cons_zero, List.set_cons_succ])
                  refine wpAnyH_take (i := 3) (v := ?_) rfl (by kernel_rfl) (by kernel_rfl) (by kernel_rfl) (fun _ _ _ h => h) (Or.inl ⟨by rfl, ?_⟩) (by assumption) ?_
                  rotate_left
                  · (intro w hSw; (try dsimp only at hSw); go_simp; (try with_reducible rfl))
                  (try simp only [List.getElem_toArray, List.getElem_cons_succ, List.getElem_cons_zero, Act.put, List.setIfInBounds_toArray, List.set_cons_zero, List.set_cons_succ])
                  refine wpAnyH_take (i := 4) (v := ?_) rfl (by kernel_rfl) (by kernel_rfl) (by kernel_rfl) (fun _ _ _ h => h) (Or.inl ⟨by rfl, ?_⟩) (by assumption) ?_
                  rotate_left
                  · (intro w hSw; (try dsimp only at hSw); go_simp; (try with_reducible rfl))
                  (try simp only [List.getElem_toArray, List.getElem_cons_succ, List.getElem_cons_zero, Act.put, List.setIfInBounds_toArray, List.set_cons_zero, List.set_cons_succ])
                  refine wpAnyH_take (i := 5) (v := ?_) rfl (by kernel_rfl) (by kernel_rfl) (by kernel_rfl) (fun _ _ _ h => h) (Or.inl ⟨by rfl, ?_⟩) (by assumption) ?_
                  rotate_left
                  · (intro w hSw; (try dsimp only at hSw); go_simp; (try with_reducible rfl))
                  (try simp only [List.getElem_toArray, List.getElem_cons_succ, List.getElem_cons_zero, Act.put, List.setIfInBounds_toArray, List.set_cons_zero, List.set_cons_succ])
                  refine wpAnyH_take (i := 6) (v := ?_) rfl (by kernel_rfl) (by kernel_rfl) (by kernel_rfl) (fun _ _ _ h => h) (Or.inl ⟨by rfl, ?_⟩) (by assumption) ?_
                  rotate_left
                  · (intro w hSw; (try dsimp only at hSw); go_simp; (try with_reducible rfl))
                  (try simp only [List.getElem_toArray, List.getElem_cons_succ, List.getElem_cons_zero, Act.put, List.setIfInBounds_toArray, List.set_cons_zero, List.set_cons_succ])
                  refine wpAnyH_ready (rs := [7]) (by kernel_rfl) (by simp) ?_
                  refine AllReadyH.cons rfl (fun K hK => ?_) AllReadyH.nil
                  go_simp
                  (try go_wp2_with fail)
                  refine hK.out _ _ ?_ (fun hHeld2 => ?_)
                  · exact ⟨HC1.out _ _ c0, HC1.out _ _ p0⟩
                  clear hK K hHeld
                  have hHeld := hHeld2
                  clear hHeld2
                  (try simp only [List.getElem_toArray, List.getElem_cons_succ, List.getElem_cons_zero, Act.put, List.setIfInBounds_toArray, List.set_cons_zero, List.set_cons_succ])
                  refine wpAnyH_done (by kernel_rfl) ?_ _
                  clear hHeld c0 p0 hrun1
                  go_wp2_with fail
                  go_roundw
                  case rel => first | exact ⟨_, _, _, HLC, HRX, HGF, HS1⟩ | ((repeat apply Exists.intro); exact ⟨⟨_, _, _, HLC, HRX, HGF, HS1⟩, rfl⟩)
                  case measure => rw [HE1.out, HE0.out]; exact hlt1
end Go.Proofs.YtofogjfemlhffaaGreatDoor

/- CheckSpares: the walk, where the list is known. -/
import Derived.Test.YtpbbhjifgaeklaaGreatDoorCSK29
import Derived.Test.YtpbbhjifgaeklaaGreatDoorCSK31
import Derived.Test.YtpbbhjifgaeklaaGreatDoorCSK35
import Derived.Test.YtpbbhjifgaeklaaGreatDoorCSK36
import Derived.Test.YtpbbhjifgaeklaaGreatDoorCSK37
import Derived.Test.YtpbbhjifgaeklaaGreatDoorCSK18
namespace Go.Proofs.YtpbbhjifgaeklaaGreatDoor
open Go Go.RowKit

set_option maxHeartbeats 8000000 in
set_option maxRecDepth 100000 in
theorem spares_main (v : Value) (ks : List Kv) (x : Int) (w : World) (hE : Env w) (hG : EnvE w) (hN : EnvN w) (h : KnownsAt w v ks) (hkb : knownB ks = true) :
    Calls Tryz.prog 6 #[v, .int .i64 x] w (BoolIs true w) := by
  have HKN := Lib.hid h
  have HKB := Lib.hid hkb
  have HOK := Lib.hid (ks_ok h hkb)
  have HE := Lib.hid hE
  have HG := Lib.hid hG
  have HN := Lib.hid hN
  obtain ⟨A, c, rfl, hc, hm, hr⟩ := h
  obtain ⟨kl, hkl⟩ : ∃ kl, ks.length = kl := ⟨_, rfl⟩
  have hl40 : kl ≤ 40 := by have := HOK.out.len; omega
  have HKL := Lib.hid hkl
  have HR := Lib.hid hr
  rw [hkl] at hc hm HKN ⊢
  have hb1 := below_alloc w (.cells #[.slice A kl c] 73)
  have hx1 := blk_new 73 w #[.slice A kl c]
  obtain ⟨W1, hW1⟩ : ∃ W, w.alloc (.cells #[.slice A kl c] 73) = W := ⟨_, rfl⟩
  rw [hW1] at hb1 hx1
  have HB1 := Lib.hid hb1
  have HX1 := Lib.hid hx1
  have k0 : W1.cell? ⟨w.heap.size, 0, none⟩ = some (.slice A kl c) := hx1.cell rfl
  clear hkl hr hE hG hN hkb hb1 hx1
  have hmm := @run_makeMap Tryz.prog
  go_enter Tryz.func6, Tryz.ntmps6
  go_wp2_with fail
  refine (known_calls _ ks _ (HKN.out.below HB1.out)).mono ?_
  rintro E w2 ⟨rfl, hb2⟩
  rw [HKB.out]
  have HB2 := Lib.hid (HB1.out.trans (hb2.mono HB1.out.size))
  have HX2 := Lib.hid (HX1.out.keep hb2)
  clear k0 hb2 hW1 HB1 HX1 HKB
  go_wp2_with fail
  refine (judged_calls w2 (HE.out.below HB2.out) (HG.out.below HB2.out)).mono ?_
  rintro E w3 ⟨rfl, hb3⟩
  have HB3 := Lib.hid (HB2.out.trans (hb3.mono HB2.out.size))
  have HX3 := Lib.hid (HX2.out.keep hb3)
  have k3 : w3.cell? ⟨w.heap.size, 0, none⟩ = some (.slice A kl c) := HX3.out.cell rfl
  clear hb3 HB2 HX2 HE HG
  go_wp2_with fail
  refine (checkLine_calls _ ks w3 (HN.out.below HB3.out) (HKN.out.below HB3.out) HOK.out).mono ?_
  rintro E w4 ⟨v4, rfl, hn4, hb4⟩
  obtain ⟨A4, c4, rfl, _, _, _⟩ := hn4.open
  obtain ⟨ll, hll⟩ : ∃ ll, (lineK ks).length = ll := ⟨_, rfl⟩
  have HLL := Lib.hid hll
  have hllk : ll ≤ 40 := by have := line_len ks; have := HKL.out; omega
  rw [hll] at hn4 ⊢
  have HN4 := Lib.hid hn4
  have HB4 := Lib.hid (HB3.out.trans (hb4.mono HB3.out.size))
  have HX4 := Lib.hid (HX3.out.keep hb4)
  clear hll hn4 hb4 k3 HB3 HX3
  have HC5 := Lib.hid (cntAt_zero (cntAt_new w4) (lineK ks))
  have HBM5 := Lib.hid (below_alloc w4 (.map #[] 0))
  go_wp2_with fail
  obtain ⟨W5, hW5⟩ : ∃ W, w4.alloc (.map #[] 0) = W := ⟨_, rfl⟩
  rw [hW5] at HC5 HBM5 ⊢
  clear hW5
  go_loopw [7] (fun i wr => ∃ k : Nat, k ≤ ll ∧ i = .int .i64 k ∧ Hid (CntAt wr w4.heap.size k (cntT zeroT (lineK ks) k)) ∧ Hid (Below w4.heap.size w4 wr)) (fun i _ => ll - (intOf i).toNat)
  case atStart => exact ⟨0, Nat.zero_le _, rfl, HC5, HBM5⟩
  case round =>
    obtain ⟨k, hk, rfl, hC, hB⟩ := hrel
    by_cases hlt : k < ll
    · obtain ⟨y, hy⟩ : ∃ y, (lineK ks)[k]? = some y := ⟨(lineK ks)[k]'(by have := HLL.out; omega), List.getElem?_eq_getElem _⟩
      have hyk : y < 40 := by have := line_lt (List.mem_of_getElem? hy); have := HKL.out; omega
      obtain ⟨Aq, cq, hvq, _, _, hrq⟩ := HN4.out.open
      obtain ⟨bq, oq, rfl, hiq⟩ := hrq (fun e => by rw [e] at hy; simp at hy)
      rw [HLL.out] at hvq
      injection hvq with e1 _ e3
      subst e1 e3
      have q1 := kept hB.out (hiq k y hy)
      obtain ⟨n0, hn0⟩ : ∃ n0, cntT zeroT (lineK ks) k y = n0 := ⟨_, rfl⟩
      have hn0b : n0 ≤ 100 := by have := cntT_le (n0 := zeroT) (l := lineK ks) (k := k) (j := y) (Nat.zero_le _); omega
      have hlook := hC.out.look y (by omega)
      rw [hn0] at hlook
      obtain ⟨W', hrun, hC', ht⟩ := hC.out.more hy (by omega) (by unfold maxLen; omega) (show cntT zeroT (lineK ks) k y + 1 = n0 + 1 by rw [hn0]) (by omega)
      rw [show ((n0 + 1 : Nat) : Int) = (n0 : Int) + 1 from by omega] at hrun
      have HC' := Lib.hid hC'
      have HB' := Lib.hid (below_turned hB.out (Nat.le_refl _) hB.out.size ht)
      have i1 : (k : Int) < ll := by omega
      have i2 : (0 : Int) ≤ k := by omega
      clear hC hC' ht hiq hrq hy hn0 hB
      go_wp2_with fail
      go_roundw
      case rel => exact ⟨k + 1, by omega, by go_num, HC', HB'⟩
      case measure => simp [intOf]; omega
    · obtain rfl : k = ll := by omega
      have ⟨wo, hwo⟩ : ∃ W, W = wr := ⟨_, rfl⟩
      subst hwo
      have HXo := Lib.hid (HX4.out.keep hB.out)
      have HBo := Lib.hid (HB4.out.trans (hB.out.mono HB4.out.size))
      have HCL := Lib.hid (fun (W : World) (hb : Below wo.heap.size wo W) (j : Nat) (hj : j < ks.length) => show (Instr.lookup 76 (.map (some w4.heap.size)) (.int .i64 (j : Int)) false).run Tryz.prog W = .ok (.int .i64 ((if startsI ks j then 1 else 0 : Nat) : Int)) W from by
        have h1 := (hC.out.below hb).look j (by have := HKL.out; omega)
        rw [cnt_line hj (Nat.le_of_eq HLL.out)] at h1
        exact h1)
      clear hC hB hlt HC5 HBM5 HB4 HX4
      go_wp2_with fail
      go_loopw [8] (fun i wq => ∃ k2 : Nat, k2 ≤ kl ∧ i = .int .i64 k2 ∧ Hid (Below wo.heap.size wo wq)) (fun i _ => kl - (intOf i).toNat)
      case atStart => exact ⟨0, Nat.zero_le _, rfl, Lib.hid (Below.refl _ _)⟩
      case round =>
        obtain ⟨k2, hk2, rfl, hBq⟩ := hrel
        by_cases hlt2 : k2 < kl
        · obtain ⟨kv, hkv⟩ : ∃ kv, ks[k2]? = some kv := ⟨ks[k2]'(by have := HKL.out; omega), List.getElem?_eq_getElem _⟩
          have hneK : ks ≠ [] := fun e => by rw [e] at hkv; simp at hkv
          obtain ⟨bk, ok, rfl, hki⟩ := HR.out hneK
          obtain ⟨Aw, At, A1, A2, A3, A4', A5, A6, A7, A8, A9, nw, nt, cw, ct, c1, c2, c3, c4', c5, c6, c7, c8, c9, hcs, _⟩ := ((hki k2 kv hkv).below (HBo.out.trans (hBq.out.mono HBo.out.size))).cells
          obtain ⟨s, hs7, hst⟩ := HOK.out.st kv (List.mem_of_getElem? hkv)
          have p0 : wr.cell? ⟨bk, ok + k2 * 20, none⟩ = some (.int .i64 s) := by rw [← hst]; exact hcs 0 _ rfl
          have kb : wr.cell? ⟨w.heap.size, 0, none⟩ = some (.slice (some ⟨bk, ok, none⟩) kl c) := (HXo.out.keep hBq.out).cell rfl
          have CM := Lib.hid (may_calls 3 s (by omega) (by omega) hs7 wr (HN.out.below (HBo.out.trans (hBq.out.mono HBo.out.size))))
          have hsI : startsI ks k2 = decide (0 ≤ afterT 3 s) := by unfold startsI; rw [hkv]; show decide (0 ≤ afterT 3 kv.st.toNat) = _; rw [hst, Int.toNat_natCast]
          have hlook := HCL.out wr hBq.out k2 (by have := HKL.out; omega)
          rw [hsI] at hlook
          obtain ⟨sb, hsb⟩ : ∃ sb, decide (0 ≤ afterT 3 s) = sb := ⟨_, rfl⟩
          rw [hsb] at hlook CM
          have i1 : (k2 : Int) < kl := by omega
          have i2 : (0 : Int) ≤ k2 := by omega
          clear hkv hneK hki hcs hs7 hst hsI hsb
          cases sb with
          | false =>
            have hl0 : (Instr.lookup 76 (.map (some w4.heap.size)) (.int .i64 (k2 : Int)) false).run Tryz.prog wr = .ok (.int .i64 0) wr := hlook
            clear hlook
            go_wp2_with fail
            refine CM.out.mono ?_
            rintro E w6 ⟨rfl, rfl⟩
            clear CM p0
            go_wp2_with fail
            go_roundw
            case rel => first | exact ⟨k2 + 1, by omega, by go_num, hBq⟩ | ((repeat apply Exists.intro); exact ⟨⟨k2 + 1, by omega, by go_num, hBq⟩, rfl⟩)
            case measure => simp [intOf]; omega
          | true =>
            have hl1 : (Instr.lookup 76 (.map (some w4.heap.size)) (.int .i64 (k2 : Int)) false).run Tryz.prog wr = .ok (.int .i64 1) wr := hlook
            clear hlook
            go_wp2_with fail
            refine CM.out.mono ?_
            rintro E w6 ⟨rfl, rfl⟩
            clear CM p0
            go_wp2_with fail
            go_roundw
            case rel => first | exact ⟨k2 + 1, by omega, by go_num, hBq⟩ | ((repeat apply Exists.intro); exact ⟨⟨k2 + 1, by omega, by go_num, hBq⟩, rfl⟩)
            case measure => simp [intOf]; omega
        · obtain rfl : k2 = kl := by omega
          have ⟨wp, hwp⟩ : ∃ W, W = wr := ⟨_, rfl⟩
          subst hwp
          have HXp := Lib.hid (HXo.out.keep hBq.out)
          have HBp := Lib.hid (HBo.out.trans (hBq.out.mono HBo.out.size))
          have kp : wp.cell? ⟨w.heap.size, 0, none⟩ = some (.slice A k2 c) := HXp.out.cell rfl
          clear hBq hlt2 HXo HBo HCL
          by_cases h0 : k2 = 0
          · subst h0
            go_wp2_with fail
            go_ret
            exact ⟨rfl, HBp.out⟩
          · have hneK : ks ≠ [] := fun e => by have := HKL.out; rw [e] at this; exact h0 this.symm
            obtain ⟨bk, ok, rfl, hki⟩ := HR.out hneK
            have HKI := Lib.hid hki
            obtain ⟨wh, hwh, hpv⟩ := pick_num x k2 (by omega) (by omega)
            have hwk : wh < k2 := by omega
            have HWH := Lib.hid (show wh < ks.length by have := HKL.out; omega)
            obtain ⟨W7, hrun7, hC7, ht7⟩ := (cntAt_new wp).store wh 1 (by omega) (by omega) (by unfold maxLen; omega)
            have hrun7' : (Instr.mapUpdate 76 (.map (some wp.heap.size)) (.int .i64 (wh : Int)) (.int .i64 1)).run Tryz.prog (wp.alloc (.map #[] 0)) = .ok () W7 := hrun7
            have hC7' := cntAt_one hC7 (needsK ks wh) rfl
            have hb7 := below_turned (below_alloc wp (.map #[] 0)) (Nat.le_refl _) (below_alloc wp (.map #[] 0)).size ht7
            have HC7 := Lib.hid hC7'
            have HB7 := Lib.hid hb7
            have k7 : W7.cell? ⟨w.heap.size, 0, none⟩ = some (.slice (some ⟨bk, ok, none⟩) k2 c) := (HXp.out.keep hb7).cell rfl
            have HPV := Lib.hid hpv
            clear hneK hki hrun7 hC7 hC7' ht7 hb7 hpv hwh
            go_wp2_with fail
            refine (pick_calls x k2 (by omega) (by omega) _).mono ?_
            rintro E w6 ⟨rfl, rfl⟩
            rw [HPV.out]
            go_wp2_with fail
            refine (needs_calls _ ks wh W7 (HKN.out.below (HBp.out.trans (HB7.out.mono HBp.out.size))) HOK.out HWH.out).mono ?_
            rintro E w8 ⟨v8, rfl, hn8, hb8⟩
            obtain ⟨A8, c8, rfl, _, _, _⟩ := hn8.open
            obtain ⟨nl, hnl⟩ : ∃ nl, (needsK ks wh).length = nl := ⟨_, rfl⟩
            have HNL := Lib.hid hnl
            have hnlk : nl ≤ 40 := by have := needs_len HWH.out; have := HKL.out; omega
            rw [hnl] at hn8 ⊢
            have HN8 := Lib.hid hn8
            have HC8 := Lib.hid (HC7.out.below hb8)
            have HB8 := Lib.hid (HB7.out.trans (hb8.mono HB7.out.size))
            clear hnl hn8 hb8 k7 kp hrun7' HC7 HB7 HPV
            go_wp2_with fail
            go_loopw [77] (fun i wq => ∃ k3 : Nat, k3 ≤ nl ∧ i = .int .i64 k3 ∧ Hid (CntAt wq wp.heap.size (0 + 1 + k3) (cntT (oneT wh) (needsK ks wh) k3)) ∧ Hid (NatsAt wq (.slice A8 nl c8) (needsK ks wh)) ∧ Hid (Below wp.heap.size wp wq)) (fun i _ => nl - (intOf i).toNat)
            case atStart => exact ⟨0, Nat.zero_le _, rfl, HC8, HN8, HB8⟩
            case round =>
              obtain ⟨k3, hk3, rfl, hC, hNq, hB⟩ := hrel
              by_cases hlt3 : k3 < nl
              · obtain ⟨y, hy⟩ : ∃ y, (needsK ks wh)[k3]? = some y := ⟨(needsK ks wh)[k3]'(by have := HNL.out; omega), List.getElem?_eq_getElem _⟩
                have hyk : y < 40 := by have := needs_lt HWH.out (List.mem_of_getElem? hy); have := HKL.out; omega
                obtain ⟨Aq, cq, hvq, _, _, hrq⟩ := hNq.out.open
                obtain ⟨bq, oq, rfl, hiq⟩ := hrq (fun e => by rw [e] at hy; simp at hy)
                rw [HNL.out] at hvq
                injection hvq with e1 _ e3
                subst e1 e3
                have q1 := hiq k3 y hy
                obtain ⟨n0, hn0⟩ : ∃ n0, cntT (oneT wh) (needsK ks wh) k3 y = n0 := ⟨_, rfl⟩
                have hn0b : n0 ≤ 100 := by have := cntT_le (n0 := oneT wh) (l := needsK ks wh) (k := k3) (j := y) (oneT_le _ _); omega
                have hlook := hC.out.look y (by omega)
                rw [hn0] at hlook
                obtain ⟨W', hrun, hC', ht⟩ := hC.out.more hy (by omega) (by unfold maxLen; omega) (show cntT (oneT wh) (needsK ks wh) k3 y + 1 = n0 + 1 by rw [hn0]) (by omega)
                rw [show ((n0 + 1 : Nat) : Int) = (n0 : Int) + 1 from by omega] at hrun
                have HC' := Lib.hid (show CntAt W' wp.heap.size (0 + 1 + (k3 + 1)) (cntT (oneT wh) (needsK ks wh) (k3 + 1)) from hC')
                have HN' := Lib.hid (nats_cells hNq.out fun a u => cnt_cell hC.out ht)
                have HB' := Lib.hid (below_turned hB.out (Nat.le_refl _) hB.out.size ht)
                have i1 : (k3 : Int) < nl := by omega
                have i2 : (0 : Int) ≤ k3 := by omega
                clear hC hC' ht hiq hrq hy hn0 hB hNq
                go_wp2_with fail
                go_roundw
                case rel => first | exact ⟨k3 + 1, by omega, by go_num, HC', HN', HB'⟩ | ((repeat apply Exists.intro); exact ⟨⟨k3 + 1, by omega, by go_num, HC', HN', HB'⟩, rfl⟩)
                case measure => simp [intOf]; omega
              · obtain rfl : k3 = nl := by omega
                have ⟨wt, hwt⟩ : ∃ W, W = wr := ⟨_, rfl⟩
                subst hwt
                have HXt := Lib.hid (HXp.out.keep hB.out)
                have HBt := Lib.hid (HBp.out.trans (hB.out.mono HBp.out.size))
                have HGL := Lib.hid (fun (W : World) (hb : Below wt.heap.size wt W) (j : Nat) (hj : j ≤ 1000) => show (Instr.lookup 76 (.map (some wp.heap.size)) (.int .i64 (j : Int)) false).run Tryz.prog W = .ok (.int .i64 (goneC ks wh j : Int)) W from by
                  have h1 := (hC.out.below hb).look j hj
                  rw [cnt_gone HWH.out j (Nat.le_of_eq HNL.out)] at h1
                  exact h1)
                have hl1 : (Instr.lookup 76 (.map (some wp.heap.size)) (.int .i64 (wh : Int)) false).run Tryz.prog wt = .ok (.int .i64 1) wt := by
                  have h1 := HGL.out wt (Below.refl _ _) wh (by omega)
                  rw [gone_which HWH.out] at h1
                  exact h1
                have kt : wt.cell? ⟨w.heap.size, 0, none⟩ = some (.slice (some ⟨bk, ok, none⟩) k2 c) := HXt.out.cell rfl
                clear hC hB hNq hlt3 HC8 HN8 HB8 HXp HBp
                go_wp2_with fail
                clear hl1
                go_loopw [14, 15, 16] (fun v14 v15 i wq => ∃ (k4 n1 d1 n2 d2 : Nat) (B1 B2 : Option Addr) (xs1 xs2 : List Value), k4 ≤ k2 ∧ i = .int .i64 k4 ∧ v14 = .slice B1 n1 d1 ∧ v15 = .slice B2 n2 d2 ∧ Hid (OffSt ks (worksI ks) w wt.heap.size wq k4 n1 d1 B1 xs1) ∧ Hid (OffSt ks (leftC ks wh) w wt.heap.size wq k4 n2 d2 B2 xs2) ∧ Hid (∀ g, Value.ownBlock (.slice B1 n1 d1) = some g → Value.ownBlock (.slice B2 n2 d2) ≠ some g) ∧ Hid (Below wt.heap.size wt wq)) (fun _ _ i _ => k2 - (intOf i).toNat)
                case atStart => exact ⟨0, 0, 0, 0, 0, none, none, [], [], Nat.zero_le _, rfl, rfl, rfl, Lib.hid (OffSt.start _ _ _ _ _), Lib.hid (OffSt.start _ _ _ _ _), Lib.hid (fun g e => by cases e), Lib.hid (Below.refl _ _)⟩
                case round =>
                  obtain ⟨k4, n1, d1, n2, d2, B1, B2, xs1, xs2, hk4, rfl, rfl, rfl, hO1, hO2, hNE, hB⟩ := hrel
                  by_cases hlt4 : k4 < k2
                  · obtain ⟨kv, hkv⟩ : ∃ kv, ks[k4]? = some kv := ⟨ks[k4]'(by have := HKL.out; omega), List.getElem?_eq_getElem _⟩
                    have HKV := Lib.hid hkv
                    have hBw := HBt.out.trans (hB.out.mono HBt.out.size)
                    have hka := (HKI.out k4 kv hkv).below hBw
                    have HKA := Lib.hid hka
                    obtain ⟨Aw, At, A1, A2, A3, A4', A5, A6, A7, A8', A9, nw, nt, cw, ct, c1, c2, c3, c4', c5, c6, c7, c8', c9, hcs, hpk⟩ := hka.cells
                    obtain ⟨u1, u2, u3, u4, u5, u6, u7, u8, u9, hv, g1, g2, g3, g4, g5, g6, g7, g8, g9, glo, ghi⟩ := hpk
                    injection hv with hv
                    injection hv with hv
                    simp only [List.cons.injEq] at hv
                    obtain ⟨_, _, _, _, rfl, rfl, rfl, rfl, rfl, rfl, rfl, rfl, rfl, _⟩ := hv
                    obtain ⟨A1x, A2x, A3x, A4x, A5x, A6x, A7x, A8x, A9x, m1, m2, m3, m4, m5, m6, m7, m8, m9, c1x, c2x, c3x, c4x, c5x, c6x, c7x, c8x, c9x, hK⟩ := (HKI.out k4 kv hkv).open
                    have h6 : TermsAt w (.slice A6 kv.p.pr.length c6) kv.p.pr := by
                      have e1 := kept hBw hK.p9
                      have e2 : wr.cell? ⟨bk, ok + k4 * 20 + 7 + 9, none⟩ = some (.slice A6 kv.p.pr.length c6) := hcs 16 _ rfl
                      rw [e1] at e2
                      injection e2 with e2
                      rw [← e2]
                      exact hK.d6
                    have HTP := Lib.hid h6
                    have hS0 : (fun W => (W.cell? ⟨w.heap.size, 0, none⟩ = some (.slice (some ⟨bk, ok, none⟩) k2 c) ∧ W.cell? ⟨bk, ok + k4 * 20 + 7, none⟩ = some (.string kv.p.n) ∧ W.cell? ⟨bk, ok + k4 * 20 + 7 + 1, none⟩ = some (.int .i64 kv.p.e) ∧ W.cell? ⟨bk, ok + k4 * 20 + 7 + 1 + 1, none⟩ = some (.string kv.p.u) ∧ W.cell? ⟨bk, ok + k4 * 20 + 7 + 1 + 2, none⟩ = some (.string kv.p.r) ∧ W.cell? ⟨bk, ok + k4 * 20 + 7 + 9, none⟩ = some (.slice A6 kv.p.pr.length c6) ∧ W.cell? ⟨bk, ok + k4 * 20 + 7 + 2, none⟩ = some (.string kv.p.u)) ∧ Below wr.heap.size wr W) wr := ⟨⟨(HXt.out.keep hB.out).cell rfl, hcs 7 _ rfl, hcs 8 _ rfl, hcs 9 _ rfl, hcs 10 _ rfl, hcs 16 _ rfl, hcs 9 _ rfl⟩, Below.refl _ _⟩
                    have HS0 := Lib.hid hS0
                    have CW := Lib.hid (fun (W : World) (hb : Below wr.heap.size wr W) => spares1_calls w.heap.size k4 bk ok k2 c kv W (((HXt.out.keep hB.out).keep hb).cell rfl) hlt4 (HKA.out.below hb))
                    have hw1 := workI_at hkv
                    have hw2 := leftC_at (which := wh) hkv
                    obtain ⟨wb, hwb⟩ : ∃ wb, worksB kv.st = wb := ⟨_, rfl⟩
                    rw [hwb] at CW hw1 hw2
                    have HW1 := Lib.hid hw1
                    have HW2 := Lib.hid hw2
                    have hn1b : n1 ≤ 40 := by have := hO1.out.bound; omega
                    have hn2b : n2 ≤ 40 := by have := hO2.out.bound; omega
                    have i1 : (k4 : Int) < k2 := by omega
                    have i2 : (0 : Int) ≤ k4 := by omega
                    have kr : wr.cell? ⟨w.heap.size, 0, none⟩ = some (.slice (some ⟨bk, ok, none⟩) k2 c) := (HXt.out.keep hB.out).cell rfl
                    clear hkv hBw hka hcs g1 g2 g3 g4 g5 g6 g7 g8 g9 glo ghi hK h6 hS0 hw1 hw2 hwb kt
                    go_upto_region 35 with fail
                    clear kr
                    refine wp_region_held_drew (S := (fun W => (W.cell? ⟨w.heap.size, 0, none⟩ = some (.slice (some ⟨bk, ok, none⟩) k2 c) ∧ W.cell? ⟨bk, ok + k4 * 20 + 7, none⟩ = some (.string kv.p.n) ∧ W.cell? ⟨bk, ok + k4 * 20 + 7 + 1, none⟩ = some (.int .i64 kv.p.e) ∧ W.cell? ⟨bk, ok + k4 * 20 + 7 + 1 + 1, none⟩ = some (.string kv.p.u) ∧ W.cell? ⟨bk, ok + k4 * 20 + 7 + 1 + 2, none⟩ = some (.string kv.p.r) ∧ W.cell? ⟨bk, ok + k4 * 20 + 7 + 9, none⟩ = some (.slice A6 kv.p.pr.length c6) ∧ W.cell? ⟨bk, ok + k4 * 20 + 7 + 2, none⟩ = some (.string kv.p.u)) ∧ Below wr.heap.size wr W)) (by kernel_rfl) ?_ (fun hHeld => ?_)
                    · have hb := below_drew wr
                      exact ⟨⟨kept hb HS0.out.1.1, kept hb HS0.out.1.2.1, kept hb HS0.out.1.2.2.1, kept hb HS0.out.1.2.2.2.1, kept hb HS0.out.1.2.2.2.2.1, kept hb HS0.out.1.2.2.2.2.2.1, kept hb HS0.out.1.2.2.2.2.2.2⟩, hb⟩
                    refine wpAnyH_take (i := 0) (v := ?_) rfl (by kernel_rfl) (by kernel_rfl) (by kernel_rfl) (fun _ _ _ h => h) (Or.inl ⟨by rfl, ?_⟩) (by assumption) ?_
                    rotate_left
                    · (intro w hSw; (try dsimp only at hSw); go_simp; (try with_reducible rfl))
                    (try simp only [List.getElem_toArray, List.getElem_cons_zero, Act.put, List.setIfInBounds_toArray, List.set_cons_zero, List.set_cons_succ])
                    refine wpAnyH_take (i := 1) (v := ?_) rfl (by kernel_rfl) (by kernel_rfl) (by kernel_rfl) (fun _ _ _ h => h) (Or.inl ⟨by rfl, ?_⟩) (by assumption) ?_
                    rotate_left
                    · (intro w hSw; (try dsimp only at hSw); go_simp; (try with_reducible rfl))
                    (try simp only [List.getElem_toArray, List.getElem_cons_succ, List.getElem_cons_zero, Act.put, List.setIfInBounds_toArray, List.set_cons_zero, List.set_cons_succ])
                    refine wpAnyH_take (i := 2) (v := ?_) rfl (by kernel_rfl) (by kernel_rfl) (by kernel_rfl) (fun _ _ _ h => h) (Or.inl ⟨by rfl, ?_⟩) (by assumption) ?_
                    rotate_left
                    · (intro w hSw; (try dsimp only at hSw); go_simp; (try with_reducible rfl))
                    (try simp only [List.getElem_toArray, List.getElem_cons_succ, List.getElem_cons_zero, Act.put, List.setIfInBounds_toArray, List.set_cons_zero, List.set_cons_succ])
                    refine wpAnyH_take (i := 3) (v := ?_) rfl (by kernel_rfl) (by kernel_rfl) (by kernel_rfl) (fun _ _ _ h => h) (Or.inl ⟨by rfl, ?_⟩) (by assumption) ?_
                    rotate_left
                    · (intro w hSw; (try dsimp only at hSw); go_simp; (try with_reducible rfl))
                    (try simp only [List.getElem_toArray, List.getElem_cons_succ, List.getElem_cons_zero, Act.put, List.setIfInBounds_toArray, List.set_cons_zero, List.set_cons_succ])
                    refine wpAnyH_take (i := 4) (v := ?_) rfl (by kernel_rfl) (by kernel_rfl) (by kernel_rfl) (fun _ _ _ h => h) (Or.inl ⟨by rfl, ?_⟩) (by assumption) ?_
                    rotate_left
                    · (intro w hSw; (try dsimp only at hSw); go_simp; (try with_reducible rfl))
                    (try simp only [List.getElem_toArray, List.getElem_cons_succ, List.getElem_cons_zero, Act.put, List.setIfInBounds_toArray, List.set_cons_zero, List.set_cons_succ])
                    refine wpAnyH_take (i := 5) (v := ?_) rfl (by kernel_rfl) (by kernel_rfl) (by kernel_rfl) (fun _ _ _ h => h) (Or.inl ⟨by rfl, ?_⟩) (by assumption) ?_
                    rotate_left
                    · (intro w hSw; (try dsimp only at hSw); go_simp; (try with_reducible rfl))
                    (try simp only [List.getElem_toArray, List.getElem_cons_succ, List.getElem_cons_zero, Act.put, List.setIfInBounds_toArray, List.set_cons_zero, List.set_cons_succ])
                    refine wpAnyH_take (i := 6) (v := ?_) rfl (by kernel_rfl) (by kernel_rfl) (by kernel_rfl) (fun _ _ _ h => h) (Or.inl ⟨by rfl, ?_⟩) (by assumption) ?_
                    rotate_left
                    · (intro w hSw; (try dsimp only at hSw); go_simp; (try with_reducible rfl))
                    (try simp only [List.getElem_toArray, List.getElem_cons_succ, List.getElem_cons_zero, Act.put, List.setIfInBounds_toArray, List.set_cons_zero, List.set_cons_succ])
                    refine wpAnyH_take (i := 7) (v := ?_) rfl (by kernel_rfl) (by kernel_rfl) (by kernel_rfl) (fun _ _ _ h => h) (Or.inl ⟨by rfl, ?_⟩) (by assumption) ?_
                    rotate_left
                    · (intro w hSw; (try dsimp only at hSw); go_simp; (try with_reducible rfl))
                    (try simp only [List.getElem_toArray, List.getElem_cons_succ, List.getElem_cons_zero, Act.put, List.setIfInBounds_toArray, List.set_cons_zero, List.set_cons_succ])
                    refine wpAnyH_take (i := 8) (v := ?_) rfl (by kernel_rfl) (by kernel_rfl) (by kernel_rfl) (fun _ _ _ h => h) (Or.inl ⟨by rfl, ?_⟩) (by assumption) ?_
                    rotate_left
                    · (intro w hSw; (try dsimp only at hSw); go_simp; (try with_reducible rfl))
                    (try simp only [List.getElem_toArray, List.getElem_cons_succ, List.getElem_cons_zero, Act.put, List.setIfInBounds_toArray, List.set_cons_zero, List.set_cons_succ])
                    refine wpAnyH_take (i := 9) (v := ?_) rfl (by kernel_rfl) (by kernel_rfl) (by kernel_rfl) (fun _ _ _ h => h) (Or.inl ⟨by rfl, ?_⟩) (by assumption) ?_
                    rotate_left
                    · (intro w hSw; (try dsimp only at hSw); go_simp; (try with_reducible rfl))
                    (try simp only [List.getElem_toArray, List.getElem_cons_succ, List.getElem_cons_zero, Act.put, List.setIfInBounds_toArray, List.set_cons_zero, List.set_cons_succ])
                    refine wpAnyH_take (i := 10) (v := ?_) rfl (by kernel_rfl) (by kernel_rfl) (by kernel_rfl) (fun _ _ _ h => h) (Or.inl ⟨by rfl, ?_⟩) (by assumption) ?_
                    rotate_left
                    · (intro w hSw; (try dsimp only at hSw); go_simp; (try with_reducible rfl))
                    (try simp only [List.getElem_toArray, List.getElem_cons_succ, List.getElem_cons_zero, Act.put, List.setIfInBounds_toArray, List.set_cons_zero, List.set_cons_succ])
                    refine wpAnyH_take (i := 11) (v := ?_) rfl (by kernel_rfl) (by kernel_rfl) (by kernel_rfl) (fun _ _ _ h => h) (Or.inl ⟨by rfl, ?_⟩) (by assumption) ?_
                    rotate_left
                    · (intro w hSw; (try dsimp only at hSw); go_simp; (try with_reducible rfl))
                    (try simp only [List.getElem_toArray, List.getElem_cons_succ, List.getElem_cons_zero, Act.put, List.setIfInBounds_toArray, List.set_cons_zero, List.set_cons_succ])
                    refine wpAnyH_take (i := 12) (v := ?_) rfl (by kernel_rfl) (by kernel_rfl) (by kernel_rfl) (fun _ _ _ h => h) (Or.inl ⟨by rfl, ?_⟩) (by assumption) ?_
                    rotate_left
                    · (intro w hSw; (try dsimp only at hSw); go_simp; (try with_reducible rfl))
                    (try simp only [List.getElem_toArray, List.getElem_cons_succ, List.getElem_cons_zero, Act.put, List.setIfInBounds_toArray, List.set_cons_zero, List.set_cons_succ])
                    refine wpAnyH_take (i := 13) (v := ?_) rfl (by kernel_rfl) (by kernel_rfl) (by kernel_rfl) (fun _ _ _ h => h) (Or.inl ⟨by rfl, ?_⟩) (by assumption) ?_
                    rotate_left
                    · (intro w hSw; (try dsimp only at hSw); go_simp; (try with_reducible rfl))
                    (try simp only [List.getElem_toArray, List.getElem_cons_succ, List.getElem_cons_zero, Act.put, List.setIfInBounds_toArray, List.set_cons_zero, List.set_cons_succ])
                    refine wpAnyH_take (i := 14) (v := ?_) rfl (by kernel_rfl) (by kernel_rfl) (by kernel_rfl) (fun _ _ _ h => h) (Or.inl ⟨by rfl, ?_⟩) (by assumption) ?_
                    rotate_left
                    · (intro w hSw; (try dsimp only at hSw); go_simp; (try with_reducible rfl))
                    (try simp only [List.getElem_toArray, List.getElem_cons_succ, List.getElem_cons_zero, Act.put, List.setIfInBounds_toArray, List.set_cons_zero, List.set_cons_succ])
                    refine wpAnyH_take (i := 15) (v := ?_) rfl (by kernel_rfl) (by kernel_rfl) (by kernel_rfl) (fun _ _ _ h => h) (Or.inl ⟨by rfl, ?_⟩) (by assumption) ?_
                    rotate_left
                    · (intro w hSw; (try dsimp only at hSw); go_simp; (try with_reducible rfl))
                    (try simp only [List.getElem_toArray, List.getElem_cons_succ, List.getElem_cons_zero, Act.put, List.setIfInBounds_toArray, List.set_cons_zero, List.set_cons_succ])
                    refine wpAnyH_take (i := 16) (v := ?_) rfl (by kernel_rfl) (by kernel_rfl) (by kernel_rfl) (fun _ _ _ h => h) (Or.inl ⟨by rfl, ?_⟩) (by assumption) ?_
                    rotate_left
                    · (intro w hSw; (try dsimp only at hSw); go_simp; (try with_reducible rfl))
                    (try simp only [List.getElem_toArray, List.getElem_cons_succ, List.getElem_cons_zero, Act.put, List.setIfInBounds_toArray, List.set_cons_zero, List.set_cons_succ])
                    refine wpAnyH_take (i := 17) (v := ?_) rfl (by kernel_rfl) (by kernel_rfl) (by kernel_rfl) (fun _ _ _ h => h) (Or.inl ⟨by rfl, ?_⟩) (by assumption) ?_
                    rotate_left
                    · (intro w hSw; (try dsimp only at hSw); go_simp; (try with_reducible rfl))
                    (try simp only [List.getElem_toArray, List.getElem_cons_succ, List.getElem_cons_zero, Act.put, List.setIfInBounds_toArray, List.set_cons_zero, List.set_cons_succ])
                    refine wpAnyH_take (i := 18) (v := ?_) rfl (by kernel_rfl) (by kernel_rfl) (by kernel_rfl) (fun _ _ _ h => h) (Or.inl ⟨by rfl, ?_⟩) (by assumption) ?_
                    rotate_left
                    · (intro w hSw; (try dsimp only at hSw); go_simp; (try with_reducible rfl))
                    (try simp only [List.getElem_toArray, List.getElem_cons_succ, List.getElem_cons_zero, Act.put, List.setIfInBounds_toArray, List.set_cons_zero, List.set_cons_succ])
                    refine wpAnyH_ready (rs := [19]) (by kernel_rfl) (by simp) ?_
                    refine AllReadyH.cons rfl (fun K hK => ?_) AllReadyH.nil
                    go_simp
                    (try go_wp2_with fail)
                    have hba := below_alloc wr.drew (.cells #[.string ⟨#[]⟩, .int .i64 0, .string ⟨#[]⟩, .string ⟨#[]⟩, .slice none 0 0] 84)
                    refine hK.out _ _ ?_ (fun hHeld2 => ?_)
                    · exact ⟨⟨kept hba hHeld.1.1, kept hba hHeld.1.2.1, kept hba hHeld.1.2.2.1, kept hba hHeld.1.2.2.2.1, kept hba hHeld.1.2.2.2.2.1, kept hba hHeld.1.2.2.2.2.2.1, kept hba hHeld.1.2.2.2.2.2.2⟩, hHeld.2.trans (hba.mono hHeld.2.size)⟩
                    clear hK K hHeld
                    have hHeld := hHeld2
                    clear hHeld2
                    (try simp only [List.getElem_toArray, List.getElem_cons_succ, List.getElem_cons_zero, Act.put, List.setIfInBounds_toArray, List.set_cons_zero, List.set_cons_succ])
                    clear hba
                    refine wpAnyH_ready (rs := [20]) (by kernel_rfl) (by simp) ?_
                    refine AllReadyH.cons rfl (fun K hK => ?_) AllReadyH.nil
                    rw [if_pos (by rfl)]
                    refine wp_store_row 84 _ _ rfl wr.drew.heap.size #[.string kv.p.n, .int .i64 kv.p.e, .string kv.p.u, .string kv.p.r, .slice A6 kv.p.pr.length c6] rfl rfl 84 _ (heap_alloc_new _ _) (by kernel_rfl) rfl (by simp [Value.oneCell']) ?_
                    have hnr := new_row wr.drew #[.string ⟨#[]⟩, .int .i64 0, .string ⟨#[]⟩, .string ⟨#[]⟩, .slice none 0 0] #[.string kv.p.n, .int .i64 kv.p.e, .string kv.p.u, .string kv.p.r, .slice A6 kv.p.pr.length c6] 84
                    refine hK.out _ _ ?_ (fun hHeld2 => ?_)
                    · have hb : Below wr.heap.size wr _ := (below_drew wr).trans (hnr.2.mono (below_drew wr).size)
                      exact ⟨⟨kept hb HS0.out.1.1, kept hb HS0.out.1.2.1, kept hb HS0.out.1.2.2.1, kept hb HS0.out.1.2.2.2.1, kept hb HS0.out.1.2.2.2.2.1, kept hb HS0.out.1.2.2.2.2.2.1, kept hb HS0.out.1.2.2.2.2.2.2⟩, hb⟩
                    clear hK K hHeld
                    have hHeld := hHeld2
                    clear hHeld2
                    (try simp only [List.getElem_toArray, List.getElem_cons_succ, List.getElem_cons_zero, Act.put])
                    refine wpAnyH_done (by kernel_rfl) ?_ _
                    have HBX := Lib.hid hHeld.2
                    have HXN := Lib.hid (show Blk 84 ((wr.alloc (.cells #[.string ⟨#[]⟩, .int .i64 0, .string ⟨#[]⟩, .string ⟨#[]⟩, .slice none 0 0] 84)).drew.setRow wr.drew.heap.size #[.string kv.p.n, .int .i64 kv.p.e, .string kv.p.u, .string kv.p.r, .slice A6 kv.p.pr.length c6]) wr.drew.heap.size #[.string kv.p.n, .int .i64 kv.p.e, .string kv.p.u, .string kv.p.r, .slice A6 kv.p.pr.length c6] from hnr.1)
                    clear hHeld hnr HS0
                    go_upto_region 36 with fail
                    obtain ⟨W35, hW35⟩ : ∃ W, (wr.alloc (.cells #[.string ⟨#[]⟩, .int .i64 0, .string ⟨#[]⟩, .string ⟨#[]⟩, .slice none 0 0] 84)).drew.setRow wr.drew.heap.size #[.string kv.p.n, .int .i64 kv.p.e, .string kv.p.u, .string kv.p.r, .slice A6 kv.p.pr.length c6] = W := ⟨_, rfl⟩
                    rw [hW35] at HBX HXN ⊢
                    obtain ⟨b17, hb17⟩ : ∃ b, wr.drew.heap.size = b := ⟨_, rfl⟩
                    have hb17' : wr.heap.size = b17 := hb17
                    rw [hb17] at HXN
                    (first | rw [hb17] | rw [hb17'])
                    have HLT := Lib.hid (show ∀ g, Value.ownBlock (.slice B1 n1 d1) = some g → g ≠ b17 from fun g e => by
                      have h1 := (row_lt hO1.out.row e).2
                      have h2 : wr.drew.heap.size = wr.heap.size := rfl
                      omega)
                    clear hW35 hb17 hb17'
                    have HO1 := Lib.hid (hO1.out.keep HBX.out)
                    have HO2 := Lib.hid (hO2.out.keep HBX.out)
                    have HB35 := Lib.hid (hB.out.trans (HBX.out.mono hB.out.size))
                    go_wp2_with fail
                    refine (CW.out _ HBX.out).mono ?_
                    rintro E w36 ⟨rfl, rfl⟩
                    clear CW hO1 hO2 hB
                    cases wb with
                    | false =>
                      have HO1' := Lib.hid (HO1.out.skip HKV.out HW1.out)
                      have HO2' := Lib.hid (HO2.out.skip HKV.out (HW2.out.trans (Bool.false_and _)))
                      go_wp2_with fail
                      go_roundw
                      case rel => first | exact ⟨k4 + 1, n1, d1, n2, d2, B1, B2, xs1, xs2, by omega, by go_num, rfl, rfl, HO1', HO2', hNE, HB35⟩ | ((repeat apply Exists.intro); exact ⟨⟨k4 + 1, n1, d1, n2, d2, B1, B2, xs1, xs2, by omega, by go_num, rfl, rfl, HO1', HO2', hNE, HB35⟩, rfl⟩)
                      case measure => simp [intOf]; omega
                    | true =>
                      have hsz35 := HB35.out.size
                      have o0 : W35.cell? ⟨b17, 0, none⟩ = some (.string kv.p.n) := HXN.out.cell rfl
                      have o1 : W35.cell? ⟨b17, 1, none⟩ = some (.int .i64 kv.p.e) := HXN.out.cell rfl
                      have o2 : W35.cell? ⟨b17, 2, none⟩ = some (.string kv.p.u) := HXN.out.cell rfl
                      have o3 : W35.cell? ⟨b17, 3, none⟩ = some (.string kv.p.r) := HXN.out.cell rfl
                      have o4 : W35.cell? ⟨b17, 4, none⟩ = some (.slice A6 kv.p.pr.length c6) := HXN.out.cell rfl
                      go_upto_region 38 with (at_builtin; obtain ⟨i0, hi, hz0, hz1, hz2⟩ := info_parts info_offer; refine wpList_append_own_at _ rfl _ _ 82 rfl wt.heap.size 84 i0 (.agg #[.string ⟨#[]⟩, .int .i64 0, .string ⟨#[]⟩, .string ⟨#[]⟩, .slice none 0 0]) 5 80 Tryz.underlying82 hi hz0 hz1 hz2 rfl (by decide) _ _ _ rfl (HO1.out.row.alloc _) ⟨W35.heap.size, 0, none⟩ 1 1 [.string kv.p.n, .int .i64 kv.p.e, .string kv.p.u, .string kv.p.r, .slice A6 kv.p.pr.length c6] rfl rfl (cells_newL _ _ _) (by simp [Value.oneCell']) (by simp only [maxLen]; omega) (by omega) (by simp; omega) ?_; clear hi hz0 hz1 hz2; intro v10 w10 hown10 hgrow10 hnil10 hloc10; obtain ⟨A10, c10, rfl, _, _⟩ := own_sl hown10; have HO10 := Lib.hid hown10; have HGR10 := Lib.hid hgrow10; have HL10 := Lib.hid hloc10; clear hown10 hgrow10 hnil10 hloc10)
                      have HO1' := Lib.hid (OffSt.more HO1.out HKV.out HW1.out HTP.out HO10.out)
                      have hg11 := HGR10.out
                      have HO2a := Lib.hid ((HO2.out.keep (below_alloc W35 _)).other hg11 (fun g e e2 => hNE.out g e2 e))
                      have HB10 := Lib.hid ((HB35.out.trans ((below_alloc W35 _).mono HB35.out.size)).grown hg11 (Nat.le_trans HB35.out.size (below_alloc W35 _).size) fun g e => (row_lt HO1.out.row e).1)
                      have HX10 := Lib.hid (show Blk 84 w10 b17 #[.string kv.p.n, .int .i64 kv.p.e, .string kv.p.u, .string kv.p.r, .slice A6 kv.p.pr.length c6] from (hg11.block b17 (Nat.lt_of_lt_of_le HXN.out.lt (below_alloc W35 _).size) (fun e => HLT.out b17 e.symm rfl)).trans (HXN.out.keep (below_alloc W35 _)))
                      have HNE1 := Lib.hid (show ∀ g, Value.ownBlock (.slice A10 (n1 + 1) c10) = some g → Value.ownBlock (.slice B2 n2 d2) ≠ some g from fun g e e2 => by
                        rcases HL10.out with h | h
                        · exact hNE.out g (h.symm.trans e) e2
                        · rw [h] at e
                          injection e with e
                          have h3 := (row_lt HO2.out.row e2).2
                          have h4 := (below_alloc W35 (.cells #[.string kv.p.n, .int .i64 kv.p.e, .string kv.p.u, .string kv.p.r, .slice A6 kv.p.pr.length c6] 84)).size
                          omega)
                      have hlk := HGL.out w10 HB10.out k4 (by omega)
                      obtain ⟨gn, hgn⟩ : ∃ gn, goneC ks wh k4 = gn := ⟨_, rfl⟩
                      have HGN := Lib.hid hgn
                      rw [hgn] at hlk
                      clear hg11 hgn o0 o1 o2 o3 o4 HO10 HGR10 HL10
                      by_cases hg0 : gn = 0
                      · subst hg0
                        have hlk0 : (Instr.lookup 76 (.map (some wp.heap.size)) (.int .i64 (k4 : Int)) false).run Tryz.prog w10 = .ok (.int .i64 0) w10 := hlk
                        clear hlk
                        have HL2 := Lib.hid (show leftC ks wh k4 = true from by rw [HW2.out, HGN.out]; rfl)
                        have o0 : w10.cell? ⟨b17, 0, none⟩ = some (.string kv.p.n) := HX10.out.cell rfl
                        have o1 : w10.cell? ⟨b17, 1, none⟩ = some (.int .i64 kv.p.e) := HX10.out.cell rfl
                        have o2 : w10.cell? ⟨b17, 2, none⟩ = some (.string kv.p.u) := HX10.out.cell rfl
                        have o3 : w10.cell? ⟨b17, 3, none⟩ = some (.string kv.p.r) := HX10.out.cell rfl
                        have o4 : w10.cell? ⟨b17, 4, none⟩ = some (.slice A6 kv.p.pr.length c6) := HX10.out.cell rfl
                        have hsz10 := HB10.out.size
                        go_wp2_with (at_builtin; obtain ⟨i0, hi, hz0, hz1, hz2⟩ := info_parts info_offer; refine wpList_append_own_at _ rfl _ _ 82 rfl wt.heap.size 84 i0 (.agg #[.string ⟨#[]⟩, .int .i64 0, .string ⟨#[]⟩, .string ⟨#[]⟩, .slice none 0 0]) 5 80 Tryz.underlying82 hi hz0 hz1 hz2 rfl (by decide) _ _ _ rfl (HO2a.out.row.alloc _) ⟨w10.heap.size, 0, none⟩ 1 1 [.string kv.p.n, .int .i64 kv.p.e, .string kv.p.u, .string kv.p.r, .slice A6 kv.p.pr.length c6] rfl rfl (cells_newL _ _ _) (by simp [Value.oneCell']) (by simp only [maxLen]; omega) (by omega) (by simp; omega) ?_; clear hi hz0 hz1 hz2; intro v11 w11 hown11 hgrow11 hnil11 hloc11; obtain ⟨A11, c11, rfl, _, _⟩ := own_sl hown11; have HO11 := Lib.hid hown11; have HGR11 := Lib.hid hgrow11; have HL11 := Lib.hid hloc11; clear hown11 hgrow11 hnil11 hloc11)
                        have HO2' := Lib.hid (OffSt.more HO2a.out HKV.out HL2.out HTP.out HO11.out)
                        have hg12 := HGR11.out
                        have HO1b := Lib.hid ((HO1'.out.keep (below_alloc w10 _)).other hg12 (fun g e e2 => HNE1.out g e e2))
                        have HB12 := Lib.hid ((HB10.out.trans ((below_alloc w10 _).mono HB10.out.size)).grown hg12 (Nat.le_trans HB10.out.size (below_alloc w10 _).size) fun g e => (row_lt HO2a.out.row e).1)
                        have HNE2 := Lib.hid (show ∀ g, Value.ownBlock (.slice A10 (n1 + 1) c10) = some g → Value.ownBlock (.slice A11 (n2 + 1) c11) ≠ some g from fun g e e2 => by
                          rcases HL11.out with h | h
                          · exact HNE1.out g e (h.symm.trans e2)
                          · rw [h] at e2
                            injection e2 with e2
                            have h3 := (row_lt HO1'.out.row e).2
                            have h4 := (below_alloc w10 (.cells #[.string kv.p.n, .int .i64 kv.p.e, .string kv.p.u, .string kv.p.r, .slice A6 kv.p.pr.length c6] 84)).size
                            omega)
                        clear hg12 o0 o1 o2 o3 o4 HO11 HGR11 HL11
                        go_roundw
                        case rel => first | exact ⟨k4 + 1, n1 + 1, c10, n2 + 1, c11, A10, A11, _, _, by omega, by go_num, rfl, rfl, HO1b, HO2', HNE2, HB12⟩ | ((repeat apply Exists.intro); exact ⟨⟨k4 + 1, n1 + 1, c10, n2 + 1, c11, A10, A11, _, _, by omega, by go_num, rfl, rfl, HO1b, HO2', HNE2, HB12⟩, rfl⟩)
                        case measure => simp [intOf]; omega
                      · have HL2 := Lib.hid (show leftC ks wh k4 = false from by rw [HW2.out, HGN.out, decide_eq_false hg0]; rfl)
                        have HO2' := Lib.hid (HO2a.out.skip HKV.out HL2.out)
                        have e0 : ((gn : Int) == 0) = false := by simp [hg0]
                        go_wp2_with fail
                        go_roundw
                        case rel => first | exact ⟨k4 + 1, n1 + 1, c10, n2, d2, A10, B2, _, xs2, by omega, by go_num, rfl, rfl, HO1', HO2', HNE1, HB10⟩ | ((repeat apply Exists.intro); exact ⟨⟨k4 + 1, n1 + 1, c10, n2, d2, A10, B2, _, xs2, by omega, by go_num, rfl, rfl, HO1', HO2', HNE1, HB10⟩, rfl⟩)
                        case measure => simp [intOf]; omega
                  · obtain rfl : k4 = k2 := by omega
                    have ⟨wu, hwu⟩ : ∃ W, W = wr := ⟨_, rfl⟩
                    subst hwu
                    have HXu := Lib.hid (HXt.out.keep hB.out)
                    have HBu := Lib.hid (HBt.out.trans (hB.out.mono HBt.out.size))
                    have HBE := Lib.hid (show OffersAt wu (.slice B1 n1 d1) (offersT ks (worksI ks) ks.length) from OffSt.at (by rw [HKL.out]; exact hO1.out) HBu.out HOK.out.len)
                    have HAF := Lib.hid (show OffersAt wu (.slice B2 n2 d2) (offersT ks (leftC ks wh) ks.length) from OffSt.at (by rw [HKL.out]; exact hO2.out) HBu.out HOK.out.len)
                    have HBTU := Lib.hid hB.out
                    have ku : wu.cell? ⟨w.heap.size, 0, none⟩ = some (.slice (some ⟨bk, ok, none⟩) k4 c) := HXu.out.cell rfl
                    clear hO1 hO2 hNE hB hlt4 HXt HBt kt
                    go_wp2_with fail
                    go_loopw [18] (fun i wq => ∃ k5 : Nat, k5 ≤ k4 ∧ i = .int .i64 k5 ∧ Hid (Below wu.heap.size wu wq)) (fun i _ => k4 - (intOf i).toNat)
                    case atStart => exact ⟨0, Nat.zero_le _, rfl, Lib.hid (Below.refl _ _)⟩
                    case round =>
                      obtain ⟨k5, hk5, rfl, hB⟩ := hrel
                      by_cases hlt5 : k5 < k4
                      · obtain ⟨kv, hkv⟩ : ∃ kv, ks[k5]? = some kv := ⟨ks[k5]'(by have := HKL.out; omega), List.getElem?_eq_getElem _⟩
                        have HKV := Lib.hid hkv
                        have hmem := List.mem_of_getElem? hkv
                        have hBw := HBu.out.trans (hB.out.mono HBu.out.size)
                        have hka := (HKI.out k5 kv hkv).below hBw
                        have HKA := Lib.hid hka
                        obtain ⟨Aw, At, A1, A2, A3, A4', A5, A6, A7, A8', A9, nw, nt, cw, ct, c1, c2, c3, c4', c5, c6, c7, c8', c9, hcs, hpk⟩ := hka.cells
                        obtain ⟨u1, u2, u3, u4, u5, u6, u7, u8, u9, hv, g1, g2, g3, g4, g5, g6, g7, g8, g9, glo, ghi⟩ := hpk
                        injection hv with hv
                        injection hv with hv
                        simp only [List.cons.injEq] at hv
                        obtain ⟨_, _, _, _, rfl, rfl, rfl, rfl, rfl, rfl, rfl, rfl, rfl, _⟩ := hv
                        have p4 : wr.cell? ⟨bk, ok + k5 * 20 + 7 + 4, none⟩ = some (.slice A1 kv.p.dep.length c1) := hcs 11 _ rfl
                        have p5 : wr.cell? ⟨bk, ok + k5 * 20 + 7 + 5, none⟩ = some (.slice A2 kv.p.ahead.length c2) := hcs 12 _ rfl
                        obtain ⟨m1, hm1⟩ : ∃ m, kv.p.dep.length = m := ⟨_, rfl⟩
                        obtain ⟨m2, hm2⟩ : ∃ m, kv.p.ahead.length = m := ⟨_, rfl⟩
                        have hm1b : m1 ≤ 40 := by have := HOK.out.dl kv hmem; omega
                        have hm2b : m2 ≤ 40 := by have := HOK.out.al kv hmem; omega
                        obtain ⟨ys1, hs1, hr1⟩ := AskedAt.src g1
                        obtain ⟨ys2, hs2, hr2⟩ := AskedAt.src g2
                        rw [hm1] at p4 hs1
                        rw [hm2] at p5 hs2
                        have HS0 := Lib.hid (show (fun W => (W.cell? ⟨w.heap.size, 0, none⟩ = some (.slice (some ⟨bk, ok, none⟩) k4 c) ∧ W.cell? ⟨bk, ok + k5 * 20 + 7 + 4, none⟩ = some (.slice A1 m1 c1) ∧ W.cell? ⟨bk, ok + k5 * 20 + 7 + 5, none⟩ = some (.slice A2 m2 c2)) ∧ Below wr.heap.size wr W) wr from ⟨⟨(HXu.out.keep hB.out).cell rfl, p4, p5⟩, Below.refl _ _⟩)
                        have HQ1 := Lib.hid (fun (W : World) (hb : Below wr.heap.size wr W) => hs1.below hb)
                        have HQ2 := Lib.hid (fun (W : World) (hb : Below wr.heap.size wr W) => hs2.below hb)
                        have HR1 := Lib.hid (show ys1.length = m1 ∧ AskedRow wr kv.p.dep ys1 from ⟨hr1.1.trans hm1, hr1⟩)
                        have HR2 := Lib.hid (show ys2.length = m2 ∧ AskedRow wr kv.p.ahead ys2 from ⟨hr2.1.trans hm2, hr2⟩)
                        have HLL5 := Lib.hid (show (linesK kv).length = m1 + m2 from by unfold linesK; rw [List.length_append, hm1, hm2])
                        have HXR := Lib.hid (show AskedRow wr (linesK kv) (ys1 ++ ys2) from hr1.append hr2)
                        have HTS := Lib.hid (show ∀ x ∈ linesK kv, ∀ t ∈ x, Tv.small t from fun x hx => (List.mem_append.1 hx).elim (HOK.out.dt kv hmem x) (HOK.out.at_ kv hmem x))
                        have HSM := Lib.hid (fun (sel : Nat → Bool) => show ∀ o ∈ offersT ks sel ks.length, o.small from fun o ho => by obtain ⟨k, hk, rfl⟩ := offers_mem ho; exact HOK.out.os k hk)
                        have CX := Lib.hid (fun (W : World) (u : Value) (hb : Below wu.heap.size wu W) (g : AskedAt W u (linesK kv)) => met_calls u (.slice B1 n1 d1) _ _ W g (HBE.out.below hb) HTS.out (HSM.out _))
                        have CY := Lib.hid (fun (W : World) (u : Value) (hb : Below wu.heap.size wu W) (g : AskedAt W u (linesK kv)) => met_calls u (.slice B2 n2 d2) _ _ W g (HAF.out.below hb) HTS.out (HSM.out _))
                        have CW := Lib.hid (fun (W : World) (hb : Below wr.heap.size wr W) => spares1_calls w.heap.size k5 bk ok k4 c kv W (((HXu.out.keep hB.out).keep hb).cell rfl) hlt5 (HKA.out.below hb))
                        obtain ⟨wb, hwb⟩ : ∃ wb, worksB kv.st = wb := ⟨_, rfl⟩
                        obtain ⟨xb, hxb⟩ : ∃ xb, metB (linesK kv) (offersT ks (worksI ks) ks.length) = xb := ⟨_, rfl⟩
                        obtain ⟨yb, hyb⟩ : ∃ yb, metB (linesK kv) (offersT ks (leftC ks wh) ks.length) = yb := ⟨_, rfl⟩
                        obtain ⟨gn, hgn⟩ : ∃ gn, goneC ks wh k5 = gn := ⟨_, rfl⟩
                        have HLM := Lib.hid (show gn = 0 → wb = true → xb = true → yb = true from fun e1 e2 e3 => by rw [← hyb]; exact left_met HWH.out hkv (hgn.trans e1) (hwb.trans e2) (hxb.trans e3))
                        have HGM := Lib.hid (show 0 < gn → k5 ≠ wh → wb = true ∧ xb = true ∧ yb = false from fun e1 e2 => by rw [← hwb, ← hxb, ← hyb]; exact gone_miss HWH.out hkv (by omega) e2)
                        have hg1 : gn ≤ 1 := by have := gone_le HWH.out k5; omega
                        have HLK := Lib.hid (fun (W : World) (hb : Below wr.heap.size wr W) => show (Instr.lookup 76 (.map (some wp.heap.size)) (.int .i64 (k5 : Int)) false).run Tryz.prog W = .ok (.int .i64 (gn : Int)) W from by
                          have h1 := HGL.out W (HBTU.out.trans ((hB.out.trans (hb.mono hB.out.size)).mono HBTU.out.size)) k5 (by omega)
                          rw [hgn] at h1
                          exact h1)
                        rw [hwb] at CW
                        rw [hxb] at CX
                        rw [hyb] at CY
                        have i1 : (k5 : Int) < k4 := by omega
                        have i2 : (0 : Int) ≤ k5 := by omega
                        have kr : wr.cell? ⟨w.heap.size, 0, none⟩ = some (.slice (some ⟨bk, ok, none⟩) k4 c) := (HXu.out.keep hB.out).cell rfl
                        clear hkv hmem hBw hka hcs g1 g2 g3 g4 g5 g6 g7 g8 g9 glo ghi hs1 hs2 hr1 hr2 hm1 hm2 p4 p5 hwb hxb hyb hgn ku
                        go_upto_region 43 with fail
                        clear kr
                        refine wp_region_held_drew (S := (fun W => (W.cell? ⟨w.heap.size, 0, none⟩ = some (.slice (some ⟨bk, ok, none⟩) k4 c) ∧ W.cell? ⟨bk, ok + k5 * 20 + 7 + 4, none⟩ = some (.slice A1 m1 c1) ∧ W.cell? ⟨bk, ok + k5 * 20 + 7 + 5, none⟩ = some (.slice A2 m2 c2)) ∧ Below wr.heap.size wr W)) (by kernel_rfl) ?_ (fun hHeld => ?_)
                        · have hb := below_drew wr
                          exact ⟨⟨kept hb HS0.out.1.1, kept hb HS0.out.1.2.1, kept hb HS0.out.1.2.2⟩, hb⟩
                        refine wpAnyH_take (i := 1) (v := ?_) rfl (by kernel_rfl) (by kernel_rfl) (by kernel_rfl) (fun _ _ _ h => h) (Or.inl ⟨by rfl, ?_⟩) (by assumption) ?_
                        rotate_left
                        · (intro w hSw; (try dsimp only at hSw); go_simp; (try with_reducible rfl))
                        (try simp only [List.getElem_toArray, List.getElem_cons_succ, List.getElem_cons_zero, Act.put, List.setIfInBounds_toArray, List.set_cons_zero, List.set_cons_succ])
                        refine wpAnyH_take (i := 2) (v := ?_) rfl (by kernel_rfl) (by kernel_rfl) (by kernel_rfl) (fun _ _ _ h => h) (Or.inl ⟨by rfl, ?_⟩) (by assumption) ?_
                        rotate_left
                        · (intro w hSw; (try dsimp only at hSw); go_simp; (try with_reducible rfl))
                        (try simp only [List.getElem_toArray, List.getElem_cons_succ, List.getElem_cons_zero, Act.put, List.setIfInBounds_toArray, List.set_cons_zero, List.set_cons_succ])
                        refine wpAnyH_take (i := 3) (v := ?_) rfl (by kernel_rfl) (by kernel_rfl) (by kernel_rfl) (fun _ _ _ h => h) (Or.inl ⟨by rfl, ?_⟩) (by assumption) ?_
                        rotate_left
                        · (intro w hSw; (try dsimp only at hSw); go_simp; (try with_reducible rfl))
                        (try simp only [List.getElem_toArray, List.getElem_cons_succ, List.getElem_cons_zero, Act.put, List.setIfInBounds_toArray, List.set_cons_zero, List.set_cons_succ])
                        refine wpAnyH_take (i := 4) (v := ?_) rfl (by kernel_rfl) (by kernel_rfl) (by kernel_rfl) (fun _ _ _ h => h) (Or.inl ⟨by rfl, ?_⟩) (by assumption) ?_
                        rotate_left
                        · (intro w hSw; (try dsimp only at hSw); go_simp; (try with_reducible rfl))
                        (try simp only [List.getElem_toArray, List.getElem_cons_succ, List.getElem_cons_zero, Act.put, List.setIfInBounds_toArray, List.set_cons_zero, List.set_cons_succ])
                        refine wpAnyH_take (i := 5) (v := ?_) rfl (by kernel_rfl) (by kernel_rfl) (by kernel_rfl) (fun _ _ _ h => h) (Or.inl ⟨by rfl, ?_⟩) (by assumption) ?_
                        rotate_left
                        · (intro w hSw; (try dsimp only at hSw); go_simp; (try with_reducible rfl))
                        (try simp only [List.getElem_toArray, List.getElem_cons_succ, List.getElem_cons_zero, Act.put, List.setIfInBounds_toArray, List.set_cons_zero, List.set_cons_succ])
                        refine wpAnyH_take (i := 6) (v := ?_) rfl (by kernel_rfl) (by kernel_rfl) (by kernel_rfl) (fun _ _ _ h => h) (Or.inl ⟨by rfl, ?_⟩) (by assumption) ?_
                        rotate_left
                        · (intro w hSw; (try dsimp only at hSw); go_simp; (try with_reducible rfl))
                        (try simp only [List.getElem_toArray, List.getElem_cons_succ, List.getElem_cons_zero, Act.put, List.setIfInBounds_toArray, List.set_cons_zero, List.set_cons_succ])
                        refine wpAnyH_take (i := 8) (v := ?_) rfl (by kernel_rfl) (by kernel_rfl) (by kernel_rfl) (fun _ _ _ h => h) (Or.inl ⟨by rfl, ?_⟩) (by assumption) ?_
                        rotate_left
                        · (intro w hSw; (try dsimp only at hSw); go_simp; (try with_reducible rfl))
                        (try simp only [List.getElem_toArray, List.getElem_cons_succ, List.getElem_cons_zero, Act.put, List.setIfInBounds_toArray, List.set_cons_zero, List.set_cons_succ])
                        refine wpAnyH_take (i := 9) (v := ?_) rfl (by kernel_rfl) (by kernel_rfl) (by kernel_rfl) (fun _ _ _ h => h) (Or.inl ⟨by rfl, ?_⟩) (by assumption) ?_
                        rotate_left
                        · (intro w hSw; (try dsimp only at hSw); go_simp; (try with_reducible rfl))
                        (try simp only [List.getElem_toArray, List.getElem_cons_succ, List.getElem_cons_zero, Act.put, List.setIfInBounds_toArray, List.set_cons_zero, List.set_cons_succ])
                        refine wpAnyH_take (i := 10) (v := ?_) rfl (by kernel_rfl) (by kernel_rfl) (by kernel_rfl) (fun _ _ _ h => h) (Or.inl ⟨by rfl, ?_⟩) (by assumption) ?_
                        rotate_left
                        · (intro w hSw; (try dsimp only at hSw); go_simp; (try with_reducible rfl))
                        (try simp only [List.getElem_toArray, List.getElem_cons_succ, List.getElem_cons_zero, Act.put, List.setIfInBounds_toArray, List.set_cons_zero, List.set_cons_succ])
                        refine wpAnyH_take (i := 11) (v := ?_) rfl (by kernel_rfl) (by kernel_rfl) (by kernel_rfl) (fun _ _ _ h => h) (Or.inl ⟨by rfl, ?_⟩) (by assumption) ?_
                        rotate_left
                        · (intro w hSw; (try dsimp only at hSw); go_simp; (try with_reducible rfl))
                        (try simp only [List.getElem_toArray, List.getElem_cons_succ, List.getElem_cons_zero, Act.put, List.setIfInBounds_toArray, List.set_cons_zero, List.set_cons_succ])
                        refine wpAnyH_take (i := 12) (v := ?_) rfl (by kernel_rfl) (by kernel_rfl) (by kernel_rfl) (fun _ _ _ h => h) (Or.inl ⟨by rfl, ?_⟩) (by assumption) ?_
                        rotate_left
                        · (intro w hSw; (try dsimp only at hSw); go_simp; (try with_reducible rfl))
                        (try simp only [List.getElem_toArray, List.getElem_cons_succ, List.getElem_cons_zero, Act.put, List.setIfInBounds_toArray, List.set_cons_zero, List.set_cons_succ])
                        refine wpAnyH_take (i := 13) (v := ?_) rfl (by kernel_rfl) (by kernel_rfl) (by kernel_rfl) (fun _ _ _ h => h) (Or.inl ⟨by rfl, ?_⟩) (by assumption) ?_
                        rotate_left
                        · (intro w hSw; (try dsimp only at hSw); go_simp; (try with_reducible rfl))
                        (try simp only [List.getElem_toArray, List.getElem_cons_succ, List.getElem_cons_zero, Act.put, List.setIfInBounds_toArray, List.set_cons_zero, List.set_cons_succ])
                        refine wpAnyH_ready (rs := [0]) (by kernel_rfl) (by simp) ?_
                        refine AllReadyH.cons rfl (fun K hK => ?_) AllReadyH.nil
                        go_simp
                        (try go_wp2_with fail)
                        have hba := below_alloc wr.drew (.cells #[] 65)
                        refine hK.out _ _ ?_ (fun hHeld2 => ?_)
                        · exact ⟨⟨kept hba hHeld.1.1, kept hba hHeld.1.2.1, kept hba hHeld.1.2.2⟩, hHeld.2.trans (hba.mono hHeld.2.size)⟩
                        clear hK K hHeld
                        have hHeld := hHeld2
                        clear hHeld2
                        (try simp only [List.getElem_toArray, List.getElem_cons_succ, List.getElem_cons_zero, Act.put, List.setIfInBounds_toArray, List.set_cons_zero, List.set_cons_succ])
                        clear hba
                        refine wpAnyH_ready (rs := [7]) (by kernel_rfl) (by simp) ?_
                        refine AllReadyH.cons rfl (fun K hK => ?_) AllReadyH.nil
                        obtain ⟨i1x, hi1, hy0, hy1, hy2⟩ := info_parts info_ccT
                        refine step_append_src _ rfl _ _ 64 rfl wr.drew.heap.size 65 i1x (.slice none 0 0) 1 24 Tryz.underlying64 hi1 hy0 hy1 hy2 rfl (by decide) _ 0 [] rfl (made_at wr.drew 65 1) _ m1 ys1 rfl (HQ1.out _ ((below_drew wr).trans ((below_alloc wr.drew _).mono (below_drew wr).size))) (HR1.out.1.trans (Nat.mul_one _).symm) HR1.out.2.one (by simp only [maxLen]; omega) (by omega) (below_alloc wr.drew _).size ?_
                        intro v7 w7 own7 g7
                        have hb7 : Below wr.drew.heap.size wr.drew w7 := below_grown (below_alloc wr.drew (.cells #[] 65)) (made_at wr.drew 65 1) g7
                        have hbw7 := (below_drew wr).trans (hb7.mono (below_drew wr).size)
                        refine hK.out _ _ ?_ (fun hHeld2 => ?_)
                        · exact ⟨⟨kept hbw7 HS0.out.1.1, kept hbw7 HS0.out.1.2.1, kept hbw7 HS0.out.1.2.2⟩, hbw7⟩
                        clear hK K hHeld
                        have hHeld := hHeld2
                        clear hHeld2
                        (try simp only [List.getElem_toArray, List.getElem_cons_succ, List.getElem_cons_zero, Act.put, List.setIfInBounds_toArray, List.set_cons_zero, List.set_cons_succ])
                        refine wpAnyH_ready (rs := [14]) (by kernel_rfl) (by simp) ?_
                        refine AllReadyH.cons rfl (fun K hK => ?_) AllReadyH.nil
                        refine step_append_src _ rfl _ _ 64 rfl wr.drew.heap.size 65 i1x (.slice none 0 0) 1 24 Tryz.underlying64 hi1 hy0 hy1 hy2 rfl (by decide) _ (0 + m1) ([] ++ ys1) rfl own7 _ m2 ys2 rfl (HQ2.out _ hbw7) (HR2.out.1.trans (Nat.mul_one _).symm) HR2.out.2.one (by simp only [maxLen]; omega) (by omega) hb7.size ?_
                        intro v14 w14 own14 g14
                        have hb14 : Below wr.drew.heap.size wr.drew w14 := below_grown hb7 own7 g14
                        have hbw14 := (below_drew wr).trans (hb14.mono (below_drew wr).size)
                        obtain ⟨mm, hmm2⟩ : ∃ mm, 0 + m1 + m2 = mm := ⟨_, rfl⟩
                        rw [hmm2] at own14
                        have HMM := Lib.hid hmm2
                        clear hmm2
                        obtain ⟨A14, c14, rfl, _, _⟩ := own_sl own14
                        refine hK.out _ _ ?_ (fun hHeld2 => ?_)
                        · exact ⟨⟨kept hbw14 HS0.out.1.1, kept hbw14 HS0.out.1.2.1, kept hbw14 HS0.out.1.2.2⟩, hbw14⟩
                        clear hK K hHeld
                        have hHeld := hHeld2
                        clear hHeld2
                        (try simp only [List.getElem_toArray, List.getElem_cons_succ, List.getElem_cons_zero, Act.put, List.setIfInBounds_toArray, List.set_cons_zero, List.set_cons_succ])
                        refine wpAnyH_take (i := 15) (v := ?_) rfl (by kernel_rfl) (by kernel_rfl) (by kernel_rfl) (fun _ _ _ h => h) (Or.inl ⟨by rfl, ?_⟩) (by assumption) ?_
                        rotate_left
                        · (intro w hSw; (try dsimp only at hSw); go_simp; (try with_reducible rfl))
                        (try simp only [List.getElem_toArray, List.getElem_cons_succ, List.getElem_cons_zero, Act.put, List.setIfInBounds_toArray, List.set_cons_zero, List.set_cons_succ])
                        refine wpAnyH_done (by kernel_rfl) ?_ _
                        have HB14 := Lib.hid hbw14
                        have HAS := Lib.hid (show AskedAt w14 (.slice A14 mm c14) (linesK kv) from asked_of_own own14 (L := linesK kv) (by have := HLL5.out; have := HMM.out; omega) (by have := HMM.out; omega) (fun i x hx => by rw [List.nil_append]; exact (HXR.out.below hbw14).2 i x hx))
                        have HBU14 := Lib.hid (hB.out.trans (hbw14.mono hB.out.size))
                        clear hHeld own7 g7 hb7 hbw7 own14 g14 hb14 hbw14 HS0 HQ1 HQ2 HR1 HR2 HXR
                        go_wp2_with fail
                        refine (CX.out _ _ HBU14.out HAS.out).mono ?_
                        rintro E w44 ⟨i44, rfl, hb44⟩
                        have HB44 := Lib.hid (HB14.out.trans (hb44.mono HB14.out.size))
                        have HBU44 := Lib.hid (HBU14.out.trans (hb44.mono HBU14.out.size))
                        have HAS44 := Lib.hid (HAS.out.below hb44)
                        clear hb44 CX HAS HB14 HBU14
                        go_wp2_with fail
                        refine (CY.out _ _ HBU44.out HAS44.out).mono ?_
                        rintro E w45 ⟨i45, rfl, hb45⟩
                        have HB45 := Lib.hid (HB44.out.trans (hb45.mono HB44.out.size))
                        have HBU45 := Lib.hid (HBU44.out.trans (hb45.mono HBU44.out.size))
                        clear hb45 CY HAS44 HB44 HBU44
                        go_upto_region 46 with fail
                        have CW45 := Lib.hid (CW.out _ HB45.out)
                        have hlk := HLK.out _ HB45.out
                        clear CW HLK
                        by_cases hg0 : gn = 0
                        · subst hg0
                          have hlk0 : (Instr.lookup 76 (.map (some wp.heap.size)) (.int .i64 (k5 : Int)) false).run Tryz.prog w45 = .ok (.int .i64 0) w45 := hlk
                          clear hlk HGM
                          go_wp2_with fail
                          refine CW45.out.mono ?_
                          rintro E w46 ⟨rfl, rfl⟩
                          clear CW45
                          cases wb with
                          | false =>
                            clear HLM
                            go_wp2_with fail
                            go_roundw
                            case rel => first | exact ⟨k5 + 1, by omega, by go_num, HBU45⟩ | ((repeat apply Exists.intro); exact ⟨⟨k5 + 1, by omega, by go_num, HBU45⟩, rfl⟩)
                            case measure => simp [intOf]; omega
                          | true =>
                            cases xb with
                            | false =>
                              clear HLM
                              go_wp2_with fail
                              go_roundw
                              case rel => first | exact ⟨k5 + 1, by omega, by go_num, HBU45⟩ | ((repeat apply Exists.intro); exact ⟨⟨k5 + 1, by omega, by go_num, HBU45⟩, rfl⟩)
                              case measure => simp [intOf]; omega
                            | true =>
                              obtain rfl : yb = true := by have h := HLM.out; simpa using h
                              clear HLM
                              go_wp2_with fail
                              go_roundw
                              case rel => first | exact ⟨k5 + 1, by omega, by go_num, HBU45⟩ | ((repeat apply Exists.intro); exact ⟨⟨k5 + 1, by omega, by go_num, HBU45⟩, rfl⟩)
                              case measure => simp [intOf]; omega
                        · obtain rfl : gn = 1 := by omega
                          have hlk1 : (Instr.lookup 76 (.map (some wp.heap.size)) (.int .i64 (k5 : Int)) false).run Tryz.prog w45 = .ok (.int .i64 1) w45 := hlk
                          clear hlk HLM hg0
                          by_cases hkw : k5 = wh
                          · subst hkw
                            clear HGM
                            go_wp2_with fail
                            go_roundw
                            case rel => first | exact ⟨k5 + 1, by omega, by go_num, HBU45⟩ | ((repeat apply Exists.intro); exact ⟨⟨k5 + 1, by omega, by go_num, HBU45⟩, rfl⟩)
                            case measure => simp [intOf]; omega
                          · obtain ⟨rfl, rfl, rfl⟩ := HGM.out (by omega) hkw
                            have hne : ((k5 : Int) == (wh : Int)) = false := by rw [beq_eq_false_iff_ne]; omega
                            clear HGM
                            go_wp2_with fail
                            refine CW45.out.mono ?_
                            rintro E w46 ⟨rfl, rfl⟩
                            clear CW45
                            go_wp2_with fail
                            go_roundw
                            case rel => first | exact ⟨k5 + 1, by omega, by go_num, HBU45⟩ | ((repeat apply Exists.intro); exact ⟨⟨k5 + 1, by omega, by go_num, HBU45⟩, rfl⟩)
                            case measure => simp [intOf]; omega
                      · obtain rfl : k5 = k4 := by omega
                        have HBF := Lib.hid (HBu.out.trans (hB.out.mono HBu.out.size))
                        have kr : wr.cell? ⟨w.heap.size, 0, none⟩ = some (.slice (some ⟨bk, ok, none⟩) k5 c) := (HXu.out.keep hB.out).cell rfl
                        go_wp2_with fail
                        go_ret
                        exact ⟨rfl, HBF.out⟩
end Go.Proofs.YtpbbhjifgaeklaaGreatDoor

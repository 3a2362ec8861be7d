/- The reference's Archive: may a package be, with its files. -/
import Derived.Test.YtodbbfgkclkpgaaGreatDoorARC17
import Derived.Test.YtodbbfgkclkpgaaGreatDoorARC20
namespace Go.Proofs.YtodbbfgkclkpgaaGreatDoor
open Go Go.RowKit


set_option maxHeartbeats 4000000 in
set_option maxRecDepth 100000 in
theorem refArc_calls (v : Value) (p : Pv) (w : World) (hE : Env w) (h : PackAt w v p) (hf : p.Fit) (hz : ∀ f ∈ p.fi, f.n.size ≤ 1000000) : Calls Tryz.prog 23 #[v] w (BoolIs (archB p) w) := by
  obtain ⟨v1, v2, v3, v4, v5, v6, v7, v8, v9, rfl, h1, h2, h3, h4, h5, h6, h7, h8, h9, hlo, hhi⟩ := id h
  obtain ⟨len, hlen⟩ : ∃ len, p.fi.length = len := ⟨_, rfl⟩
  obtain ⟨A9, k9, rfl, hc9, hm9, hr9⟩ := h9.open
  obtain ⟨A7, n7, k7, rfl⟩ := sl_slice h7
  rw [hlen] at hc9 hm9 h h9 ⊢
  have hB0 := below_alloc w (.cells #[.string p.n, .int .i64 p.e, .string p.u, .string p.r, v1, v2, v3, v4, v5, v6, .slice A7 n7 k7, v8, .slice A9 len k9] 29)
  have CR := Lib.hid (refSays_calls _ p _ (hE.below hB0) (h.below hB0) hf)
  obtain ⟨bs, hbs⟩ : ∃ y, saysOk p = y := ⟨_, rfl⟩
  have HBS := Lib.hid hbs
  rw [hbs] at CR
  have X0 := packBox_new w p v1 v2 v3 v4 v5 v6 (.slice A7 n7 k7) v8 (.slice A9 len k9) 29
  obtain ⟨c0, c1, c2, c3, c4, c5, c6, c7, c8, c9, c10, c11, c12⟩ := id X0
  have HL := Lib.hid hlen
  have HR := Lib.hid hr9
  have HEE := Lib.hid hE
  have HZ := Lib.hid hz
  have H7 := Lib.hid h7
  have H9 := Lib.hid h9
  clear h1 h2 h3 h4 h5 h6 h7 h8 h9 h hf hE hz hbs hlen hr9
  go_enter Tryz.func23, Tryz.ntmps23
  go_wp2_with fail
  refine CR.out.mono ?_
  rintro E w1 ⟨rfl, hb⟩
  have X1 := X0.below hb
  have HB1 := Lib.hid (step_below hB0 hb)
  clear c0 c1 c2 c3 c4 c5 c6 c7 c8 c9 c10 c11 c12 X0 CR hb hB0
  obtain ⟨m, hm⟩ : ∃ m, w.heap.size = m := ⟨_, rfl⟩
  rw [hm] at X1
  have HX1 := Lib.hid X1
  have c12 := X1.c12
  cases bs with
  | false =>
    go_wp2_with fail
    go_ret
    exact ⟨ret_bool (by rw [arch_says HBS.out]), HB1.out⟩
  | true =>
  by_cases hmany : len ≤ 20
  case neg =>
    go_wp2_with fail
    go_ret
    exact ⟨ret_bool (by rw [arch_many (by rw [HL.out]; exact hmany)]), HB1.out⟩
  case pos =>
  clear X1
  go_upto_region 3 with fail
  (try rw [hm])
  clear hm
  go_wp2_with fail
  go_loopw [24] (fun i wr => ∃ k : Nat, k ≤ len ∧ i = .int .i64 k ∧ Hid (FilesTo p.fi k) ∧ Below w1.heap.size w1 wr) (fun i _ => len - (intOf i).toNat)
  case atStart => exact ⟨0, Nat.zero_le _, rfl, Lib.hid (FilesTo.zero _), Below.refl _ _⟩
  case round =>
    clear c12
    obtain ⟨k, hk, rfl, hall, hB⟩ := hrel
    by_cases hlt : k < len
    · have hne : p.fi ≠ [] := by
        intro e
        have := HL.out
        rw [e] at this
        simp at this
        omega
      obtain ⟨f, ht⟩ : ∃ f, p.fi[k]? = some f := ⟨p.fi[k]'(by have := HL.out; omega), List.getElem?_eq_getElem _⟩
      obtain ⟨b, off, rfl, hi⟩ := HR.out hne
      obtain ⟨c0, c1⟩ := hi k f ht
      have hBw := step_below HB1.out hB
      replace c0 := kept hBw c0
      replace c1 := kept hBw c1
      have HT := Lib.hid ht
      have HI := Lib.hid hi
      have ha := below_alloc wr (.cells #[.string f.n, .string f.v] 81)
      have d0 : (wr.alloc (.cells #[.string f.n, .string f.v] 81)).cell? ⟨wr.heap.size, 0, none⟩ = some (.string f.n) := by go_cell
      have CP := Lib.hid (refPath_calls f.n (wr.alloc (.cells #[.string f.n, .string f.v] 81)) (HZ.out f (List.mem_of_getElem? ht)))
      have HBa := Lib.hid (step_below hB ha)
      have c12 := kept (step_below hB ha) HX1.out.c12
      obtain ⟨bp, hbp⟩ : ∃ y, VP.pathP f.n.data.toList = y := ⟨_, rfl⟩
      have HP := Lib.hid hbp
      rw [hbp] at CP
      clear hne hi hBw ha hbp hB
      go_wp2_with fail
      refine CP.out.mono ?_
      rintro E w3 ⟨rfl, hb⟩
      have e0 := kept hb d0
      have c12' := kept hb c12
      have HB3 := Lib.hid (step_below HBa.out hb)
      clear hb d0 c12 CP c0 c1 HBa
      cases bp with
      | false =>
        go_wp2_with fail
        go_ret
        exact ⟨ret_bool (by rw [arch_files (files_bad (by rw [HL.out]; exact hlt) (fileAt_path HT.out HP.out))]), step_below HB1.out HB3.out⟩
      | true =>
      obtain ⟨mf, hmf⟩ : ∃ mf, wr.heap.size = mf := ⟨_, rfl⟩
      rw [hmf] at e0
      (try rw [hmf])
      clear hmf
      go_wp2_with fail
      clear c12'
      have hz3 := Below.refl w3.heap.size w3
      go_loopw [36] (fun i wx => ∃ q : Nat, q ≤ len ∧ i = .int .i64 q ∧ Hid (PairsTo p.fi f k q) ∧ Below w3.heap.size w3 wx) (fun i _ => len - (intOf i).toNat)
      case atStart => exact ⟨0, Nat.zero_le _, rfl, Lib.hid (PairsTo.zero _ _ _), hz3⟩
      case round =>
        clear hz3
        obtain ⟨q, hq, rfl, hpr, hz⟩ := hrel
        by_cases hqt : q < len
        · obtain ⟨g, hg⟩ : ∃ g, p.fi[q]? = some g := ⟨p.fi[q]'(by have := HL.out; omega), List.getElem?_eq_getElem _⟩
          obtain ⟨j0, j1⟩ := HI.out q g hg
          have hBw := step_below HB1.out (step_below HB3.out hz)
          replace j0 := kept hBw j0
          replace j1 := kept hBw j1
          have hag := below_alloc wr (.cells #[.string g.n, .string g.v] 81)
          have e1 := kept (step_below hz hag) e0
          have i0 : (wr.alloc (.cells #[.string g.n, .string g.v] 81)).cell? ⟨wr.heap.size, 0, none⟩ = some (.string g.n) := by go_cell
          have HZG := Lib.hid (step_below hz hag)
          have HG := Lib.hid hg
          clear hBw hag hg hz
          by_cases hqk : q = k
          · subst hqk
            have HK := Lib.hid (hpr.out.succ HG.out (show pairOk f q g q = true by unfold pairOk; simp))
            go_wp2_with fail
            go_roundw
            case rel => exact ⟨q + 1, by omega, by go_num, HK, HZG.out⟩
            case measure => simp [intOf]; omega
          · have hn1 : ((q : Int) == (k : Int)) = false := by rw [beq_eq_false_iff_ne]; omega
            have hn2 : ((q : Int) != (k : Int)) = true := by rw [bne, hn1]; rfl
            have hnq : ¬ (q : Int) = (k : Int) := by omega
            have q1 := name_eq g.n f.n
            have q2 := name_eq' g.n f.n
            obtain ⟨be, hbe⟩ : ∃ y, decide (g.n = f.n) = y := ⟨_, rfl⟩
            have HBE := Lib.hid hbe
            rw [hbe] at q1 q2
            have CH := Lib.hid (fun (W : World) => Tryz.strings_HasPrefix g.n (f.n ++ ⟨#[47]⟩) W)
            obtain ⟨bu, hbu⟩ : ∃ y, underB f g = y := ⟨_, rfl⟩
            have CH' : Hid (∀ W : World, Calls Tryz.prog 84 #[.string g.n, .string (f.n ++ ⟨#[47]⟩)] W fun E W' => E = .returned (.bool bu) ∧ W = W') := fun W => (CH.out W).mono fun E W' ⟨he, hw⟩ => ⟨by rw [he, ← hbu]; rfl, hw.symm⟩
            have HPK := Lib.hid (show pairOk f k g q = !(be || bu) by unfold pairOk clashB; rw [hbe, hbu, show decide (q = k) = false from decide_eq_false hqk, Bool.false_or])
            clear hbe hbu CH
            cases be with
            | true =>
              go_wp2_with fail
              go_ret
              exact ⟨ret_bool (by rw [arch_files (files_bad (by rw [HL.out]; exact hlt) (fileAt_clash HT.out HG.out HPK.out))]), step_below HB1.out (step_below HB3.out HZG.out)⟩
            | false =>
              have hfz : f.n.size ≤ 1000000 := HZ.out f (List.mem_of_getElem? HT.out)
              go_wp2_with fail
              refine (CH'.out _).mono ?_
              rintro E w5 ⟨rfl, rfl⟩
              cases bu with
              | true =>
                go_wp2_with fail
                go_ret
                exact ⟨ret_bool (by rw [arch_files (files_bad (by rw [HL.out]; exact hlt) (fileAt_clash HT.out HG.out HPK.out))]), step_below HB1.out (step_below HB3.out HZG.out)⟩
              | false =>
                have HK := Lib.hid (hpr.out.succ HG.out HPK.out)
                go_wp2_with fail
                go_roundw
                case rel => exact ⟨q + 1, by omega, by go_num, HK, HZG.out⟩
                case measure => simp [intOf]; omega
        · obtain rfl : q = len := by omega
          have HA := Lib.hid (hall.out.succ (fileAt_true HT.out HP.out (by rw [HL.out]; exact hpr.out)))
          have HB4 := Lib.hid (step_below HB3.out hz)
          clear hz hpr
          go_wp2_with fail
          go_roundw
          case rel => exact ⟨k + 1, by omega, by go_num, HA, HB4.out⟩
          case measure => simp [intOf]; omega
    · obtain rfl : k = len := by omega
      have HAR := Lib.hid (arch_rest HBS.out (by rw [HL.out]; exact hmany) (FilesTo.done (by rw [HL.out]; exact hall.out)))
      have c10 := kept hB HX1.out.c10
      have HBB := Lib.hid (step_below HB1.out hB)
      obtain ⟨sl, hsl⟩ : ∃ sl, p.se.length = sl := ⟨_, rfl⟩
      obtain ⟨A7', k7', hv7, hc7, hm7, hr7⟩ := H7.out.open
      injection hv7 with e1 e2 e3
      subst e1
      subst e2
      subst e3
      have HSL := Lib.hid hsl
      have HR7 := Lib.hid hr7
      have HSO := Lib.hid (show setOk p = p.se.all (hasFile p.fi) from rfl)
      obtain ⟨wo, rfl⟩ : ∃ wo : World, wo = wr := ⟨_, rfl⟩
      have HBo := Lib.hid hB
      rw [hsl] at hc7 hm7 c10 ⊢
      clear hB hall hsl hr7
      go_wp2_with fail
      clear c10
      go_loopw [64] (fun i wy => ∃ s : Nat, s ≤ sl ∧ i = .int .i64 s ∧ Hid ((p.se.take s).all (hasFile p.fi) = true) ∧ Below wo.heap.size wo wy) (fun i _ => sl - (intOf i).toNat)
      case atStart => exact ⟨0, Nat.zero_le _, rfl, rfl, Below.refl _ _⟩
      case round =>
        obtain ⟨s, hs, rfl, hset, hz⟩ := hrel
        by_cases hst : s < sl
        · have hne : p.se ≠ [] := by
            intro e
            have := HSL.out
            rw [e] at this
            simp at this
            omega
          obtain ⟨t, htt⟩ : ∃ t, p.se[s]? = some t := ⟨p.se[s]'(by have := HSL.out; omega), List.getElem?_eq_getElem _⟩
          obtain ⟨b7, off7, rfl, hi7⟩ := HR7.out hne
          have t0 := kept (step_below HBB.out hz) (hi7 s t htt)
          have HTT := Lib.hid htt
          have f12 := kept (step_below HBo.out hz) HX1.out.c12
          obtain ⟨wu, rfl⟩ : ∃ wu : World, wu = wr := ⟨_, rfl⟩
          have HZU := Lib.hid hz
          clear hi7 hne htt hz
          go_wp2_with fail
          clear t0 f12
          go_loopw [9, 71] (fun sv i wy => ∃ (q : Nat) (B : Bool), q ≤ k ∧ sv = .bool B ∧ i = .int .i64 q ∧ Hid (B = (p.fi.take q).any fun f => decide (f.n = t)) ∧ Below wu.heap.size wu wy) (fun _ i _ => k - (intOf i).toNat)
          case atStart => exact ⟨0, false, Nat.zero_le _, rfl, rfl, Lib.hid rfl, Below.refl _ _⟩
          case round =>
            obtain ⟨q, B, hq, rfl, rfl, hBe, hy⟩ := hrel
            by_cases hqt : q < k
            · have hne : p.fi ≠ [] := by
                intro e
                have := HL.out
                rw [e] at this
                simp at this
                omega
              obtain ⟨g, hg⟩ : ∃ g, p.fi[q]? = some g := ⟨p.fi[q]'(by have := HL.out; omega), List.getElem?_eq_getElem _⟩
              obtain ⟨b, off, rfl, hi⟩ := HR.out hne
              obtain ⟨j0, j1⟩ := hi q g hg
              have hBw := step_below HBB.out (step_below HZU.out hy)
              replace j0 := kept hBw j0
              replace j1 := kept hBw j1
              have hag := below_alloc wr (.cells #[.string g.n, .string g.v] 81)
              have i0 : (wr.alloc (.cells #[.string g.n, .string g.v] 81)).cell? ⟨wr.heap.size, 0, none⟩ = some (.string g.n) := by go_cell
              have hyg := step_below hy hag
              have q1 := name_eq g.n t
              obtain ⟨be, hbe⟩ : ∃ y, decide (g.n = t) = y := ⟨_, rfl⟩
              rw [hbe] at q1
              have HNX := Lib.hid (show ((p.fi.take (q + 1)).any fun f => decide (f.n = t)) = (B || be) by rw [List.take_add_one, hg, List.any_append, ← hBe.out]; simp [hbe])
              clear hbe hBe hBw hag hi hne hg hy
              cases B with
              | true =>
                go_wp2_with fail
                go_roundw
                case rel => exact ⟨q + 1, true, by omega, rfl, by go_num, Lib.hid (by rw [HNX.out]; rfl), hyg⟩
                case measure => simp [intOf]; omega
              | false =>
                cases be with
                | true =>
                  go_wp2_with fail
                  go_roundw
                  case rel => exact ⟨q + 1, true, by omega, by first | rfl | (simp [q1]), by go_num, Lib.hid (by rw [HNX.out]; rfl), hyg⟩
                  case measure => simp [intOf]; omega
                | false =>
                  go_wp2_with fail
                  go_roundw
                  case rel => exact ⟨q + 1, false, by omega, by first | rfl | (simp [q1]), by go_num, Lib.hid (by rw [HNX.out]; rfl), hyg⟩
                  case measure => simp [intOf]; omega
            · obtain rfl : q = k := by omega
              have HBF := Lib.hid (show B = hasFile p.fi t by rw [hBe.out, ← HL.out, List.take_length]; rfl)
              have HZF := Lib.hid (step_below HZU.out hy)
              clear hBe hy
              cases B with
              | false =>
                go_wp2_with fail
                go_ret
                exact ⟨ret_bool (by rw [HAR.out, HSO.out, all_stop HTT.out HBF.out.symm]), step_below HBB.out HZF.out⟩
              | true =>
                go_wp2_with fail
                go_roundw
                case rel => exact ⟨s + 1, by omega, by go_num, Lib.hid (all_take_succ hset.out HTT.out HBF.out.symm), HZF.out⟩
                case measure => simp [intOf]; omega
        · obtain rfl : s = sl := by omega
          have HSD := Lib.hid (show archB p = true by rw [HAR.out, HSO.out]; exact all_done (by rw [HSL.out]; exact hset.out))
          go_wp2_with fail
          go_ret
          exact ⟨ret_bool (by rw [HSD.out]), step_below HBB.out hz⟩
end Go.Proofs.YtodbbfgkclkpgaaGreatDoor

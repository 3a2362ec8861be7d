/- archive.Right: may a package be, with its files. -/
import Derived.Test.YtodbbfgkclkpgaaGreatDoorABK15
import Derived.Test.YtodbbfgkclkpgaaGreatDoorABK17
namespace Go.Proofs.YtodbbfgkclkpgaaGreatDoor
open Go Go.RowKit

theorem sl_slice {α : Type} {cs : α → List Value} {w : World} {v : Value} {xs : List α} (h : SlC cs w v xs) : ∃ A n c, v = .slice A n c := by
  obtain ⟨A, c, hv, _⟩ := h
  exact ⟨A, _, c, hv⟩

set_option maxHeartbeats 4000000 in
set_option maxRecDepth 100000 in
theorem arcRight_calls (v : Value) (p : Pv) (w : World) (hE : Env w) (h : PackAt w v p) (hf : p.Fit) (hz : ∀ f ∈ p.fi, f.n.size ≤ 1000000) : Calls Tryz.prog 22 #[v] w (BoolIs (archB p) w) := by
  obtain ⟨v1, v2, v3, v4, v5, v6, v7, v8, v9, rfl, h1, h2, h3, h4, h5, h6, h7, h8, h9, hlo, hhi⟩ := id h
  obtain ⟨len, hlen⟩ : ∃ len, p.fi.length = len := ⟨_, rfl⟩
  obtain ⟨A9, k9, rfl, hc9, hm9, hr9⟩ := h9.open
  obtain ⟨A7, n7, k7, rfl⟩ := sl_slice h7
  rw [hlen] at hc9 hm9 h h9 ⊢
  have hB0 := below_alloc w (.cells #[.string p.n, .int .i64 p.e, .string p.u, .string p.r, v1, v2, v3, v4, v5, v6, .slice A7 n7 k7, v8, .slice A9 len k9] 29)
  have CR := Lib.hid (recRight_calls _ p _ (hE.below hB0) (h.below hB0) hf)
  obtain ⟨bs, hbs⟩ : ∃ y, saysOk p = y := ⟨_, rfl⟩
  have HBS := Lib.hid hbs
  rw [hbs] at CR
  have X0 := packBox_new w p v1 v2 v3 v4 v5 v6 (.slice A7 n7 k7) v8 (.slice A9 len k9) 29
  obtain ⟨c0, c1, c2, c3, c4, c5, c6, c7, c8, c9, c10, c11, c12⟩ := id X0
  have HL := Lib.hid hlen
  have HR := Lib.hid hr9
  have HEE := Lib.hid hE
  have HZ := Lib.hid hz
  have H7 := Lib.hid h7
  have H9 := Lib.hid h9
  clear h1 h2 h3 h4 h5 h6 h7 h8 h9 h hf hE hz hbs hlen hr9
  go_enter Tryz.func22, Tryz.ntmps22
  go_wp2_with fail
  refine CR.out.mono ?_
  rintro E w1 ⟨rfl, hb⟩
  have X1 := X0.below hb
  have HB1 := Lib.hid (step_below hB0 hb)
  clear c0 c1 c2 c3 c4 c5 c6 c7 c8 c9 c10 c11 c12 X0 CR hb hB0
  obtain ⟨m, hm⟩ : ∃ m, w.heap.size = m := ⟨_, rfl⟩
  rw [hm] at X1
  have HX1 := Lib.hid X1
  have c12 := X1.c12
  cases bs with
  | false =>
    go_wp2_with fail
    go_ret
    exact ⟨ret_bool (by rw [arch_says HBS.out]), HB1.out⟩
  | true =>
  by_cases hmany : len ≤ 20
  case neg =>
    go_wp2_with fail
    go_ret
    exact ⟨ret_bool (by rw [arch_many (by rw [HL.out]; exact hmany)]), HB1.out⟩
  case pos =>
  clear X1
  go_upto_region 3 with fail
  (try rw [hm])
  clear hm
  go_wp2_with fail
  go_loopw [19] (fun i wr => ∃ k : Nat, k ≤ len ∧ i = .int .i64 k ∧ Hid (FilesTo p.fi k) ∧ Below w1.heap.size w1 wr) (fun i _ => len - (intOf i).toNat)
  case atStart => exact ⟨0, Nat.zero_le _, rfl, Lib.hid (FilesTo.zero _), Below.refl _ _⟩
  case round =>
    clear c12
    obtain ⟨k, hk, rfl, hall, hB⟩ := hrel
    by_cases hlt : k < len
    · have hne : p.fi ≠ [] := by
        intro e
        have := HL.out
        rw [e] at this
        simp at this
        omega
      obtain ⟨f, ht⟩ : ∃ f, p.fi[k]? = some f := ⟨p.fi[k]'(by have := HL.out; omega), List.getElem?_eq_getElem _⟩
      obtain ⟨b, off, rfl, hi⟩ := HR.out hne
      obtain ⟨c0, c1⟩ := hi k f ht
      have hBw := step_below HB1.out hB
      replace c0 := kept hBw c0
      replace c1 := kept hBw c1
      have HT := Lib.hid ht
      have HI := Lib.hid hi
      have ha := below_alloc wr (.cells #[.string f.n, .string f.v] 81)
      have d0 : (wr.alloc (.cells #[.string f.n, .string f.v] 81)).cell? ⟨wr.heap.size, 0, none⟩ = some (.string f.n) := by go_cell
      have CP := Lib.hid (pathF_calls f.n (wr.alloc (.cells #[.string f.n, .string f.v] 81)) (HEE.out.below (step_below hBw ha)) (HZ.out f (List.mem_of_getElem? ht)))
      have HBa := Lib.hid (step_below hB ha)
      have c12 := kept (step_below hB ha) HX1.out.c12
      obtain ⟨bp, hbp⟩ : ∃ y, VP.pathP f.n.data.toList = y := ⟨_, rfl⟩
      have HP := Lib.hid hbp
      rw [hbp] at CP
      clear hne hi hBw ha hbp hB
      go_wp2_with fail
      refine CP.out.mono ?_
      rintro E w3 ⟨rfl, hb⟩
      have e0 := kept hb d0
      have c12' := kept hb c12
      have HB3 := Lib.hid (step_below HBa.out hb)
      clear hb d0 c12 CP c0 c1 HBa
      cases bp with
      | false =>
        go_wp2_with fail
        go_ret
        exact ⟨ret_bool (by rw [arch_files (files_bad (by rw [HL.out]; exact hlt) (fileAt_path HT.out HP.out))]), step_below HB1.out HB3.out⟩
      | true =>
      obtain ⟨mf, hmf⟩ : ∃ mf, wr.heap.size = mf := ⟨_, rfl⟩
      rw [hmf] at e0
      (try rw [hmf])
      clear hmf
      go_wp2_with fail
      clear c12'
      have hz3 := Below.refl w3.heap.size w3
      go_loopw [31] (fun i wx => ∃ q : Nat, q ≤ len ∧ i = .int .i64 q ∧ Hid (PairsTo p.fi f k q) ∧ Below w3.heap.size w3 wx) (fun i _ => len - (intOf i).toNat)
      case atStart => exact ⟨0, Nat.zero_le _, rfl, Lib.hid (PairsTo.zero _ _ _), hz3⟩
      case round =>
        clear hz3
        obtain ⟨q, hq, rfl, hpr, hz⟩ := hrel
        by_cases hqt : q < len
        · obtain ⟨g, hg⟩ : ∃ g, p.fi[q]? = some g := ⟨p.fi[q]'(by have := HL.out; omega), List.getElem?_eq_getElem _⟩
          obtain ⟨j0, j1⟩ := HI.out q g hg
          have hBw := step_below HB1.out (step_below HB3.out hz)
          replace j0 := kept hBw j0
          replace j1 := kept hBw j1
          have hag := below_alloc wr (.cells #[.string g.n, .string g.v] 81)
          have e1 := kept (step_below hz hag) e0
          have i0 : (wr.alloc (.cells #[.string g.n, .string g.v] 81)).cell? ⟨wr.heap.size, 0, none⟩ = some (.string g.n) := by go_cell
          have HZG := Lib.hid (step_below hz hag)
          have HG := Lib.hid hg
          clear hBw hag hg hz
          by_cases hqk : q = k
          · subst hqk
            have HK := Lib.hid (hpr.out.succ HG.out (show pairOk f q g q = true by unfold pairOk; simp))
            go_wp2_with fail
            go_roundw
            case rel => exact ⟨q + 1, by omega, by go_num, HK, HZG.out⟩
            case measure => simp [intOf]; omega
          · have hn1 : ((q : Int) == (k : Int)) = false := by rw [beq_eq_false_iff_ne]; omega
            have hn2 : ((q : Int) != (k : Int)) = true := by rw [bne, hn1]; rfl
            have hnq : ¬ (q : Int) = (k : Int) := by omega
            have q1 := name_eq g.n f.n
            have q2 := name_eq' g.n f.n
            obtain ⟨be, hbe⟩ : ∃ y, decide (g.n = f.n) = y := ⟨_, rfl⟩
            have HBE := Lib.hid hbe
            rw [hbe] at q1 q2
            have CH := Lib.hid (fun (W : World) => Tryz.strings_HasPrefix g.n (f.n ++ ⟨#[47]⟩) W)
            obtain ⟨bu, hbu⟩ : ∃ y, underB f g = y := ⟨_, rfl⟩
            have CH' : Hid (∀ W : World, Calls Tryz.prog 84 #[.string g.n, .string (f.n ++ ⟨#[47]⟩)] W fun E W' => E = .returned (.bool bu) ∧ W = W') := fun W => (CH.out W).mono fun E W' ⟨he, hw⟩ => ⟨by rw [he, ← hbu]; rfl, hw.symm⟩
            have HPK := Lib.hid (show pairOk f k g q = !(be || bu) by unfold pairOk clashB; rw [hbe, hbu, show decide (q = k) = false from decide_eq_false hqk, Bool.false_or])
            clear hbe hbu CH
            cases be with
            | true =>
              go_wp2_with fail
              go_ret
              exact ⟨ret_bool (by rw [arch_files (files_bad (by rw [HL.out]; exact hlt) (fileAt_clash HT.out HG.out HPK.out))]), step_below HB1.out (step_below HB3.out HZG.out)⟩
            | false =>
              have hfz : f.n.size ≤ 1000000 := HZ.out f (List.mem_of_getElem? HT.out)
              go_wp2_with fail
              refine (CH'.out _).mono ?_
              rintro E w5 ⟨rfl, rfl⟩
              cases bu with
              | true =>
                go_wp2_with fail
                go_ret
                exact ⟨ret_bool (by rw [arch_files (files_bad (by rw [HL.out]; exact hlt) (fileAt_clash HT.out HG.out HPK.out))]), step_below HB1.out (step_below HB3.out HZG.out)⟩
              | false =>
                have HK := Lib.hid (hpr.out.succ HG.out HPK.out)
                go_wp2_with fail
                go_roundw
                case rel => exact ⟨q + 1, by omega, by go_num, HK, HZG.out⟩
                case measure => simp [intOf]; omega
        · obtain rfl : q = len := by omega
          have HA := Lib.hid (hall.out.succ (fileAt_true HT.out HP.out (by rw [HL.out]; exact hpr.out)))
          have HB4 := Lib.hid (step_below HB3.out hz)
          clear hz hpr
          go_wp2_with fail
          go_roundw
          case rel => exact ⟨k + 1, by omega, by go_num, HA, HB4.out⟩
          case measure => simp [intOf]; omega
    · obtain rfl : k = len := by omega
      have HAR := Lib.hid (arch_rest HBS.out (by rw [HL.out]; exact hmany) (FilesTo.done (by rw [HL.out]; exact hall.out)))
      have c10 := kept hB HX1.out.c10
      have HBB := Lib.hid (step_below HB1.out hB)
      have c12 := kept hB HX1.out.c12
      have C := Lib.hid (hasSet_calls (.slice A7 n7 k7) p.se m (fun s => !hasFile p.fi s) wr (H7.out.below HBB.out) (fun W x hb _ => noFile_calls x m (.slice A9 k k9) p.fi W (kept hb c12) (H9.out.below (step_below HBB.out hb))))
      have HS := Lib.hid (show (p.se.any fun s => !hasFile p.fi s) = !setOk p by unfold setOk; rw [List.not_all_eq_any_not])
      rw [HS.out] at C
      obtain ⟨bz, hbz⟩ : ∃ y, setOk p = y := ⟨_, rfl⟩
      rw [hbz] at C HAR
      clear hB hall hbz c12
      go_wp2_with fail
      refine C.out.mono ?_
      rintro E w9 ⟨rfl, hb⟩
      have hBf := step_below HBB.out hb
      clear C hb
      go_wp2_with fail
      go_ret
      exact ⟨ret_bool (by rw [HAR.out] <;> (cases bz <;> rfl)), hBf⟩
end Go.Proofs.YtodbbfgkclkpgaaGreatDoor

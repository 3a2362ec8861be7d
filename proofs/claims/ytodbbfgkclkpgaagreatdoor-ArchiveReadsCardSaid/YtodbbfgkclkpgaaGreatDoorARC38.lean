/- The reference's ParseStanzas: the walk. -/
import Derived.Test.YtodbbfgkclkpgaaGreatDoorARC37
import Derived.Test.YtodbbfgkclkpgaaGreatDoorARC17
import Derived.Test.YtodbbfgkclkpgaaGreatDoorARC19
import Derived.IntWalk
namespace Go.Proofs.YtodbbfgkclkpgaaGreatDoor
open Go Go.RowKit

def RefStzIs (s : ByteArray) (w : World) (E : Ending) (w' : World) : Prop :=
  Below w.heap.size w w' ∧ ((∃ L v, E = .returned (.tuple #[v, .agg #[.int .i64 0, .int .i64 (-1)]]) ∧ parseS s = .ok L ∧ StzsAt w' v L) ∨
    (∃ n : Nat, E = .returned (.tuple #[.slice none 0 0, .agg #[.int .i64 3, .int .i64 n]]) ∧ parseS s = .error n))
/-- the reference's variable Fine -/
def EnvF (w : World) : Prop := w.cell? ⟨0, 0, none⟩ = some (.int .i64 0) ∧ w.cell? ⟨0, 1, none⟩ = some (.int .i64 (-1))
theorem EnvF.below {w w' : World} (h : EnvF w) (hb : Below w.heap.size w w') : EnvF w' := ⟨kept hb h.1, kept hb h.2⟩
theorem pair_len (A T : ByteArray) : (fldC ⟨A, T⟩).length = 1 * 2 := rfl
theorem pair_one (A T : ByteArray) : ∀ u ∈ fldC ⟨A, T⟩, u.oneCell' = true := by simp [Value.oneCell', fldC]
theorem src_pair (W : World) (A T : ByteArray) : SrcIs (W.alloc (.cells #[.string A, .string T] 69)) (.slice (some ⟨W.heap.size, 0, none⟩) 1 1) 1 (fldC ⟨A, T⟩) := ⟨_, 1, rfl, fun _ => ⟨_, 0, rfl, fun j u hj => by have := cells_new2 W A T j u hj; rwa [Go.WideShapes.add_plain] at this⟩⟩

set_option maxHeartbeats 8000000 in
set_option maxRecDepth 100000 in
theorem refStz_calls (s : ByteArray) (w : World) (hE : Env w) (hF : EnvF w) (hs : s.size ≤ 6000) : Calls Tryz.prog 120 #[.string s] w (RefStzIs s w) := by
  have ba0 := below_alloc w (.cells #[.int .i64 0, .int .i64 0] 96)
  have C0 := Lib.hid (split_own s (w.alloc (.cells #[.int .i64 0, .int .i64 0] 96)) (hE.below ba0) (by omega))
  obtain ⟨ls, hls⟩ : ∃ ls, piecesB 10 s = ls := ⟨_, rfl⟩
  have HLS := Lib.hid hls
  have HE := Lib.hid hE
  have HF0 := Lib.hid hF
  have hlen : ls.length ≤ s.size + 1 := by
    rw [← hls]
    unfold piecesB
    rw [List.length_map, size_eq_length]
    exact pieces_len 10 _
  have HXZ := Lib.hid (fun (k : Nat) (x : ByteArray) (h : (ls ++ [(⟨#[]⟩ : ByteArray)])[k]? = some x) => (show x.size ≤ s.size by
    rcases List.mem_append.1 (List.mem_of_getElem? h) with h | h
    · exact lineB_size (by rw [hls]; exact h)
    · rw [List.mem_singleton.1 h]; exact Nat.zero_le _))
  have HNO := Lib.hid (fun (n : Nat) (h : pfold 0 (ls ++ [(⟨#[]⟩ : ByteArray)]) ([], []) = .error n) => more_no (by rw [hls]; exact h))
  have HYES := Lib.hid (fun (st : PSt) (h : pfold 0 (ls ++ [(⟨#[]⟩ : ByteArray)]) ([], []) = .ok st) => more_yes (by rw [hls]; exact h))
  have HAT := Lib.hid (fun (k : Nat) (st : PSt) (h : pfold 0 ((ls ++ [(⟨#[]⟩ : ByteArray)]).take k) ([], []) = .ok st) => at_line2 (s := s) (k := k) (by rw [hls]; exact h))
  obtain ⟨i0, hi, hz0, hz1, hz2⟩ := info_parts info_field
  obtain ⟨i1, gi, gz0, gz1, gz2⟩ := info_parts info_fields
  obtain ⟨i2, ki, kz0, kz1, kz2⟩ := info_parts info_str
  have hz3 := heap_alloc_new w (.cells #[.int .i64 0, .int .i64 0] 96)
  rw [hls] at C0
  clear hls hE hF
  obtain ⟨b3, hb3⟩ : ∃ b3, w.heap.size = b3 := ⟨_, rfl⟩
  rw [hb3] at hz3
  have HB3 := Lib.hid hb3
  obtain ⟨W0, hW0⟩ : ∃ x, x = w.alloc (.cells #[.int .i64 0, .int .i64 0] 96) := ⟨_, rfl⟩
  rw [← hW0] at C0 ba0 hz3
  obtain ⟨mb, hmb⟩ : ∃ mb, W0.heap.size = mb := ⟨_, rfl⟩
  have HMB := Lib.hid hmb
  rw [hmb] at C0
  go_enter Tryz.func120, Tryz.ntmps120
  go_wp2_with fail
  (try rw [hb3])
  rw [← hW0]
  clear hb3 hW0
  refine C0.out.mono ?_
  rintro E w1 ⟨len, rfl, hn, hb1, hown⟩
  rw [← hmb] at hb1
  have hsz1 : mb ≤ w1.heap.size := by rw [← hmb]; exact hb1.size
  have hB1 := step_below ba0 hb1
  have HZ0 := Lib.hid hz3
  have HN := Lib.hid hn
  rw [← hn] at hlen
  have HBg := Lib.hid hb1
  clear hn hb1 C0 hz3 hmb
  go_wp2_with (at_builtin; refine wpList_append_own _ rfl _ _ 26 rfl mb 9 i2 (.string ⟨#[]⟩) 1 16 Tryz.underlying26 ki kz0 kz1 kz2 rfl (by decide) _ _ _ rfl (hown.alloc _) ⟨w1.heap.size, 0, none⟩ 1 1 [.string ⟨#[]⟩] rfl rfl (cell_one_new _ _ _) (by simp [Value.oneCell']) (by simp only [maxLen]; omega) (by omega) (by simp; omega) ?_; intro v' w3 hown3 hgrow hnil; obtain ⟨g3, cap3, rfl⟩ := ownsRow_succ hown3)
  have HO3 := Lib.hid (show w3.ownsRow mb 9 1 (.slice (some ⟨g3, 0, none⟩) (len + 1) cap3) (len + 1) ((ls ++ [(⟨#[]⟩ : ByteArray)]).map Value.string) by rw [List.map_append]; exact hown3)
  have HB3W := Lib.hid (show Below W0.heap.size W0 w3 from ((HBg.out.alloc HBg.out.size _).grown hgrow (by simp; rw [HMB.out]; omega) (fun g e => by rw [HMB.out]; exact (hown.lt g e).1)))
  have HB0 := Lib.hid (step_below ba0 HB3W.out)
  have HCL := Lib.hid (fun (k : Nat) (x : ByteArray) (hx : (ls ++ [(⟨#[]⟩ : ByteArray)])[k]? = some x) => (show w3.cell? ⟨g3, k, none⟩ = some (.string x) by
    have h1 := HO3.out.cells (g := g3) rfl k (.string x) (by rw [List.getElem?_map, hx]; rfl)
    rwa [Go.WideShapes.add_plain, Nat.zero_add] at h1))
  have HZ := Lib.hid (fun (W : World) (hb : Below w3.heap.size w3 W) => (show W.heap[b3]? = some (.cells #[.int .i64 0, .int .i64 0] 96 (0, 0)) from
    (hb.block b3 (Nat.lt_of_lt_of_le (Array.getElem?_eq_some_iff.1 HZ0.out).1 HB3W.out.size)).trans ((HB3W.out.block b3 (Array.getElem?_eq_some_iff.1 HZ0.out).1).trans HZ0.out)))
  have hb3l : b3 < w3.heap.size := Nat.lt_of_lt_of_le (Array.getElem?_eq_some_iff.1 HZ0.out).1 HB3W.out.size
  have HEL := Lib.hid (HE.out.below HB0.out)
  have HLL := Lib.hid (show (ls ++ [(⟨#[]⟩ : ByteArray)]).length = len + 1 by rw [List.length_append, HN.out]; rfl)
  clear hown hgrow hnil hown3 ba0 hB1 hsz1 HBg HO3
  go_loopw [4, 5, 18] (fun vo vl i wr => ∃ (k : Nat) (st : PSt) (vs : List Value) (Bl : Nat), k ≤ len + 1 ∧ i = .int .i64 k ∧ Hid (pfold 0 ((ls ++ [(⟨#[]⟩ : ByteArray)]).take k) ([], []) = .ok st) ∧ Hid (ParSt w3.heap.size Bl wr vo vl st vs) ∧ Below w3.heap.size w3 wr) (fun _ _ i _ => len + 1 - (intOf i).toNat)
  case atStart => exact ⟨0, ([], []), [], _, Nat.zero_le _, rfl, Lib.hid rfl, Lib.hid (ParSt.start w3), Below.refl _ _⟩
  case round =>
    obtain ⟨k, st, vs, Bl, hk, rfl, HF, HP, hB⟩ := hrel
    obtain ⟨no, hno⟩ : ∃ no, st.1.length = no := ⟨_, rfl⟩
    obtain ⟨nl, hnl⟩ : ∃ nl, st.2.length = nl := ⟨_, rfl⟩
    have hcnt := (HAT.out k st HF.out).1
    have h40 := (HAT.out k st HF.out).2.1
    have HSZ := Lib.hid (HAT.out k st HF.out).2.2
    rw [hno, hnl] at hcnt
    rw [hnl] at h40
    have HNO1 := Lib.hid hno
    have HNL := Lib.hid hnl
    have ho := HP.out.o
    have hl := HP.out.l
    rw [hno] at ho
    rw [hnl] at hl
    obtain ⟨Ao, co, rfl⟩ := own_slice ho
    obtain ⟨Al, cl, rfl⟩ := own_slice hl
    clear hno hnl
    by_cases hlt : k < len + 1
    · obtain ⟨x, hx⟩ : ∃ x, (ls ++ [(⟨#[]⟩ : ByteArray)])[k]? = some x := ⟨(ls ++ [(⟨#[]⟩ : ByteArray)])[k]'(by rw [HLL.out]; exact hlt), List.getElem?_eq_getElem _⟩
      have c0 := kept hB (HCL.out k x hx)
      have hxz := HXZ.out k x hx
      have HX := Lib.hid hx
      clear hx ho hl
      go_wp2_with fail
      have hba := below_alloc wr (.cells #[.int .i64 3, .int .i64 k] 96)
      have hbd := heap_alloc_new wr (.cells #[.int .i64 3, .int .i64 k] 96)
      have HP1 := Lib.hid (HP.out.below hba)
      have hB1 := step_below hB hba
      obtain ⟨bb, hbb⟩ : ∃ bb, wr.heap.size = bb := ⟨_, rfl⟩
      (try rw [hbb])
      rw [hbb] at hbd
      generalize wr.alloc (.cells #[.int .i64 3, .int .i64 k] 96) = W1 at HP1 hB1 hbd ⊢
      have HBD1 := Lib.hid hbd
      clear hba hB HP c0 hbb hbd
      have CH := Lib.hid (call_hash x W1)
      obtain ⟨h35, hh35⟩ : ∃ b, headIs (fun c => c == 35) x = b := ⟨_, rfl⟩
      rw [hh35] at CH
      refine CH.out.mono ?_
      rintro E w2 ⟨rfl, rfl⟩
      clear CH
      cases h35 with
      | true =>
        have HS := Lib.hid (pfold_yes HF.out HX.out (pstep_note hh35))
        clear hh35
        go_wp2_with fail
        go_roundw
        case rel => exact ⟨k + 1, st, vs, Bl, by omega, by go_num, HS, HP1, hB1⟩
        case measure => simp [intOf]; omega
      | false =>
      have H35 := Lib.hid hh35
      clear hh35
      go_wp2_with fail
      refine (refTrim_calls x W1 (by omega)).mono ?_
      rintro E w2 ⟨⟨t, rfl, ht⟩, rfl⟩
      have HT := Lib.hid ht
      clear ht
      by_cases h0 : t.size = 0
      · have ht0 : t = ⟨#[]⟩ := eq_empty t h0
        subst ht0
        have HS := Lib.hid (pfold_yes HF.out HX.out (pstep_gap H35.out HT.out.symm))
        clear h0
        by_cases hl0 : nl = 0
        · subst hl0
          have hst : st.2 = [] := List.eq_nil_of_length_eq_zero HNL.out
          have HS2 := Lib.hid (show pfold 0 ((ls ++ [(⟨#[]⟩ : ByteArray)]).take (k + 1)) ([], []) = .ok (st.1, []) by rw [HS.out, flush_nil hst, ← hst])
          have HP2 := Lib.hid (show ParSt w3.heap.size W1.heap.size W1 (.slice Ao no co) (.slice none 0 0) (st.1, []) vs from HP1.out.reset)
          clear hst
          go_wp2_with fail
          go_roundw
          case rel => exact ⟨k + 1, (st.1, []), vs, _, by omega, by go_num, HS2, HP2, hB1⟩
          case measure => simp [intOf]; omega
        · have hst : st.2 ≠ [] := fun e => hl0 (by rw [← HNL.out, e]; rfl)
          have HS2 := Lib.hid (show pfold 0 ((ls ++ [(⟨#[]⟩ : ByteArray)]).take (k + 1)) ([], []) = .ok (st.1 ++ [st.2], []) by rw [HS.out, flush_cons hst])
          have ho := HP1.out.o
          rw [HNO1.out] at ho
          have hB1z := hB1.size
          clear hst HS
          go_wp2_with (at_builtin; refine wpList_append_own _ rfl _ _ 148 rfl w3.heap.size 31 i1 (.slice none 0 0) 1 24 Tryz.underlying148 gi gz0 gz1 gz2 rfl (by decide) _ _ _ rfl (ho.alloc _) ⟨W1.heap.size, 0, none⟩ 1 1 [.slice Al nl cl] rfl rfl (cell_one_new _ _ _) (by simp [Value.oneCell']) (by simp only [maxLen]; omega) (by omega) (by simp; omega) ?_; intro v' w4 hown3 hgrow hnil)
          have HO3 := Lib.hid hown3
          have HG := Lib.hid hgrow
          have HO2 := Lib.hid ho
          clear hown3 hgrow hnil ho
          go_roundw
          case rel => exact ⟨k + 1, (st.1 ++ [st.2], []), vs ++ [.slice Al nl cl], _, by omega, by go_num, HS2, Lib.hid (HP1.out.flush HG.out (by rw [HNO1.out]; exact HO3.out)), (hB1.alloc hB1.size _).grown HG.out (by simp; omega) (fun g e => (HO2.out.lt g e).1)⟩
          case measure => simp [intOf]; omega
      · obtain ⟨e1, e2⟩ := text_ne2 h0
        have hcut : VP.cutBoth VP.bl x.data.toList ≠ [] := by
          rw [← HT.out]
          intro e
          exact h0 (by rw [size_eq_length, e]; rfl)
        have HCUT := Lib.hid hcut
        have hx0 := cut_ne_size hcut
        have hbl : headIs VP.bl x = VP.bl x[0] := headIs_at hx0
        have hbt : x[0].toNat < 256 := x[0].toNat_lt
        have htb : trimB x = t := by rw [← mk_data t, HT.out]; rfl
        have htz : t.size ≤ x.size := by rw [← htb, size_eq_length, size_eq_length]; exact cutBoth_len _ _
        have ht0 : 0 < t.size := by omega
        have hbt2 : t[0].toNat < 256 := t[0].toNat_lt
        obtain ⟨bb0, hbb0⟩ : ∃ b, VP.bl x[0] = b := ⟨_, rfl⟩
        have CB := Lib.hid (blank_calls x[0] W1)
        rw [hbb0] at CB hbl
        have HBL := Lib.hid hbl
        clear hcut hbl hbb0 h0
        go_wp2_with fail
        refine CB.out.mono ?_
        rintro E w4 ⟨rfl, rfl⟩
        clear CB e1 e2 hbt
        cases bb0 with
        | true =>
          have HST := Lib.hid (pstep_cont (st := st) H35.out HCUT.out HBL.out)
          by_cases h46 : t[0].toNat = 46
          · have HH := Lib.hid (head_yes ht0 h46)
            have b1 := beqI 46 rfl h46
            have b2 := bneI 46 rfl h46
            clear h46
            go_upto_region 16 with fail
            obtain ⟨t2, h2⟩ : ∃ t2, t.extract 1 t.size = t2 := ⟨_, rfl⟩
            have h2d : t2.data.toList = t.data.toList.tail := by rw [← h2]; exact ext1_data t
            (try rw [h2])
            have h2z : t2.size = t.size - 1 := by rw [size_eq_length, h2d, List.length_tail, ← size_eq_length]
            have H2D := Lib.hid h2d
            have h2s : t2.size ≤ x.size := by omega
            clear b1 b2 h2 h2d h2z
            by_cases h20 : t2.size = 0
            · have HN2 := Lib.hid (cont_nodot HH.out H2D.out (head_nil h20))
              have ht20 : t2 = ⟨#[]⟩ := eq_empty t2 h20
              subst ht20
              clear h20
              obtain ⟨z0, z1, fz⟩ := two_facts (HZ.out _ hB1)
              obtain ⟨d0, d1, fd⟩ := two_facts HBD1.out
              have HR := Lib.hid (HNO.out k (pfold_no HF.out HX.out (by rw [HST.out, htb, HN2.out]; split <;> rfl)))
              have HBE := Lib.hid (step_below HB0.out hB1)
              go_upto_region 17 with fail
              go_region
              all_goals
                go_wp2_with fail
                refine bodyPost_ret (v := .tuple #[.slice none 0 0, .agg #[.int .i64 3, .int .i64 k]]) (by simp [results, Tryz.results120, go_sem, z0, z1]) rfl ?_
                exact ⟨by first | exact (HBE.out.setCell (Nat.le_of_eq HB3.out) _).setCell (Nat.le_of_eq HB3.out) _ | exact (HBE.out.drew.setCell (Nat.le_of_eq HB3.out) _).setCell (Nat.le_of_eq HB3.out) _ | exact ((HBE.out.setCell (Nat.le_of_eq HB3.out) _).setCell (Nat.le_of_eq HB3.out) _).drew, .inr ⟨k, rfl, HR.out⟩⟩
            · obtain ⟨q1, q2⟩ := text_ne2 h20
              have h21 : 0 < t2.size := by omega
              have hbt3 : t2[0].toNat < 256 := t2[0].toNat_lt
              by_cases h47 : t2[0].toNat = 46
              · have b1 := beqI 46 rfl h47
                have b2 := bneI 46 rfl h47
                have HCO := Lib.hid (cont_dot HT.out HH.out H2D.out (head_yes h21 h47))
                clear h47
                by_cases hl0 : nl = 0
                · subst hl0
                  have hst : st.2 = [] := List.eq_nil_of_length_eq_zero HNL.out
                  obtain ⟨z0, z1, fz⟩ := two_facts (HZ.out _ hB1)
                  obtain ⟨d0, d1, fd⟩ := two_facts HBD1.out
                  have HR := Lib.hid (HNO.out k (pfold_no HF.out HX.out (by rw [HST.out, if_pos hst])))
                  have HBE := Lib.hid (step_below HB0.out hB1)
                  go_upto_region 19 with fail
                  go_region
                  all_goals
                    go_wp2_with fail
                    refine bodyPost_ret (v := .tuple #[.slice none 0 0, .agg #[.int .i64 3, .int .i64 k]]) (by simp [results, Tryz.results120, go_sem, z0, z1]) rfl ?_
                    exact ⟨by first | exact (HBE.out.setCell (Nat.le_of_eq HB3.out) _).setCell (Nat.le_of_eq HB3.out) _ | exact (HBE.out.drew.setCell (Nat.le_of_eq HB3.out) _).setCell (Nat.le_of_eq HB3.out) _ | exact ((HBE.out.setCell (Nat.le_of_eq HB3.out) _).setCell (Nat.le_of_eq HB3.out) _).drew, .inr ⟨k, rfl, HR.out⟩⟩
                · have hst : st.2 ≠ [] := fun e => hl0 (by rw [← HNL.out, e]; rfl)
                  have HST2 := Lib.hid (show pstep st x = (contOf t).map fun t => (st.1, addLast st.2 t) by rw [HST.out, if_neg hst, htb])
                  obtain ⟨f, hf⟩ : ∃ f, st.2.getLast? = some f := ⟨_, List.getLast?_eq_some_getLast hst⟩
                  have HFL := Lib.hid hf
                  have hfz := (HSZ.out f (List.mem_of_getLast? hf)).2
                  obtain ⟨bf, hbf⟩ : ∃ bf, VP.flineP t2.data.toList = bf := ⟨_, rfl⟩
                  have CL := Lib.hid (isLine_calls t2 W1 (by omega))
                  rw [hbf] at CL HCO
                  have CL2 := Lib.hid (show Calls Tryz.prog 126 #[.string t2] W1 (fun E W' => E = .returned (.bool bf) ∧ Below W1.heap.size W1 W') from CL.out)
                  clear CL hbf hst hf
                  go_wp2_with fail
                  refine CL2.out.mono ?_
                  rintro E w5 ⟨rfl, hb⟩
                  have HP5 := Lib.hid (HP1.out.below hb)
                  have hB5 := step_below hB1 hb
                  have HBD5 := Lib.hid ((hb.block bb (Array.getElem?_eq_some_iff.1 HBD1.out).1).trans HBD1.out)
                  clear CL2 hb
                  cases bf with
                  | false =>
                    obtain ⟨z0, z1, fz⟩ := two_facts (HZ.out _ hB5)
                    obtain ⟨d0, d1, fd⟩ := two_facts HBD5.out
                    have HR := Lib.hid (HNO.out k (pfold_no HF.out HX.out (by rw [HST2.out, HCO.out]; rfl)))
                    have HBE := Lib.hid (step_below HB0.out hB5)
                    go_upto_region 19 with fail
                    go_region
                    all_goals
                      go_wp2_with fail
                      refine bodyPost_ret (v := .tuple #[.slice none 0 0, .agg #[.int .i64 3, .int .i64 k]]) (by simp [results, Tryz.results120, go_sem, z0, z1]) rfl ?_
                      exact ⟨by first | exact (HBE.out.setCell (Nat.le_of_eq HB3.out) _).setCell (Nat.le_of_eq HB3.out) _ | exact (HBE.out.drew.setCell (Nat.le_of_eq HB3.out) _).setCell (Nat.le_of_eq HB3.out) _ | exact ((HBE.out.setCell (Nat.le_of_eq HB3.out) _).setCell (Nat.le_of_eq HB3.out) _).drew, .inr ⟨k, rfl, HR.out⟩⟩
                  | true =>
                    have HS := Lib.hid (pfold_yes HF.out HX.out (by rw [HST2.out, HCO.out]; rfl))
                    obtain ⟨m, hm⟩ : ∃ m, nl = m + 1 := ⟨nl - 1, by omega⟩
                    subst hm
                    have hl := HP5.out.l
                    rw [HNL.out] at hl
                    obtain ⟨g, cap, hAl⟩ := Joins.ownsRow_form hl (by omega)
                    injection hAl with hA _ hc
                    subst hA
                    subst hc
                    have hcell : w5.cell? ⟨g, m * 2 + 1, none⟩ = some (.string f.v) := by
                      have h1 := hl.cells (g := g) rfl (m * 2 + 1) (.string f.v) (by
                        rw [List.getLast?_eq_getElem?, HNL.out, Nat.add_sub_cancel] at HFL
                        rw [flat_at (cs := fldC) (size := 2) (fun _ => rfl) HFL.out 1 (by omega)]; rfl)
                      rwa [Go.WideShapes.add_plain, Nat.zero_add] at h1
                    have hfz1 := hl.frozenAt (m * 2 + 1)
                    have HL := Lib.hid hl
                    clear hl hl0
                    go_wp2_with fail
                    have HMO := Lib.hid (HP5.out.more (t := t2) (u := f.v ++ (⟨#[10]⟩ ++ t2)) HFL.out HNL.out.symm (by rw [append_data, append_data]; rfl))
                    go_roundw
                    case rel => exact ⟨k + 1, (st.1, addLast st.2 t2), vs, Bl, by omega, by go_num, HS, Lib.hid HMO.out.1, hB5.setCell (by show w3.heap.size ≤ g; have := HMO.out.2; have := HP5.out.lo; omega) _⟩
                    case measure => simp [intOf]; omega
              · have b1 := beqI_ne 46 rfl h47
                have b2 := bneI_ne 46 rfl h47
                have HN2 := Lib.hid (cont_nodot HH.out H2D.out (head_not h21 h47))
                clear h47
                obtain ⟨z0, z1, fz⟩ := two_facts (HZ.out _ hB1)
                obtain ⟨d0, d1, fd⟩ := two_facts HBD1.out
                have HR := Lib.hid (HNO.out k (pfold_no HF.out HX.out (by rw [HST.out, htb, HN2.out]; split <;> rfl)))
                have HBE := Lib.hid (step_below HB0.out hB1)
                go_upto_region 17 with fail
                go_region
                all_goals
                  go_wp2_with fail
                  refine bodyPost_ret (v := .tuple #[.slice none 0 0, .agg #[.int .i64 3, .int .i64 k]]) (by simp [results, Tryz.results120, go_sem, z0, z1]) rfl ?_
                  exact ⟨by first | exact (HBE.out.setCell (Nat.le_of_eq HB3.out) _).setCell (Nat.le_of_eq HB3.out) _ | exact (HBE.out.drew.setCell (Nat.le_of_eq HB3.out) _).setCell (Nat.le_of_eq HB3.out) _ | exact ((HBE.out.setCell (Nat.le_of_eq HB3.out) _).setCell (Nat.le_of_eq HB3.out) _).drew, .inr ⟨k, rfl, HR.out⟩⟩
          · have b1 := beqI_ne 46 rfl h46
            have b2 := bneI_ne 46 rfl h46
            have HCO := Lib.hid (cont_plain (head_not ht0 h46))
            clear h46
            by_cases hl0 : nl = 0
            · subst hl0
              have hst : st.2 = [] := List.eq_nil_of_length_eq_zero HNL.out
              obtain ⟨z0, z1, fz⟩ := two_facts (HZ.out _ hB1)
              obtain ⟨d0, d1, fd⟩ := two_facts HBD1.out
              have HR := Lib.hid (HNO.out k (pfold_no HF.out HX.out (by rw [HST.out, if_pos hst])))
              have HBE := Lib.hid (step_below HB0.out hB1)
              go_upto_region 19 with fail
              go_region
              all_goals
                go_wp2_with fail
                refine bodyPost_ret (v := .tuple #[.slice none 0 0, .agg #[.int .i64 3, .int .i64 k]]) (by simp [results, Tryz.results120, go_sem, z0, z1]) rfl ?_
                exact ⟨by first | exact (HBE.out.setCell (Nat.le_of_eq HB3.out) _).setCell (Nat.le_of_eq HB3.out) _ | exact (HBE.out.drew.setCell (Nat.le_of_eq HB3.out) _).setCell (Nat.le_of_eq HB3.out) _ | exact ((HBE.out.setCell (Nat.le_of_eq HB3.out) _).setCell (Nat.le_of_eq HB3.out) _).drew, .inr ⟨k, rfl, HR.out⟩⟩
            · have hst : st.2 ≠ [] := fun e => hl0 (by rw [← HNL.out, e]; rfl)
              have HST2 := Lib.hid (show pstep st x = (contOf t).map fun t => (st.1, addLast st.2 t) by rw [HST.out, if_neg hst, htb])
              obtain ⟨f, hf⟩ : ∃ f, st.2.getLast? = some f := ⟨_, List.getLast?_eq_some_getLast hst⟩
              have HFL := Lib.hid hf
              have hfz := (HSZ.out f (List.mem_of_getLast? hf)).2
              obtain ⟨bf, hbf⟩ : ∃ bf, VP.flineP t.data.toList = bf := ⟨_, rfl⟩
              have CL := Lib.hid (isLine_calls t W1 (by omega))
              rw [hbf] at CL HCO
              have CL2 := Lib.hid (show Calls Tryz.prog 126 #[.string t] W1 (fun E W' => E = .returned (.bool bf) ∧ Below W1.heap.size W1 W') from CL.out)
              clear CL hbf hst hf
              go_wp2_with fail
              refine CL2.out.mono ?_
              rintro E w5 ⟨rfl, hb⟩
              have HP5 := Lib.hid (HP1.out.below hb)
              have hB5 := step_below hB1 hb
              have HBD5 := Lib.hid ((hb.block bb (Array.getElem?_eq_some_iff.1 HBD1.out).1).trans HBD1.out)
              clear CL2 hb
              cases bf with
              | false =>
                obtain ⟨z0, z1, fz⟩ := two_facts (HZ.out _ hB5)
                obtain ⟨d0, d1, fd⟩ := two_facts HBD5.out
                have HR := Lib.hid (HNO.out k (pfold_no HF.out HX.out (by rw [HST2.out, HCO.out]; rfl)))
                have HBE := Lib.hid (step_below HB0.out hB5)
                go_upto_region 19 with fail
                go_region
                all_goals
                  go_wp2_with fail
                  refine bodyPost_ret (v := .tuple #[.slice none 0 0, .agg #[.int .i64 3, .int .i64 k]]) (by simp [results, Tryz.results120, go_sem, z0, z1]) rfl ?_
                  exact ⟨by first | exact (HBE.out.setCell (Nat.le_of_eq HB3.out) _).setCell (Nat.le_of_eq HB3.out) _ | exact (HBE.out.drew.setCell (Nat.le_of_eq HB3.out) _).setCell (Nat.le_of_eq HB3.out) _ | exact ((HBE.out.setCell (Nat.le_of_eq HB3.out) _).setCell (Nat.le_of_eq HB3.out) _).drew, .inr ⟨k, rfl, HR.out⟩⟩
              | true =>
                have HS := Lib.hid (pfold_yes HF.out HX.out (by rw [HST2.out, HCO.out]; rfl))
                obtain ⟨m, hm⟩ : ∃ m, nl = m + 1 := ⟨nl - 1, by omega⟩
                subst hm
                have hl := HP5.out.l
                rw [HNL.out] at hl
                obtain ⟨g, cap, hAl⟩ := Joins.ownsRow_form hl (by omega)
                injection hAl with hA _ hc
                subst hA
                subst hc
                have hcell : w5.cell? ⟨g, m * 2 + 1, none⟩ = some (.string f.v) := by
                  have h1 := hl.cells (g := g) rfl (m * 2 + 1) (.string f.v) (by
                    rw [List.getLast?_eq_getElem?, HNL.out, Nat.add_sub_cancel] at HFL
                    rw [flat_at (cs := fldC) (size := 2) (fun _ => rfl) HFL.out 1 (by omega)]; rfl)
                  rwa [Go.WideShapes.add_plain, Nat.zero_add] at h1
                have hfz1 := hl.frozenAt (m * 2 + 1)
                have HL := Lib.hid hl
                clear hl hl0
                go_wp2_with fail
                have HMO := Lib.hid (HP5.out.more (t := t) (u := f.v ++ (⟨#[10]⟩ ++ t)) HFL.out HNL.out.symm (by rw [append_data, append_data]; rfl))
                go_roundw
                case rel => exact ⟨k + 1, (st.1, addLast st.2 t), vs, Bl, by omega, by go_num, HS, Lib.hid HMO.out.1, hB5.setCell (by show w3.heap.size ≤ g; have := HMO.out.2; have := HP5.out.lo; omega) _⟩
                case measure => simp [intOf]; omega
        | false =>
          have HST := Lib.hid (pstep_field (st := st) H35.out HCUT.out HBL.out)
          cases hc : VP.cutAt 58 x.data.toList with
          | none =>
            have HI := Lib.hid (call_at x 58 W1 _ (indexB_none hc))
            have HFO := Lib.hid (show fieldOf x = none by unfold fieldOf; rw [hc])
            clear hc
            go_wp2_with fail
            refine HI.out.mono ?_
            rintro E w5 ⟨rfl, rfl⟩
            clear HI
            obtain ⟨z0, z1, fz⟩ := two_facts (HZ.out _ hB1)
            obtain ⟨d0, d1, fd⟩ := two_facts HBD1.out
            have HR := Lib.hid (HNO.out k (pfold_no HF.out HX.out (by rw [HST.out, HFO.out])))
            have HBE := Lib.hid (step_below HB0.out hB1)
            go_upto_region 23 with fail
            go_region
            all_goals
              go_wp2_with fail
              refine bodyPost_ret (v := .tuple #[.slice none 0 0, .agg #[.int .i64 3, .int .i64 k]]) (by simp [results, Tryz.results120, go_sem, z0, z1]) rfl ?_
              exact ⟨by first | exact (HBE.out.setCell (Nat.le_of_eq HB3.out) _).setCell (Nat.le_of_eq HB3.out) _ | exact (HBE.out.drew.setCell (Nat.le_of_eq HB3.out) _).setCell (Nat.le_of_eq HB3.out) _ | exact ((HBE.out.setCell (Nat.le_of_eq HB3.out) _).setCell (Nat.le_of_eq HB3.out) _).drew, .inr ⟨k, rfl, HR.out⟩⟩
          | some p =>
            obtain ⟨a, b⟩ := p
            have HI := Lib.hid (call_at x 58 W1 _ (indexB_some hc))
            obtain ⟨hA, hBd, hle⟩ := cut_sizes hc
            obtain ⟨na, hna⟩ : ∃ na, a.length = na := ⟨_, rfl⟩
            rw [hna] at HI hA hBd hle
            obtain ⟨T, hT⟩ : ∃ T : ByteArray, (⟨(VP.cutBoth VP.bl b).toArray⟩ : ByteArray) = T := ⟨_, rfl⟩
            have hTd : T.data.toList = VP.cutBoth VP.bl b := by rw [← hT]
            have HFO := Lib.hid (show fieldOf x = if VP.fnameP (x.extract 0 na).data.toList && VP.flineP T.data.toList then some ⟨x.extract 0 na, T⟩ else none by
              unfold fieldOf
              rw [hc]
              dsimp only
              rw [hTd, ← hA, mk_data, hT])
            have hAz : (x.extract 0 na).size ≤ x.size := by simp; omega
            have hBz : (x.extract (na + 1) x.size).size ≤ x.size := by simp
            have hTz : T.size ≤ x.size := by
              have h1 := cutBoth_len VP.bl b
              rw [← hTd, ← size_eq_length, ← hBd, ← size_eq_length] at h1
              omega
            obtain ⟨bn, hbn⟩ : ∃ bn, VP.fnameP (x.extract 0 na).data.toList = bn := ⟨_, rfl⟩
            have HNR := Lib.hid (fun (W : World) => refName_calls (x.extract 0 na) W (by omega))
            rw [hbn] at HNR HFO
            have HTR := Lib.hid (fun (W : World) => (show Calls Tryz.prog 165 #[.string (x.extract (na + 1) x.size)] W (fun E W' => E = .returned (.string T) ∧ W = W') from
              (refTrim_calls (x.extract (na + 1) x.size) W (by omega)).mono fun E W' ⟨⟨T', he, hT'⟩, hw⟩ => ⟨by rw [he, show T' = T from data_inj (by rw [hT', hTd, hBd])], hw⟩))
            clear hc hA hBd hna hT hTd hbn
            go_wp2_with fail
            refine HI.out.mono ?_
            rintro E w5 ⟨rfl, rfl⟩
            clear HI
            go_wp2_with fail
            refine (HNR.out _).mono ?_
            rintro E w5 ⟨rfl, rfl⟩
            cases bn with
            | false =>
              obtain ⟨z0, z1, fz⟩ := two_facts (HZ.out _ hB1)
              obtain ⟨d0, d1, fd⟩ := two_facts HBD1.out
              have HR := Lib.hid (HNO.out k (pfold_no HF.out HX.out (by rw [HST.out, HFO.out]; rfl)))
              have HBE := Lib.hid (step_below HB0.out hB1)
              go_upto_region 23 with fail
              go_region
              all_goals
                go_wp2_with fail
                refine bodyPost_ret (v := .tuple #[.slice none 0 0, .agg #[.int .i64 3, .int .i64 k]]) (by simp [results, Tryz.results120, go_sem, z0, z1]) rfl ?_
                exact ⟨by first | exact (HBE.out.setCell (Nat.le_of_eq HB3.out) _).setCell (Nat.le_of_eq HB3.out) _ | exact (HBE.out.drew.setCell (Nat.le_of_eq HB3.out) _).setCell (Nat.le_of_eq HB3.out) _ | exact ((HBE.out.setCell (Nat.le_of_eq HB3.out) _).setCell (Nat.le_of_eq HB3.out) _).drew, .inr ⟨k, rfl, HR.out⟩⟩
            | true =>
            obtain ⟨bf, hbf⟩ : ∃ bf, VP.flineP T.data.toList = bf := ⟨_, rfl⟩
            have CL := Lib.hid (isLine_calls T W1 (by omega))
            rw [hbf] at CL HFO
            have CL2 := Lib.hid (show Calls Tryz.prog 126 #[.string T] W1 (fun E W' => E = .returned (.bool bf) ∧ Below W1.heap.size W1 W') from CL.out)
            clear CL hbf
            go_wp2_with fail
            refine (HTR.out _).mono ?_
            rintro E w5 ⟨rfl, rfl⟩
            go_wp2_with fail
            refine CL2.out.mono ?_
            rintro E w5 ⟨rfl, hb⟩
            have HP5 := Lib.hid (HP1.out.below hb)
            have hB5 := step_below hB1 hb
            have HBD5 := Lib.hid ((hb.block bb (Array.getElem?_eq_some_iff.1 HBD1.out).1).trans HBD1.out)
            clear CL2 hb
            cases bf with
            | false =>
              obtain ⟨z0, z1, fz⟩ := two_facts (HZ.out _ hB5)
              obtain ⟨d0, d1, fd⟩ := two_facts HBD5.out
              have HR := Lib.hid (HNO.out k (pfold_no HF.out HX.out (by rw [HST.out, HFO.out]; rfl)))
              have HBE := Lib.hid (step_below HB0.out hB5)
              go_upto_region 23 with fail
              go_region
              all_goals
                go_wp2_with fail
                refine bodyPost_ret (v := .tuple #[.slice none 0 0, .agg #[.int .i64 3, .int .i64 k]]) (by simp [results, Tryz.results120, go_sem, z0, z1]) rfl ?_
                exact ⟨by first | exact (HBE.out.setCell (Nat.le_of_eq HB3.out) _).setCell (Nat.le_of_eq HB3.out) _ | exact (HBE.out.drew.setCell (Nat.le_of_eq HB3.out) _).setCell (Nat.le_of_eq HB3.out) _ | exact ((HBE.out.setCell (Nat.le_of_eq HB3.out) _).setCell (Nat.le_of_eq HB3.out) _).drew, .inr ⟨k, rfl, HR.out⟩⟩
            | true =>
            have HSF := Lib.hid (show pstep st x = if decide (40 ≤ st.2.length) || st.2.any (fun g => sameN g.n (x.extract 0 na)) then none else some (st.1, st.2 ++ [⟨x.extract 0 na, T⟩]) by rw [HST.out, HFO.out]; rfl)
            by_cases h4 : nl = 40
            · subst h4
              obtain ⟨z0, z1, fz⟩ := two_facts (HZ.out _ hB5)
              obtain ⟨d0, d1, fd⟩ := two_facts HBD5.out
              have HR := Lib.hid (HNO.out k (pfold_no HF.out HX.out (by rw [HSF.out, HNL.out]; rfl)))
              have HBE := Lib.hid (step_below HB0.out hB5)
              go_upto_region 23 with fail
              go_region
              all_goals
                go_wp2_with fail
                refine bodyPost_ret (v := .tuple #[.slice none 0 0, .agg #[.int .i64 3, .int .i64 k]]) (by simp [results, Tryz.results120, go_sem, z0, z1]) rfl ?_
                exact ⟨by first | exact (HBE.out.setCell (Nat.le_of_eq HB3.out) _).setCell (Nat.le_of_eq HB3.out) _ | exact (HBE.out.drew.setCell (Nat.le_of_eq HB3.out) _).setCell (Nat.le_of_eq HB3.out) _ | exact ((HBE.out.setCell (Nat.le_of_eq HB3.out) _).setCell (Nat.le_of_eq HB3.out) _).drew, .inr ⟨k, rfl, HR.out⟩⟩
            · obtain ⟨ba2, hba2⟩ : ∃ y, st.2.any (fun g => sameN g.n (x.extract 0 na)) = y := ⟨_, rfl⟩
              have CA := Lib.hid (refGet_calls (.slice Al nl cl) st.2 (x.extract 0 na) w5 (slc_of_own HP5.out.l rfl (by have := HNL.out; omega)) (fun y hy => by have := (HSZ.out y hy).1; omega) (by omega))
              unfold GetIs at CA
              rw [getB_any, hba2] at CA
              rw [hba2] at HSF
              have q4 := beqI_ne 40 rfl h4
              clear hba2
              go_wp2_with fail
              clear q4
              refine CA.out.mono ?_
              rintro E w7 ⟨rfl, hb⟩
              have HP7 := Lib.hid (HP5.out.below hb)
              have hB7 := step_below hB5 hb
              have HBD7 := Lib.hid ((hb.block bb (Array.getElem?_eq_some_iff.1 HBD5.out).1).trans HBD5.out)
              clear CA hb
              cases ba2 with
              | true =>
                obtain ⟨z0, z1, fz⟩ := two_facts (HZ.out _ hB7)
                obtain ⟨d0, d1, fd⟩ := two_facts HBD7.out
                have HR := Lib.hid (HNO.out k (pfold_no HF.out HX.out (by rw [HSF.out, Bool.or_true]; rfl)))
                have HBE := Lib.hid (step_below HB0.out hB7)
                go_upto_region 26 with fail
                go_region
                all_goals
                  go_wp2_with fail
                  refine bodyPost_ret (v := .tuple #[.slice none 0 0, .agg #[.int .i64 3, .int .i64 k]]) (by simp [results, Tryz.results120, go_sem, z0, z1]) rfl ?_
                  exact ⟨by first | exact (HBE.out.setCell (Nat.le_of_eq HB3.out) _).setCell (Nat.le_of_eq HB3.out) _ | exact (HBE.out.drew.setCell (Nat.le_of_eq HB3.out) _).setCell (Nat.le_of_eq HB3.out) _ | exact ((HBE.out.setCell (Nat.le_of_eq HB3.out) _).setCell (Nat.le_of_eq HB3.out) _).drew, .inr ⟨k, rfl, HR.out⟩⟩
              | false =>
              have HS := Lib.hid (pfold_yes HF.out HX.out (by rw [HSF.out, HNL.out, decide_eq_false (by omega)]; rfl))
              have HPD := Lib.hid (HP7.out.below (below_drew w7))
              have hBD := hB7.drew
              have hl := HPD.out.l
              rw [HNL.out] at hl
              have HROW := Lib.hid (fun o => own_below hl (below_alloc w7.drew o))
              have HBS := Lib.hid (fun o => (show Bl ≤ (w7.drew.alloc o).heap.size from Nat.le_trans HPD.out.hi (below_alloc w7.drew o).size))
              have HGR := Lib.hid (fun (o : Obj) (W : World) (hg : (w7.drew.alloc o).grownBy W (Value.slice Al nl cl).ownBlock) => (show Below w3.heap.size w3 W from (hBD.alloc hBD.size o).grown hg (by have := hBD.size; simp at this ⊢; omega) (fun g e => Nat.le_trans HPD.out.lo (hl.lt g e).1)))
              clear hl HSF HFO HST HBD7 HBD5 HBD1 HP5 HP1 HNR
              go_upto_region 27 with fail
              have s1 : IntKind.i64.wrap ((na : Int) + 1) = (na : Int) + 1 := IntWalk.i64_in _ (by omega)
              have s2 : (0 : Int) ≤ (na : Int) + 1 := by omega
              have s3 : ((na : Int) + 1).toNat = na + 1 := by omega
              have s4 : ((na : Int) + 1) ≤ (x.size : Int) := by omega
              go_region_held3 (fun W => Below w3.heap.size w3 W)
                ((first | assumption | exact hB7 | exact hBD | exact hBD.alloc hBD.size _ | exact hB8))
                (first | (go_at_call 165; refine (HTR.out _).mono ?_; rintro E w' ⟨rfl, rfl⟩) | (refine step_append_src _ rfl _ _ 31 rfl Bl 69 i0 (.agg #[.string ⟨#[]⟩, .string ⟨#[]⟩]) 2 32 Tryz.underlying31 hi hz0 hz1 hz2 rfl (by decide) (.slice Al nl cl) nl (st.2.flatMap fldC) rfl (HROW.out _) _ 1 (fldC ⟨x.extract 0 na, T⟩) rfl (src_pair _ _ _) (pair_len _ _) (pair_one _ _) (by simp only [maxLen]; omega) (by omega) (HBS.out _) ?_; intro v' w8 hown hg; have hB8 := HGR.out _ _ hg))
              all_goals
                clear s1 s2 s3 s4
                have HP8 := Lib.hid (HPD.out.push hg (by rw [HNL.out]; exact hown))
                clear hown hg
                go_wp2_with fail
                go_roundw
                case rel => exact ⟨k + 1, (st.1, st.2 ++ [⟨x.extract 0 na, T⟩]), vs, Bl, by omega, by go_num, HS, HP8, hB8⟩
                case measure => simp [intOf]; omega
    · obtain rfl : k = len + 1 := by omega
      have HFF := Lib.hid (show pfold 0 (ls ++ [(⟨#[]⟩ : ByteArray)]) ([], []) = .ok st by have := HF.out; rwa [← HLL.out, List.take_length] at this)
      have HY := Lib.hid (HYES.out st HFF.out)
      have HBE := Lib.hid (step_below HB0.out hB)
      obtain ⟨z0, z1, fz⟩ := two_facts (HZ.out _ hB)
      obtain ⟨f0, f1⟩ := HF0.out.below HBE.out
      have HPD := Lib.hid (HP.out.below (below_drew wr))
      clear ho hl
      go_upto_region 29 with fail
      go_region
      all_goals
        go_wp2_with fail
        refine bodyPost_ret (v := .tuple #[.slice Ao no co, .agg #[.int .i64 0, .int .i64 (-1)]]) (by simp [results, Tryz.results120, go_sem, z0, z1]) rfl ?_
        refine ⟨by first | exact (HBE.out.setCell (Nat.le_of_eq HB3.out) _).setCell (Nat.le_of_eq HB3.out) _ | exact (HBE.out.drew.setCell (Nat.le_of_eq HB3.out) _).setCell (Nat.le_of_eq HB3.out) _ | exact ((HBE.out.setCell (Nat.le_of_eq HB3.out) _).setCell (Nat.le_of_eq HB3.out) _).drew, .inl ⟨st.1, _, rfl, HY.out, ?_⟩⟩
        first | exact ((HPD.out.set_low hb3l _ _).set_low hb3l _ _).stzs (by have := HNO1.out; omega) | exact ((HP.out.set_low hb3l _ _).set_low hb3l _ _).stzs (by have := HNO1.out; omega) | exact (((HP.out.set_low hb3l _ _).set_low hb3l _ _).below (below_drew _)).stzs (by have := HNO1.out; omega)
end Go.Proofs.YtodbbfgkclkpgaaGreatDoor

/- stanza.Parse: the walk. -/
import Derived.Test.YtodbbfgkclkpgaaGreatDoorABK25
import Derived.Test.YtodbbfgkclkpgaaGreatDoorABK4
import Derived.Test.YtodbbfgkclkpgaaGreatDoorABK13
import Derived.Test.YtodbbfgkclkpgaaGreatDoorABK11
namespace Go.Proofs.YtodbbfgkclkpgaaGreatDoor
open Go Go.RowKit

theorem parseS_no {s : ByteArray} {n : Nat} (h : pfold 0 (piecesB 10 s) ([], []) = .error n) : parseS s = .error n := by unfold parseS; rw [h]
theorem parseS_yes {s : ByteArray} {st : PSt} (h : pfold 0 (piecesB 10 s) ([], []) = .ok st) : parseS s = .ok (flushP st).1 := by unfold parseS; rw [h]
theorem flush_nil {st : PSt} (h : st.2 = []) : flushP st = st := if_pos h
theorem flush_cons {st : PSt} (h : st.2 ≠ []) : flushP st = (st.1 ++ [st.2], []) := if_neg h
theorem headIs_at {p : UInt8 → Bool} {x : ByteArray} (h : 0 < x.size) : headIs p x = p x[0] := by
  unfold headIs
  rw [list_cons x h]
  rfl
theorem call_hash (x : ByteArray) (w : World) : Calls Tryz.prog 84 #[.string x, .string ⟨#[35]⟩] w fun E w' => E = .returned (.bool (headIs (fun c => c == 35) x)) ∧ w = w' :=
  (Tryz.strings_HasPrefix x ⟨#[35]⟩ w).mono fun E w' ⟨he, hw⟩ => ⟨by
    rw [he]
    congr 2
    unfold Lib.hasPrefix headIs
    cases x.data.toList with
    | nil => rfl
    | cons a l =>
      show ([35] : List UInt8).isPrefixOf (a :: l) = (a == 35)
      simp [List.isPrefixOf, Bool.beq_comm], hw.symm⟩
theorem cut_ne_size {x : ByteArray} (h : VP.cutBoth VP.bl x.data.toList ≠ []) : 0 < x.size := by
  rw [size_eq_length]
  refine List.length_pos_iff.2 (fun e => h ?_)
  rw [e]; rfl
/-- at the first colon -/
structure CutC (x A B : ByteArray) (m : Bool) : Prop where
  no : m = false → VP.cutAt 58 x.data.toList = none
  yes : m = true → VP.cutAt 58 x.data.toList = some (A.data.toList, B.data.toList)
  za : A.size ≤ x.size
  zb : B.size ≤ x.size
def CutCIs (x : ByteArray) (w : World) (E : Ending) (w' : World) : Prop := ∃ (A B : ByteArray) (m : Bool), E = .returned (.tuple #[.string A, .string B, .bool m]) ∧ CutC x A B m ∧ Below w.heap.size w w'
theorem call_cutc (x : ByteArray) (w : World) (hE : Env w) (hs : x.size ≤ 1000000) : Calls Tryz.prog 121 #[.string x, .string ⟨#[58]⟩] w (CutCIs x w) := by
  cases hc : VP.cutAt 58 x.data.toList with
  | none => exact (call_cut_none x w hE hs hc).mono fun E w' ⟨he, hb⟩ => ⟨x, ⟨#[]⟩, false, he, ⟨fun _ => hc, fun h => (by cases h), Nat.le_refl _, Nat.zero_le _⟩, hb⟩
  | some p =>
    obtain ⟨a, b⟩ := p
    refine (call_cut_some x w hE hs a b hc).mono fun E w' ⟨A, B, he, hA, hB, hb⟩ => ?_
    have h1 := cutAt_len hc
    rw [← size_eq_length] at h1
    exact ⟨A, B, true, he, ⟨fun h => (by cases h), fun _ => (by rw [hc, hA, hB]), (by rw [size_eq_length, hA]; omega), (by rw [size_eq_length, hB]; omega)⟩, hb⟩
def FBox (ba q : Nat) (A T : ByteArray) (W : World) : Prop := W.cell? ⟨ba, 0, none⟩ = some (.string A) ∧ W.cell? ⟨q, 0, none⟩ = some (.string A) ∧ W.cell? ⟨q, 1, none⟩ = some (.string T)
theorem FBox.below {ba q : Nat} {A T : ByteArray} {W W' : World} (h : FBox ba q A T W) (hb : Below W.heap.size W W') : FBox ba q A T W' := ⟨kept hb h.1, kept hb h.2.1, kept hb h.2.2⟩
theorem FldBlk_facts {W : World} {q : Nat} {a b : ByteArray} (h : W.heap[q]? = some (.cells #[.string a, .string b] 69 (0, 0))) : W.cell? ⟨q, 0, none⟩ = some (.string a) ∧ W.cell? ⟨q, 1, none⟩ = some (.string b) ∧ (∀ i, W.frozen? ⟨q, i, none⟩ = false) := by
  refine ⟨?_, ?_, fun i => ?_⟩
  · unfold World.cell?; rw [h]; rfl
  · unfold World.cell?; rw [h]; rfl
  · unfold World.frozen?; rw [h]; rfl
theorem fbox_1 {W : World} {ba : Nat} {A T : ByteArray} (h : W.cell? ⟨ba, 0, none⟩ = some (.string A)) : FBox ba W.heap.size A T (W.alloc (.cells #[.string A, .string T] 69)) := ⟨kept (below_alloc _ _) h, by go_cell, by go_cell⟩
theorem fbox_2 {W : World} {ba q : Nat} {A T a b : ByteArray} (h : W.cell? ⟨ba, 0, none⟩ = some (.string A)) (hne : ba < q) (hk : W.heap[q]? = some (.cells #[.string a, .string b] 69 (0, 0))) : FBox ba q A T ((W.setCell ⟨q, 0, none⟩ (.string A)).setCell ⟨q, 1, none⟩ (.string T)) := by
  have hb : ((W.setCell ⟨q, 0, none⟩ (.string A)).setCell ⟨q, 1, none⟩ (.string T)).heap[q]? = some (.cells #[.string A, .string T] 69 (0, 0)) := by
    unfold World.setCell
    dsimp only
    rw [Array.getElem?_modify, if_pos rfl, Array.getElem?_modify, if_pos rfl, hk]
    rfl
  obtain ⟨h0, h1, _⟩ := FldBlk_facts hb
  refine ⟨?_, h0, h1⟩
  rw [World.cell?_setCell_other _ _ _ _ (by intro e; simp only [Addr.mk.injEq] at e; omega), World.cell?_setCell_other _ _ _ _ (by intro e; simp only [Addr.mk.injEq] at e; omega)]
  exact h
theorem field_none {x A B : ByteArray} {m : Bool} (h : CutC x A B m) (hm : m = false) : fieldOf x = none := by unfold fieldOf; rw [h.no hm]
theorem field_some {x A B T : ByteArray} {m : Bool} (h : CutC x A B m) (hm : m = true) (hT : T.data.toList = VP.cutBoth VP.bl B.data.toList) : fieldOf x = if VP.fnameP A.data.toList && VP.flineP T.data.toList then some ⟨A, T⟩ else none := by
  unfold fieldOf
  rw [h.yes hm]
  dsimp only
  rw [← hT, mk_data, mk_data]
theorem ext1_data (a : ByteArray) : (a.extract 1 a.size).data.toList = a.data.toList.tail := by
  rw [← List.drop_one]
  exact Lib.extract_to_end a 1
theorem line_len {s x : ByteArray} {k : Nat} (h : (piecesB 10 s)[k]? = some x) : x.size ≤ s.size := lineB_size (List.mem_of_getElem? h)
theorem new2 (W : World) (a b : ByteArray) : (W.alloc (.cells #[.string a, .string b] 69)).heap[W.heap.size]? = some (.cells #[.string a, .string b] 69 (0, 0)) := heap_alloc_new _ _

set_option maxHeartbeats 8000000 in
set_option maxRecDepth 100000 in
theorem stzParse_calls (s : ByteArray) (w : World) (hE : Env w) (hs : s.size ≤ 6000) : Calls Tryz.prog 115 #[.string s] w (StzIs s w) := by
  have C0 := Lib.hid (call_split s 10 w hE (by omega))
  obtain ⟨ls, hls⟩ : ∃ ls, piecesB 10 s = ls := ⟨_, rfl⟩
  have HLS := Lib.hid hls
  have HE := Lib.hid hE
  have hlen : ls.length ≤ s.size + 1 := by
    rw [← hls]
    unfold piecesB
    rw [List.length_map, size_eq_length]
    exact pieces_len 10 _
  have HXZ := Lib.hid (fun (k : Nat) (x : ByteArray) (h : ls[k]? = some x) => (show x.size ≤ s.size from line_len (by rw [hls]; exact h)))
  have HNO := Lib.hid (fun (n : Nat) (h : pfold 0 ls ([], []) = .error n) => parseS_no (by rw [hls]; exact h))
  have HYES := Lib.hid (fun (st : PSt) (h : pfold 0 ls ([], []) = .ok st) => parseS_yes (by rw [hls]; exact h))
  have HAT := Lib.hid (fun (k : Nat) (st : PSt) (h : pfold 0 (ls.take k) ([], []) = .ok st) => at_line (s := s) (k := k) (by rw [hls]; exact h))
  obtain ⟨i0, hi, hz0, hz1, hz2⟩ := info_parts info_field
  obtain ⟨i1, gi, gz0, gz1, gz2⟩ := info_parts info_fields
  unfold SplitIs at C0
  rw [hls] at C0
  clear hls hE
  obtain ⟨mb, hmb⟩ : ∃ mb, w.heap.size = mb := ⟨_, rfl⟩
  rw [hmb] at C0
  have HMB := Lib.hid hmb
  clear hmb
  go_enter Tryz.func115, Tryz.ntmps115
  go_wp2_with fail
  refine C0.out.mono ?_
  rintro E w1 ⟨len, rfl, hn, hb1, hcell⟩
  rw [← HMB.out] at hb1
  have HB1 := Lib.hid hb1
  have HN := Lib.hid hn
  have HC := Lib.hid hcell
  rw [← hn] at hlen
  clear hn hb1 hcell C0
  go_wp2_with fail
  go_loopw [4, 5, 18] (fun vo vl i wr => ∃ (k : Nat) (st : PSt) (vs : List Value) (Bl : Nat), k ≤ len ∧ i = .int .i64 k ∧ Hid (pfold 0 (ls.take k) ([], []) = .ok st) ∧ Hid (ParSt w1.heap.size Bl wr vo vl st vs) ∧ Below w1.heap.size w1 wr) (fun _ _ i _ => len - (intOf i).toNat)
  case atStart => exact ⟨0, ([], []), [], _, Nat.zero_le _, rfl, Lib.hid rfl, Lib.hid (ParSt.start w1), Below.refl _ _⟩
  case round =>
    obtain ⟨k, st, vs, Bl, hk, rfl, HF, HP, hB⟩ := hrel
    obtain ⟨no, hno⟩ : ∃ no, st.1.length = no := ⟨_, rfl⟩
    obtain ⟨nl, hnl⟩ : ∃ nl, st.2.length = nl := ⟨_, rfl⟩
    have hcnt := (HAT.out k st HF.out).1
    have HSZ := Lib.hid (HAT.out k st HF.out).2
    rw [hno, hnl] at hcnt
    have HNO1 := Lib.hid hno
    have HNL := Lib.hid hnl
    have ho := HP.out.o
    have hl := HP.out.l
    rw [hno] at ho
    rw [hnl] at hl
    obtain ⟨Ao, co, rfl⟩ := own_slice ho
    obtain ⟨Al, cl, rfl⟩ := own_slice hl
    clear hno hnl
    by_cases hlt : k < len
    · obtain ⟨x, hx⟩ : ∃ x, ls[k]? = some x := ⟨ls[k]'(by have := HN.out; omega), List.getElem?_eq_getElem _⟩
      have c0 := kept hB (HC.out k x hx)
      have hxz := HXZ.out k x hx
      have HX := Lib.hid hx
      have hBz := hB.size
      clear hx ho hl
      go_wp2_with fail
      have hba := below_alloc wr (.cells #[.int .i64 3, .int .i64 k] 186)
      have HP1 := Lib.hid (HP.out.below hba)
      have hB1 := step_below hB hba
      obtain ⟨bb, hbb⟩ : ∃ bb, wr.heap.size = bb := ⟨_, rfl⟩
      (try rw [hbb])
      generalize wr.alloc (.cells #[.int .i64 3, .int .i64 k] 186) = W1 at HP1 hB1 ⊢
      clear hba hB HP c0 hbb hBz
      have CH := Lib.hid (call_hash x W1)
      obtain ⟨h35, hh35⟩ : ∃ b, headIs (fun c => c == 35) x = b := ⟨_, rfl⟩
      rw [hh35] at CH
      refine CH.out.mono ?_
      rintro E w2 ⟨rfl, rfl⟩
      clear CH
      cases h35 with
      | true =>
        have HS := Lib.hid (pfold_yes HF.out HX.out (pstep_note hh35))
        clear hh35
        go_wp2_with fail
        go_roundw
        case rel => exact ⟨k + 1, st, vs, Bl, by omega, by go_num, HS, HP1, hB1⟩
        case measure => simp [intOf]; omega
      | false =>
      have H35 := Lib.hid hh35
      clear hh35
      go_wp2_with fail
      refine (call_trim2 x W1 (by omega)).mono ?_
      rintro E w2 ⟨t, rfl, ht, hb⟩
      have HT := Lib.hid ht
      have HP2 := Lib.hid (HP1.out.below hb)
      have hB2 := step_below hB1 hb
      have hB2z := hB2.size
      clear ht hb HP1 hB1
      by_cases h0 : t.size = 0
      · have ht0 : t = ⟨#[]⟩ := eq_empty t h0
        subst ht0
        have HS := Lib.hid (pfold_yes HF.out HX.out (pstep_gap H35.out HT.out.symm))
        clear h0
        by_cases hl0 : nl = 0
        · subst hl0
          have hst : st.2 = [] := List.eq_nil_of_length_eq_zero HNL.out
          have HS2 := Lib.hid (show pfold 0 (ls.take (k + 1)) ([], []) = .ok st by rw [HS.out, flush_nil hst])
          clear hst
          go_wp2_with fail
          go_roundw
          case rel => exact ⟨k + 1, st, vs, Bl, by omega, by go_num, HS2, HP2, hB2⟩
          case measure => simp [intOf]; omega
        · have hst : st.2 ≠ [] := fun e => hl0 (by rw [← HNL.out, e]; rfl)
          have HS2 := Lib.hid (show pfold 0 (ls.take (k + 1)) ([], []) = .ok (st.1 ++ [st.2], []) by rw [HS.out, flush_cons hst])
          have ho := HP2.out.o
          rw [HNO1.out] at ho
          clear hst HS
          have hBB := HB1.out.size
          go_wp2_with (at_builtin; refine wpList_append_own _ rfl _ _ 148 rfl w1.heap.size 31 i1 (.slice none 0 0) 1 24 Tryz.underlying148 gi gz0 gz1 gz2 rfl (by decide) _ _ _ rfl (ho.alloc _) ⟨w2.heap.size, 0, none⟩ 1 1 [.slice Al nl cl] rfl rfl (cell_one_new _ _ _) (by simp [Value.oneCell']) (by simp only [maxLen]; omega) (by omega) (by simp; omega) ?_; intro v' w3 hown3 hgrow hnil)
          have HO3 := Lib.hid hown3
          have HG := Lib.hid hgrow
          have HO2 := Lib.hid ho
          clear hown3 hgrow hnil ho
          go_roundw
          case rel => exact ⟨k + 1, (st.1 ++ [st.2], []), vs ++ [.slice Al nl cl], _, by omega, by go_num, HS2, Lib.hid (HP2.out.flush HG.out (by rw [HNO1.out]; exact HO3.out)), (hB2.alloc hB2.size _).grown HG.out (by simp; omega) (fun g e => (HO2.out.lt g e).1)⟩
          case measure => simp [intOf]; omega
      · obtain ⟨e1, e2⟩ := text_ne2 h0
        have hcut : VP.cutBoth VP.bl x.data.toList ≠ [] := by
          rw [← HT.out]
          intro e
          exact h0 (by rw [size_eq_length, e]; rfl)
        have HCUT := Lib.hid hcut
        have hx0 := cut_ne_size hcut
        have hbl : headIs VP.bl x = VP.bl x[0] := headIs_at hx0
        have hbt : x[0].toNat < 256 := x[0].toNat_lt
        clear hcut
        by_cases hb9 : x[0].toNat = 32 ∨ x[0].toNat = 9
        · have HBL := Lib.hid (show headIs VP.bl x = true by rw [hbl]; rcases hb9 with h | h <;> (rw [show x[0] = UInt8.ofNat x[0].toNat by simp, h]; decide))
          have HST := Lib.hid (pstep_cont (st := st) H35.out HCUT.out HBL.out)
          clear hbl HBL
          have hway : (((x[0].toNat : Int) == 32) = true) ∨ (((x[0].toNat : Int) == 32) = false ∧ ((x[0].toNat : Int) == 9) = true) := by
            rcases hb9 with h | h
            · exact .inl (beqI 32 rfl h)
            · exact .inr ⟨beqI_ne 32 rfl (by rw [h]; decide), beqI 9 rfl h⟩
          clear hb9
          go_upto_region 17 with fail
          go_cut [79] (fun s79 wx => s79 = .bool true ∧ wx = w2)
          case first =>
            rcases hway with a1 | ⟨a1, a2⟩ <;> (go_wp2_with fail; go_meet; exact ⟨rfl, rfl⟩)
          case rest =>
          obtain ⟨rfl, rfl⟩ := hcut
          clear hway e1 e2
          go_wp2_with fail
          refine (call_trim2 x _ (by omega)).mono ?_
          rintro E w3 ⟨t', rfl, ht', hb⟩
          have htt : t' = t := data_inj (ht'.trans HT.out.symm)
          subst htt
          have HP3 := Lib.hid (HP2.out.below hb)
          have hB3 := step_below hB2 hb
          clear ht' hb HP2 hB2 hB2z
          by_cases hl0 : nl = 0
          · subst hl0
            have hst : st.2 = [] := List.eq_nil_of_length_eq_zero HNL.out
            have HR := Lib.hid (HNO.out k (pfold_no HF.out HX.out (by rw [HST.out, if_pos hst])))
            clear hst
            go_wp2_with fail
            go_ret2
            exact ⟨step_below HB1.out hB3, .inr ⟨k, _, rfl, HR.out⟩⟩
          · have hst : st.2 ≠ [] := fun e => hl0 (by rw [← HNL.out, e]; rfl)
            have htb : trimB x = t' := by rw [← mk_data t', HT.out]; rfl
            have HST2 := Lib.hid (show pstep st x = (contOf t').map fun t => (st.1, addLast st.2 t) by rw [HST.out, if_neg hst, htb])
            obtain ⟨f, hf⟩ : ∃ f, st.2.getLast? = some f := ⟨_, List.getLast?_eq_some_getLast hst⟩
            have HFL := Lib.hid hf
            have hfz := (HSZ.out f (List.mem_of_getLast? hf)).2
            have htz : t'.size ≤ x.size := by rw [← htb, size_eq_length, size_eq_length]; exact cutBoth_len _ _
            have CL := Lib.hid (line_calls t' w3 (by omega))
            obtain ⟨bf, hbf⟩ : ∃ bf, VP.flineP t'.data.toList = bf := ⟨_, rfl⟩
            rw [hbf] at CL
            have HBF := Lib.hid hbf
            clear hst htb hf hbf HST
            have CL2 := Lib.hid (show Calls Tryz.prog 133 #[.string t'] w3 (fun E W' => E = .returned (.bool bf) ∧ Below w3.heap.size w3 W') from CL.out)
            clear CL
            go_wp2_with fail
            refine CL2.out.mono ?_
            rintro E w4 ⟨rfl, hb⟩
            have HP4 := Lib.hid (HP3.out.below hb)
            have hB4 := step_below hB3 hb
            clear CL2 hb HP3 hB3
            cases bf with
            | false =>
              have HR := Lib.hid (HNO.out k (pfold_no HF.out HX.out (by rw [HST2.out]; unfold contOf; rw [HBF.out]; rfl)))
              go_wp2_with fail
              go_ret2
              exact ⟨step_below HB1.out hB4, .inr ⟨k, _, rfl, HR.out⟩⟩
            | true =>
            by_cases hd : t' = ⟨#[46]⟩
            · have HR := Lib.hid (HNO.out k (pfold_no HF.out HX.out (by rw [HST2.out, hd]; rfl)))
              subst hd
              go_wp2_with fail
              go_ret2
              exact ⟨step_below HB1.out hB4, .inr ⟨k, _, rfl, HR.out⟩⟩
            · have ht0 : 0 < t'.size := by omega
              have hne := list_cons t' ht0
              have hbt2 : t'[0].toNat < 256 := t'[0].toNat_lt
              have q1 : (t'.toList == (⟨#[46]⟩ : ByteArray).toList) = false := by rw [Lib.toList_data, Lib.toList_data, beq_eq_false_iff_ne]; exact fun h => hd (data_inj h)
              have q2 : (t'.toList == [46]) = false := by rw [← q1, Lib.toList_data (⟨#[46]⟩ : ByteArray)]
              obtain ⟨m, hm⟩ : ∃ m, nl = m + 1 := ⟨nl - 1, by omega⟩
              subst hm
              have hl := HP4.out.l
              rw [HNL.out] at hl
              obtain ⟨g, cap, hAl⟩ := Joins.ownsRow_form hl (by omega)
              injection hAl with hA _ hc
              subst hA
              subst hc
              have hcell : w4.cell? ⟨g, m * 2 + 1, none⟩ = some (.string f.v) := by
                have h1 := hl.cells (g := g) rfl (m * 2 + 1) (.string f.v) (by
                  rw [List.getLast?_eq_getElem?, HNL.out, Nat.add_sub_cancel] at HFL
                  rw [flat_at (cs := fldC) (size := 2) (fun _ => rfl) HFL.out 1 (by omega)]; rfl)
                rwa [Go.WideShapes.add_plain, Nat.zero_add] at h1
              have hfz1 := hl.frozenAt (m * 2 + 1)
              have HL := Lib.hid hl
              have HD := Lib.hid hd
              clear hl hd hl0
              by_cases h46 : t'[0].toNat = 46
              · have b1 := beqI 46 rfl h46
                have b2 := bneI 46 rfl h46
                have hd1 : 1 < t'.size := by
                  rcases Nat.lt_or_ge 1 t'.size with h | h
                  · exact h
                  · refine absurd (data_inj ?_) HD.out
                    rw [hne, show t'.data.toList.tail = [] from List.eq_nil_of_length_eq_zero (by rw [List.length_tail, ← size_eq_length]; omega), show t'[0] = 46 from UInt8.toNat_inj.1 h46]
                have HH := Lib.hid (show t'.data.toList.head? = some 46 by rw [hne, List.head?_cons, show t'[0] = 46 from UInt8.toNat_inj.1 h46])
                clear hne h46
                go_upto_region 23 with fail
                obtain ⟨t2, h2⟩ : ∃ t2, t'.extract 1 t'.size = t2 := ⟨_, rfl⟩
                have h2d : t2.data.toList = t'.data.toList.tail := by rw [← h2]; exact ext1_data t'
                (try rw [h2])
                have h2z : t2.size = t'.size - 1 := by rw [size_eq_length, h2d, List.length_tail, ← size_eq_length]
                have h20 : 0 < t2.size := by omega
                have h21 := list_cons t2 h20
                have hbt3 : t2[0].toNat < 256 := t2[0].toNat_lt
                have H2D := Lib.hid h2d
                have h2s : t2.size ≤ x.size := by omega
                clear b1 b2 h2 h2d h2z
                by_cases h47 : t2[0].toNat = 46
                · have b1 := beqI 46 rfl h47
                  have b2 := bneI 46 rfl h47
                  have HCO := Lib.hid (show contOf t' = some t2 by
                    unfold contOf
                    rw [HBF.out, if_pos rfl, if_pos HH.out, ← H2D.out, if_pos (by rw [h21, List.head?_cons, show t2[0] = 46 from UInt8.toNat_inj.1 h47]), mk_data])
                  have HS := Lib.hid (pfold_yes HF.out HX.out (by rw [HST2.out, HCO.out]; rfl))
                  clear h21 h47
                  go_wp2_with fail
                  have HMO := Lib.hid (HP4.out.more (t := t2) (u := f.v ++ (⟨#[10]⟩ ++ t2)) HFL.out HNL.out.symm (by rw [append_data, append_data]; rfl))
                  go_roundw
                  case rel => exact ⟨k + 1, (st.1, addLast st.2 t2), vs, Bl, by omega, by go_num, HS, Lib.hid HMO.out.1, hB4.setCell (by show w1.heap.size ≤ g; have := HMO.out.2; have := HP4.out.lo; omega) _⟩
                  case measure => simp [intOf]; omega
                · have b1 := beqI_ne 46 rfl h47
                  have b2 := bneI_ne 46 rfl h47
                  have HR := Lib.hid (HNO.out k (pfold_no HF.out HX.out (by
                    rw [HST2.out]
                    unfold contOf
                    rw [HBF.out, if_pos rfl, if_pos HH.out, ← H2D.out, if_neg (by rw [h21, List.head?_cons]; intro e; exact h47 (by rw [Option.some.inj e]; rfl))]; rfl)))
                  clear h21 h47
                  go_wp2_with fail
                  go_ret2
                  exact ⟨step_below HB1.out hB4, .inr ⟨k, _, rfl, HR.out⟩⟩
              · have b1 := beqI_ne 46 rfl h46
                have b2 := bneI_ne 46 rfl h46
                have HCO := Lib.hid (show contOf t' = some t' by
                  unfold contOf
                  rw [HBF.out, if_pos rfl, hne, List.head?_cons, if_neg (by intro e; exact h46 (by rw [Option.some.inj e]; rfl))])
                have HS := Lib.hid (pfold_yes HF.out HX.out (by rw [HST2.out, HCO.out]; rfl))
                clear hne h46
                go_wp2_with fail
                have HMO := Lib.hid (HP4.out.more (t := t') (u := f.v ++ (⟨#[10]⟩ ++ t')) HFL.out HNL.out.symm (by rw [append_data, append_data]; rfl))
                go_roundw
                case rel => exact ⟨k + 1, (st.1, addLast st.2 t'), vs, Bl, by omega, by go_num, HS, Lib.hid HMO.out.1, hB4.setCell (by show w1.heap.size ≤ g; have := HMO.out.2; have := HP4.out.lo; omega) _⟩
                case measure => simp [intOf]; omega
        · have HBL := Lib.hid (show headIs VP.bl x = false by
            rw [hbl]
            unfold VP.bl
            rw [show (x[0] == 32) = decide (x[0].toNat = 32) from u8_beq x[0] 32 (by omega), show (x[0] == 9) = decide (x[0].toNat = 9) from u8_beq x[0] 9 (by omega), decide_eq_false (by omega), decide_eq_false (by omega)]
            rfl)
          have HST := Lib.hid (pstep_field (st := st) H35.out HCUT.out HBL.out)
          have a1 := beqI_ne (n := x[0].toNat) (k := 32) 32 rfl (by omega)
          have a2 := beqI_ne (n := x[0].toNat) (k := 9) 9 rfl (by omega)
          clear hbl HBL hb9
          have CC := Lib.hid (call_cutc x w2 (HE.out.below (step_below HB1.out hB2)) (by omega))
          go_wp2_with fail
          clear e1 e2
          refine CC.out.mono ?_
          rintro E w3 ⟨A, B, m, rfl, hcut, hb⟩
          have HCU := Lib.hid hcut
          have hza := hcut.za
          have hzb := hcut.zb
          have HP3 := Lib.hid (HP2.out.below hb)
          have hB3 := step_below hB2 hb
          clear hcut hb HP2 hB2 hB2z CC a1 a2
          go_upto_region 9 with fail
          have hba := below_alloc w3 (.cells #[.string A] 9)
          have c0 : (w3.alloc (.cells #[.string A] 9)).cell? ⟨w3.heap.size, 0, none⟩ = some (.string A) := by go_cell
          have HP4 := Lib.hid (HP3.out.below hba)
          have hB4 := step_below hB3 hba
          obtain ⟨ba, hbb⟩ : ∃ ba, w3.heap.size = ba := ⟨_, rfl⟩
          rw [hbb] at c0
          (try rw [hbb])
          generalize w3.alloc (.cells #[.string A] 9) = W4 at HP4 hB4 c0 ⊢
          clear hba hbb HP3 hB3
          have HCT := Lib.hid (fun (W : World) => call_trim2 B W (by omega))
          have hlb : ba < W4.heap.size := cell_lt c0
          have d0 : W4.drew.cell? ⟨ba, 0, none⟩ = some (.string A) := c0
          have d1 : ∀ o, (W4.drew.alloc o).cell? ⟨ba, 0, none⟩ = some (.string A) := fun o => kept (step_below (below_drew W4) (below_alloc _ o)) c0
          go_cut [13] (fun s13 wx => ∃ (q : Nat) (T : ByteArray), s13 = .pointer (some ⟨q, 0, none⟩) ∧ Hid (T.data.toList = VP.cutBoth VP.bl B.data.toList) ∧ FBox ba q A T wx ∧ Below W4.heap.size W4 wx)
          case first =>
            go_region_with (first | (go_at_call 137; refine (HCT.out _).mono ?_; rintro E w' ⟨T, rfl, hT, hb⟩; have n0 : w'.cell? ⟨ba, 0, none⟩ = some (.string A) := (by first | exact kept hb (d1 _) | exact kept hb d0); have n1 : ∀ o, (w'.alloc o).cell? ⟨ba, 0, none⟩ = some (.string A) := (fun o => kept (below_alloc _ o) n0); (try (have kb : w'.heap[W4.heap.size]? = some (.cells #[.string ⟨#[]⟩, .string ⟨#[]⟩] 69 (0, 0)) := (hb.block _ (by simp)).trans (new2 W4.drew ⟨#[]⟩ ⟨#[]⟩); obtain ⟨k0, k1, kf⟩ := FldBlk_facts kb))))
            all_goals
              go_wp2_with fail
              go_meet
              have hbb : Below W4.heap.size W4 w' := by first | exact step_below (below_drew W4) hb | exact step_below (step_below (below_drew W4) (below_alloc _ _)) hb
              first | exact ⟨_, T, rfl, Lib.hid hT, fbox_1 n0, step_below hbb (below_alloc _ _)⟩ | exact ⟨_, T, rfl, Lib.hid hT, fbox_2 n0 hlb kb, (hbb.setCell (Nat.le_refl _) _).setCell (Nat.le_refl _) _⟩
          case rest =>
          obtain ⟨q, T, rfl, hT, hFB, hb⟩ := hcut
          have HP5 := Lib.hid (HP4.out.below hb)
          have hB5 := step_below hB4 hb
          have HFB := Lib.hid hFB
          have htz : T.size ≤ x.size := by
            have := cutBoth_len VP.bl B.data.toList
            rw [← hT.out, ← size_eq_length, ← size_eq_length] at this
            omega
          clear hb HP4 hB4 HCT hlb d0 d1 c0 hFB hx0 hbt h0
          cases m with
          | false =>
            have HR := Lib.hid (HNO.out k (pfold_no HF.out HX.out (by rw [HST.out, field_none HCU.out rfl])))
            go_wp2_with fail
            go_ret2
            exact ⟨step_below HB1.out hB5, .inr ⟨k, _, rfl, HR.out⟩⟩
          | true =>
          have HFO := Lib.hid (field_some HCU.out rfl hT.out)
          have CN := Lib.hid (fname_calls A wc (by omega))
          obtain ⟨bn, hbn⟩ : ∃ bn, VP.fnameP A.data.toList = bn := ⟨_, rfl⟩
          rw [hbn] at CN HFO
          obtain ⟨f0, f1, f2⟩ := HFB.out
          clear hbn HCU
          go_wp2_with fail
          refine CN.out.mono ?_
          rintro E w6 ⟨rfl, rfl⟩
          clear CN
          cases bn with
          | false =>
            have HR := Lib.hid (HNO.out k (pfold_no HF.out HX.out (by rw [HST.out, HFO.out]; rfl)))
            go_wp2_with fail
            go_ret2
            exact ⟨step_below HB1.out hB5, .inr ⟨k, _, rfl, HR.out⟩⟩
          | true =>
          have CL := Lib.hid (line_calls T wc (by omega))
          obtain ⟨bf, hbf⟩ : ∃ bf, VP.flineP T.data.toList = bf := ⟨_, rfl⟩
          rw [hbf] at CL HFO
          have CL2 := Lib.hid (show Calls Tryz.prog 133 #[.string T] wc (fun E W' => E = .returned (.bool bf) ∧ Below wc.heap.size wc W') from CL.out)
          clear CL hbf
          go_wp2_with fail
          refine CL2.out.mono ?_
          rintro E w6 ⟨rfl, hb⟩
          have HP6 := Lib.hid (HP5.out.below hb)
          have hB6 := step_below hB5 hb
          have HFB6 := Lib.hid (HFB.out.below hb)
          clear CL2 hb HP5 hB5 f0 f1 f2 HFB
          cases bf with
          | false =>
            have HR := Lib.hid (HNO.out k (pfold_no HF.out HX.out (by rw [HST.out, HFO.out]; rfl)))
            go_wp2_with fail
            go_ret2
            exact ⟨step_below HB1.out hB6, .inr ⟨k, _, rfl, HR.out⟩⟩
          | true =>
          have HSF := Lib.hid (show pstep st x = if decide (40 ≤ st.2.length) || st.2.any (fun g => sameN g.n A) then none else some (st.1, st.2 ++ [⟨A, T⟩]) by rw [HST.out, HFO.out]; rfl)
          clear HST HFO
          by_cases h40 : 40 ≤ nl
          · have HR := Lib.hid (HNO.out k (pfold_no HF.out HX.out (by rw [HSF.out, HNL.out, decide_eq_true h40]; rfl)))
            go_wp2_with fail
            go_ret2
            exact ⟨step_below HB1.out hB6, .inr ⟨k, _, rfl, HR.out⟩⟩
          obtain ⟨f0, f1, f2⟩ := HFB6.out
          obtain ⟨ba2, hba2⟩ : ∃ y, st.2.any (fun g => sameN g.n A) = y := ⟨_, rfl⟩
          have CA := Lib.hid (hasPar_calls (.slice Al nl cl) st.2 ba (fun g => sameN g.n A) w6 (slc_of_own HP6.out.l rfl (by have := HNL.out; omega)) (fun W y hb hy => sameP1_calls y ba A W (kept hb f0) (by have := (HSZ.out y hy).1; omega) (by omega)))
          rw [hba2] at CA HSF
          have CA2 := Lib.hid (show Calls Tryz.prog 130 #[.slice Al nl cl, .func (.func 159) #[] #[.pointer (some ⟨ba, 0, none⟩)]] w6 (fun E W' => E = .returned (.bool ba2) ∧ Below w6.heap.size w6 W') from CA.out)
          clear CA hba2
          go_wp2_with fail
          refine CA2.out.mono ?_
          rintro E w7 ⟨rfl, hb⟩
          have HP7 := Lib.hid (HP6.out.below hb)
          have hB7 := step_below hB6 hb
          obtain ⟨g0, g1, g2⟩ := HFB6.out.below hb
          clear CA2 hb HP6 hB6 f0 f1 f2 HFB6
          cases ba2 with
          | true =>
            have HR := Lib.hid (HNO.out k (pfold_no HF.out HX.out (by rw [HSF.out, Bool.or_true]; rfl)))
            go_wp2_with fail
            go_ret2
            exact ⟨step_below HB1.out hB7, .inr ⟨k, _, rfl, HR.out⟩⟩
          | false =>
          have HS := Lib.hid (pfold_yes HF.out HX.out (by rw [HSF.out, HNL.out, decide_eq_false h40]; rfl))
          have hl := HP7.out.l
          rw [HNL.out] at hl
          have hhi := HP7.out.hi
          go_wp2_with (at_builtin; refine wpList_append_own _ rfl _ _ 31 rfl Bl 69 i0 (.agg #[.string ⟨#[]⟩, .string ⟨#[]⟩]) 2 32 Tryz.underlying31 hi hz0 hz1 hz2 rfl (by decide) _ _ _ rfl (hl.alloc _) ⟨w7.heap.size, 0, none⟩ 1 1 (fldC ⟨A, T⟩) rfl rfl (cells_new2 _ _ _) (by simp [Value.oneCell', fldC]) (by simp only [maxLen]; omega) (by omega) (by simp; omega) ?_; intro v' w8 hown3 hgrow hnil)
          have HO3 := Lib.hid hown3
          have HG := Lib.hid hgrow
          have HO2 := Lib.hid hl
          clear hown3 hgrow hnil hl
          go_roundw
          case rel => exact ⟨k + 1, (st.1, st.2 ++ [⟨A, T⟩]), vs, Bl, by omega, by go_num, HS, Lib.hid (HP7.out.push HG.out (by rw [HNL.out]; exact HO3.out)), (hB7.alloc hB7.size _).grown HG.out (by have := hB7.size; simp; omega) (fun g e => Nat.le_trans HP7.out.lo (HO2.out.lt g e).1)⟩
          case measure => simp [intOf]; omega
    · obtain rfl : k = len := by omega
      have HFF := Lib.hid (show pfold 0 ls ([], []) = .ok st by have := HF.out; rwa [HN.out, List.take_length] at this)
      have HY := Lib.hid (HYES.out st HFF.out)
      have HBE := Lib.hid (step_below HB1.out hB)
      clear ho hl
      by_cases hl0 : nl = 0
      · subst hl0
        have hst : st.2 = [] := List.eq_nil_of_length_eq_zero HNL.out
        have HY2 := Lib.hid (show parseS s = .ok st.1 by rw [HY.out, flush_nil hst])
        clear hst
        go_wp2_with fail
        go_ret2
        exact ⟨HBE.out, .inl ⟨st.1, _, rfl, HY2.out, HP.out.stzs (by have := HNO1.out; omega)⟩⟩
      · have hst : st.2 ≠ [] := fun e => hl0 (by rw [← HNL.out, e]; rfl)
        have HY2 := Lib.hid (show parseS s = .ok (st.1 ++ [st.2]) by rw [HY.out, flush_cons hst])
        have ho := HP.out.o
        rw [HNO1.out] at ho
        have hBz := hB.size
        clear hst
        go_wp2_with (at_builtin; refine wpList_append_own _ rfl _ _ 148 rfl w1.heap.size 31 i1 (.slice none 0 0) 1 24 Tryz.underlying148 gi gz0 gz1 gz2 rfl (by decide) _ _ _ rfl (ho.alloc _) ⟨wr.heap.size, 0, none⟩ 1 1 [.slice Al nl cl] rfl rfl (cell_one_new _ _ _) (by simp [Value.oneCell']) (by simp only [maxLen]; omega) (by omega) (by simp; omega) ?_; intro v' w3 hown3 hgrow hnil)
        have HO3 := Lib.hid hown3
        have HG := Lib.hid hgrow
        have HO2 := Lib.hid ho
        clear hown3 hgrow hnil ho
        go_ret2
        refine ⟨step_below HB1.out ((hB.alloc hB.size _).grown HG.out (by simp; omega) (fun g e => (HO2.out.lt g e).1)), .inl ⟨st.1 ++ [st.2], _, rfl, HY2.out, ?_⟩⟩
        exact (HP.out.flush HG.out (by rw [HNO1.out]; exact HO3.out)).stzs (by rw [List.length_append, HNO1.out]; simp; omega)
end Go.Proofs.YtodbbfgkclkpgaaGreatDoor

/- The reference's term: a package that is asked for, read. -/
import Derived.Test.YtodbbfgkclkpgaaGreatDoorARC12
import Derived.Test.YtodbbfgkclkpgaaGreatDoorARC20
import Derived.Test.YtodbbfgkclkpgaaGreatDoorARC13
namespace Go.Proofs.YtodbbfgkclkpgaaGreatDoor
open Go.RowKit

theorem take_run {p : UInt8 → Bool} {l : List UInt8} {k : Nat} (h : (l.take k).all p = true) (hs : k = l.length ∨ ∃ c r, l.drop k = c :: r ∧ p c = false) : l.takeWhile p = l.take k ∧ l.dropWhile p = l.drop k := by
  rcases hs with rfl | ⟨c, r, hd, hc⟩
  · rw [List.take_length] at h
    obtain ⟨h1, h2⟩ := VP.takeWhile_id h
    rw [h1, h2, List.take_length, List.drop_length]
    exact ⟨rfl, rfl⟩
  · have := VP.takeWhile_mid (b := r) h hc
    rw [← hd, List.take_append_drop] at this
    exact this

theorem bare_calls3 (s : ByteArray) (w : World) (hs : s.size ≤ 1000000) : Calls Tryz.prog 149 #[.string s] w fun E w' => ∃ t : ByteArray, E = .returned (.string t) ∧ t.data.toList = VP.trimP s.data.toList ∧ t.size ≤ s.size ∧ w = w' :=
  (refBare_calls s w hs).mono fun E w' ⟨⟨t, he, ht⟩, hw⟩ => ⟨t, he, ht, by rw [size_eq_length, size_eq_length, ht]; exact VP.trimP_length _, hw⟩

set_option maxHeartbeats 8000000 in
set_option maxRecDepth 100000 in
theorem refTerm_calls (s : ByteArray) (w : World) (hE : Env w) (hs : s.size ≤ 200000) : Calls Tryz.prog 150 #[.string s] w (TermIs s w) := by
  have hR0 := Box5.new w ⟨#[]⟩ 0 0 ⟨#[]⟩ ⟨#[]⟩ 99
  have hb0 := below_alloc w (.cells #[.string ⟨#[]⟩, .int .i64 0, .int .i64 0, .string ⟨#[]⟩, .string ⟨#[]⟩] 99)
  have HE0 := Lib.hid hE
  clear hE
  go_enter Tryz.func150, Tryz.ntmps150
  go_wp2_with fail
  refine (bare_calls3 s _ (by omega)).mono ?_
  rintro E w1 ⟨s1, rfl, hs1, hz1, rfl⟩
  have HS1 := Lib.hid hs1
  have HL := Lib.hid (size_eq_length s1)
  clear hs1
  go_upto_block 0 with fail
  go_cut [4] (fun s4 wx => ∃ k : Nat, s4 = .int .i64 k ∧ k ≤ s1.size ∧ Hid (s1.data.toList.takeWhile VP.nmw = s1.data.toList.take k ∧ s1.data.toList.dropWhile VP.nmw = s1.data.toList.drop k) ∧ Box5 wx w.heap.size ⟨#[]⟩ 0 0 ⟨#[]⟩ ⟨#[]⟩ ∧ Below w.heap.size w wx)
  case first =>
    go_wp2_with fail
    go_loop [4] (fun i => ∃ k : Nat, k ≤ s1.size ∧ i = .int .i64 k ∧ Hid ((s1.data.toList.take k).all VP.nmw = true)) (fun i => s1.size - (intOf i).toNat)
    case atStart => exact ⟨0, Nat.zero_le _, rfl, rfl⟩
    case round =>
      obtain ⟨k, hk, rfl, hall⟩ := hrel
      by_cases hlt : k < s1.size
      · have hts := Lib.hid (take_snoc s1 k hlt)
        have hdr := Lib.hid (drop_cons s1 k hlt)
        have h40 : (((s1[k].toNat : Nat) : Int) == 40) = (s1[k] == 40) := by rw [Bool.eq_iff_iff, beq_iff_eq, beq_iff_eq, ← UInt8.toNat_inj]; show _ ↔ _ = 40; omega
        cases hg : VP.gap s1[k] with
        | true =>
          have HN := Lib.hid (show VP.nmw s1[k] = false by unfold VP.nmw; rw [hg]; rfl)
          go_wp2_with (go_at_call 182; refine (gap_calls _ _).mono ?_; rintro e w' ⟨rfl, rfl⟩)
          go_meet
          case rel => exact ⟨k, rfl, hk, Lib.hid (take_run hall.out (.inr ⟨_, _, hdr.out, HN.out⟩)), hR0, hb0⟩
        | false =>
          cases hq : (s1[k] == 40) with
          | true =>
            have HN := Lib.hid (show VP.nmw s1[k] = false by unfold VP.nmw; rw [hq, hg]; rfl)
            rw [hq] at h40
            have h40' := bne_of_true h40
            clear hq
            go_wp2_with (go_at_call 182; refine (gap_calls _ _).mono ?_; rintro e w' ⟨rfl, rfl⟩)
            go_meet
            case rel => exact ⟨k, rfl, hk, Lib.hid (take_run hall.out (.inr ⟨_, _, hdr.out, HN.out⟩)), hR0, hb0⟩
          | false =>
            have HN := Lib.hid (show VP.nmw s1[k] = true by unfold VP.nmw; rw [hq, hg]; rfl)
            rw [hq] at h40
            have h40' := bne_of_false h40
            clear hq
            go_wp2_with (go_at_call 182; refine (gap_calls _ _).mono ?_; rintro e w' ⟨rfl, rfl⟩)
            go_round
            case rel => exact ⟨k + 1, by omega, by go_num, Lib.hid (by rw [hts.out, List.all_append, hall.out]; simp [HN.out])⟩
            case measure => simp [intOf]; omega
      · obtain rfl : k = s1.size := by omega
        go_wp2_with fail
        go_meet
        case rel => exact ⟨s1.size, rfl, Nat.le_refl _, Lib.hid (take_run hall.out (.inl HL.out)), hR0, hb0⟩
  case rest =>
    obtain ⟨k, rfl, hk, hsp, hR1, hB1⟩ := hcut
    clear hR0 hb0
    obtain ⟨n1, hn1⟩ : ∃ n1, s1.extract 0 k = n1 := ⟨_, rfl⟩
    have HN1 := Lib.hid (show n1.data.toList = s1.data.toList.takeWhile VP.nmw by rw [← hn1, hsp.out.1, Lib.extract_data]; simp)
    have HX := Lib.hid (show (s1.extract k s1.size).data.toList = s1.data.toList.dropWhile VP.nmw by rw [hsp.out.2, Lib.extract_to_end])
    have hnz : n1.size ≤ 200000 := by rw [← hn1]; simp; omega
    have hg : w.heap.size < wc.heap.size := cell_lt hR1.c0
    go_wp2_with fail
    refine (bare_calls3 (s1.extract k s1.size) _ (by simp; omega)).mono ?_
    rintro E w2 ⟨s2, rfl, hs2, hz2, rfl⟩
    have HS2 := Lib.hid (show s2.data.toList = VP.trimP (s1.data.toList.dropWhile VP.nmw) by rw [hs2, HX.out])
    have hz2' : s2.size ≤ 200000 := by simp at hz2; omega
    have HT := Lib.hid (show VP.termP s.data.toList = if VP.nameP n1.data.toList then (if s2.data.toList = [] then some ⟨n1.data.toList, 0, 0, [], []⟩ else if s2.data.toList.head? = some 40 ∧ s2.data.toList.getLast? = some 41 then VP.innerP n1.data.toList (VP.trimP s2.data.toList.tail.dropLast) else none) else none by
      rw [← VP.refTerm_eq]
      unfold VP.refTermP
      rw [← HS1.out, HN1.out, HS2.out])
    have hT1 := Box5.new wc n1 0 0 ⟨#[]⟩ ⟨#[]⟩ 99
    have hb1 := below_alloc wc (.cells #[.string n1, .int .i64 0, .int .i64 0, .string ⟨#[]⟩, .string ⟨#[]⟩] 99)
    have hR2 := hR1.below hb1
    have hB2 := step_below hB1 hb1
    clear hs2 hz2 hR1 hB1 hb1 hn1 hsp HX HN1 HS1 HS2 HL
    generalize wc.alloc (.cells #[.string n1, .int .i64 0, .int .i64 0, .string ⟨#[]⟩, .string ⟨#[]⟩] 99) = W2 at hT1 hR2 hB2 ⊢
    generalize wc.heap.size = T at hT1 hg ⊢
    have HT1 := Lib.hid hT1
    have HR2 := Lib.hid hR2
    obtain ⟨t0, t1, t2, t3, t4, p0, p1, p2, p3, p4⟩ := hT1
    obtain ⟨r0, r1, r2, r3, r4, q0, q1, q2, q3, q4⟩ := hR2
    cases hd : VP.nameP n1.data.toList with
    | false =>
      have HD := Lib.hid hd
      clear hd
      go_wp2_with fail
      refine (packName_calls n1 _ (by omega)).mono ?_
      rintro E w3 ⟨rfl, rfl⟩
      rw [HD.out]
      go_wp2_with fail
      exact bodyPost_ret (v := .tuple #[.agg #[.string n1, .int .i64 0, .int .i64 0, .string ⟨#[]⟩, .string ⟨#[]⟩], .bool false]) (by simp [results, Tryz.results150, go_sem, r0, r1, r2, r3, r4]) rfl
        (termIs_no (by rw [HT.out, HD.out]; rfl) (small0 hnz) (((((hB2.setCell (Nat.le_refl _) _).setCell (Nat.le_refl _) _).setCell (Nat.le_refl _) _).setCell (Nat.le_refl _) _).setCell (Nat.le_refl _) _))
    | true =>
      have HD := Lib.hid hd
      clear hd
      go_wp2_with fail
      refine (packName_calls n1 _ (by omega)).mono ?_
      rintro E w3 ⟨rfl, rfl⟩
      rw [HD.out]
      by_cases he : s2.size = 0
      · have hne := isEmpty_true s2 he
        have HE := Lib.hid (show s2.data.toList = [] from List.eq_nil_of_length_eq_zero (by rw [← size_eq_length]; exact he))
        clear he
        go_wp2_with fail
        exact bodyPost_ret (v := .tuple #[.agg #[.string n1, .int .i64 0, .int .i64 0, .string ⟨#[]⟩, .string ⟨#[]⟩], .bool true]) (by simp [results, Tryz.results150, go_sem, r0, r1, r2, r3, r4]) rfl
          (termIs_yes (by rw [HT.out, HD.out, if_pos rfl, if_pos HE.out]; rfl) rfl (small0 hnz) (((((hB2.setCell (Nat.le_refl _) _).setCell (Nat.le_refl _) _).setCell (Nat.le_refl _) _).setCell (Nat.le_refl _) _).setCell (Nat.le_refl _) _))
      · have hne := isEmpty_false s2 (by omega)
        have hpos : 0 < s2.size := by omega
        obtain ⟨m, hm⟩ : ∃ m, s2.size = m + 1 := ⟨s2.size - 1, by omega⟩
        have hml : m < s2.size := by omega
        have HHD := Lib.hid (drop_first hpos)
        have HLD := Lib.hid (drop_last hm)
        have HNE := Lib.hid (show s2.data.toList ≠ [] by rw [HHD.out]; simp)
        have h40 : (((s2[0].toNat : Nat) : Int) == 40) = (s2[0] == 40) := by rw [Bool.eq_iff_iff, beq_iff_eq, beq_iff_eq, ← UInt8.toNat_inj]; show _ ↔ _ = 40; omega
        have h41 : ((((s2[m]'hml).toNat : Nat) : Int) == 41) = ((s2[m]'hml) == 41) := by rw [Bool.eq_iff_iff, beq_iff_eq, beq_iff_eq, ← UInt8.toNat_inj]; show _ ↔ _ = 41; omega
        cases h0 : (s2[0] == 40) with
        | false =>
          have HTn := Lib.hid (show VP.termP s.data.toList = none by
            rw [HT.out, HD.out, if_pos rfl, if_neg HNE.out, if_neg]
            intro h
            have h1 := h.1
            rw [HHD.out] at h1
            simp only [List.head?_cons, Option.some.injEq] at h1
            rw [h1] at h0
            exact absurd h0 (by decide))
          rw [h0] at h40
          have h40' := bne_of_false h40
          clear h0
          go_wp2_with fail
          exact bodyPost_ret (v := .tuple #[.agg #[.string n1, .int .i64 0, .int .i64 0, .string ⟨#[]⟩, .string ⟨#[]⟩], .bool false]) (by simp [results, Tryz.results150, go_sem, r0, r1, r2, r3, r4]) rfl
            (termIs_no HTn.out (small0 hnz) (((((hB2.setCell (Nat.le_refl _) _).setCell (Nat.le_refl _) _).setCell (Nat.le_refl _) _).setCell (Nat.le_refl _) _).setCell (Nat.le_refl _) _))
        | true =>
          rw [h0] at h40
          have h40' := bne_of_true h40
          cases h1 : ((s2[m]'hml) == 41) with
          | false =>
            have HTn := Lib.hid (show VP.termP s.data.toList = none by
              rw [HT.out, HD.out, if_pos rfl, if_neg HNE.out, if_neg]
              intro h
              have h2 := h.2
              rw [HLD.out] at h2
              simp only [List.getLast?_append, List.getLast?_singleton, Option.some_or, Option.some.injEq] at h2
              rw [h2] at h1
              exact absurd h1 (by decide))
            rw [h1] at h41
            have h41' := bne_of_false h41
            clear h0 h1
            go_wp2_with fail
            exact bodyPost_ret (v := .tuple #[.agg #[.string n1, .int .i64 0, .int .i64 0, .string ⟨#[]⟩, .string ⟨#[]⟩], .bool false]) (by simp [results, Tryz.results150, go_sem, r0, r1, r2, r3, r4]) rfl
              (termIs_no HTn.out (small0 hnz) (((((hB2.setCell (Nat.le_refl _) _).setCell (Nat.le_refl _) _).setCell (Nat.le_refl _) _).setCell (Nat.le_refl _) _).setCell (Nat.le_refl _) _))
          | true =>
            rw [h1] at h41
            have h41' := bne_of_true h41
            have hm1 : 1 ≤ m := by
              by_cases h : m = 0
              · subst h
                rw [beq_iff_eq] at h0 h1
                rw [h0] at h1
                exact absurd h1 (by decide)
              · omega
            have h2 : ¬ (s2.size < 2) := by omega
            have HIN := Lib.hid (show VP.termP s.data.toList = VP.innerP n1.data.toList (VP.trimP (s2.extract 1 m).data.toList) by
              rw [HT.out, HD.out, if_pos rfl, if_neg HNE.out, if_pos]
              · congr 2
                rw [Lib.extract_data, ← List.drop_one, List.dropLast_eq_take, List.length_drop, ← size_eq_length, hm]
                rfl
              · constructor
                · rw [HHD.out]
                  rw [beq_iff_eq] at h0
                  rw [h0]; rfl
                · rw [HLD.out]
                  rw [beq_iff_eq] at h1
                  rw [h1]; simp)
            clear h0 h1
            go_wp2_with fail
            refine (bare_calls3 (s2.extract 1 m) _ (by simp; omega)).mono ?_
            rintro E w4 ⟨mm, rfl, hmm, hmz0, rfl⟩
            have hmz : mm.size ≤ 200000 := by simp at hmz0; omega
            have HI2 := Lib.hid (show VP.termP s.data.toList = VP.innerP n1.data.toList mm.data.toList by rw [HIN.out, hmm])
            clear hmm hmz0 t0 t1 t2 t3 t4 p0 p1 p2 p3 p4 r0 r1 r2 r3 r4 q0 q1 q2 q3 q4 HT HIN HHD HLD HNE h40 h40' h41 h41'
            go_upto_block 2 with fail
            go_cut [0, 6] (fun s0 s6 wx => ∃ (op : Nat) (m2 : ByteArray) (j : Nat), s0 = .string m2 ∧ s6 = .int .i64 j ∧ op < 6 ∧ m2.size ≤ 200000 ∧ Hid (VP.opP mm.data.toList = ((op : Int), m2.data.toList)) ∧ Box5 wx w.heap.size ⟨#[]⟩ 0 0 ⟨#[]⟩ ⟨#[]⟩ ∧ Box5 wx T n1 op 0 ⟨#[]⟩ ⟨#[]⟩ ∧ Below w.heap.size w wx)
            case first =>
              go_wp2_with fail
              go_loopw [0, 6] (fun v0 v6 wr => ∃ (j op : Nat) (m2 : ByteArray), v6 = .int .i64 j ∧ v0 = .string m2 ∧ 1 ≤ j ∧ j ≤ 6 ∧ m2.size ≤ 200000 ∧ op < 6 ∧ ((op = 0 ∧ m2 = mm ∧ Hid (∀ i, 1 ≤ i → i < j → hasPre i mm.data.toList = false)) ∨ (1 ≤ op ∧ Hid (VP.opP mm.data.toList = ((op : Int), m2.data.toList)))) ∧ Box5 wr w.heap.size ⟨#[]⟩ 0 0 ⟨#[]⟩ ⟨#[]⟩ ∧ Box5 wr T n1 op 0 ⟨#[]⟩ ⟨#[]⟩ ∧ Below w.heap.size w wr) (fun _ v6 _ => (6 - intOf v6).toNat)
              case atStart => exact ⟨1, 0, mm, rfl, rfl, Nat.le_refl _, by omega, hmz, by omega, .inl ⟨rfl, rfl, Lib.hid (fun i h1 h2 => by omega)⟩, HR2.out, HT1.out, hB2⟩
              case round =>
                obtain ⟨j, op, m2, rfl, rfl, hj1, hj6, hm2z, hop6, hst, hRr, hTr, hBr⟩ := hrel
                have HRr := Lib.hid hRr
                have HTr := Lib.hid hTr
                obtain ⟨t0, t1, t2, t3, t4, p0, p1, p2, p3, p4⟩ := hTr
                by_cases hjt : j < 6
                · rcases hst with ⟨ho, hmm2, hno⟩ | ⟨ho1, hop⟩
                  · subst ho
                    obtain ⟨sg, hsg⟩ : ∃ sg, signS j = sg := ⟨_, rfl⟩
                    have HSG := Lib.hid (show sg.data.toList = VP.signP (j : Int) by rw [← hsg]; rfl)
                    have hsgz : sg.size ≤ 2 := by rw [← hsg]; exact signS_size j
                    have C1 := Lib.hid (fun (w : World) => show Calls Tryz.prog 123 #[.int .i64 (j : Int)] w fun E w' => E = .returned (.string sg) ∧ w = w' by rw [← hsg]; exact signOf_calls j hjt w)
                    clear hsg
                    have HM2 := Lib.hid hmm2
                    clear hmm2
                    go_wp2_with fail
                    refine (C1.out _).mono ?_
                    rintro E w5 ⟨rfl, rfl⟩
                    go_wp2_with fail
                    refine (call_pre m2 sg j HSG.out _).mono ?_
                    rintro E w8 ⟨rfl, rfl⟩
                    cases hp : hasPre j m2.data.toList with
                    | true =>
                      obtain ⟨hop, hle⟩ := opP_pre j m2.data.toList hj1 hjt hp
                      have HOP := Lib.hid (show VP.opP mm.data.toList = ((j : Int), m2.data.toList.drop (VP.signP (j : Int)).length) by rw [← HM2.out]; exact hop)
                      have hsl : sg.size ≤ m2.size := by rw [size_eq_length, HSG.out, size_eq_length]; exact hle
                      have HE := Lib.hid (show (m2.extract sg.size m2.size).data.toList = m2.data.toList.drop (VP.signP (j : Int)).length by rw [Lib.extract_to_end, size_eq_length sg, HSG.out])
                      clear hp hop hle
                      go_wp2_with fail
                      refine (C1.out _).mono ?_
                      rintro E w9 ⟨rfl, rfl⟩
                      go_wp2_with fail
                      go_roundw
                      case rel => exact ⟨j + 1, j, _, by go_num, rfl, by omega, by omega, by simp; omega, hjt, .inr ⟨hj1, Lib.hid (by rw [HOP.out, HE.out])⟩, HRr.out.other (by omega), HTr.out.setOp _, hBr.setCell (by simp; omega) _⟩
                      case measure => simp [intOf]; omega
                    | false =>
                      have hp' := Lib.hid hp
                      clear hp
                      go_wp2_with fail
                      go_roundw
                      case rel => exact ⟨j + 1, 0, m2, by go_num, rfl, by omega, by omega, hm2z, by omega, .inl ⟨rfl, HM2.out, Lib.hid (fun i h1 h2 => by
                        rcases Nat.lt_succ_iff_lt_or_eq.1 h2 with h | h
                        · exact hno.out i h1 h
                        · rw [h, ← HM2.out]; exact hp'.out)⟩, HRr.out, HTr.out, hBr⟩
                      case measure => simp [intOf]; omega
                  · have hob : ((op : Int) == 0) = false := by rw [beq_eq_false_iff_ne]; omega
                    go_wp2_with fail
                    go_roundw
                    case rel => exact ⟨j + 1, op, m2, by go_num, rfl, by omega, by omega, hm2z, hop6, .inr ⟨ho1, hop⟩, HRr.out, HTr.out, hBr⟩
                    case measure => simp [intOf]; omega
                · obtain rfl : j = 6 := by omega
                  go_wp2_with fail
                  go_meet
                  case rel =>
                    refine ⟨op, m2, 6, rfl, rfl, hop6, hm2z, ?_, HRr.out, HTr.out, hBr⟩
                    rcases hst with ⟨rfl, rfl, hno⟩ | ⟨_, hop⟩
                    · exact Lib.hid (opP_nopre _ hno.out)
                    · exact hop
            case rest =>
              obtain ⟨op, m2, j, rfl, rfl, hop6, hm2z, hop, hRx, hTx, hBx⟩ := hcut
              clear hB2 HT1 HR2
              have hEx := HE0.out.below hBx
              go_wp2_with fail
              refine (bare_calls3 m2 _ (by omega)).mono ?_
              rintro E w5 ⟨v, rfl, hv, hvz, rfl⟩
              have HV := Lib.hid hv
              clear hv
              have HT2 := Lib.hid (show VP.termP s.data.toList = (if op = 0 then none else (VP.parseP v.data.toList).map fun x => ⟨n1.data.toList, (op : Int), x.1, x.2.1, x.2.2⟩) by
                rw [HI2.out]
                unfold VP.innerP
                rw [hop.out, HV.out]
                by_cases h0 : op = 0
                · rw [if_pos h0, if_pos (show ((op : Int), m2.data.toList).1 = 0 by show (op : Int) = 0; omega)]
                · rw [if_neg h0, if_neg (show ¬ ((op : Int), m2.data.toList).1 = 0 by show ¬ (op : Int) = 0; omega)])
              clear HI2 HV hop HD
              go_wp2_with fail
              refine (refParse_calls v _ hEx).mono ?_
              rintro E w8 ⟨hb, hP⟩
              have hR8 := hRx.below hb
              have hT8 := hTx.below hb
              have hB8 := step_below hBx hb
              have hz8 := cell_lt hT8.c0
              dsimp only at hz8
              clear hb hRx hTx hBx hEx
              have hfin : ∃ (e : Int) (u r : ByteArray) (ec : Int), E = .returned (.tuple #[.agg #[.int .i64 e, .string u, .string r], .int .i64 ec]) ∧
                  ((ec = 0 ∧ VP.parseP v.data.toList = some (e, u.data.toList, r.data.toList)) ∨ (ec = 3 ∧ VP.parseP v.data.toList = none)) ∧ (Tv.mk n1 op e u r).wide := by
                rcases hP with ⟨hp, rfl⟩ | ⟨e, u, r, hp, rfl⟩
                · exact ⟨0, ⟨#[]⟩, ⟨#[]⟩, 3, rfl, .inr ⟨rfl, hp⟩, hnz, by show 0 ≤ 200000; omega, by show 0 ≤ 200000; omega, by unfold Tv.ok; dsimp only; omega⟩
                · have hr := VP.parseP_right hp
                  have h1 := hr.len
                  have h2 := hr.lo
                  have h3 := hr.hi
                  dsimp only at h1 h2 h3
                  unfold VP.printP at h1
                  rw [List.length_append, List.length_append] at h1
                  have hrl : r.data.toList.length ≤ 41 := by
                    by_cases h : r.data.toList = []
                    · rw [h]; simp
                    · rw [if_neg h, List.length_cons] at h1; omega
                  exact ⟨e, u, r, 0, rfl, .inl ⟨rfl, hp⟩, hnz, by show u.size ≤ 200000; rw [size_eq_length]; omega, by show r.size ≤ 200000; rw [size_eq_length]; omega, by unfold Tv.ok; dsimp only; omega⟩
              clear hP
              obtain ⟨e, u, r, ec, rfl, hgood, hsm⟩ := hfin
              have HSM := Lib.hid hsm
              clear hsm
              go_upto_region 21 with fail
              have hb9 := below_alloc w8 (.cells #[.int .i64 e, .string u, .string r] 23)
              have hR9 := hR8.below hb9
              have hT9 := hT8.below hb9
              have hB9 := step_below hB8 hb9
              have v0 : (w8.alloc (.cells #[.int .i64 e, .string u, .string r] 23)).cell? ⟨w8.heap.size, 0, none⟩ = some (.int .i64 e) := by go_cell
              have v1 : (w8.alloc (.cells #[.int .i64 e, .string u, .string r] 23)).cell? ⟨w8.heap.size, 1, none⟩ = some (.string u) := by go_cell
              have v2 : (w8.alloc (.cells #[.int .i64 e, .string u, .string r] 23)).cell? ⟨w8.heap.size, 2, none⟩ = some (.string r) := by go_cell
              clear hb9 hR8 hT8 hB8
              generalize w8.alloc (.cells #[.int .i64 e, .string u, .string r] 23) = W9 at hR9 hT9 hB9 v0 v1 v2 ⊢
              have hT10 := ((hT9.setE e).setU u).setR r
              have hR10 : Box5 (((W9.setCell ⟨T, 2, none⟩ (.int .i64 e)).setCell ⟨T, 3, none⟩ (.string u)).setCell ⟨T, 4, none⟩ (.string r)) w.heap.size ⟨#[]⟩ 0 0 ⟨#[]⟩ ⟨#[]⟩ := ((hR9.other (by omega)).other (by omega)).other (by omega)
              have hB10 := ((hB9.setCell (p := ⟨T, 2, none⟩) (by simp; omega) (.int .i64 e)).setCell (p := ⟨T, 3, none⟩) (by simp; omega) (.string u)).setCell (p := ⟨T, 4, none⟩) (by simp; omega) (.string r)
              obtain ⟨t0, t1, t2, t3, t4, p0, p1, p2, p3, p4⟩ := hT9
              clear hB9
              go_upto_region 22 with fail
              clear t0 t1 t2 t3 t4 p0 p1 p2 p3 p4 v0 v1 v2 hR9
              generalize ((W9.setCell ⟨T, 2, none⟩ (.int .i64 e)).setCell ⟨T, 3, none⟩ (.string u)).setCell ⟨T, 4, none⟩ (.string r) = W10 at hT10 hR10 hB10 ⊢
              obtain ⟨t0, t1, t2, t3, t4, p0, p1, p2, p3, p4⟩ := hT10
              obtain ⟨r0, r1, r2, r3, r4, q0, q1, q2, q3, q4⟩ := hR10
              have HBf := Lib.hid (((((hB10.setCell (p := ⟨w.heap.size, 0, none⟩) (Nat.le_refl _) (.string n1)).setCell (p := ⟨w.heap.size, 1, none⟩) (Nat.le_refl _) (.int .i64 op)).setCell (p := ⟨w.heap.size, 2, none⟩) (Nat.le_refl _) (.int .i64 e)).setCell (p := ⟨w.heap.size, 3, none⟩) (Nat.le_refl _) (.string u)).setCell (p := ⟨w.heap.size, 4, none⟩) (Nat.le_refl _) (.string r))
              clear hB10
              by_cases h0 : op = 0
              · have HTn := Lib.hid (show VP.termP s.data.toList = none by rw [HT2.out, if_pos h0])
                have hob : ((op : Int) == 0) = true := by rw [beq_iff_eq]; omega
                have hob' : ((op : Int) != 0) = false := bne_of_true hob
                clear h0 hgood
                go_wp2_with fail
                exact bodyPost_ret (v := .tuple #[(Tv.mk n1 op e u r).val, .bool false]) (by simp [results, Tryz.results150, go_sem, r0, r1, r2, r3, r4, Tv.val]) rfl (termIs_no HTn.out HSM.out HBf.out)
              · have hob : ((op : Int) == 0) = false := by rw [beq_eq_false_iff_ne]; omega
                have hob' : ((op : Int) != 0) = true := bne_of_false hob
                rcases hgood with ⟨rfl, hp⟩ | ⟨rfl, hp⟩
                · have HTy := Lib.hid (show VP.termP s.data.toList = some ⟨n1.data.toList, (op : Int), e, u.data.toList, r.data.toList⟩ by rw [HT2.out, if_neg h0, hp]; rfl)
                  clear h0 hp
                  go_wp2_with fail
                  exact bodyPost_ret (v := .tuple #[(Tv.mk n1 op e u r).val, .bool true]) (by simp [results, Tryz.results150, go_sem, r0, r1, r2, r3, r4, Tv.val]) rfl (termIs_yes HTy.out rfl HSM.out HBf.out)
                · have HTn := Lib.hid (show VP.termP s.data.toList = none by rw [HT2.out, if_neg h0, hp]; rfl)
                  clear h0 hp
                  go_wp2_with fail
                  exact bodyPost_ret (v := .tuple #[(Tv.mk n1 op e u r).val, .bool false]) (by simp [results, Tryz.results150, go_sem, r0, r1, r2, r3, r4, Tv.val]) rfl (termIs_no HTn.out HSM.out HBf.out)
end Go.Proofs.YtodbbfgkclkpgaaGreatDoor

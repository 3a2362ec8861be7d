/- stanza.Right, the reference's Stanza: may fields be a stanza. -/
import Derived.Test.YtodbbfgkclkpgaaGreatDoorRT34
import Derived.Deep.DeepCutAuto
namespace Go.Proofs.YtodbbfgkclkpgaaGreatDoor
open Go Go.RowKit

/-- the lines so far are well -/
def LinesTo (ls : List ByteArray) (k : Nat) : Prop := ∀ i, i < k → lineOk ls i = true
theorem LinesTo.succ {ls : List ByteArray} {k : Nat} (h : LinesTo ls k) (hb : lineOk ls k = true) : LinesTo ls (k + 1) := fun i hi => by
  rcases Nat.lt_or_ge i k with h' | h'
  · exact h i h'
  · obtain rfl : i = k := by omega
    exact hb
theorem lines_done {v : ByteArray} (h : LinesTo (piecesB 10 v) (piecesB 10 v).length) : VP.valueP v.data.toList = true := by rw [valueP_eq]; exact VP.allAt_true h
theorem lines_bad {v : ByteArray} {k : Nat} (hk : k < (piecesB 10 v).length) (h : lineOk (piecesB 10 v) k = false) : VP.valueP v.data.toList = false := by rw [valueP_eq]; exact VP.allAt_false hk h
theorem lineB_size {v s : ByteArray} (h : s ∈ piecesB 10 v) : s.size ≤ v.size := by
  have h1 := VP.pieces_count 10 v.data.toList
  unfold piecesB at h
  obtain ⟨l, hl, rfl⟩ := List.mem_map.1 h
  have h2 : l.length ≤ ((VP.pieces 10 v.data.toList).flatMap id).length := by
    clear h1
    generalize VP.pieces 10 v.data.toList = ps at hl ⊢
    induction ps with
    | nil => cases hl
    | cons a r ih =>
      rw [List.flatMap_cons, List.length_append]
      rcases List.mem_cons.1 hl with rfl | h
      · simp
      · have := ih h; omega
  have h3 : 1 ≤ (VP.pieces 10 v.data.toList).length := by
    rcases hp : VP.pieces 10 v.data.toList with _ | ⟨a, r⟩
    · exact absurd hp (VP.pieces_ne _ _)
    · simp
  rw [size_eq_length v, size_eq_length]
  show l.length ≤ _
  omega

set_option maxHeartbeats 4000000 in
set_option maxRecDepth 100000 in
theorem stanza_calls (v : Value) (fs : List Fv) (w : World) (hE : Env w) (h : FieldsAt w v fs) (hs : ∀ f ∈ fs, f.n.size ≤ 1000000 ∧ f.v.size ≤ 1000000) : Calls Tryz.prog 62 #[v] w (BoolIs (stanzaB fs) w) := by
  obtain ⟨A, c, hv, hc, hm, hr⟩ := h.open
  subst hv
  have HH := Lib.hid h
  obtain ⟨len, hlen⟩ : ∃ len, fs.length = len := ⟨_, rfl⟩
  have HL := Lib.hid hlen
  have HR := Lib.hid hr
  have HS := Lib.hid hs
  have HE := Lib.hid hE
  rw [hlen] at hc hm HH ⊢
  clear hlen hr hs h hE
  go_enter Tryz.func62, Tryz.ntmps62
  by_cases h0 : len = 0
  · have HF := Lib.hid (show stanzaB fs = false by unfold stanzaB VP.stanzaP; rw [List.length_map, HL.out, decide_eq_false (by omega : ¬ 1 ≤ len)]; rfl)
    subst h0
    clear HH HR HL
    go_wp2_with fail
    go_ret
    exact ⟨ret_bool HF.out.symm, Below.refl _ _⟩
  by_cases h40 : 40 < len
  · have HF := Lib.hid (show stanzaB fs = false by unfold stanzaB VP.stanzaP; rw [List.length_map, HL.out, decide_eq_false (by omega : ¬ len ≤ 40)]; simp)
    have hb0 : ((len : Int) == 0) = false := by rw [beq_eq_false_iff_ne]; omega
    clear HH HR HL
    go_wp2_with fail
    go_ret
    exact ⟨ret_bool HF.out.symm, Below.refl _ _⟩
  have hb0 : ((len : Int) == 0) = false := by rw [beq_eq_false_iff_ne]; omega
  go_wp2_with fail
  go_loopw [17] (fun i wr => ∃ k : Nat, k ≤ len ∧ i = .int .i64 k ∧ Hid (FieldsTo fs k) ∧ Below w.heap.size w wr) (fun i _ => len - (intOf i).toNat)
  case atStart => exact ⟨0, Nat.zero_le _, rfl, Lib.hid (fun i h => absurd h (Nat.not_lt_zero _)), Below.refl _ _⟩
  case round =>
    obtain ⟨k, hk, rfl, hall, hB⟩ := hrel
    by_cases hlt : k < len
    · have hne : fs ≠ [] := by
        intro e
        have := HL.out
        rw [e] at this
        simp at this
        omega
      obtain ⟨f, ht⟩ : ∃ f, fs[k]? = some f := ⟨fs[k]'(by have := HL.out; omega), List.getElem?_eq_getElem _⟩
      obtain ⟨b, off, rfl, hi⟩ := HR.out hne
      obtain ⟨c0, c1⟩ := hi k f ht
      replace c0 := kept hB c0
      replace c1 := kept hB c1
      obtain ⟨z0, z1⟩ := HS.out f (List.mem_of_getElem? ht)
      have HT := Lib.hid ht
      have hck : k ≤ c := by omega
      have hba := below_alloc wr (.cells #[.string f.n, .string f.v] 69)
      have hB1 := step_below hB hba
      have d0 : (wr.alloc (.cells #[.string f.n, .string f.v] 69)).cell? ⟨wr.heap.size, 0, none⟩ = some (.string f.n) := by go_cell
      have d1 : (wr.alloc (.cells #[.string f.n, .string f.v] 69)).cell? ⟨wr.heap.size, 1, none⟩ = some (.string f.v) := by go_cell
      have CN := Lib.hid (fun W => fname_calls f.n W z0)
      have CH := Lib.hid (fun (W : World) (hb : Below w.heap.size w W) (hd : W.cell? ⟨wr.heap.size, 0, none⟩ = some (.string f.n)) => hasNamed_calls (.slice (some ⟨b, off, none⟩) k c) (fs.take k) wr.heap.size (fun g => sameN g.n f.n) W ((HH.out.below hb).take (by have := HL.out; omega)) (fun W' x hb' hx => sameN1_calls x wr.heap.size f.n W' (kept hb' hd) (HS.out x (List.mem_of_mem_take hx)).1 z0))
      obtain ⟨bn, hbn⟩ : ∃ x, VP.fnameP f.n.data.toList = x := ⟨_, rfl⟩
      obtain ⟨bh, hbh⟩ : ∃ x, (fs.take k).any (fun g => sameN g.n f.n) = x := ⟨_, rfl⟩
      have HBN := Lib.hid hbn
      have HBH := Lib.hid hbh
      rw [hbn] at CN
      rw [hbh] at CH
      have HB1 := Lib.hid hB1
      clear hbn hbh ht hi hne hba hB hB1
      go_wp2_with fail
      refine (CN.out _).mono ?_
      rintro E w1 ⟨rfl, rfl⟩
      clear CN c0 c1
      cases bn with
      | false =>
        go_wp2_with fail
        go_ret
        exact ⟨ret_bool (by rw [stanzaB_false HT.out (by rw [HBN.out]; rfl)]), HB1.out⟩
      | true =>
      have CH1 := Lib.hid (CH.out _ HB1.out d0)
      clear CH
      go_wp2_with fail
      refine CH1.out.mono ?_
      rintro E w2 ⟨rfl, hb2⟩
      have hB2 := step_below HB1.out hb2
      have e1 := kept hb2 d1
      clear CH1 hb2 d0 d1
      cases bh with
      | true =>
        go_wp2_with fail
        go_ret
        exact ⟨ret_bool (by rw [stanzaB_false HT.out (by rw [HBH.out, HBN.out]; rfl)]), hB2⟩
      | false =>
      have CS := Lib.hid (call_split f.v 10 w2 (HE.out.below hB2) z1)
      have HB2 := Lib.hid hB2
      clear hB2 HB1
      go_wp2_with fail
      refine CS.out.mono ?_
      rintro E w3 ⟨np, rfl, hnp, hb3, hcell⟩
      have hB3 := step_below HB2.out hb3
      obtain ⟨g, hg⟩ : ∃ g, w2.heap.size = g := ⟨_, rfl⟩
      have HCell := Lib.hid hcell
      have HNP := Lib.hid hnp
      have hnmax : np ≤ 9223372036854775807 := by
        have := VP.pieces_count 10 f.v.data.toList
        have h1 := size_eq_length f.v
        rw [hnp]
        unfold piecesB
        rw [List.length_map]
        omega
      clear CS hcell hb3 e1 hnp
      rw [hg] at HCell ⊢
      clear hg HB2
      have HB3 := Lib.hid hB3
      have hz3 := Below.refl w3.heap.size w3
      clear hB3
      go_wp2_with fail
      go_loopw [37] (fun i wx => ∃ j : Nat, j ≤ np ∧ i = .int .i64 j ∧ Hid (LinesTo (piecesB 10 f.v) j) ∧ Below w3.heap.size w3 wx) (fun i _ => np - (intOf i).toNat)
      case atStart => exact ⟨0, Nat.zero_le _, rfl, Lib.hid (fun i h => absurd h (Nat.not_lt_zero _)), hz3⟩
      case round =>
        clear hz3
        obtain ⟨j, hj, rfl, hls, hz⟩ := hrel
        by_cases hjt : j < np
        · obtain ⟨s, hs⟩ : ∃ s, (piecesB 10 f.v)[j]? = some s := ⟨(piecesB 10 f.v)[j]'(by have := HNP.out; omega), List.getElem?_eq_getElem _⟩
          have q0 := kept hz (HCell.out j s hs)
          have hsz : s.size ≤ 1000000 := Nat.le_trans (lineB_size (List.mem_of_getElem? hs)) z1
          have CL := Lib.hid (fun W => line_calls s W hsz)
          have hlo := lineOk_at hs
          obtain ⟨bl, hbl⟩ : ∃ x, VP.flineP s.data.toList = x := ⟨_, rfl⟩
          rw [hbl] at CL hlo
          have HLO := Lib.hid hlo
          have hbad := Lib.hid (fun (h : lineOk (piecesB 10 f.v) j = false) => (show stanzaB fs = false from stanzaB_false HT.out (by rw [lines_bad (by have := HNP.out; omega) h, Bool.and_false])))
          clear hbl hlo hs
          go_wp2_with fail
          refine (CL.out _).mono ?_
          rintro E w5 ⟨rfl, hb5⟩
          have hz5 := step_below hz hb5
          have hB5 := Lib.hid (step_below HB3.out hz5)
          clear CL hb5 q0 hz
          cases bl with
          | false =>
            go_wp2_with fail
            go_ret
            exact ⟨ret_bool (by rw [hbad.out (by rw [HLO.out]; rfl)]), hB5.out⟩
          | true =>
            by_cases hj0 : j = 0
            · have HK := Lib.hid (hls.out.succ (by rw [HLO.out, decide_eq_true hj0]; rfl))
              subst hj0
              clear hls
              go_wp2_with fail
              go_roundw
              case rel => exact ⟨0 + 1, by omega, by go_num, HK, hz5⟩
              case measure => simp [intOf]; omega
            · by_cases hse : s.size = 0
              · have hem := isEmpty_true s hse
                have HF := Lib.hid (hbad.out (by rw [HLO.out, decide_eq_true hse, decide_eq_false hj0]; rfl))
                have hjp : 0 < j := by omega
                clear hbad HLO hls hse hj0
                go_wp2_with fail
                go_ret
                exact ⟨ret_bool HF.out.symm, hB5.out⟩
              · have hem := isEmpty_false s (by omega)
                have HK := Lib.hid (hls.out.succ (by rw [HLO.out, decide_eq_false hse]; simp))
                have hjp : 0 < j := by omega
                clear hbad HLO hls hse hj0
                go_wp2_with fail
                go_roundw
                case rel => exact ⟨j + 1, by omega, by go_num, HK, hz5⟩
                case measure => simp [intOf]; omega
        · obtain rfl : np = j := by omega
          have HV := Lib.hid (show VP.valueP f.v.data.toList = true from lines_done (by have := hls.out; rw [HNP.out] at this; exact this))
          have HK := Lib.hid (hall.out.succ HT.out (by rw [HBN.out, HBH.out, HV.out]; rfl))
          have hB6 := step_below HB3.out hz
          clear hls hz HV
          go_wp2_with fail
          go_roundw
          case rel => exact ⟨k + 1, by omega, by go_num, HK, hB6⟩
          case measure => simp [intOf]; omega
    · obtain rfl : len = k := by omega
      have hall' : FieldsTo fs fs.length := by rw [HL.out]; exact hall.out
      have CT := Lib.hid (text_calls _ fs wr (HE.out.below hB) (HH.out.below hB) HS.out hall'.full (text_bound HS.out (by rw [HL.out]; omega)))
      have HF := Lib.hid (hall'.done (by rw [HL.out]; omega) (by rw [HL.out]; omega))
      have HB := Lib.hid hB
      clear hall hall' HH HR hB
      go_wp2_with fail
      refine CT.out.mono ?_
      rintro E w7 ⟨rfl, hb7⟩
      have hB7 := step_below HB.out hb7
      clear CT hb7
      obtain ⟨T, hT⟩ : ∃ T, VP.textL (fs.map Fv.fd) = T := ⟨_, rfl⟩
      rw [hT] at HF ⊢
      have hTs : (⟨T.toArray⟩ : ByteArray).size = T.length := by rw [size_eq_length]
      clear hT
      by_cases h4 : T.length ≤ 4000
      · have HG := Lib.hid (HF.out.trans (decide_eq_true h4))
        generalize (⟨T.toArray⟩ : ByteArray) = tb at hTs ⊢
        rw [← hTs] at h4
        clear HF hTs
        go_wp2_with fail
        go_ret
        exact ⟨ret_bool (by rw [HG.out]; exact decide_eq_true (by omega)), hB7⟩
      · have HG := Lib.hid (HF.out.trans (decide_eq_false h4))
        generalize (⟨T.toArray⟩ : ByteArray) = tb at hTs ⊢
        rw [← hTs] at h4
        clear HF hTs
        go_wp2_with fail
        go_ret
        exact ⟨ret_bool (by rw [HG.out]; exact decide_eq_false (by omega)), hB7⟩
end Go.Proofs.YtodbbfgkclkpgaaGreatDoor

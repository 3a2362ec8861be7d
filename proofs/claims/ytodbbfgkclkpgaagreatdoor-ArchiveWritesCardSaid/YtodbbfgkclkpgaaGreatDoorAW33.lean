/- stanza.Right, the reference's Stanza: may fields be a stanza. · The fields that a package is: what saysOk holds; how long they are; what the calls return. -/
import Derived.Test.YtodbbfgkclkpgaaGreatDoorAW32
import Derived.Deep.DeepCutAuto
import Derived.Test.YtodbbfgkclkpgaaGreatDoorAW27
namespace Go.Proofs.YtodbbfgkclkpgaaGreatDoor
open Go Go.RowKit

/-- the lines so far are well -/
def LinesTo (ls : List ByteArray) (k : Nat) : Prop := ∀ i, i < k → lineOk ls i = true
theorem LinesTo.succ {ls : List ByteArray} {k : Nat} (h : LinesTo ls k) (hb : lineOk ls k = true) : LinesTo ls (k + 1) := fun i hi => by
  rcases Nat.lt_or_ge i k with h' | h'
  · exact h i h'
  · obtain rfl : i = k := by omega
    exact hb
theorem lines_done {v : ByteArray} (h : LinesTo (piecesB 10 v) (piecesB 10 v).length) : VP.valueP v.data.toList = true := by rw [valueP_eq]; exact VP.allAt_true h
theorem lines_bad {v : ByteArray} {k : Nat} (hk : k < (piecesB 10 v).length) (h : lineOk (piecesB 10 v) k = false) : VP.valueP v.data.toList = false := by rw [valueP_eq]; exact VP.allAt_false hk h
theorem lineB_size {v s : ByteArray} (h : s ∈ piecesB 10 v) : s.size ≤ v.size := by
  have h1 := VP.pieces_count 10 v.data.toList
  unfold piecesB at h
  obtain ⟨l, hl, rfl⟩ := List.mem_map.1 h
  have h2 : l.length ≤ ((VP.pieces 10 v.data.toList).flatMap id).length := by
    clear h1
    generalize VP.pieces 10 v.data.toList = ps at hl ⊢
    induction ps with
    | nil => cases hl
    | cons a r ih =>
      rw [List.flatMap_cons, List.length_append]
      rcases List.mem_cons.1 hl with rfl | h
      · simp
      · have := ih h; omega
  have h3 : 1 ≤ (VP.pieces 10 v.data.toList).length := by
    rcases hp : VP.pieces 10 v.data.toList with _ | ⟨a, r⟩
    · exact absurd hp (VP.pieces_ne _ _)
    · simp
  rw [size_eq_length v, size_eq_length]
  show l.length ≤ _
  omega

set_option maxHeartbeats 4000000 in
set_option maxRecDepth 100000 in
theorem stanza_calls (v : Value) (fs : List Fv) (w : World) (hE : Env w) (h : FieldsAt w v fs) (hs : ∀ f ∈ fs, f.n.size ≤ 1000000 ∧ f.v.size ≤ 1000000) : Calls Tryz.prog 62 #[v] w (BoolIs (stanzaB fs) w) := by
  obtain ⟨A, c, hv, hc, hm, hr⟩ := h.open
  subst hv
  have HH := Lib.hid h
  obtain ⟨len, hlen⟩ : ∃ len, fs.length = len := ⟨_, rfl⟩
  have HL := Lib.hid hlen
  have HR := Lib.hid hr
  have HS := Lib.hid hs
  have HE := Lib.hid hE
  rw [hlen] at hc hm HH ⊢
  clear hlen hr hs h hE
  go_enter Tryz.func62, Tryz.ntmps62
  by_cases h0 : len = 0
  · have HF := Lib.hid (show stanzaB fs = false by unfold stanzaB VP.stanzaP; rw [List.length_map, HL.out, decide_eq_false (by omega : ¬ 1 ≤ len)]; rfl)
    subst h0
    clear HH HR HL
    go_wp2_with fail
    go_ret
    exact ⟨ret_bool HF.out.symm, Below.refl _ _⟩
  by_cases h40 : 40 < len
  · have HF := Lib.hid (show stanzaB fs = false by unfold stanzaB VP.stanzaP; rw [List.length_map, HL.out, decide_eq_false (by omega : ¬ len ≤ 40)]; simp)
    have hb0 : ((len : Int) == 0) = false := by rw [beq_eq_false_iff_ne]; omega
    clear HH HR HL
    go_wp2_with fail
    go_ret
    exact ⟨ret_bool HF.out.symm, Below.refl _ _⟩
  have hb0 : ((len : Int) == 0) = false := by rw [beq_eq_false_iff_ne]; omega
  go_wp2_with fail
  go_loopw [17] (fun i wr => ∃ k : Nat, k ≤ len ∧ i = .int .i64 k ∧ Hid (FieldsTo fs k) ∧ Below w.heap.size w wr) (fun i _ => len - (intOf i).toNat)
  case atStart => exact ⟨0, Nat.zero_le _, rfl, Lib.hid (fun i h => absurd h (Nat.not_lt_zero _)), Below.refl _ _⟩
  case round =>
    obtain ⟨k, hk, rfl, hall, hB⟩ := hrel
    by_cases hlt : k < len
    · have hne : fs ≠ [] := by
        intro e
        have := HL.out
        rw [e] at this
        simp at this
        omega
      obtain ⟨f, ht⟩ : ∃ f, fs[k]? = some f := ⟨fs[k]'(by have := HL.out; omega), List.getElem?_eq_getElem _⟩
      obtain ⟨b, off, rfl, hi⟩ := HR.out hne
      obtain ⟨c0, c1⟩ := hi k f ht
      replace c0 := kept hB c0
      replace c1 := kept hB c1
      obtain ⟨z0, z1⟩ := HS.out f (List.mem_of_getElem? ht)
      have HT := Lib.hid ht
      have hck : k ≤ c := by omega
      have hba := below_alloc wr (.cells #[.string f.n, .string f.v] 69)
      have hB1 := step_below hB hba
      have d0 : (wr.alloc (.cells #[.string f.n, .string f.v] 69)).cell? ⟨wr.heap.size, 0, none⟩ = some (.string f.n) := by go_cell
      have d1 : (wr.alloc (.cells #[.string f.n, .string f.v] 69)).cell? ⟨wr.heap.size, 1, none⟩ = some (.string f.v) := by go_cell
      have CN := Lib.hid (fun W => fname_calls f.n W z0)
      have CH := Lib.hid (fun (W : World) (hb : Below w.heap.size w W) (hd : W.cell? ⟨wr.heap.size, 0, none⟩ = some (.string f.n)) => hasNamed_calls (.slice (some ⟨b, off, none⟩) k c) (fs.take k) wr.heap.size (fun g => sameN g.n f.n) W ((HH.out.below hb).take (by have := HL.out; omega)) (fun W' x hb' hx => sameN1_calls x wr.heap.size f.n W' (kept hb' hd) (HS.out x (List.mem_of_mem_take hx)).1 z0))
      obtain ⟨bn, hbn⟩ : ∃ x, VP.fnameP f.n.data.toList = x := ⟨_, rfl⟩
      obtain ⟨bh, hbh⟩ : ∃ x, (fs.take k).any (fun g => sameN g.n f.n) = x := ⟨_, rfl⟩
      have HBN := Lib.hid hbn
      have HBH := Lib.hid hbh
      rw [hbn] at CN
      rw [hbh] at CH
      have HB1 := Lib.hid hB1
      clear hbn hbh ht hi hne hba hB hB1
      go_wp2_with fail
      refine (CN.out _).mono ?_
      rintro E w1 ⟨rfl, rfl⟩
      clear CN c0 c1
      cases bn with
      | false =>
        go_wp2_with fail
        go_ret
        exact ⟨ret_bool (by rw [stanzaB_false HT.out (by rw [HBN.out]; rfl)]), HB1.out⟩
      | true =>
      have CH1 := Lib.hid (CH.out _ HB1.out d0)
      clear CH
      go_wp2_with fail
      refine CH1.out.mono ?_
      rintro E w2 ⟨rfl, hb2⟩
      have hB2 := step_below HB1.out hb2
      have e1 := kept hb2 d1
      clear CH1 hb2 d0 d1
      cases bh with
      | true =>
        go_wp2_with fail
        go_ret
        exact ⟨ret_bool (by rw [stanzaB_false HT.out (by rw [HBH.out, HBN.out]; rfl)]), hB2⟩
      | false =>
      have CS := Lib.hid (call_split f.v 10 w2 (HE.out.below hB2) z1)
      have HB2 := Lib.hid hB2
      clear hB2 HB1
      go_wp2_with fail
      refine CS.out.mono ?_
      rintro E w3 ⟨np, rfl, hnp, hb3, hcell⟩
      have hB3 := step_below HB2.out hb3
      obtain ⟨g, hg⟩ : ∃ g, w2.heap.size = g := ⟨_, rfl⟩
      have HCell := Lib.hid hcell
      have HNP := Lib.hid hnp
      have hnmax : np ≤ 9223372036854775807 := by
        have := VP.pieces_count 10 f.v.data.toList
        have h1 := size_eq_length f.v
        rw [hnp]
        unfold piecesB
        rw [List.length_map]
        omega
      clear CS hcell hb3 e1 hnp
      rw [hg] at HCell ⊢
      clear hg HB2
      have HB3 := Lib.hid hB3
      have hz3 := Below.refl w3.heap.size w3
      clear hB3
      go_wp2_with fail
      go_loopw [37] (fun i wx => ∃ j : Nat, j ≤ np ∧ i = .int .i64 j ∧ Hid (LinesTo (piecesB 10 f.v) j) ∧ Below w3.heap.size w3 wx) (fun i _ => np - (intOf i).toNat)
      case atStart => exact ⟨0, Nat.zero_le _, rfl, Lib.hid (fun i h => absurd h (Nat.not_lt_zero _)), hz3⟩
      case round =>
        clear hz3
        obtain ⟨j, hj, rfl, hls, hz⟩ := hrel
        by_cases hjt : j < np
        · obtain ⟨s, hs⟩ : ∃ s, (piecesB 10 f.v)[j]? = some s := ⟨(piecesB 10 f.v)[j]'(by have := HNP.out; omega), List.getElem?_eq_getElem _⟩
          have q0 := kept hz (HCell.out j s hs)
          have hsz : s.size ≤ 1000000 := Nat.le_trans (lineB_size (List.mem_of_getElem? hs)) z1
          have CL := Lib.hid (fun W => line_calls s W hsz)
          have hlo := lineOk_at hs
          obtain ⟨bl, hbl⟩ : ∃ x, VP.flineP s.data.toList = x := ⟨_, rfl⟩
          rw [hbl] at CL hlo
          have HLO := Lib.hid hlo
          have hbad := Lib.hid (fun (h : lineOk (piecesB 10 f.v) j = false) => (show stanzaB fs = false from stanzaB_false HT.out (by rw [lines_bad (by have := HNP.out; omega) h, Bool.and_false])))
          clear hbl hlo hs
          go_wp2_with fail
          refine (CL.out _).mono ?_
          rintro E w5 ⟨rfl, hb5⟩
          have hz5 := step_below hz hb5
          have hB5 := Lib.hid (step_below HB3.out hz5)
          clear CL hb5 q0 hz
          cases bl with
          | false =>
            go_wp2_with fail
            go_ret
            exact ⟨ret_bool (by rw [hbad.out (by rw [HLO.out]; rfl)]), hB5.out⟩
          | true =>
            by_cases hj0 : j = 0
            · have HK := Lib.hid (hls.out.succ (by rw [HLO.out, decide_eq_true hj0]; rfl))
              subst hj0
              clear hls
              go_wp2_with fail
              go_roundw
              case rel => exact ⟨0 + 1, by omega, by go_num, HK, hz5⟩
              case measure => simp [intOf]; omega
            · by_cases hse : s.size = 0
              · have hem := isEmpty_true s hse
                have HF := Lib.hid (hbad.out (by rw [HLO.out, decide_eq_true hse, decide_eq_false hj0]; rfl))
                have hjp : 0 < j := by omega
                clear hbad HLO hls hse hj0
                go_wp2_with fail
                go_ret
                exact ⟨ret_bool HF.out.symm, hB5.out⟩
              · have hem := isEmpty_false s (by omega)
                have HK := Lib.hid (hls.out.succ (by rw [HLO.out, decide_eq_false hse]; simp))
                have hjp : 0 < j := by omega
                clear hbad HLO hls hse hj0
                go_wp2_with fail
                go_roundw
                case rel => exact ⟨j + 1, by omega, by go_num, HK, hz5⟩
                case measure => simp [intOf]; omega
        · obtain rfl : np = j := by omega
          have HV := Lib.hid (show VP.valueP f.v.data.toList = true from lines_done (by have := hls.out; rw [HNP.out] at this; exact this))
          have HK := Lib.hid (hall.out.succ HT.out (by rw [HBN.out, HBH.out, HV.out]; rfl))
          have hB6 := step_below HB3.out hz
          clear hls hz HV
          go_wp2_with fail
          go_roundw
          case rel => exact ⟨k + 1, by omega, by go_num, HK, hB6⟩
          case measure => simp [intOf]; omega
    · obtain rfl : len = k := by omega
      have hall' : FieldsTo fs fs.length := by rw [HL.out]; exact hall.out
      have CT := Lib.hid (text_calls _ fs wr (HE.out.below hB) (HH.out.below hB) HS.out hall'.full (text_bound HS.out (by rw [HL.out]; omega)))
      have HF := Lib.hid (hall'.done (by rw [HL.out]; omega) (by rw [HL.out]; omega))
      have HB := Lib.hid hB
      clear hall hall' HH HR hB
      go_wp2_with fail
      refine CT.out.mono ?_
      rintro E w7 ⟨rfl, hb7⟩
      have hB7 := step_below HB.out hb7
      clear CT hb7
      obtain ⟨T, hT⟩ : ∃ T, VP.textL (fs.map Fv.fd) = T := ⟨_, rfl⟩
      rw [hT] at HF ⊢
      have hTs : (⟨T.toArray⟩ : ByteArray).size = T.length := by rw [size_eq_length]
      clear hT
      by_cases h4 : T.length ≤ 4000
      · have HG := Lib.hid (HF.out.trans (decide_eq_true h4))
        generalize (⟨T.toArray⟩ : ByteArray) = tb at hTs ⊢
        rw [← hTs] at h4
        clear HF hTs
        go_wp2_with fail
        go_ret
        exact ⟨ret_bool (by rw [HG.out]; exact decide_eq_true (by omega)), hB7⟩
      · have HG := Lib.hid (HF.out.trans (decide_eq_false h4))
        generalize (⟨T.toArray⟩ : ByteArray) = tb at hTs ⊢
        rw [← hTs] at h4
        clear HF hTs
        go_wp2_with fail
        go_ret
        exact ⟨ret_bool (by rw [HG.out]; exact decide_eq_false (by omega)), hB7⟩
end Go.Proofs.YtodbbfgkclkpgaaGreatDoor

namespace Go.Proofs.YtodbbfgkclkpgaaGreatDoor
open Go Go.RowKit

structure Pv.Ok (p : Pv) : Prop where
  n : VP.nameP p.n.data.toList = true
  v : VP.rightP p.e p.u.data.toList p.r.data.toList = true
  dep : VP.askedP (tmL p.dep) = true
  ahead : VP.askedP (tmL p.ahead) = true
  ag : VP.askedP (tmL (p.ag.map fun t => [t])) = true
  br : VP.askedP (tmL (p.br.map fun t => [t])) = true
  re : VP.askedP (tmL (p.re.map fun t => [t])) = true
  pr : VP.askedP (tmL (p.pr.map fun t => [t])) = true
  se : pathsB p.se = true
  li : pathsB p.li = true
theorem ok_of {p : Pv} (h : saysOk p = true) : p.Ok := by
  rw [says_prog] at h
  simp only [Bool.and_eq_true] at h
  obtain ⟨_, h0, h1, h2, h3, h4, h5, h6, h7, h8, h9⟩ := h
  exact ⟨h0, h1, h2, h3, by rw [flatP_eq]; exact h4, by rw [flatP_eq]; exact h5, by rw [flatP_eq]; exact h6, by rw [flatP_eq]; exact h7, h8, h9⟩

theorem paths_len {ss : List ByteArray} (h : pathsB ss = true) : ss.length ≤ 20 ∧ ∀ s ∈ ss, s.size ≤ 60 := by
  unfold pathsB VP.pathsP at h
  rw [Bool.and_eq_true, decide_eq_true_eq, List.length_map] at h
  refine ⟨h.2, fun s hs => ?_⟩
  obtain ⟨i, hi⟩ := List.mem_iff_getElem?.1 hs
  have hlt := (List.getElem?_eq_some_iff.1 hi).1
  have h1 := VP.allAt_iff.1 h.1 i hlt
  unfold VP.pathOk at h1
  rw [List.getElem?_map, hi] at h1
  simp only [Option.map_some, Bool.and_eq_true] at h1
  have h2 := h1.1
  unfold VP.pathP at h2
  simp only [Bool.and_eq_true, decide_eq_true_eq] at h2
  rw [size_eq_length]
  exact h2.1.2
theorem linesOf_len (B : Nat) : ∀ l : List (List UInt8), (∀ x ∈ l, x.length ≤ B) → (VP.linesOf l).length ≤ l.length * (B + 1)
  | [], _ => by simp [VP.linesOf]
  | x :: l, h => by
    have ih := linesOf_len B l (fun y hy => h y (.tail _ hy))
    have := h x (.head _)
    show ((10 :: x) ++ VP.linesOf l).length ≤ _
    rw [List.length_append, List.length_cons, List.length_cons, Nat.add_mul]
    omega
theorem linesS_size {ss : List ByteArray} (h : pathsB ss = true) : (linesS ss).size ≤ 2000 := by
  obtain ⟨h1, h2⟩ := paths_len h
  have := linesOf_len 60 (ss.map (·.data.toList)) (fun x hx => by
    obtain ⟨s, hs, rfl⟩ := List.mem_map.1 hx
    rw [← size_eq_length]; exact h2 s hs)
  rw [List.length_map] at this
  rw [size_eq_length]
  show (VP.linesOf (ss.map (·.data.toList))).length ≤ 2000
  omega
theorem versS_size {p : Pv} (h : p.Ok) : (versS p).size ≤ 40 := by
  have h1 := h.v
  unfold VP.rightP at h1
  simp only [Bool.and_eq_true, decide_eq_true_eq] at h1
  rw [size_eq_length]
  exact h1.2

theorem optF_mem {n v : ByteArray} {f : Fv} (h : f ∈ optF n v) : f = ⟨n, v⟩ := by
  unfold optF at h
  split at h
  · cases h
  · simpa using h
theorem fldB_sizes {p : Pv} (h : p.Ok) (hn : p.n.size ≤ 1000000) : ∀ f ∈ fldB p, f.n.size ≤ 1000000 ∧ f.v.size ≤ 1000000 := by
  have big : (200000 : Nat) ≤ 1000000 := by decide
  intro f hf
  unfold fldB fld7 fld6 fld5 fld4 fld3 fld2 fld1 at hf
  simp only [List.mem_append] at hf
  rcases hf with (((((((hf | hf) | hf) | hf) | hf) | hf) | hf) | hf) | hf
  · unfold fld0 at hf
    rcases List.mem_cons.1 hf with rfl | hf
    · exact ⟨(show nPackage.size ≤ 1000000 by decide), hn⟩
    · rw [List.mem_singleton.1 hf]
      exact ⟨(show nVersion.size ≤ 1000000 by decide), Nat.le_trans (versS_size h) (by decide)⟩
  · rw [optF_mem hf]; exact ⟨(show nDepends.size ≤ 1000000 by decide), Nat.le_trans (wholeS_size h.dep) big⟩
  · rw [optF_mem hf]; exact ⟨(show nPre.size ≤ 1000000 by decide), Nat.le_trans (wholeS_size h.ahead) big⟩
  · rw [optF_mem hf]; exact ⟨(show nConflicts.size ≤ 1000000 by decide), Nat.le_trans (wholeS_size h.ag) big⟩
  · rw [optF_mem hf]; exact ⟨(show nBreaks.size ≤ 1000000 by decide), Nat.le_trans (wholeS_size h.br) big⟩
  · rw [optF_mem hf]; exact ⟨(show nReplaces.size ≤ 1000000 by decide), Nat.le_trans (wholeS_size h.re) big⟩
  · rw [optF_mem hf]; exact ⟨(show nProvides.size ≤ 1000000 by decide), Nat.le_trans (wholeS_size h.pr) big⟩
  · rw [optF_mem hf]; exact ⟨(show nConffiles.size ≤ 1000000 by decide), Nat.le_trans (linesS_size h.se) (by decide)⟩
  · rw [optF_mem hf]; exact ⟨(show nTriggers.size ≤ 1000000 by decide), Nat.le_trans (linesS_size h.li) (by decide)⟩

/-- what record.Fields, and the reference's, answer -/
def fldE (p : Pv) : Int := if saysOk p then (if stanzaB (fldB p) then 0 else 4) else 1
def fldR (p : Pv) : List Fv := if saysOk p then (if stanzaB (fldB p) then fldB p else []) else []
def RecFieldsIs (p : Pv) (w : World) (E : Ending) (w' : World) : Prop := ∃ v', E = .returned (.tuple #[v', errV (fldE p)]) ∧ FieldsAt w' v' (fldR p) ∧ Below w.heap.size w w'
def RefFieldsIs (p : Pv) (w : World) (E : Ending) (w' : World) : Prop := ∃ v', E = .returned (.tuple #[v', .int .i64 (fldE p)]) ∧ FieldsAt w' v' (fldR p) ∧ Below w.heap.size w w'

/-! the lines of a field, joined -/
theorem lines_join (ss : List ByteArray) : Lib.join (((⟨#[]⟩ : ByteArray) :: ss).map (·.data.toList)) [10] = (linesS ss).data.toList := by
  rw [joinP_eq, List.map_cons]
  exact VP.join_lines _
/-- .. and as the reference puts them together -/
def linesTo (ss : List ByteArray) (k : Nat) : List UInt8 := VP.linesOf ((ss.take k).map (·.data.toList))
theorem linesTo_succ {ss : List ByteArray} {k : Nat} {s : ByteArray} (h : ss[k]? = some s) : linesTo ss (k + 1) = linesTo ss k ++ 10 :: s.data.toList := by
  unfold linesTo VP.linesOf
  rw [List.take_add_one, h, List.map_append, List.flatMap_append]
  simp
theorem linesTo_len {ss : List ByteArray} (h : ss.length ≤ 20 ∧ ∀ s ∈ ss, s.size ≤ 60) (k : Nat) : (linesTo ss k).length ≤ 2000 := by
  have h2 := linesOf_len 60 ((ss.take k).map (·.data.toList)) (fun x hx => by
    obtain ⟨s, hs, rfl⟩ := List.mem_map.1 hx
    rw [← size_eq_length]; exact h.2 s (List.mem_of_mem_take hs))
  have h1 := h.1
  rw [List.length_map, List.length_take] at h2
  unfold linesTo
  omega
theorem linesTo_all (ss : List ByteArray) : (⟨(linesTo ss ss.length).toArray⟩ : ByteArray) = linesS ss := by
  unfold linesTo linesS
  rw [List.take_length]

/-! the state of record.Fields between its calls -/
structure FSt (w1 : World) (q a : Nat) (fs : List Fv) (W : World) : Prop where
  l : LBox w1.heap.size q fs W
  b : AddBox a q W
  z : Below w1.heap.size w1 W
  ne : a ≠ q
theorem FSt.below {w1 W W' : World} {q a : Nat} {fs : List Fv} (h : FSt w1 q a fs W) (hb : Below W.heap.size W W') : FSt w1 q a fs W' :=
  ⟨h.l.below hb, boxed_below h.b hb, step_below h.z hb, h.ne⟩
theorem FSt.next {w1 W W' : World} {q a : Nat} {fs gs : List Fv} (h : FSt w1 q a fs W) (hl : LBox w1.heap.size q gs W') (hk : KeptF w1.heap.size q W W') : FSt w1 q a gs W' :=
  ⟨hl, hk.boxed h.b (by decide) h.ne, h.z.trans hk.2.1, h.ne⟩
end Go.Proofs.YtodbbfgkclkpgaaGreatDoor

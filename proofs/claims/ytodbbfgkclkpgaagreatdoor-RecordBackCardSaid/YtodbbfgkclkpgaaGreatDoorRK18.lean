/- The reference's stanzaText: fields, written. · The reference's Stanza: may fields be a stanza. -/
import Derived.Test.YtodbbfgkclkpgaaGreatDoorRK17
namespace Go.Proofs.YtodbbfgkclkpgaaGreatDoor
open Go Go.RowKit

/-- what is still to be written of a field, from its j-th line on -/
def tailL (n : List UInt8) (ps : List (List UInt8)) (j : Nat) : List UInt8 := if j = 0 then n ++ 58 :: VP.linesL ps else (ps.drop j).flatMap VP.restL
theorem tailL_zero {n : List UInt8} {ps : List (List UInt8)} {a : List UInt8} (h : ps[0]? = some a) : tailL n ps 0 = (n ++ 58 :: VP.firstL2 a) ++ tailL n ps 1 := by
  cases ps with
  | nil => cases h
  | cons b r =>
    obtain rfl := Option.some.inj h
    unfold tailL
    rw [if_pos rfl, if_neg (by omega)]
    simp [VP.linesL]
theorem tailL_succ {n : List UInt8} {ps : List (List UInt8)} {j : Nat} {a : List UInt8} (hj : 0 < j) (h : ps[j]? = some a) : tailL n ps j = VP.restL a ++ tailL n ps (j + 1) := by
  unfold tailL
  rw [if_neg (by omega), if_neg (by omega)]
  have hlt := (List.getElem?_eq_some_iff.1 h).1
  rw [List.drop_eq_getElem_cons hlt, List.flatMap_cons]
  rw [List.getElem?_eq_getElem hlt] at h
  rw [Option.some.inj h]
theorem tailL_done {n : List UInt8} {ps : List (List UInt8)} (h : 0 < ps.length) : tailL n ps ps.length = [] := by
  unfold tailL
  rw [if_neg (by omega), List.drop_length]
  rfl
/-- what is written, and what is to come -/
def SoFar (T : List UInt8) (S : ByteArray) (todo : List UInt8) : Prop := S.data.toList ++ todo = T
theorem SoFar.size {T todo : List UInt8} {S : ByteArray} (h : SoFar T S todo) : S.size + todo.length = T.length := by
  rw [← h, List.length_append, size_eq_length]
theorem SoFar.add {T a todo : List UInt8} {S s : ByteArray} (h : SoFar T S (a ++ todo)) (hs : s.data.toList = a) : SoFar T (S ++ s) todo := by
  unfold SoFar at h ⊢
  rw [append_data, hs, List.append_assoc]; exact h
theorem prefix_dot (s : ByteArray) (w : World) : Calls Tryz.prog 84 #[.string s, .string ⟨#[46]⟩] w fun E w' => E = .returned (.bool (decide (s.data.toList.head? = some 46))) ∧ w = w' :=
  (Tryz.strings_HasPrefix s ⟨#[46]⟩ w).mono fun E w' ⟨he, hw⟩ => ⟨by
    rw [he]
    congr 2
    unfold Lib.hasPrefix
    cases s.data.toList with
    | nil => rfl
    | cons c l =>
      show (List.isPrefixOf [46] (c :: l)) = _
      rw [Bool.eq_iff_iff, decide_eq_true_iff]
      show ((46 == c) && ([] : List UInt8).isPrefixOf l) = true ↔ some c = some 46
      rw [List.isPrefixOf_nil_left, Bool.and_true, beq_iff_eq]
      exact ⟨fun h => by rw [h], fun h => (Option.some.inj h).symm⟩, hw.symm⟩

set_option maxHeartbeats 4000000 in
set_option maxRecDepth 100000 in
theorem refText_calls (v : Value) (fs : List Fv) (w : World) (hE : Env w) (h : FieldsAt w v fs) (hs : ∀ f ∈ fs, f.n.size ≤ 1000000 ∧ f.v.size ≤ 1000000) (hT : (VP.textL (fs.map Fv.fd)).length ≤ 100000000000) :
    Calls Tryz.prog 78 #[v] w (TextIs fs w) := by
  obtain ⟨A, c, hv, hc, hm, hr⟩ := h.open
  subst hv
  obtain ⟨len, hlen⟩ : ∃ len, fs.length = len := ⟨_, rfl⟩
  have HL := Lib.hid hlen
  have HR := Lib.hid hr
  have HS := Lib.hid hs
  have HE := Lib.hid hE
  obtain ⟨T, hTe⟩ : ∃ T, VP.textL (fs.map Fv.fd) = T := ⟨_, rfl⟩
  have HTe := Lib.hid hTe
  rw [hTe] at hT
  have H0 := Lib.hid (show SoFar T ⟨#[]⟩ (VP.textL ((fs.drop 0).map Fv.fd)) from by rw [List.drop_zero, hTe]; rfl)
  rw [hlen] at hc hm ⊢
  clear hlen hr hs h hE hTe
  go_enter Tryz.func78, Tryz.ntmps78
  go_wp2_with fail
  go_loopw [3, 10] (fun sv i wr => ∃ (k : Nat) (S : ByteArray), k ≤ len ∧ sv = .string S ∧ i = .int .i64 k ∧ Hid (SoFar T S (VP.textL ((fs.drop k).map Fv.fd))) ∧ Below w.heap.size w wr) (fun _ i _ => len - (intOf i).toNat)
  case atStart => exact ⟨0, ⟨#[]⟩, Nat.zero_le _, rfl, rfl, H0, Below.refl _ _⟩
  case round =>
    obtain ⟨k, S, hk, rfl, rfl, hw, hB⟩ := hrel
    by_cases hlt : k < len
    · have hne : fs ≠ [] := by
        intro e
        have := HL.out
        rw [e] at this
        simp at this
        omega
      obtain ⟨f, ht⟩ : ∃ f, fs[k]? = some f := ⟨fs[k]'(by have := HL.out; omega), List.getElem?_eq_getElem _⟩
      obtain ⟨b, off, rfl, hi⟩ := HR.out hne
      obtain ⟨c0, c1⟩ := hi k f ht
      replace c0 := kept hB c0
      replace c1 := kept hB c1
      obtain ⟨z0, z1⟩ := HS.out f (List.mem_of_getElem? ht)
      have hw1 := hw.out
      rw [textL_drop ht] at hw1
      have hba := below_alloc wr (.cells #[.string f.n, .string f.v] 69)
      have hB1 := step_below hB hba
      have d0 : (wr.alloc (.cells #[.string f.n, .string f.v] 69)).cell? ⟨wr.heap.size, 0, none⟩ = some (.string f.n) := by go_cell
      have CS := Lib.hid (call_split f.v 10 _ (HE.out.below hB1) z1)
      obtain ⟨Z, hZ⟩ : ∃ Z, VP.textL ((fs.drop (k + 1)).map Fv.fd) = Z := ⟨_, rfl⟩
      have HZ := Lib.hid hZ
      rw [hZ] at hw1
      have HW := Lib.hid (show SoFar T S (tailL f.n.data.toList (VP.pieces 10 f.v.data.toList) 0 ++ Z) from hw1)
      have HB1 := Lib.hid hB1
      clear hZ hw1 hw hi hne ht hba hB hB1
      go_wp2_with fail
      refine CS.out.mono ?_
      rintro E w3 ⟨np, rfl, hnp, hb3, hcell⟩
      have HB3 := Lib.hid (step_below HB1.out hb3)
      have e0 := kept hb3 d0
      have HCell := Lib.hid hcell
      have HNP := Lib.hid hnp
      have hpc := VP.pieces_count 10 f.v.data.toList
      have hnmax : np ≤ 9223372036854775807 := by
        have h1 := size_eq_length f.v
        rw [hnp]
        unfold piecesB
        rw [List.length_map]
        omega
      clear CS hcell hb3 hnp d0 c0 c1 HB1 hpc
      obtain ⟨m, hmm⟩ : ∃ m, wr.heap.size = m := ⟨_, rfl⟩
      obtain ⟨g, hg⟩ : ∃ g, (wr.alloc (.cells #[.string f.n, .string f.v] 69)).heap.size = g := ⟨_, rfl⟩
      rw [hg] at HCell ⊢
      rw [hmm] at e0 ⊢
      clear hg hmm
      have hz3 := Below.refl w3.heap.size w3
      have hnz : 0 < np := by
        have h1 := HNP.out
        unfold piecesB at h1
        rw [List.length_map] at h1
        rcases hp : VP.pieces 10 f.v.data.toList with _ | ⟨a, r⟩
        · exact absurd hp (VP.pieces_ne _ _)
        · rw [hp, List.length_cons] at h1; omega
      go_wp2_with fail
      go_loopw [3, 18] (fun sv i wx => ∃ (j : Nat) (S' : ByteArray), j ≤ np ∧ sv = .string S' ∧ i = .int .i64 j ∧ Hid (SoFar T S' (tailL f.n.data.toList (VP.pieces 10 f.v.data.toList) j ++ Z)) ∧ Below w3.heap.size w3 wx) (fun _ i _ => np - (intOf i).toNat)
      case atStart => exact ⟨0, S, Nat.zero_le _, rfl, rfl, HW, hz3⟩
      case round =>
        clear hz3 HW
        obtain ⟨j, S', hj, rfl, rfl, HW, hz⟩ := hrel
        have hS' : S'.size ≤ 100000000000 := by have := HW.out.size; omega
        by_cases hjt : j < np
        · obtain ⟨x, hx⟩ : ∃ x, (piecesB 10 f.v)[j]? = some x := ⟨(piecesB 10 f.v)[j]'(by have := HNP.out; omega), List.getElem?_eq_getElem _⟩
          have q0 := kept hz (HCell.out j x hx)
          have q1 := kept hz e0
          have hxz : x.size ≤ 1000000 := Nat.le_trans (lineB_size (List.mem_of_getElem? hx)) z1
          have hpj : (VP.pieces 10 f.v.data.toList)[j]? = some x.data.toList := by
            unfold piecesB at hx
            rw [List.getElem?_map, Option.map_eq_some_iff] at hx
            obtain ⟨l, hl, rfl⟩ := hx
            exact hl
          have HPJ := Lib.hid hpj
          clear hx hpj
          by_cases hj0 : j = 0
          · subst hj0
            have h7 := HW.out
            rw [tailL_zero HPJ.out, List.append_assoc] at h7
            have hxe : x.size = 0 ∨ 0 < x.size := by omega
            rcases hxe with hxe | hxe
            · have hem := isEmpty_true x hxe
              rw [show VP.firstL2 x.data.toList = [10] by
                rw [List.eq_nil_of_length_eq_zero (by rw [← size_eq_length]; exact hxe : x.data.toList.length = 0)]; rfl] at h7
              have H8 := Lib.hid (h7.add (s := f.n ++ ⟨#[58, 10]⟩) (by rw [append_data]))
              clear h7 HW HPJ hxe
              go_wp2_with fail
              go_roundw
              case rel => exact ⟨0 + 1, _, by omega, rfl, by go_num, H8, hz⟩
              case measure => simp [intOf]; omega
            · have hem := isEmpty_false x hxe
              rw [show VP.firstL2 x.data.toList = 32 :: (x.data.toList ++ [10]) by
                have e : x.data.toList ≠ [] := fun e => by
                  have := size_eq_length x
                  rw [e, List.length_nil] at this
                  omega
                unfold VP.firstL2
                rw [if_neg e]] at h7
              have H8 := Lib.hid (h7.add (s := ((f.n ++ ⟨#[58, 32]⟩) ++ x) ++ ⟨#[10]⟩) (by rw [append_data, append_data, append_data]; simp))
              clear h7 HW HPJ hxe
              go_wp2_with fail
              go_roundw
              case rel => exact ⟨0 + 1, _, by omega, rfl, by go_num, H8, hz⟩
              case measure => simp [intOf]; omega
          · have h7 := HW.out
            rw [tailL_succ (by omega) HPJ.out, List.append_assoc] at h7
            have hjb : ((j : Int) == 0) = false := by rw [beq_eq_false_iff_ne]; omega
            have CP := Lib.hid (fun W => prefix_dot x W)
            by_cases h46 : x.data.toList.head? = some 46
            · rw [show VP.restL x.data.toList = 32 :: 46 :: (x.data.toList ++ [10]) by unfold VP.restL; rw [if_pos h46]; rfl] at h7
              rw [decide_eq_true h46] at CP
              have H8 := Lib.hid (h7.add (s := (⟨#[32, 46]⟩ ++ x) ++ ⟨#[10]⟩) (by rw [append_data, append_data]; simp))
              clear h7 HW HPJ h46 hj0
              go_wp2_with fail
              refine (CP.out _).mono ?_
              rintro E w8 ⟨rfl, rfl⟩
              go_wp2_with fail
              go_roundw
              case rel => exact ⟨j + 1, _, by omega, rfl, by go_num, H8, hz⟩
              case measure => simp [intOf]; omega
            · rw [show VP.restL x.data.toList = 32 :: (x.data.toList ++ [10]) by unfold VP.restL; rw [if_neg h46]] at h7
              rw [decide_eq_false h46] at CP
              have H8 := Lib.hid (h7.add (s := (⟨#[32]⟩ ++ x) ++ ⟨#[10]⟩) (by rw [append_data, append_data]; simp))
              clear h7 HW HPJ h46 hj0
              go_wp2_with fail
              refine (CP.out _).mono ?_
              rintro E w8 ⟨rfl, rfl⟩
              go_wp2_with fail
              go_roundw
              case rel => exact ⟨j + 1, _, by omega, rfl, by go_num, H8, hz⟩
              case measure => simp [intOf]; omega
        · obtain rfl : np = j := by omega
          have HW' := Lib.hid (show SoFar T S' (VP.textL ((fs.drop (k + 1)).map Fv.fd)) by
            have h1 := HW.out
            have h2 := HNP.out
            unfold piecesB at h2
            rw [List.length_map] at h2
            rw [h2, tailL_done (by omega), ← HZ.out] at h1
            simpa using h1)
          have hB6 := step_below HB3.out hz
          clear HW hz
          go_wp2_with fail
          go_roundw
          case rel => exact ⟨k + 1, S', by omega, rfl, by go_num, HW', hB6⟩
          case measure => simp [intOf]; omega
    · obtain rfl : len = k := by omega
      have hl : S.data.toList = T := by
        have := hw.out
        rw [← HL.out, List.drop_length] at this
        unfold SoFar at this
        simpa [VP.textL] using this
      have HSE := Lib.hid (show S = ⟨T.toArray⟩ by rw [← hl, mk_data])
      clear hw hl
      go_wp2_with fail
      go_ret
      exact ⟨by rw [HTe.out, ← HSE.out]; rfl, hB⟩
end Go.Proofs.YtodbbfgkclkpgaaGreatDoor

namespace Go.Proofs.YtodbbfgkclkpgaaGreatDoor
open Go Go.RowKit

set_option maxHeartbeats 6000000 in
set_option maxRecDepth 100000 in
theorem refStanza_calls (v : Value) (fs : List Fv) (w : World) (hE : Env w) (h : FieldsAt w v fs) (hs : ∀ f ∈ fs, f.n.size ≤ 1000000 ∧ f.v.size ≤ 1000000) : Calls Tryz.prog 55 #[v] w (BoolIs (stanzaB fs) w) := by
  obtain ⟨A, c, hv, hc, hm, hr⟩ := h.open
  subst hv
  have HH := Lib.hid h
  obtain ⟨len, hlen⟩ : ∃ len, fs.length = len := ⟨_, rfl⟩
  have HL := Lib.hid hlen
  have HR := Lib.hid hr
  have HS := Lib.hid hs
  have HE := Lib.hid hE
  rw [hlen] at hc hm HH ⊢
  clear hlen hr hs h hE
  obtain ⟨bi, hbi⟩ : ∃ b, inB (len : Int) 1 40 = b := ⟨_, rfl⟩
  have CI := Lib.hid (fun (W : World) => in_calls (len : Int) 1 40 W)
  rw [hbi] at CI
  go_enter Tryz.func55, Tryz.ntmps55
  cases bi with
  | false =>
    have HF := Lib.hid (show stanzaB fs = false by
      have e : (decide (1 ≤ len) && decide (len ≤ 40)) = false := by
        rw [← hbi]; unfold inB; rw [Bool.eq_iff_iff]; simp; omega
      unfold stanzaB VP.stanzaP; rw [List.length_map, HL.out, e]; rfl)
    clear HH HR HL hbi
    go_wp2_with (go_at_call 75; refine (CI.out _).mono ?_; rintro e w' ⟨rfl, rfl⟩)
    go_ret
    exact ⟨ret_bool HF.out.symm, Below.refl _ _⟩
  | true =>
  have h140 : 1 ≤ len ∧ len ≤ 40 := by
    unfold inB at hbi
    simp at hbi
    omega
  clear hbi
  go_wp2_with (go_at_call 75; refine (CI.out _).mono ?_; rintro e w' ⟨rfl, rfl⟩)
  go_loopw [15] (fun i wr => ∃ k : Nat, k ≤ len ∧ i = .int .i64 k ∧ Hid (FieldsTo fs k) ∧ Below w.heap.size w wr) (fun i _ => len - (intOf i).toNat)
  case atStart => exact ⟨0, Nat.zero_le _, rfl, Lib.hid (fun i h => absurd h (Nat.not_lt_zero _)), Below.refl _ _⟩
  case round =>
    clear CI
    obtain ⟨k, hk, rfl, hall, hB⟩ := hrel
    by_cases hlt : k < len
    · have hne : fs ≠ [] := by
        intro e
        have := HL.out
        rw [e] at this
        simp at this
        omega
      obtain ⟨f, ht⟩ : ∃ f, fs[k]? = some f := ⟨fs[k]'(by have := HL.out; omega), List.getElem?_eq_getElem _⟩
      obtain ⟨b, off, rfl, hi⟩ := HR.out hne
      obtain ⟨c0, c1⟩ := hi k f ht
      replace c0 := kept hB c0
      replace c1 := kept hB c1
      obtain ⟨z0, z1⟩ := HS.out f (List.mem_of_getElem? ht)
      have HT := Lib.hid ht
      have HI := Lib.hid (fun (j : Nat) (g : Fv) (hj : fs[j]? = some g) => (hi j g hj).1)
      have HI1 := Lib.hid (fun (j : Nat) (g : Fv) (hj : fs[j]? = some g) => (hi j g hj).2)
      have hck : k ≤ c := by omega
      have hba := below_alloc wr (.cells #[.string f.n, .string f.v] 69)
      have hB1 := step_below hB hba
      have d0 : (wr.alloc (.cells #[.string f.n, .string f.v] 69)).cell? ⟨wr.heap.size, 0, none⟩ = some (.string f.n) := by go_cell
      have d1 : (wr.alloc (.cells #[.string f.n, .string f.v] 69)).cell? ⟨wr.heap.size, 1, none⟩ = some (.string f.v) := by go_cell
      have CN := Lib.hid (fun W => refName_calls f.n W z0)
      obtain ⟨bn, hbn⟩ : ∃ x, VP.fnameP f.n.data.toList = x := ⟨_, rfl⟩
      have HBN := Lib.hid hbn
      rw [hbn] at CN
      have HB1 := Lib.hid hB1
      clear hbn ht hi hne hba hB hB1
      go_wp2_with fail
      refine (CN.out _).mono ?_
      rintro E w1 ⟨rfl, rfl⟩
      clear CN c0 c1
      cases bn with
      | false =>
        go_wp2_with fail
        go_ret
        exact ⟨ret_bool (by rw [stanzaB_false HT.out (by rw [HBN.out]; rfl)]), HB1.out⟩
      | true =>
      go_wp2_with fail
      obtain ⟨m, hmm⟩ : ∃ m, wr.heap.size = m := ⟨_, rfl⟩
      obtain ⟨w1, hw1⟩ : ∃ x, x = wr.alloc (.cells #[.string f.n, .string f.v] 69) := ⟨_, rfl⟩
      rw [← hw1] at HB1 d0 d1 ⊢
      rw [hmm] at d0 d1 ⊢
      clear hw1 hmm
      have hz1 := Below.refl w1.heap.size w1
      go_loopw [28] (fun i wx => ∃ j : Nat, j ≤ k ∧ i = .int .i64 j ∧ Hid ((fs.take j).any (fun g => sameN g.n f.n) = false) ∧ Below w1.heap.size w1 wx) (fun i _ => k - (intOf i).toNat)
      case atStart => exact ⟨0, Nat.zero_le _, rfl, rfl, hz1⟩
      case round =>
        clear hz1
        obtain ⟨j, hj, rfl, hno, hz⟩ := hrel
        by_cases hjt : j < k
        · obtain ⟨g, hg⟩ : ∃ g, fs[j]? = some g := ⟨fs[j]'(by have := HL.out; omega), List.getElem?_eq_getElem _⟩
          have g0 := kept hz (kept HB1.out (HI.out j g hg))
          have g1 := kept hz (kept HB1.out (HI1.out j g hg))
          have y0 := (HS.out g (List.mem_of_getElem? hg)).1
          have HG := Lib.hid hg
          have hbg := below_alloc wr (.cells #[.string g.n, .string g.v] 69)
          have hz2 := step_below hz hbg
          have p0 : (wr.alloc (.cells #[.string g.n, .string g.v] 69)).cell? ⟨wr.heap.size, 0, none⟩ = some (.string g.n) := by go_cell
          have p1 := kept hz2 d0
          have S0 : TwoS w1 wr.heap.size m g.n f.n (wr.alloc (.cells #[.string g.n, .string g.v] 69)) := ⟨p0, p1, hz2⟩
          obtain ⟨bs, hbs⟩ : ∃ x, sameN g.n f.n = x := ⟨_, rfl⟩
          have heq := (smallB_eq g.n f.n).trans hbs
          have HBS := Lib.hid hbs
          obtain ⟨sg, hsg⟩ : ∃ x, smallB g.n = x := ⟨_, rfl⟩
          obtain ⟨sn, hsn⟩ : ∃ x, smallB f.n = x := ⟨_, rfl⟩
          have C1 : Hid (∀ W : World, Calls Tryz.prog 125 #[.string g.n] W fun E w' => E = .returned (.string sg) ∧ Below W.heap.size W w') := by rw [← hsg]; exact Lib.hid (fun (W : World) => refSmall_calls g.n W y0)
          have C2 : Hid (∀ W : World, Calls Tryz.prog 125 #[.string f.n] W fun E w' => E = .returned (.string sn) ∧ Below W.heap.size W w') := by rw [← hsn]; exact Lib.hid (fun (W : World) => refSmall_calls f.n W z0)
          rw [hsg, hsn] at heq
          clear hg hsg hsn hbs hbg hz hz2 y0
          go_upto_region 11 with fail
          obtain ⟨q, hq⟩ : ∃ q, wr.heap.size = q := ⟨_, rfl⟩
          (try rw [hq] at S0)
          (try rw [hq] at p0)
          (try rw [hq])
          generalize wr.alloc (.cells #[.string g.n, .string g.v] 69) = W0 at S0 p0 p1 ⊢
          clear g0 g1 hq
          go_cut [38] (fun s wx => s = .bool bs ∧ Below w1.heap.size w1 wx)
          case first =>
            clear HH HR HS HE HI HI1 HT hall HB1 d1
            go_region_held3 (fun W => W.cell? ⟨q, 0, none⟩ = some (.string g.n) ∧ W.cell? ⟨m, 0, none⟩ = some (.string f.n) ∧ Below w1.heap.size w1 W)
              ((first | assumption | exact twoS_go (by assumption) hb | exact twoS_go S0 (below_drew _) | exact twoS_go (by assumption) (below_drew _)))
              (first | (go_at_call 125; first | ((with_reducible refine (C1.out _).mono ?_); rintro E w' ⟨rfl, hb⟩) | ((with_reducible refine (C2.out _).mono ?_); rintro E w' ⟨rfl, hb⟩)))
            all_goals (go_wp2_with fail; go_meet; exact ⟨(by first | rfl | (congr 1)), twoS_below (by assumption)⟩)
          case rest =>
            obtain ⟨rfl, hz⟩ := hcut
            clear S0 p0 p1 C1 C2 heq
            cases bs with
            | true =>
              have HF := Lib.hid (show stanzaB fs = false from stanzaB_false HT.out (by
                have ha : (fs.take k).any (fun g => sameN g.n f.n) = true := any_stop (l := fs.take k) (k := j) (by rw [List.getElem?_take, if_pos hjt]; exact HG.out) HBS.out
                rw [ha, HBN.out]; rfl))
              have hB8 := step_below HB1.out hz
              go_wp2_with fail
              go_ret
              exact ⟨ret_bool HF.out.symm, hB8⟩
            | false =>
              go_wp2_with fail
              go_roundw
              case rel => exact ⟨j + 1, by omega, by go_num, Lib.hid (any_take_succ hno.out HG.out HBS.out), hz⟩
              case measure => simp [intOf]; omega
        · obtain rfl : k = j := by omega
          have HNO := hno
          have e1 := kept hz d1
          have hB2 := step_below HB1.out hz
          have CS := Lib.hid (call_split f.v 10 wr (HE.out.below hB2) z1)
          have HB2 := Lib.hid hB2
          clear hz hno hB2 d0 d1 HI HI1
          go_wp2_with fail
          refine CS.out.mono ?_
          rintro E w3 ⟨np, rfl, hnp, hb3, hcell⟩
          have hB3 := step_below HB2.out hb3
          obtain ⟨g, hg⟩ : ∃ g, wr.heap.size = g := ⟨_, rfl⟩
          have HCell := Lib.hid hcell
          have HNP := Lib.hid hnp
          have hnmax : np ≤ 9223372036854775807 := by
            have := VP.pieces_count 10 f.v.data.toList
            have h1 := size_eq_length f.v
            rw [hnp]
            unfold piecesB
            rw [List.length_map]
            omega
          clear CS hcell hb3 e1 hnp
          rw [hg] at HCell ⊢
          clear hg HB2
          have HB3 := Lib.hid hB3
          have hz3 := Below.refl w3.heap.size w3
          clear hB3
          go_wp2_with fail
          go_loopw [44] (fun i wx => ∃ j : Nat, j ≤ np ∧ i = .int .i64 j ∧ Hid (LinesTo (piecesB 10 f.v) j) ∧ Below w3.heap.size w3 wx) (fun i _ => np - (intOf i).toNat)
          case atStart => exact ⟨0, Nat.zero_le _, rfl, Lib.hid (fun i h => absurd h (Nat.not_lt_zero _)), hz3⟩
          case round =>
            clear hz3
            obtain ⟨j, hj, rfl, hls, hz⟩ := hrel
            by_cases hjt : j < np
            · obtain ⟨s, hs⟩ : ∃ s, (piecesB 10 f.v)[j]? = some s := ⟨(piecesB 10 f.v)[j]'(by have := HNP.out; omega), List.getElem?_eq_getElem _⟩
              have q0 := kept hz (HCell.out j s hs)
              have hsz : s.size ≤ 1000000 := Nat.le_trans (lineB_size (List.mem_of_getElem? hs)) z1
              have CL := Lib.hid (fun W => isLine_calls s W hsz)
              have hlo := lineOk_at hs
              obtain ⟨bl, hbl⟩ : ∃ x, VP.flineP s.data.toList = x := ⟨_, rfl⟩
              rw [hbl] at CL hlo
              have HLO := Lib.hid hlo
              have hbad := Lib.hid (fun (h : lineOk (piecesB 10 f.v) j = false) => (show stanzaB fs = false from stanzaB_false HT.out (by rw [lines_bad (by have := HNP.out; omega) h, Bool.and_false])))
              clear hbl hlo hs
              go_wp2_with fail
              refine (CL.out _).mono ?_
              rintro E w5 ⟨rfl, hb5⟩
              have hz5 := step_below hz hb5
              have hB5 := Lib.hid (step_below HB3.out hz5)
              clear CL hb5 q0 hz
              cases bl with
              | false =>
                go_wp2_with fail
                go_ret
                exact ⟨ret_bool (by rw [hbad.out (by rw [HLO.out]; rfl)]), hB5.out⟩
              | true =>
                by_cases hj0 : j = 0
                · have HK := Lib.hid (hls.out.succ (by rw [HLO.out, decide_eq_true hj0]; rfl))
                  subst hj0
                  clear hls
                  go_wp2_with fail
                  go_roundw
                  case rel => exact ⟨0 + 1, by omega, by go_num, HK, hz5⟩
                  case measure => simp [intOf]; omega
                · by_cases hse : s.size = 0
                  · have hem := isEmpty_true s hse
                    have HF := Lib.hid (hbad.out (by rw [HLO.out, decide_eq_true hse, decide_eq_false hj0]; rfl))
                    have hjp : 0 < j := by omega
                    clear hbad HLO hls hse hj0
                    go_wp2_with fail
                    go_ret
                    exact ⟨ret_bool HF.out.symm, hB5.out⟩
                  · have hem := isEmpty_false s (by omega)
                    have HK := Lib.hid (hls.out.succ (by rw [HLO.out, decide_eq_false hse]; simp))
                    have hjp : 0 < j := by omega
                    clear hbad HLO hls hse hj0
                    go_wp2_with fail
                    go_roundw
                    case rel => exact ⟨j + 1, by omega, by go_num, HK, hz5⟩
                    case measure => simp [intOf]; omega
            · obtain rfl : np = j := by omega
              have HV := Lib.hid (show VP.valueP f.v.data.toList = true from lines_done (by have := hls.out; rw [HNP.out] at this; exact this))
              have HK := Lib.hid (hall.out.succ HT.out (by rw [HBN.out, HNO.out, HV.out]; rfl))
              have hB6 := step_below HB3.out hz
              clear hls hz HV
              go_wp2_with fail
              go_roundw
              case rel => exact ⟨k + 1, by omega, by go_num, HK, hB6⟩
              case measure => simp [intOf]; omega
    · obtain rfl : len = k := by omega
      have hall' : FieldsTo fs fs.length := by rw [HL.out]; exact hall.out
      have CT := Lib.hid (refText_calls _ fs wr (HE.out.below hB) (HH.out.below hB) HS.out (text_bound HS.out (by rw [HL.out]; omega)))
      have HF := Lib.hid (hall'.done (by rw [HL.out]; omega) (by rw [HL.out]; omega))
      have HB := Lib.hid hB
      clear hall hall' HH HR hB
      go_wp2_with fail
      refine CT.out.mono ?_
      rintro E w7 ⟨rfl, hb7⟩
      have hB7 := step_below HB.out hb7
      clear CT hb7
      obtain ⟨T, hT⟩ : ∃ T, VP.textL (fs.map Fv.fd) = T := ⟨_, rfl⟩
      rw [hT] at HF ⊢
      have hTs : (⟨T.toArray⟩ : ByteArray).size = T.length := by rw [size_eq_length]
      clear hT
      by_cases h4 : T.length ≤ 4000
      · have HG := Lib.hid (HF.out.trans (decide_eq_true h4))
        generalize (⟨T.toArray⟩ : ByteArray) = tb at hTs ⊢
        rw [← hTs] at h4
        clear HF hTs
        go_wp2_with fail
        go_ret
        exact ⟨ret_bool (by rw [HG.out]; exact decide_eq_true (by omega)), hB7⟩
      · have HG := Lib.hid (HF.out.trans (decide_eq_false h4))
        generalize (⟨T.toArray⟩ : ByteArray) = tb at hTs ⊢
        rw [← hTs] at h4
        clear HF hTs
        go_wp2_with fail
        go_ret
        exact ⟨ret_bool (by rw [HG.out]; exact decide_eq_false (by omega)), hB7⟩
end Go.Proofs.YtodbbfgkclkpgaaGreatDoor

/- The reference's Asked: may what is asked for be. -/
import Derived.Test.YtodbbfgkclkpgaaGreatDoorRK20
import Derived.Test.YtodbbfgkclkpgaaGreatDoorRK11
namespace Go.Proofs.YtodbbfgkclkpgaaGreatDoor
open Go.RowKit

/-- what the reference finds wrong of a term -/
theorem wrong_ref (t : Tv) : wrongT t = (!VP.nameP t.n.data.toList || !inB t.op 0 5 || (decide (t.op = 0) && !(decide (t.e = 0) && decide (t.u.data.toList = []) && decide (t.r.data.toList = []))) || (!decide (t.op = 0) && !VP.rightP t.e t.u.data.toList t.r.data.toList)) := by
  unfold wrongT VP.rightT inB
  show (!(VP.nameP t.n.data.toList && (if t.op = 0 then decide (t.e = 0) && decide (t.u.data.toList = []) && decide (t.r.data.toList = []) else decide (0 ≤ t.op) && decide (t.op ≤ 5) && VP.rightP t.e t.u.data.toList t.r.data.toList))) = _
  by_cases h0 : t.op = 0
  · rw [if_pos h0, decide_eq_true h0, h0]
    cases VP.nameP t.n.data.toList <;> simp
  · rw [if_neg h0, decide_eq_false h0]
    cases VP.nameP t.n.data.toList <;> cases decide (0 ≤ t.op) <;> cases decide (t.op ≤ 5) <;> simp

set_option maxHeartbeats 2000000 in
set_option maxRecDepth 100000 in
theorem refAsked_calls (v : Value) (L : List (List Tv)) (w : World) (hE : Env w) (h : AskedAt w v L) (hs : ∀ x ∈ L, ∀ t ∈ x, t.small) (h40 : ∀ x ∈ L, x.length ≤ 1000) :
    Calls Tryz.prog 72 #[v] w (BoolIs (VP.askedP (tmL L)) w) := by
  have F := Lib.hid (asked_eq L)
  obtain ⟨A, c, rfl, hc, hm, hr⟩ := h
  obtain ⟨len, hlen⟩ : ∃ len, L.length = len := ⟨_, rfl⟩
  have HL := Lib.hid hlen
  have HS := Lib.hid hs
  have H40 := Lib.hid h40
  have HR := Lib.hid hr
  rw [hlen] at hc hm ⊢
  clear hlen hr hs h40
  go_enter Tryz.func72, Tryz.ntmps72
  go_wp2_with fail
  go_loopw [3, 10] (fun n i wr => ∃ k m : Nat, k ≤ len ∧ i = .int .i64 k ∧ n = .int .i64 m ∧ m ≤ 30 ∧ Hid (m = sumL (L.take k)) ∧ Hid ((L.take k).all goodL = true) ∧ Below w.heap.size w wr) (fun _ i _ => len - (intOf i).toNat)
  case atStart => exact ⟨0, 0, Nat.zero_le _, rfl, rfl, by omega, rfl, rfl, Below.refl _ _⟩
  case round =>
    obtain ⟨k, m, hk, rfl, rfl, hm30, hsum, hall, hB⟩ := hrel
    by_cases hlt : k < len
    · have hne : L ≠ [] := by
        intro e
        have := HL.out
        rw [e] at this
        simp at this
        omega
      obtain ⟨x, hx⟩ : ∃ x, L[k]? = some x := ⟨L[k]'(by have := HL.out; omega), List.getElem?_eq_getElem _⟩
      obtain ⟨b, off, rfl, hi⟩ := HR.out hne
      obtain ⟨vx, hc0, hT⟩ := hi k x hx
      clear hi hne
      have hT1 := hT.below hB
      have c0 := kept hB hc0
      have HX := Lib.hid hx
      have HSX := Lib.hid (HS.out x (List.mem_of_getElem? hx))
      have HN := Lib.hid (sumL_take_succ hx)
      have HN2 := Lib.hid (sumL_take_le L (k + 1))
      obtain ⟨A', c', rfl, hc', hm', hr'⟩ := hT1
      have HR' := Lib.hid hr'
      clear hx hc0 hT hr'
      have hx1000 := H40.out x (List.mem_of_getElem? HX.out)
      obtain ⟨xl, hxl⟩ : ∃ xl, x.length = xl := ⟨_, rfl⟩
      have HXL := Lib.hid hxl
      rw [hxl] at hc' hm' hx1000 c0
      clear hxl hm'
      by_cases hx0 : xl = 0
      · have HB : Hid (goodL x = false) := by
          have e : x = [] := List.eq_nil_of_length_eq_zero (HXL.out.trans hx0)
          unfold goodL
          rw [e]; exact rfl
        have hxb : ((xl : Int) == 0) = true := by rw [beq_iff_eq]; omega
        clear hx0
        go_wp2_with fail
        go_ret
        exact ⟨ret_bool (by rw [F.out, all_stop HX.out HB.out]; rfl), hB⟩
      · have hxb : ((xl : Int) == 0) = false := by rw [beq_eq_false_iff_ne]; omega
        have HNE : Hid (x.isEmpty = false) := by
          cases x with
          | nil => exact absurd HXL.out.symm hx0
          | cons _ _ => exact rfl
        clear hx0
        by_cases hn : 30 < m + xl
        · have hnb : decide ((30 : Int) < (m : Int) + (xl : Int)) = true := decide_eq_true (by omega)
          have hover : Hid (sumL L ≤ 30 → False) := fun h => by
            have h1 := HN.out
            have h2 := HN2.out
            have h3 := hsum.out
            have h4 := HXL.out
            omega
          go_wp2_with fail
          go_ret
          exact ⟨ret_bool (by rw [F.out, decide_eq_false (fun h => hover.out h)]; simp), hB⟩
        · have hnb : decide ((30 : Int) < (m : Int) + (xl : Int)) = false := decide_eq_false (by omega)
          obtain ⟨wo, rfl⟩ : ∃ wo : World, wo = wr := ⟨_, rfl⟩
          have HBo := Lib.hid hB
          go_wp2_with fail
          clear c0
          go_loopw [27] (fun i wr => ∃ j : Nat, j ≤ xl ∧ i = .int .i64 j ∧ Hid ((x.take j).any wrongT = false) ∧ Below w.heap.size w wr ∧ Below wo.heap.size wo wr) (fun i _ => xl - (intOf i).toNat)
          case atStart => exact ⟨0, Nat.zero_le _, rfl, rfl, HBo.out, Below.refl _ _⟩
          case round =>
            obtain ⟨j, hj, rfl, hany, hB, hBo⟩ := hrel
            by_cases hjt : j < xl
            · obtain ⟨t, ht⟩ : ∃ t, x[j]? = some t := ⟨x[j]'(by have := HXL.out; omega), List.getElem?_eq_getElem _⟩
              have hxne : x ≠ [] := by
                intro e
                have := HXL.out
                rw [e] at this
                simp at this
                omega
              obtain ⟨b', off', rfl, hi⟩ := HR'.out hxne
              obtain ⟨hT0, hok⟩ := hi j t ht
              clear hi hxne
              obtain ⟨hs1, hs2, hs3, hk1, hk2, hk3, hk4⟩ := HSX.out t (List.mem_of_getElem? ht)
              have hT := hT0.below hBo
              have HT := Lib.hid ht
              have HW := Lib.hid (wrong_ref t)
              have hE1 := hE.below hB
              obtain ⟨n, op, e, u, r⟩ := t
              obtain ⟨c0, c1, c2, c3, c4⟩ := hT
              dsimp only at c0 c1 c2 c3 c4 HW hs1 hs2 hs3 hk1 hk2 hk3 hk4
              clear ht hT0 hok
              have hb1 := below_alloc wr (.cells #[.string n, .int .i64 op, .int .i64 e, .string u, .string r] 99)
              have hB1 := step_below hB hb1
              have hBo1 := step_below hBo hb1
              replace hE1 := hE1.below hb1
              have HBk := Lib.hid hB
              have HBok := Lib.hid hBo
              clear hb1 hB hBo
              have hd : VP.nameP n.data.toList = true ∨ VP.nameP n.data.toList = false := by cases VP.nameP n.data.toList <;> simp
              have hin : inB op 0 5 = true ∨ inB op 0 5 = false := by cases inB op 0 5 <;> simp
              go_wp2_with fail
              refine (packName_calls n _ (by omega)).mono ?_
              rintro E w1 ⟨rfl, rfl⟩
              rcases hd with hd | hd
              · have HD := Lib.hid hd
                rw [hd]
                clear hd
                go_wp2_with fail
                refine (in_calls op 0 5 _).mono ?_
                rintro E w1 ⟨rfl, rfl⟩
                rcases hin with hin | hin
                · have HI := Lib.hid hin
                  rw [hin]
                  clear hin
                  go_wp2_with fail
                  · have hw : wrongT ⟨n, op, e, u, r⟩ = false := by rw [HW.out, HD.out, HI.out, ← Lib.toList_data, ← Lib.toList_data]; simp [*]
                    go_roundw
                    case rel => exact ⟨j + 1, by omega, by go_num, Lib.hid (any_take_succ hany.out HT.out hw), step_below HBk.out (below_alloc _ _), step_below HBok.out (below_alloc _ _)⟩
                    case measure => simp [intOf]; omega
                  · have hw : wrongT ⟨n, op, e, u, r⟩ = true := by rw [HW.out, HD.out, HI.out, ← Lib.toList_data, ← Lib.toList_data]; simp [*]
                    have HB : Hid (goodL x = false) := by unfold goodL; rw [any_stop HT.out hw]; simp; exact trivial
                    go_ret
                    exact ⟨ret_bool (by rw [F.out, all_stop HX.out HB.out]; rfl), step_below HBk.out (below_alloc _ _)⟩
                  · have hw : wrongT ⟨n, op, e, u, r⟩ = true := by rw [HW.out, HD.out, HI.out, ← Lib.toList_data, ← Lib.toList_data]; simp [*]
                    have HB : Hid (goodL x = false) := by unfold goodL; rw [any_stop HT.out hw]; simp; exact trivial
                    go_ret
                    exact ⟨ret_bool (by rw [F.out, all_stop HX.out HB.out]; rfl), step_below HBk.out (below_alloc _ _)⟩
                  · have hw : wrongT ⟨n, op, e, u, r⟩ = true := by rw [HW.out, HD.out, HI.out, ← Lib.toList_data, ← Lib.toList_data]; simp [*]
                    have HB : Hid (goodL x = false) := by unfold goodL; rw [any_stop HT.out hw]; simp; exact trivial
                    go_ret
                    exact ⟨ret_bool (by rw [F.out, all_stop HX.out HB.out]; rfl), step_below HBk.out (below_alloc _ _)⟩
                  · have hne0 : ¬ op = 0 := by assumption
                    have HNE0 := Lib.hid hne0
                    have hv : VP.rightP e u.data.toList r.data.toList = true ∨ VP.rightP e u.data.toList r.data.toList = false := by cases VP.rightP e u.data.toList r.data.toList <;> simp
                    refine (refRight_calls e u r _ hE1 hk1 hk2 (by omega) (by omega)).mono ?_
                    rintro E w2 ⟨rfl, hb⟩
                    have hB2 := step_below hB1 hb
                    have hBo2 := step_below hBo1 hb
                    clear hb
                    rcases hv with hv | hv
                    · have HV := Lib.hid hv
                      rw [hv]
                      clear hv
                      go_wp2_with fail
                      go_roundw
                      case rel => exact ⟨j + 1, by omega, by go_num, Lib.hid (any_take_succ hany.out HT.out (by rw [HW.out, HD.out, HI.out, HV.out, decide_eq_false HNE0.out]; rfl)), hB2, hBo2⟩
                      case measure => simp [intOf]; omega
                    · have HV := Lib.hid hv
                      rw [hv]
                      clear hv
                      have HB : Hid (goodL x = false) := by unfold goodL; rw [any_stop HT.out (by rw [HW.out, HD.out, HI.out, HV.out, decide_eq_false HNE0.out]; rfl)]; simp; exact trivial
                      go_wp2_with fail
                      go_ret
                      exact ⟨ret_bool (by rw [F.out, all_stop HX.out HB.out]; rfl), hB2⟩
                · have HB : Hid (goodL x = false) := by unfold goodL; rw [any_stop HT.out (by rw [HW.out, hin]; simp)]; simp; exact trivial
                  rw [hin]
                  clear hin
                  go_wp2_with fail
                  go_ret
                  exact ⟨ret_bool (by rw [F.out, all_stop HX.out HB.out]; rfl), hB1⟩
              · have HB : Hid (goodL x = false) := by unfold goodL; rw [any_stop HT.out (by rw [HW.out, hd]; simp)]; simp; exact trivial
                rw [hd]
                clear hd
                go_wp2_with fail
                go_ret
                exact ⟨ret_bool (by rw [F.out, all_stop HX.out HB.out]; rfl), hB1⟩
            · obtain rfl : j = xl := by omega
              have HB : Hid (goodL x = true) := by
                have h1 := hany.out
                rw [← HXL.out] at h1
                unfold goodL; rw [any_done h1, HNE.out]; exact rfl
              go_wp2_with fail
              go_roundw
              case rel => exact ⟨k + 1, m + j, by omega, by go_num, by go_num, by omega, Lib.hid (by rw [HN.out, ← hsum.out, HXL.out]), Lib.hid (all_take_succ hall.out HX.out HB.out), hB⟩
              case measure => simp [intOf]; omega
    · obtain rfl : k = len := by omega
      go_wp2_with fail
      go_ret
      refine ⟨ret_bool ?_, hB⟩
      have h1 := hall.out
      have h2 := hsum.out
      rw [← HL.out] at h1
      rw [← HL.out, List.take_length] at h2
      rw [F.out, all_done h1, decide_eq_true (by omega)]
      rfl
end Go.Proofs.YtodbbfgkclkpgaaGreatDoor

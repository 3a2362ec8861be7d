/- record.lines: the lines of a field, behind the first one, which is empty. -/
import Derived.Test.YtodbbfgkclkpgaaGreatDoorARC20
import Derived.Test.YtodbbfgkclkpgaaGreatDoorARC16
import Derived.Test.YtodbbfgkclkpgaaGreatDoorARC18
import Derived.Deep.RegionHeld3
namespace Go.Proofs.YtodbbfgkclkpgaaGreatDoor
open Go Go.RowKit

/-- the lines that a field says, and whether they may be -/
def linesV (fs : List Fv) (s : ByteArray) : List ByteArray := match getB fs s with
  | none => []
  | some v => (piecesB 10 v).tail
def linesOk (fs : List Fv) (s : ByteArray) : Bool := match getB fs s with
  | none => true
  | some v => decide ((piecesB 10 v)[0]? = some ⟨#[]⟩) && decide (1 < (piecesB 10 v).length)
def LinesIs (fs : List Fv) (s : ByteArray) (w : World) (E : Ending) (w' : World) : Prop := ∃ A n c, E = .returned (.tuple #[.slice A n c, .bool (linesOk fs s)]) ∧ StrsAt w' (.slice A n c) (linesV fs s) ∧ SlFr w.heap.size (.slice A n c) ∧ Below w.heap.size w w'

theorem name_eq2 (x : ByteArray) : (x.toList == (⟨#[]⟩ : ByteArray).toList) = decide (x = (⟨#[]⟩ : ByteArray)) := by
  rw [Lib.toList_data, Lib.toList_data, Bool.eq_iff_iff, beq_iff_eq, decide_eq_true_iff]
  exact ⟨fun h => data_inj h, fun h => by rw [h]⟩
theorem name_eq_true {x : ByteArray} (h : (x.toList == (⟨#[]⟩ : ByteArray).toList) = true) : x = ⟨#[]⟩ := by
  rw [name_eq2] at h
  exact of_decide_eq_true h
theorem text_ne2 {S : ByteArray} (h : ¬ S.size = 0) : (S.toList == (⟨#[]⟩ : ByteArray).toList) = false ∧ (S.toList == []) = false := by
  have h1 := isEmpty_false S (by omega)
  have e : (⟨#[]⟩ : ByteArray).toList = [] := by rw [Lib.toList_data]
  rw [e]
  have h2 : (S.toList == []) = false := by
    cases hl : S.toList with
    | nil => rw [hl] at h1; cases h1
    | cons a l => rfl
  exact ⟨h2, h2⟩
theorem strs_tail {W : World} {b n : Nat} {ss : List ByteArray} (hn : n = ss.length) (hm : n ≤ 9223372036854775807) (h : ∀ (i : Nat) (x : ByteArray), ss[i]? = some x → W.cell? ⟨b, i, none⟩ = some (.string x)) : StrsAt W (.slice (some ⟨b, 1, none⟩) (n - 1) (n - 1)) ss.tail := by
  subst hn
  refine ⟨some ⟨b, 1, none⟩, ss.length - 1, by rw [List.length_tail], by rw [List.length_tail]; exact Nat.le_refl _, by rw [List.length_tail]; omega, fun _ => ⟨b, 1, rfl, fun j u hj => ?_⟩⟩
  rw [flat_strs, List.getElem?_map, Option.map_eq_some_iff] at hj
  obtain ⟨x, hx, rfl⟩ := hj
  rw [List.getElem?_tail] at hx
  rw [Nat.add_comm]
  exact h (j + 1) x hx

set_option maxHeartbeats 2000000 in
set_option maxRecDepth 100000 in
theorem lines_calls (v : Value) (fs : List Fv) (s : ByteArray) (w : World) (hE : Env w) (h : FieldsAt w v fs) (hs : ∀ f ∈ fs, f.n.size ≤ 1000000 ∧ f.v.size ≤ 1000000) (hz : s.size ≤ 1000000) : Calls Tryz.prog 99 #[v, .string s] w (LinesIs fs s w) := by
  have C := Lib.hid (get_calls v fs s w h (fun f hf => (hs f hf).1) hz)
  have HSZ := Lib.hid (getB_size (s := s) (fun f hf => (hs f hf).2))
  have HE := Lib.hid hE
  obtain ⟨A0, n0, c0, rfl⟩ : ∃ A n c, v = .slice A n c := by obtain ⟨A, c, hv, _⟩ := h; exact ⟨A, _, c, hv⟩
  cases hg : getB fs s with
  | none =>
    have HV := Lib.hid (show linesV fs s = [] by unfold linesV; rw [hg])
    have HO := Lib.hid (show linesOk fs s = true by unfold linesOk; rw [hg])
    unfold GetIs at C
    rw [hg] at C
    clear hE h hs hz hg
    go_enter Tryz.func99, Tryz.ntmps99
    go_wp2_with fail
    refine C.out.mono ?_
    rintro E w1 ⟨rfl, hb⟩
    go_wp2_with fail
    go_ret2
    exact ⟨none, 0, 0, by rw [HO.out]; rfl, by rw [HV.out]; exact SlC.nil _ _ _, slFr_nil _ _ _, hb⟩
  | some t =>
    have HV := Lib.hid (show linesV fs s = (piecesB 10 t).tail by unfold linesV; rw [hg])
    have HO := Lib.hid (show linesOk fs s = (decide ((piecesB 10 t)[0]? = some ⟨#[]⟩) && decide (1 < (piecesB 10 t).length)) by unfold linesOk; rw [hg])
    unfold GetIs at C
    rw [hg] at C HSZ
    have htz : t.size ≤ 1000000 := HSZ.out
    clear hE h hs hz hg HSZ
    go_enter Tryz.func99, Tryz.ntmps99
    go_wp2_with fail
    refine C.out.mono ?_
    rintro E w1 ⟨rfl, hb⟩
    have C2 := Lib.hid (call_split t 10 w1 (HE.out.below hb) htz)
    have HB1 := Lib.hid hb
    clear C hb
    go_wp2_with fail
    refine C2.out.mono ?_
    rintro E w2 ⟨n, rfl, hn, hb2, hcell⟩
    have HB2 := Lib.hid (step_below HB1.out hb2)
    have HSZ1 := Lib.hid HB1.out.size
    obtain ⟨b, hbq⟩ : ∃ b, w1.heap.size = b := ⟨_, rfl⟩
    rw [hbq] at hcell HSZ1
    (try rw [hbq])
    have h1 : 0 < n := by
      rw [hn]; unfold piecesB; rw [List.length_map]
      rcases hp : VP.pieces 10 t.data.toList with _ | ⟨a, r⟩
      · exact absurd hp (VP.pieces_ne _ _)
      · simp
    have hmax : n ≤ 9223372036854775807 := by
      have h2 := VP.pieces_count 10 t.data.toList
      have h3 := size_eq_length t
      rw [hn]; unfold piecesB; rw [List.length_map]
      omega
    obtain ⟨x, hx⟩ : ∃ x, (piecesB 10 t)[0]? = some x := ⟨(piecesB 10 t)[0]'(by omega), List.getElem?_eq_getElem _⟩
    have d0 := hcell 0 x hx
    have HST := Lib.hid (strs_tail hn hmax hcell)
    have HN := Lib.hid hn
    have q1 := name_eq2 x
    obtain ⟨be, hbe⟩ : ∃ y, decide (x = (⟨#[]⟩ : ByteArray)) = y := ⟨_, rfl⟩
    have HOK := Lib.hid (show linesOk fs s = (be && decide (1 < n)) by rw [HO.out, hx, hn]; congr 1; rw [← hbe]; simp)
    rw [hbe] at q1
    have d0' : w2.drew.cell? ⟨b, 0, none⟩ = some (.string x) := d0
    clear C2 hb2 hcell hbq hx hbe hn HO HB1
    have hmore : 1 < n ∨ n = 1 := by omega
    have fin : ∀ (A : Option Addr) (q : Nat), (A = some ⟨b, 1, none⟩ ∧ q = n - 1) ∨ (A = some ⟨b, 0, none⟩ ∧ q = 0 ∧ n = 1) → StrsAt w2.drew (.slice A q q) (linesV fs s) ∧ SlFr w.heap.size (.slice A q q) ∧ Below w.heap.size w w2.drew := by
      intro A q hA
      refine ⟨?_, fun b' off n' c' e => ?_, step_below HB2.out (below_drew _)⟩
      · rw [HV.out]
        rcases hA with ⟨rfl, rfl⟩ | ⟨rfl, rfl, h1⟩
        · exact HST.out.below (below_drew _)
        · have e : (piecesB 10 t).tail = [] := List.eq_nil_of_length_eq_zero (by rw [List.length_tail, ← HN.out, h1])
          rw [e]; exact SlC.nil _ _ _
      · rcases hA with ⟨rfl, rfl⟩ | ⟨rfl, rfl, h1⟩ <;> (injection e with e _ _; injection e with e; injection e with e _ _; rw [← e]; exact HSZ1.out)
    have FIN := Lib.hid fin
    clear fin
    cases be with
    | true =>
      have hxe : x = ⟨#[]⟩ := name_eq_true q1
      subst hxe
      rcases hmore with hl | hl
      · have hn1 : ¬ n = 1 := by omega
        go_upto_region 5 with fail
        go_region
        all_goals
          go_wp2_with fail
          go_ret2
          exact ⟨some ⟨b, 1, none⟩, n - 1, n - 1, by rw [HOK.out]; simp; omega, FIN.out _ _ (.inl ⟨rfl, rfl⟩)⟩
      · subst hl
        go_upto_region 5 with fail
        go_region
        all_goals
          go_wp2_with fail
          go_ret2
          exact ⟨some ⟨b, 0, none⟩, 0, 0, by rw [HOK.out]; simp, FIN.out _ _ (.inr ⟨rfl, rfl, by trivial⟩)⟩
    | false =>
      have hx0 : ¬ x.size = 0 := fun h => by
        rw [eq_empty x h, beq_self_eq_true] at q1
        cases q1
      obtain ⟨q2, q3⟩ := text_ne2 hx0
      have q4 := isEmpty_false x (by omega)
      rcases hmore with hl | hl
      · have hn1 : ¬ n = 1 := by omega
        go_upto_region 5 with fail
        go_region
        all_goals
          go_wp2_with fail
          go_ret2
          exact ⟨some ⟨b, 1, none⟩, n - 1, n - 1, by rw [HOK.out]; simp, FIN.out _ _ (.inl ⟨rfl, rfl⟩)⟩
      · subst hl
        go_upto_region 5 with fail
        go_region
        all_goals
          go_wp2_with fail
          go_ret2
          exact ⟨some ⟨b, 0, none⟩, 0, 0, by rw [HOK.out]; simp, FIN.out _ _ (.inr ⟨rfl, rfl, by trivial⟩)⟩
end Go.Proofs.YtodbbfgkclkpgaaGreatDoor

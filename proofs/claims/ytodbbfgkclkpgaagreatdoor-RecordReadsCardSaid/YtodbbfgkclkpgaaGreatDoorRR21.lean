/- record.lines: the lines of a field, behind the first one, which is empty. · depend.right: may a term be. · depend.Right: may what is asked for be. -/
import Derived.Test.YtodbbfgkclkpgaaGreatDoorRR19
import Derived.Test.YtodbbfgkclkpgaaGreatDoorRR17
import Derived.Test.YtodbbfgkclkpgaaGreatDoorRR20
import Derived.Deep.RegionHeld3
import Derived.Test.YtodbbfgkclkpgaaGreatDoorRR11
namespace Go.Proofs.YtodbbfgkclkpgaaGreatDoor
open Go Go.RowKit

/-- the lines that a field says, and whether they may be -/
def linesV (fs : List Fv) (s : ByteArray) : List ByteArray := match getB fs s with
  | none => []
  | some v => (piecesB 10 v).tail
def linesOk (fs : List Fv) (s : ByteArray) : Bool := match getB fs s with
  | none => true
  | some v => decide ((piecesB 10 v)[0]? = some ⟨#[]⟩) && decide (1 < (piecesB 10 v).length)
def LinesIs (fs : List Fv) (s : ByteArray) (w : World) (E : Ending) (w' : World) : Prop := ∃ A n c, E = .returned (.tuple #[.slice A n c, .bool (linesOk fs s)]) ∧ StrsAt w' (.slice A n c) (linesV fs s) ∧ SlFr w.heap.size (.slice A n c) ∧ Below w.heap.size w w'

theorem name_eq2 (x : ByteArray) : (x.toList == (⟨#[]⟩ : ByteArray).toList) = decide (x = (⟨#[]⟩ : ByteArray)) := by
  rw [Lib.toList_data, Lib.toList_data, Bool.eq_iff_iff, beq_iff_eq, decide_eq_true_iff]
  exact ⟨fun h => data_inj h, fun h => by rw [h]⟩
theorem name_eq_true {x : ByteArray} (h : (x.toList == (⟨#[]⟩ : ByteArray).toList) = true) : x = ⟨#[]⟩ := by
  rw [name_eq2] at h
  exact of_decide_eq_true h
theorem text_ne2 {S : ByteArray} (h : ¬ S.size = 0) : (S.toList == (⟨#[]⟩ : ByteArray).toList) = false ∧ (S.toList == []) = false := by
  have h1 := isEmpty_false S (by omega)
  have e : (⟨#[]⟩ : ByteArray).toList = [] := by rw [Lib.toList_data]
  rw [e]
  have h2 : (S.toList == []) = false := by
    cases hl : S.toList with
    | nil => rw [hl] at h1; cases h1
    | cons a l => rfl
  exact ⟨h2, h2⟩
theorem strs_tail {W : World} {b n : Nat} {ss : List ByteArray} (hn : n = ss.length) (hm : n ≤ 9223372036854775807) (h : ∀ (i : Nat) (x : ByteArray), ss[i]? = some x → W.cell? ⟨b, i, none⟩ = some (.string x)) : StrsAt W (.slice (some ⟨b, 1, none⟩) (n - 1) (n - 1)) ss.tail := by
  subst hn
  refine ⟨some ⟨b, 1, none⟩, ss.length - 1, by rw [List.length_tail], by rw [List.length_tail]; exact Nat.le_refl _, by rw [List.length_tail]; omega, fun _ => ⟨b, 1, rfl, fun j u hj => ?_⟩⟩
  rw [flat_strs, List.getElem?_map, Option.map_eq_some_iff] at hj
  obtain ⟨x, hx, rfl⟩ := hj
  rw [List.getElem?_tail] at hx
  rw [Nat.add_comm]
  exact h (j + 1) x hx

set_option maxHeartbeats 2000000 in
set_option maxRecDepth 100000 in
theorem lines_calls (v : Value) (fs : List Fv) (s : ByteArray) (w : World) (hE : Env w) (h : FieldsAt w v fs) (hs : ∀ f ∈ fs, f.n.size ≤ 1000000 ∧ f.v.size ≤ 1000000) (hz : s.size ≤ 1000000) : Calls Tryz.prog 99 #[v, .string s] w (LinesIs fs s w) := by
  have C := Lib.hid (get_calls v fs s w h (fun f hf => (hs f hf).1) hz)
  have HSZ := Lib.hid (getB_size (s := s) (fun f hf => (hs f hf).2))
  have HE := Lib.hid hE
  obtain ⟨A0, n0, c0, rfl⟩ : ∃ A n c, v = .slice A n c := by obtain ⟨A, c, hv, _⟩ := h; exact ⟨A, _, c, hv⟩
  cases hg : getB fs s with
  | none =>
    have HV := Lib.hid (show linesV fs s = [] by unfold linesV; rw [hg])
    have HO := Lib.hid (show linesOk fs s = true by unfold linesOk; rw [hg])
    unfold GetIs at C
    rw [hg] at C
    clear hE h hs hz hg
    go_enter Tryz.func99, Tryz.ntmps99
    go_wp2_with fail
    refine C.out.mono ?_
    rintro E w1 ⟨rfl, hb⟩
    go_wp2_with fail
    go_ret2
    exact ⟨none, 0, 0, by rw [HO.out]; rfl, by rw [HV.out]; exact SlC.nil _ _ _, slFr_nil _ _ _, hb⟩
  | some t =>
    have HV := Lib.hid (show linesV fs s = (piecesB 10 t).tail by unfold linesV; rw [hg])
    have HO := Lib.hid (show linesOk fs s = (decide ((piecesB 10 t)[0]? = some ⟨#[]⟩) && decide (1 < (piecesB 10 t).length)) by unfold linesOk; rw [hg])
    unfold GetIs at C
    rw [hg] at C HSZ
    have htz : t.size ≤ 1000000 := HSZ.out
    clear hE h hs hz hg HSZ
    go_enter Tryz.func99, Tryz.ntmps99
    go_wp2_with fail
    refine C.out.mono ?_
    rintro E w1 ⟨rfl, hb⟩
    have C2 := Lib.hid (call_split t 10 w1 (HE.out.below hb) htz)
    have HB1 := Lib.hid hb
    clear C hb
    go_wp2_with fail
    refine C2.out.mono ?_
    rintro E w2 ⟨n, rfl, hn, hb2, hcell⟩
    have HB2 := Lib.hid (step_below HB1.out hb2)
    have HSZ1 := Lib.hid HB1.out.size
    obtain ⟨b, hbq⟩ : ∃ b, w1.heap.size = b := ⟨_, rfl⟩
    rw [hbq] at hcell HSZ1
    (try rw [hbq])
    have h1 : 0 < n := by
      rw [hn]; unfold piecesB; rw [List.length_map]
      rcases hp : VP.pieces 10 t.data.toList with _ | ⟨a, r⟩
      · exact absurd hp (VP.pieces_ne _ _)
      · simp
    have hmax : n ≤ 9223372036854775807 := by
      have h2 := VP.pieces_count 10 t.data.toList
      have h3 := size_eq_length t
      rw [hn]; unfold piecesB; rw [List.length_map]
      omega
    obtain ⟨x, hx⟩ : ∃ x, (piecesB 10 t)[0]? = some x := ⟨(piecesB 10 t)[0]'(by omega), List.getElem?_eq_getElem _⟩
    have d0 := hcell 0 x hx
    have HST := Lib.hid (strs_tail hn hmax hcell)
    have HN := Lib.hid hn
    have q1 := name_eq2 x
    obtain ⟨be, hbe⟩ : ∃ y, decide (x = (⟨#[]⟩ : ByteArray)) = y := ⟨_, rfl⟩
    have HOK := Lib.hid (show linesOk fs s = (be && decide (1 < n)) by rw [HO.out, hx, hn]; congr 1; rw [← hbe]; simp)
    rw [hbe] at q1
    have d0' : w2.drew.cell? ⟨b, 0, none⟩ = some (.string x) := d0
    clear C2 hb2 hcell hbq hx hbe hn HO HB1
    have hmore : 1 < n ∨ n = 1 := by omega
    have fin : ∀ (A : Option Addr) (q : Nat), (A = some ⟨b, 1, none⟩ ∧ q = n - 1) ∨ (A = some ⟨b, 0, none⟩ ∧ q = 0 ∧ n = 1) → StrsAt w2.drew (.slice A q q) (linesV fs s) ∧ SlFr w.heap.size (.slice A q q) ∧ Below w.heap.size w w2.drew := by
      intro A q hA
      refine ⟨?_, fun b' off n' c' e => ?_, step_below HB2.out (below_drew _)⟩
      · rw [HV.out]
        rcases hA with ⟨rfl, rfl⟩ | ⟨rfl, rfl, h1⟩
        · exact HST.out.below (below_drew _)
        · have e : (piecesB 10 t).tail = [] := List.eq_nil_of_length_eq_zero (by rw [List.length_tail, ← HN.out, h1])
          rw [e]; exact SlC.nil _ _ _
      · rcases hA with ⟨rfl, rfl⟩ | ⟨rfl, rfl, h1⟩ <;> (injection e with e _ _; injection e with e; injection e with e _ _; rw [← e]; exact HSZ1.out)
    have FIN := Lib.hid fin
    clear fin
    cases be with
    | true =>
      have hxe : x = ⟨#[]⟩ := name_eq_true q1
      subst hxe
      rcases hmore with hl | hl
      · have hn1 : ¬ n = 1 := by omega
        go_upto_region 5 with fail
        go_region
        all_goals
          go_wp2_with fail
          go_ret2
          exact ⟨some ⟨b, 1, none⟩, n - 1, n - 1, by rw [HOK.out]; simp; omega, FIN.out _ _ (.inl ⟨rfl, rfl⟩)⟩
      · subst hl
        go_upto_region 5 with fail
        go_region
        all_goals
          go_wp2_with fail
          go_ret2
          exact ⟨some ⟨b, 0, none⟩, 0, 0, by rw [HOK.out]; simp, FIN.out _ _ (.inr ⟨rfl, rfl, by trivial⟩)⟩
    | false =>
      have hx0 : ¬ x.size = 0 := fun h => by
        rw [eq_empty x h, beq_self_eq_true] at q1
        cases q1
      obtain ⟨q2, q3⟩ := text_ne2 hx0
      have q4 := isEmpty_false x (by omega)
      rcases hmore with hl | hl
      · have hn1 : ¬ n = 1 := by omega
        go_upto_region 5 with fail
        go_region
        all_goals
          go_wp2_with fail
          go_ret2
          exact ⟨some ⟨b, 1, none⟩, n - 1, n - 1, by rw [HOK.out]; simp, FIN.out _ _ (.inl ⟨rfl, rfl⟩)⟩
      · subst hl
        go_upto_region 5 with fail
        go_region
        all_goals
          go_wp2_with fail
          go_ret2
          exact ⟨some ⟨b, 0, none⟩, 0, 0, by rw [HOK.out]; simp, FIN.out _ _ (.inr ⟨rfl, rfl, by trivial⟩)⟩
end Go.Proofs.YtodbbfgkclkpgaaGreatDoor

namespace Go.Proofs.YtodbbfgkclkpgaaGreatDoor
open Go.RowKit

set_option maxHeartbeats 1000000 in
set_option maxRecDepth 100000 in
theorem right0_calls (t : Tv) (w : World) (h0 : t.op = 0) : Calls Tryz.prog 141 #[t.val] w (BoolIs (VP.rightT t.tm) w) := by
  obtain ⟨n, op, e, u, r⟩ := t
  obtain rfl : op = 0 := h0
  have F := Lib.hid (show VP.rightT (Tv.tm ⟨n, 0, e, u, r⟩) = (VP.nameP n.data.toList && (decide (e = 0) && decide (u.data.toList = []) && decide (r.data.toList = []))) by unfold VP.rightT Tv.tm; rw [if_pos rfl])
  unfold Tv.val
  dsimp only
  have hb0 := below_alloc w (.cells #[.string n, .int .i64 0, .int .i64 e, .string u, .string r] 99)
  have hd : VP.nameP n.data.toList = true ∨ VP.nameP n.data.toList = false := by cases VP.nameP n.data.toList <;> simp
  go_enter Tryz.func141, Tryz.ntmps141
  go_wp2_with fail
  refine (name_calls n _).mono ?_
  rintro E w1 ⟨rfl, hb⟩
  have hB := step_below hb0 hb
  obtain ⟨c0, c1, c2, c3, c4⟩ := box5 hb
  clear hb hb0
  rcases hd with hd | hd
  · have HD := Lib.hid hd
    rw [hd]
    clear hd
    go_wp2_with fail
    all_goals
      go_ret
      exact ⟨ret_bool (by rw [F.out, HD.out, ← Lib.toList_data, ← Lib.toList_data]; simp [*]), hB⟩
  · have HD := Lib.hid hd
    rw [hd]
    clear hd
    go_wp2_with fail
    go_ret
    exact ⟨ret_bool (by rw [F.out, HD.out]; rfl), hB⟩

set_option maxHeartbeats 1000000 in
set_option maxRecDepth 100000 in
theorem right1_calls (t : Tv) (w : World) (hE : Env w) (hs : t.small) (h0 : t.op < 0 ∨ 0 < t.op) : Calls Tryz.prog 141 #[t.val] w (BoolIs (VP.rightT t.tm) w) := by
  obtain ⟨n, op, e, u, r⟩ := t
  obtain ⟨hs1, hs2, hs3, _⟩ := hs
  have F := Lib.hid (show VP.rightT (Tv.tm ⟨n, op, e, u, r⟩) = (VP.nameP n.data.toList && (decide (0 ≤ op) && decide (op ≤ 5) && VP.rightP e u.data.toList r.data.toList)) by unfold VP.rightT Tv.tm; rw [if_neg (show ¬ op = 0 by have := h0; dsimp only at this; omega)])
  unfold Tv.val
  dsimp only at h0 hs1 hs2 hs3 ⊢
  have hb0 := below_alloc w (.cells #[.string n, .int .i64 op, .int .i64 e, .string u, .string r] 99)
  have hE1 := hE.below hb0
  have hd : VP.nameP n.data.toList = true ∨ VP.nameP n.data.toList = false := by cases VP.nameP n.data.toList <;> simp
  have hz : (op == 0) = false := by rw [beq_eq_false_iff_ne]; omega
  go_enter Tryz.func141, Tryz.ntmps141
  go_wp2_with fail
  refine (name_calls n _).mono ?_
  rintro E w1 ⟨rfl, hb⟩
  have hB := step_below hb0 hb
  obtain ⟨c0, c1, c2, c3, c4⟩ := box5 hb
  replace hE1 := hE1.below hb
  clear hb hb0
  rcases hd with hd | hd
  · have HD := Lib.hid hd
    rw [hd]
    clear hd
    rcases h0 with h0 | h0
    · go_wp2_with fail
      go_ret
      exact ⟨ret_bool (by rw [F.out, HD.out, decide_eq_false (show ¬ 0 ≤ op by omega)]; rfl), hB⟩
    · by_cases h5 : op ≤ 5
      · go_wp2_with fail
        refine (right_calls e u r _ hE1 (by omega) (by omega)).mono ?_
        rintro E w2 ⟨rfl, hb⟩
        have hB := step_below hB hb
        clear hb
        go_wp2_with fail
        go_ret
        exact ⟨ret_bool (by rw [F.out, HD.out, decide_eq_true (show 0 ≤ op by omega), decide_eq_true h5]; rfl), hB⟩
      · go_wp2_with fail
        go_ret
        exact ⟨ret_bool (by rw [F.out, HD.out, decide_eq_false (show ¬ op ≤ 5 by omega)]; simp), hB⟩
  · have HD := Lib.hid hd
    rw [hd]
    clear hd
    go_wp2_with fail
    go_ret
    exact ⟨ret_bool (by rw [F.out, HD.out]; rfl), hB⟩

theorem rightTerm_calls (t : Tv) (w : World) (hE : Env w) (hs : t.small) : Calls Tryz.prog 141 #[t.val] w (BoolIs (VP.rightT t.tm) w) := by
  rcases Int.lt_trichotomy t.op 0 with h | h | h
  · exact right1_calls t w hE hs (.inl h)
  · exact right0_calls t w h
  · exact right1_calls t w hE hs (.inr h)

set_option maxRecDepth 100000 in
/-- the function value: is a term one that may not be -/
theorem wrong_calls (t : Tv) (w : World) (hE : Env w) (hs : t.small) : Calls Tryz.prog 140 #[t.val] w (BoolIs (!VP.rightT t.tm) w) := by
  have H := Lib.hid (fun (W : World) (h : Env W) => rightTerm_calls t W h hs)
  obtain ⟨n, op, e, u, r⟩ := t
  obtain ⟨b, hb'⟩ : ∃ b, VP.rightT (Tv.tm ⟨n, op, e, u, r⟩) = b := ⟨_, rfl⟩
  rw [hb'] at H ⊢
  clear hs hb'
  unfold Tv.val at H ⊢
  dsimp only at H ⊢
  have hb0 := below_alloc w (.cells #[.string n, .int .i64 op, .int .i64 e, .string u, .string r] 99)
  have hE1 := hE.below hb0
  go_enter Tryz.func140, Tryz.ntmps140
  go_wp2_with fail
  refine (H.out _ hE1).mono ?_
  rintro E w1 ⟨rfl, hb⟩
  have hB := step_below hb0 hb
  clear hb
  go_wp2_with fail
  go_ret
  exact ⟨rfl, hB⟩
end Go.Proofs.YtodbbfgkclkpgaaGreatDoor

namespace Go.Proofs.YtodbbfgkclkpgaaGreatDoor
open Go.RowKit

set_option maxHeartbeats 1000000 in
set_option maxRecDepth 100000 in
theorem idxWrong_calls (v : Value) (ts : List Tv) (w : World) (hE : Env w) (h : TermsAt w v ts) (hs : ∀ t ∈ ts, t.small) :
    Calls Tryz.prog 178 #[v, .func (.func 140) #[] #[]] w (IdxIs (ts.any wrongT) w) := by
  obtain ⟨A, c, rfl, hc, hm, hr⟩ := h
  obtain ⟨len, hlen⟩ : ∃ len, ts.length = len := ⟨_, rfl⟩
  have HL := Lib.hid hlen
  have HS := Lib.hid hs
  have HR := Lib.hid hr
  rw [hlen] at hc hm ⊢
  clear hlen hr hs
  go_enter Tryz.func178, Tryz.ntmps178
  go_wp2_with fail
  go_loopw [8] (fun i wr => ∃ k : Nat, k ≤ len ∧ i = .int .i64 k ∧ Hid ((ts.take k).any wrongT = false) ∧ Below w.heap.size w wr) (fun i _ => len - (intOf i).toNat)
  case atStart => exact ⟨0, Nat.zero_le _, rfl, rfl, Below.refl _ _⟩
  case round =>
    obtain ⟨k, hk, rfl, hall, hB⟩ := hrel
    by_cases hlt : k < len
    · have hne : ts ≠ [] := by
        intro e
        have := HL.out
        rw [e] at this
        simp at this
        omega
      obtain ⟨t, ht⟩ : ∃ t, ts[k]? = some t := ⟨ts[k]'(by have := HL.out; omega), List.getElem?_eq_getElem _⟩
      obtain ⟨b, off, rfl, hi⟩ := HR.out hne
      obtain ⟨hT0, hok⟩ := hi k t ht
      clear hi hne
      have hT := hT0.below hB
      obtain ⟨c0, c1, c2, c3, c4⟩ := hT
      have hsm := HS.out t (List.mem_of_getElem? ht)
      have HT := Lib.hid ht
      have hE1 := hE.below hB
      have H := Lib.hid (wrong_calls t wr hE1 hsm)
      clear ht hT0 hok hsm hE1
      have hp : wrongT t = true ∨ wrongT t = false := by cases wrongT t <;> simp
      go_wp2_with fail
      refine H.out.mono ?_
      rintro E w1 ⟨rfl, hb⟩
      have hB := step_below hB hb
      clear hb c0 c1 c2 c3 c4
      rcases hp with hp | hp
      · have HP := Lib.hid hp
        have hp' : (!VP.rightT t.tm) = true := hp
        rw [hp']
        clear hp hp'
        go_wp2_with fail
        go_ret
        exact ⟨_, rfl, by rw [any_stop HT.out HP.out]; simp, hB⟩
      · have HP := Lib.hid hp
        have hp' : (!VP.rightT t.tm) = false := hp
        rw [hp']
        clear hp hp'
        go_wp2_with fail
        go_roundw
        case rel => exact ⟨k + 1, by omega, by go_num, Lib.hid (any_take_succ hall.out HT.out HP.out), hB⟩
        case measure => simp [intOf]; omega
    · obtain rfl : k = len := by omega
      go_wp2_with fail
      go_ret
      exact ⟨_, rfl, by have := hall.out; rw [← HL.out] at this; rw [any_done this]; simp, hB⟩

set_option maxRecDepth 100000 in
theorem hasWrong_calls (v : Value) (ts : List Tv) (w : World) (hE : Env w) (h : TermsAt w v ts) (hs : ∀ t ∈ ts, t.small) :
    Calls Tryz.prog 139 #[v, .func (.func 140) #[] #[]] w (BoolIs (ts.any wrongT) w) := by
  have H := Lib.hid (idxWrong_calls v ts w hE h hs)
  clear h hs hE
  go_enter Tryz.func139, Tryz.ntmps139
  go_wp2_with fail
  refine H.out.mono ?_
  rintro E w1 ⟨i, rfl, hi, hb⟩
  have HI := Lib.hid hi
  clear hi
  by_cases h0 : 0 ≤ i
  · go_wp2_with fail
    go_ret
    exact ⟨ret_bool (by rw [← HI.out]; simp [h0]), hb⟩
  · go_wp2_with fail
    go_ret
    exact ⟨ret_bool HI.out, hb⟩

set_option maxHeartbeats 1000000 in
set_option maxRecDepth 100000 in
theorem asked_calls (v : Value) (L : List (List Tv)) (w : World) (hE : Env w) (h : AskedAt w v L) (hs : ∀ x ∈ L, ∀ t ∈ x, t.small) (h40 : ∀ x ∈ L, x.length ≤ 1000) :
    Calls Tryz.prog 67 #[v] w (BoolIs (VP.askedP (tmL L)) w) := by
  have F := Lib.hid (asked_eq L)
  obtain ⟨A, c, rfl, hc, hm, hr⟩ := h
  obtain ⟨len, hlen⟩ : ∃ len, L.length = len := ⟨_, rfl⟩
  have HL := Lib.hid hlen
  have HS := Lib.hid hs
  have H40 := Lib.hid h40
  have HR := Lib.hid hr
  rw [hlen] at hc hm ⊢
  clear hlen hr hs h40
  go_enter Tryz.func67, Tryz.ntmps67
  go_wp2_with fail
  go_loopw [3, 8] (fun n i wr => ∃ k m : Nat, k ≤ len ∧ i = .int .i64 k ∧ n = .int .i64 m ∧ m ≤ 30 ∧ Hid (m = sumL (L.take k)) ∧ Hid ((L.take k).all goodL = true) ∧ Below w.heap.size w wr) (fun _ i _ => len - (intOf i).toNat)
  case atStart => exact ⟨0, 0, Nat.zero_le _, rfl, rfl, by omega, rfl, rfl, Below.refl _ _⟩
  case round =>
    obtain ⟨k, m, hk, rfl, rfl, hm30, hsum, hall, hB⟩ := hrel
    by_cases hlt : k < len
    · have hne : L ≠ [] := by
        intro e
        have := HL.out
        rw [e] at this
        simp at this
        omega
      obtain ⟨x, hx⟩ : ∃ x, L[k]? = some x := ⟨L[k]'(by have := HL.out; omega), List.getElem?_eq_getElem _⟩
      obtain ⟨b, off, rfl, hi⟩ := HR.out hne
      obtain ⟨vx, hc0, hT⟩ := hi k x hx
      clear hi hne
      have hT1 := hT.below hB
      have c0 := kept hB hc0
      have hsm := HS.out x (List.mem_of_getElem? hx)
      have HX := Lib.hid hx
      have hE1 := hE.below hB
      have H := Lib.hid (hasWrong_calls vx x wr hE1 hT1 hsm)
      have HN := Lib.hid (sumL_take_succ hx)
      have HN2 := Lib.hid (sumL_take_le L (k + 1))
      obtain ⟨A', c', rfl, hc', hm', _⟩ := hT1
      clear hx hc0 hT hsm hE1
      have hx1000 := H40.out x (List.mem_of_getElem? HX.out)
      obtain ⟨xl, hxl⟩ : ∃ xl, x.length = xl := ⟨_, rfl⟩
      have HXL := Lib.hid hxl
      rw [hxl] at H hc' hm' hx1000 c0
      clear hxl hm'
      by_cases hx0 : xl = 0
      · have HB : Hid (goodL x = false) := by
          have e : x = [] := List.eq_nil_of_length_eq_zero (HXL.out.trans hx0)
          unfold goodL
          rw [e]; exact rfl
        have hxb : ((xl : Int) == 0) = true := by rw [beq_iff_eq]; omega
        clear hx0
        go_wp2_with fail
        go_ret
        exact ⟨ret_bool (by rw [F.out, all_stop HX.out HB.out]; rfl), hB⟩
      · have hxb : ((xl : Int) == 0) = false := by rw [beq_eq_false_iff_ne]; omega
        have HNE : Hid (x.isEmpty = false) := by
          cases x with
          | nil => exact absurd HXL.out.symm hx0
          | cons _ _ => exact rfl
        clear hx0
        by_cases hn : 30 < m + xl
        · have hnb : decide ((30 : Int) < (m : Int) + (xl : Int)) = true := decide_eq_true (by omega)
          have hover : Hid (sumL L ≤ 30 → False) := fun h => by
            have h1 := HN.out
            have h2 := HN2.out
            have h3 := hsum.out
            have h4 := HXL.out
            omega
          go_wp2_with fail
          go_ret
          exact ⟨ret_bool (by rw [F.out, decide_eq_false (fun h => hover.out h)]; simp), hB⟩
        · have hnb : decide ((30 : Int) < (m : Int) + (xl : Int)) = false := decide_eq_false (by omega)
          have hp : x.any wrongT = true ∨ x.any wrongT = false := by cases x.any wrongT <;> simp
          go_wp2_with fail
          refine H.out.mono ?_
          rintro E w1 ⟨rfl, hb⟩
          have hB := step_below hB hb
          clear hb c0
          rcases hp with hp | hp
          · have HB : Hid (goodL x = false) := by unfold goodL; rw [hp]; simp; exact trivial
            rw [hp]
            clear hp
            go_wp2_with fail
            go_ret
            exact ⟨ret_bool (by rw [F.out, all_stop HX.out HB.out]; rfl), hB⟩
          · have HB : Hid (goodL x = true) := by unfold goodL; rw [hp, HNE.out]; exact rfl
            rw [hp]
            clear hp
            go_wp2_with fail
            go_roundw
            case rel => exact ⟨k + 1, m + xl, by omega, by go_num, by go_num, by omega, Lib.hid (by rw [HN.out, ← hsum.out, HXL.out]), Lib.hid (all_take_succ hall.out HX.out HB.out), hB⟩
            case measure => simp [intOf]; omega
    · obtain rfl : k = len := by omega
      go_wp2_with fail
      go_ret
      refine ⟨ret_bool ?_, hB⟩
      have h1 := hall.out
      have h2 := hsum.out
      rw [← HL.out] at h1
      rw [← HL.out, List.take_length] at h2
      rw [F.out, all_done h1, decide_eq_true (by omega)]
      rfl
end Go.Proofs.YtodbbfgkclkpgaaGreatDoor

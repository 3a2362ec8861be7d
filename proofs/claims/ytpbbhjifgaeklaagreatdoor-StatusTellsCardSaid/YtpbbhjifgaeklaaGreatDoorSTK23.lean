/- status.Print: what a status is written as. -/
import Derived.Test.YtpbbhjifgaeklaaGreatDoorSTK21
import Derived.Test.YtpbbhjifgaeklaaGreatDoorSTK18
namespace Go.Proofs.YtpbbhjifgaeklaaGreatDoor
open Go Go.RowKit

def listB (l : List ByteArray) : ByteArray := ⟨(listT l).toArray⟩
def verB (z : St) : ByteArray := ⟨(verT z).toArray⟩
def heldS (b : Bool) : ByteArray := ⟨(heldT b).toArray⟩
def numB (z : St) : ByteArray := ⟨(Lib.itoa z.n).toArray⟩
def printB (z : St) : ByteArray := ⟨(printS z).toArray⟩

structure SmallL (l : List ByteArray) : Prop where
  n : l.length ≤ 4
  s : ∀ s ∈ l, s.size ≤ 60

theorem right_small {z : St} (h : rightS z = true) : SmallL z.ws ∧ SmallL z.ts := by
  rcases ((rightS_iff z).1 h).2.2 with ⟨_, _, _, e1, e2⟩ | ⟨_, _, _, _, l1, l2, k1, k2, _⟩
  · rw [e1, e2]
    exact ⟨⟨Nat.zero_le _, fun s hs => by cases hs⟩, ⟨Nat.zero_le _, fun s hs => by cases hs⟩⟩
  · refine ⟨⟨l1, fun s hs => ?_⟩, ⟨by omega, fun s hs => ?_⟩⟩
    · have := List.all_eq_true.1 k1 s hs
      unfold VP.nameP at this
      simp only [Bool.and_eq_true, decide_eq_true_eq] at this
      have h2 := this.1.1.2
      rw [← size_eq_length] at h2
      omega
    · have := List.all_eq_true.1 k2 s hs
      unfold taskP at this
      simp only [Bool.and_eq_true, decide_eq_true_eq] at this
      have h2 := this.2
      rw [← size_eq_length] at h2
      omega

theorem right_nums {z : St} (h : rightS z = true) : -9223372036854775808 ≤ z.n ∧ z.n ≤ 9223372036854775807 ∧ -9223372036854775808 ≤ z.e ∧ z.e ≤ 9223372036854775807 := by
  obtain ⟨h0, h7, H⟩ := (rightS_iff z).1 h
  have he : 0 ≤ z.e ∧ z.e ≤ 1000000000 := by
    rcases H with ⟨_, hn, _⟩ | ⟨_, hr, _⟩
    · unfold nov at hn
      simp only [Bool.and_eq_true, decide_eq_true_eq] at hn
      omega
    · have := (VP.rightP_iff _ _ _).1 hr
      have l := this.lo
      have u := this.hi
      omega
  omega

theorem joinC_len {l : List ByteArray} (h : SmallL l) : (joinC l).length ≤ 244 := by
  have := joinP_len [44] 60 (l.map (·.data.toList)) (fun x hx => by
    obtain ⟨s, hs, rfl⟩ := List.mem_map.1 hx
    rw [← size_eq_length]; exact h.s s hs)
  rw [List.length_map] at this
  have h4 := h.n
  unfold joinC
  simp only [List.length_singleton] at this
  have : l.length * 61 ≤ 4 * 61 := Nat.mul_le_mul_right _ h4
  omega
theorem listT_len {l : List ByteArray} (h : SmallL l) : (listT l).length ≤ 244 := by
  unfold listT
  split
  · simp
  · exact joinC_len h

theorem words_len {z : St} (h : rightS z = true) : ∀ x ∈ wordsS z, x.length ≤ 300 := by
  obtain ⟨h0, h7, H⟩ := (rightS_iff z).1 h
  obtain ⟨s1, s2⟩ := right_small h
  intro x hx
  unfold wordsS at hx
  simp only [List.mem_cons, List.not_mem_nil, or_false] at hx
  rcases hx with rfl | rfl | rfl | rfl | rfl
  · rw [itoa_one h0 h7]; simp
  · unfold verT
    split
    · simp
    · rename_i hne
      rcases H with ⟨hz, _⟩ | ⟨_, hr, _⟩
      · exact absurd hz hne
      · have := ((VP.rightP_iff _ _ _).1 hr).len
        omega
  · unfold heldT; split <;> simp
  · have := listT_len s1; omega
  · have := listT_len s2; omega
theorem print_len {z : St} (h : rightS z = true) : (printS z).length ≤ 2000 := by
  have := joinP_len [32] 300 (wordsS z) (words_len h)
  unfold printS
  simp only [wordsS, List.length_cons, List.length_nil] at this ⊢
  omega

theorem call_joinAt (w : World) (v : Value) (ss : List ByteArray) (sep : ByteArray) (h : StrsAt w v ss) (hne : ss ≠ []) (hn : ss.length ≤ 1000000) (hlen : (Lib.join (ss.map (·.data.toList)) sep.data.toList).length ≤ 1000000) :
    Calls Tryz.prog 58 #[v, .string sep] w fun e w' => e = .returned (.string ⟨(Lib.join (ss.map (·.data.toList)) sep.data.toList).toArray⟩) ∧ Below w.heap.size w w' := by
  obtain ⟨A, c, rfl, hc, hm, hr⟩ := h.open
  obtain ⟨b, off, rfl, hi⟩ := hr hne
  have hg : b < w.heap.size := by
    cases ss with
    | nil => exact absurd rfl hne
    | cons s r => exact cell_lt (hi 0 s rfl)
  exact Tryz.strings_Join b off c ss sep w hi hg (by omega) hc (by omega)

set_option maxRecDepth 100000 in
theorem plist_calls (v : Value) (l : List ByteArray) (w : World) (h : StrsAt w v l) (hs : SmallL l) : Calls Tryz.prog 57 #[v] w fun E w' => E = .returned (.string (listB l)) ∧ Below w.heap.size w w' := by
  by_cases hne : l = []
  · subst hne
    obtain ⟨A, c, rfl, _⟩ := h.open
    go_enter Tryz.func57, Tryz.ntmps57
    go_wp2_with fail
    go_ret
    exact ⟨rfl, Below.refl _ _⟩
  · have hj := joinP_eq [44] (l.map (·.data.toList))
    have hl := joinC_len hs
    have h4 := hs.n
    have CJ := call_joinAt w v l ⟨#[44]⟩ h hne (by omega) (by
      show (Lib.join (l.map (·.data.toList)) [44]).length ≤ 1000000
      rw [hj]
      unfold joinC at hl
      omega)
    have e : (⟨(Lib.join (l.map (·.data.toList)) (⟨#[44]⟩ : ByteArray).data.toList).toArray⟩ : ByteArray) = listB l := by
      show (⟨(Lib.join (l.map (·.data.toList)) [44]).toArray⟩ : ByteArray) = listB l
      unfold listB listT
      rw [hj, if_neg hne]
      rfl
    rw [e] at CJ
    have CJ := Lib.hid CJ
    obtain ⟨sB, hsB⟩ : ∃ y, listB l = y := ⟨_, rfl⟩
    rw [hsB] at CJ ⊢
    have hlen : l.length ≠ 0 := fun e => hne (List.eq_nil_of_length_eq_zero e)
    obtain ⟨A, c, rfl, _⟩ := h.open
    obtain ⟨len, hl2⟩ : ∃ y, l.length = y := ⟨_, rfl⟩
    rw [hl2] at CJ hlen ⊢
    clear hj hl h4 e hsB h hs hl2
    go_enter Tryz.func57, Tryz.ntmps57
    go_wp2_with fail
    refine CJ.out.mono ?_
    rintro E w1 ⟨rfl, hb⟩
    go_wp2_with fail
    go_ret
    exact ⟨rfl, hb⟩

/-- what status.Print gives -/
def printV (z : St) : Value := if rightS z then .tuple #[.string (printB z), .nilIface] else .tuple #[.string ⟨#[]⟩, .iface 43 (.int .i64 1)]
def PrintStIs (z : St) (w : World) (E : Ending) (w' : World) : Prop := E = .returned (printV z) ∧ Below w.heap.size w w'

set_option maxRecDepth 100000 in
theorem statPrint_no (z : St) (v1 v2 : Value) (w : World) (hE : Env w) (hA : StAt w v1 v2 z) (hf : StFit z) (hr : rightS z = false) : Calls Tryz.prog 12 #[stV z v1 v2] w (PrintStIs z w) := by
  have hb0 := below_alloc w (.cells #[.int .i64 z.n, .int .i64 z.e, .string z.u, .string z.r, .bool z.h, v1, v2] 26)
  have CR := Lib.hid (statRight_calls z v1 v2 _ (hE.below hb0) (hA.below hb0) hf)
  obtain ⟨c0, c1, c2, c3, c4, c5, c6⟩ := stBox_new w z v1 v2 26
  have F := Lib.hid (show printV z = .tuple #[.string ⟨#[]⟩, .iface 43 (.int .i64 1)] by unfold printV; rw [hr]; rfl)
  rw [hr] at CR
  unfold PrintStIs
  rw [F.out]
  obtain ⟨n, e, u, r, hh, ws, ts⟩ := z
  unfold stV at CR
  simp only at *
  clear hA hf hE hr F
  show Calls Tryz.prog 12 #[.agg #[.int .i64 n, .int .i64 e, .string u, .string r, .bool hh, v1, v2]] w _
  go_enter Tryz.func12, Tryz.ntmps12
  go_wp2_with fail
  refine CR.out.mono ?_
  rintro E w1 ⟨rfl, hb⟩
  have hB := step_below hb0 hb
  clear hb hb0 CR c0 c1 c2 c3 c4 c5 c6
  go_wp2_with fail
  go_ret2
  exact ⟨rfl, hB⟩

theorem join5 (W : World) (g : Nat) (a b c d e : ByteArray) (k : (W.cell? ⟨g, 0, none⟩ = some (.string a) ∧ W.cell? ⟨g, 1, none⟩ = some (.string b) ∧ W.cell? ⟨g, 2, none⟩ = some (.string c) ∧ W.cell? ⟨g, 3, none⟩ = some (.string d) ∧ W.cell? ⟨g, 4, none⟩ = some (.string e)))
    (hlen : (VP.joinP [32] [a.data.toList, b.data.toList, c.data.toList, d.data.toList, e.data.toList]).length ≤ 1000000) :
    Calls Tryz.prog 58 #[.slice (some ⟨g, 0, none⟩) 5 5, .string ⟨#[32]⟩] W fun E W' => E = .returned (.string ⟨(VP.joinP [32] [a.data.toList, b.data.toList, c.data.toList, d.data.toList, e.data.toList]).toArray⟩) ∧ Below W.heap.size W W' := by
  have hj := joinP_eq [32] ([a, b, c, d, e].map (·.data.toList))
  have H := Tryz.strings_Join g 0 5 [a, b, c, d, e] ⟨#[32]⟩ W (fun j s hj => by
    match j, hj with
    | 0, hj => injection hj with hj; subst hj; exact k.1
    | 1, hj => injection hj with hj; subst hj; exact k.2.1
    | 2, hj => injection hj with hj; subst hj; exact k.2.2.1
    | 3, hj => injection hj with hj; subst hj; exact k.2.2.2.1
    | 4, hj => injection hj with hj; subst hj; exact k.2.2.2.2
    | n + 5, hj => cases hj) (cell_lt k.1) (by simp) (by simp) (by
      show (Lib.join ([a, b, c, d, e].map (·.data.toList)) [32]).length ≤ _
      rw [hj]
      exact Nat.le_trans hlen (by omega))
  refine H.mono fun E W' ⟨he, hb⟩ => ⟨?_, hb⟩
  rw [he]
  show Ending.returned (.string ⟨(Lib.join ([a, b, c, d, e].map (·.data.toList)) [32]).toArray⟩) = _
  rw [hj]
  rfl

set_option maxHeartbeats 4000000 in
set_option maxRecDepth 100000 in
theorem statPrint_yes (z : St) (v1 v2 : Value) (w : World) (hE : Env w) (hA : StAt w v1 v2 z) (hf : StFit z) (hr : rightS z = true) : Calls Tryz.prog 12 #[stV z v1 v2] w (PrintStIs z w) := by
  have hb0 := below_alloc w (.cells #[.int .i64 z.n, .int .i64 z.e, .string z.u, .string z.r, .bool z.h, v1, v2] 26)
  have CR := Lib.hid (statRight_calls z v1 v2 _ (hE.below hb0) (hA.below hb0) hf)
  have X0 := stBox_new w z v1 v2 26
  obtain ⟨c0, c1, c2, c3, c4, c5, c6⟩ := id X0
  have F := Lib.hid (show printV z = .tuple #[.string (printB z), .nilIface] by unfold printV; rw [hr]; rfl)
  have HJ := Lib.hid (show (⟨(VP.joinP [32] [(numB z).data.toList, (verB z).data.toList, (heldS z.h).data.toList, (listB z.ws).data.toList, (listB z.ts).data.toList]).toArray⟩ : ByteArray) = printB z from rfl)
  have HJL := Lib.hid (show (VP.joinP [32] [(numB z).data.toList, (verB z).data.toList, (heldS z.h).data.toList, (listB z.ws).data.toList, (listB z.ts).data.toList]).length ≤ 1000000 from Nat.le_trans (print_len hr) (by omega))
  obtain ⟨hN0, hN1, hE0, hE1⟩ := right_nums hr
  have CI := Lib.hid (fun (W : World) (hb : Below w.heap.size w W) => (call_itoa z.n W (hE.below hb) hN0 hN1).mono (R' := fun E W' => E = .returned (.string (numB z)) ∧ Below W.heap.size W W') fun E W' ⟨t, he, ht, _, hb⟩ => ⟨by rw [he]; unfold numB; rw [← ht, Lib.mk_data], hb⟩)
  have CL1 := Lib.hid (fun (W : World) (hb : Below w.heap.size w W) => plist_calls v1 z.ws W (hA.ws.below hb) (right_small hr).1)
  have CL2 := Lib.hid (fun (W : World) (hb : Below w.heap.size w W) => plist_calls v2 z.ts W (hA.ts.below hb) (right_small hr).2)
  have hu : z.u.size ≤ 1000000 := by have := hf.u; omega
  have hrr : z.r.size ≤ 1000000 := by have := hf.r; omega
  have CV := Lib.hid (fun (W : World) (hb : Below w.heap.size w W) (hn : z.n ≠ 0) => (print_calls z.e z.u z.r W (hE.below hb) hE0 hE1 hu hrr).mono (R' := fun E W' => E = .returned (.string (verB z)) ∧ Below W.heap.size W W') fun E W' ⟨t, he, ht, hb⟩ => ⟨by rw [he]; unfold verB verT; rw [if_neg hn, ← ht, Lib.mk_data], hb⟩)
  have HV0 := Lib.hid (fun (hn : z.n = 0) => show verB z = ⟨#[45]⟩ by unfold verB verT; rw [if_pos hn])
  have HH1 := Lib.hid (fun (hn : z.h = true) => show heldS z.h = ⟨#[104, 101, 108, 100]⟩ by rw [hn]; rfl)
  have HH0 := Lib.hid (fun (hn : z.h = false) => show heldS z.h = ⟨#[102, 114, 101, 101]⟩ by rw [hn]; rfl)
  rw [hr] at CR
  unfold PrintStIs
  rw [F.out]
  clear hf hA hu hrr hE hr F hN0 hN1 hE0 hE1
  obtain ⟨n, e, u, r, hh, ws, ts⟩ := z
  unfold stV at CR
  simp only at *
  obtain ⟨sP, hsP⟩ : ∃ y, printB ⟨n, e, u, r, hh, ws, ts⟩ = y := ⟨_, rfl⟩
  obtain ⟨sN, hsN⟩ : ∃ y, numB ⟨n, e, u, r, hh, ws, ts⟩ = y := ⟨_, rfl⟩
  obtain ⟨sV, hsV⟩ : ∃ y, verB ⟨n, e, u, r, hh, ws, ts⟩ = y := ⟨_, rfl⟩
  obtain ⟨sH, hsH⟩ : ∃ y, heldS hh = y := ⟨_, rfl⟩
  obtain ⟨sW, hsW⟩ : ∃ y, listB ws = y := ⟨_, rfl⟩
  obtain ⟨sT, hsT⟩ : ∃ y, listB ts = y := ⟨_, rfl⟩
  rw [hsP, hsN, hsV, hsH, hsW, hsT] at HJ
  rw [hsN, hsV, hsH, hsW, hsT] at HJL
  rw [hsN] at CI
  rw [hsW] at CL1
  rw [hsT] at CL2
  rw [hsV] at CV HV0
  rw [hsH] at HH1 HH0
  rw [hsP]
  clear hsP hsN hsV hsH hsW hsT
  rcases (show hh = true ∨ hh = false by cases hh <;> simp) with rfl | rfl
  · obtain rfl := HH1.out rfl
    clear HH1 HH0
    by_cases hn : n = 0
    · subst hn
      obtain rfl := HV0.out rfl
      clear HV0 CV
      show Calls Tryz.prog 12 #[.agg #[.int .i64 0, .int .i64 e, .string u, .string r, .bool true, v1, v2]] w _
      go_enter Tryz.func12, Tryz.ntmps12
      go_wp2_with fail
      refine CR.out.mono ?_
      rintro E w1 ⟨rfl, hb⟩
      have X1 := X0.below hb
      have HB1 := Lib.hid (step_below hb0 hb)
      clear c0 c1 c2 c3 c4 c5 c6 X0 CR hb hb0
      obtain ⟨m, hm⟩ : ∃ m, w.heap.size = m := ⟨_, rfl⟩
      rw [hm] at X1
      have HX1 := Lib.hid X1
      have c0 := X1.c0
      have c1 := X1.c1
      have c2 := X1.c2
      have c3 := X1.c3
      have c4 := X1.c4
      clear X1
      (try rw [hm])
      clear hm
      go_wp2_with fail
      have S0 : CompS w m 0 v1 v2 w1 := ⟨HX1.out.c5, HX1.out.c6, HX1.out.c0, HB1.out⟩
      clear HX1
      have D0 := compS_go S0 (below_drew _)
      clear c0 c1 c2 c3 c4
      have LI := Lib.hid (fun (W : World) (h : W.cell? ⟨m, 5, none⟩ = some v1 ∧ W.cell? ⟨m, 6, none⟩ = some v2 ∧ W.cell? ⟨m, 0, none⟩ = some (.int .i64 0) ∧ Below w.heap.size w W) => CI.out W h.2.2.2)
      have L1 := Lib.hid (fun (W : World) (h : W.cell? ⟨m, 5, none⟩ = some v1 ∧ W.cell? ⟨m, 6, none⟩ = some v2 ∧ W.cell? ⟨m, 0, none⟩ = some (.int .i64 0) ∧ Below w.heap.size w W) => CL1.out W h.2.2.2)
      have L2 := Lib.hid (fun (W : World) (h : W.cell? ⟨m, 5, none⟩ = some v1 ∧ W.cell? ⟨m, 6, none⟩ = some v2 ∧ W.cell? ⟨m, 0, none⟩ = some (.int .i64 0) ∧ Below w.heap.size w W) => CL2.out W h.2.2.2)
      clear CI CL1 CL2
      go_region_held3 (fun W => W.cell? ⟨m, 5, none⟩ = some v1 ∧ W.cell? ⟨m, 6, none⟩ = some v2 ∧ W.cell? ⟨m, 0, none⟩ = some (.int .i64 0) ∧ Below w.heap.size w W)
        ((first | assumption | exact compS_go (by assumption) hb | exact compS_go (by assumption) (below_alloc _ _)))
        (first | (go_at_call 60; (refine (LI.out _ (by assumption)).mono ?_); rintro E w5 ⟨rfl, hb⟩) | (go_at_call 58; (refine (join5 _ _ sN ⟨#[45]⟩ ⟨#[104, 101, 108, 100]⟩ sW sT ⟨by go_cell, by go_cell, by go_cell, by go_cell, by go_cell⟩ HJL.out).mono ?_); rintro E w6 ⟨hE6, hb⟩; rw [HJ.out] at hE6; subst hE6) | (go_at_call 57; first | ((with_reducible refine (L1.out _ (by assumption)).mono ?_); rintro E w7 ⟨rfl, hb⟩) | ((with_reducible refine (L2.out _ (by assumption)).mono ?_); rintro E w7 ⟨rfl, hb⟩)))
      all_goals
        go_wp2_with fail
        go_ret2
        exact ⟨rfl, compS_below (w0 := w) (m := m) (n := 0) (v1 := v1) (v2 := v2) (by assumption)⟩
    · have HN := Lib.hid hn
      clear HV0
      show Calls Tryz.prog 12 #[.agg #[.int .i64 n, .int .i64 e, .string u, .string r, .bool true, v1, v2]] w _
      go_enter Tryz.func12, Tryz.ntmps12
      go_wp2_with fail
      refine CR.out.mono ?_
      rintro E w1 ⟨rfl, hb⟩
      have X1 := X0.below hb
      have HB1 := Lib.hid (step_below hb0 hb)
      clear c0 c1 c2 c3 c4 c5 c6 X0 CR hb hb0
      obtain ⟨m, hm⟩ : ∃ m, w.heap.size = m := ⟨_, rfl⟩
      rw [hm] at X1
      have HX1 := Lib.hid X1
      have c0 := X1.c0
      have c1 := X1.c1
      have c2 := X1.c2
      have c3 := X1.c3
      have c4 := X1.c4
      clear X1
      (try rw [hm])
      clear hm
      go_wp2_with fail
      refine (CV.out _ HB1.out hn).mono ?_
      rintro E w2 ⟨rfl, hb⟩
      have X2 := HX1.out.below hb
      have S0 : CompS w m n v1 v2 w2 := ⟨X2.c5, X2.c6, X2.c0, step_below HB1.out hb⟩
      clear X2 HX1 hb c0 c1 c2 c3 c4 HB1
      have c0 := S0.2.2.1
      go_wp2_with fail
      have D0 := compS_go S0 (below_drew _)
      clear c0
      have LI := Lib.hid (fun (W : World) (h : W.cell? ⟨m, 5, none⟩ = some v1 ∧ W.cell? ⟨m, 6, none⟩ = some v2 ∧ W.cell? ⟨m, 0, none⟩ = some (.int .i64 n) ∧ Below w.heap.size w W) => CI.out W h.2.2.2)
      have L1 := Lib.hid (fun (W : World) (h : W.cell? ⟨m, 5, none⟩ = some v1 ∧ W.cell? ⟨m, 6, none⟩ = some v2 ∧ W.cell? ⟨m, 0, none⟩ = some (.int .i64 n) ∧ Below w.heap.size w W) => CL1.out W h.2.2.2)
      have L2 := Lib.hid (fun (W : World) (h : W.cell? ⟨m, 5, none⟩ = some v1 ∧ W.cell? ⟨m, 6, none⟩ = some v2 ∧ W.cell? ⟨m, 0, none⟩ = some (.int .i64 n) ∧ Below w.heap.size w W) => CL2.out W h.2.2.2)
      clear CI CL1 CL2
      go_region_held3 (fun W => W.cell? ⟨m, 5, none⟩ = some v1 ∧ W.cell? ⟨m, 6, none⟩ = some v2 ∧ W.cell? ⟨m, 0, none⟩ = some (.int .i64 n) ∧ Below w.heap.size w W)
        ((first | assumption | exact compS_go (by assumption) hb | exact compS_go (by assumption) (below_alloc _ _)))
        (first | (go_at_call 60; (refine (LI.out _ (by assumption)).mono ?_); rintro E w5 ⟨rfl, hb⟩) | (go_at_call 58; (refine (join5 _ _ sN sV ⟨#[104, 101, 108, 100]⟩ sW sT ⟨by go_cell, by go_cell, by go_cell, by go_cell, by go_cell⟩ HJL.out).mono ?_); rintro E w6 ⟨hE6, hb⟩; rw [HJ.out] at hE6; subst hE6) | (go_at_call 57; first | ((with_reducible refine (L1.out _ (by assumption)).mono ?_); rintro E w7 ⟨rfl, hb⟩) | ((with_reducible refine (L2.out _ (by assumption)).mono ?_); rintro E w7 ⟨rfl, hb⟩)))
      all_goals
        go_wp2_with fail
        go_ret2
        exact ⟨rfl, compS_below (w0 := w) (m := m) (n := n) (v1 := v1) (v2 := v2) (by assumption)⟩
  · obtain rfl := HH0.out rfl
    clear HH1 HH0
    by_cases hn : n = 0
    · subst hn
      obtain rfl := HV0.out rfl
      clear HV0 CV
      show Calls Tryz.prog 12 #[.agg #[.int .i64 0, .int .i64 e, .string u, .string r, .bool false, v1, v2]] w _
      go_enter Tryz.func12, Tryz.ntmps12
      go_wp2_with fail
      refine CR.out.mono ?_
      rintro E w1 ⟨rfl, hb⟩
      have X1 := X0.below hb
      have HB1 := Lib.hid (step_below hb0 hb)
      clear c0 c1 c2 c3 c4 c5 c6 X0 CR hb hb0
      obtain ⟨m, hm⟩ : ∃ m, w.heap.size = m := ⟨_, rfl⟩
      rw [hm] at X1
      have HX1 := Lib.hid X1
      have c0 := X1.c0
      have c1 := X1.c1
      have c2 := X1.c2
      have c3 := X1.c3
      have c4 := X1.c4
      clear X1
      (try rw [hm])
      clear hm
      go_wp2_with fail
      have S0 : CompS w m 0 v1 v2 w1 := ⟨HX1.out.c5, HX1.out.c6, HX1.out.c0, HB1.out⟩
      clear HX1
      have D0 := compS_go S0 (below_drew _)
      clear c0 c1 c2 c3 c4
      have LI := Lib.hid (fun (W : World) (h : W.cell? ⟨m, 5, none⟩ = some v1 ∧ W.cell? ⟨m, 6, none⟩ = some v2 ∧ W.cell? ⟨m, 0, none⟩ = some (.int .i64 0) ∧ Below w.heap.size w W) => CI.out W h.2.2.2)
      have L1 := Lib.hid (fun (W : World) (h : W.cell? ⟨m, 5, none⟩ = some v1 ∧ W.cell? ⟨m, 6, none⟩ = some v2 ∧ W.cell? ⟨m, 0, none⟩ = some (.int .i64 0) ∧ Below w.heap.size w W) => CL1.out W h.2.2.2)
      have L2 := Lib.hid (fun (W : World) (h : W.cell? ⟨m, 5, none⟩ = some v1 ∧ W.cell? ⟨m, 6, none⟩ = some v2 ∧ W.cell? ⟨m, 0, none⟩ = some (.int .i64 0) ∧ Below w.heap.size w W) => CL2.out W h.2.2.2)
      clear CI CL1 CL2
      go_region_held3 (fun W => W.cell? ⟨m, 5, none⟩ = some v1 ∧ W.cell? ⟨m, 6, none⟩ = some v2 ∧ W.cell? ⟨m, 0, none⟩ = some (.int .i64 0) ∧ Below w.heap.size w W)
        ((first | assumption | exact compS_go (by assumption) hb | exact compS_go (by assumption) (below_alloc _ _)))
        (first | (go_at_call 60; (refine (LI.out _ (by assumption)).mono ?_); rintro E w5 ⟨rfl, hb⟩) | (go_at_call 58; (refine (join5 _ _ sN ⟨#[45]⟩ ⟨#[102, 114, 101, 101]⟩ sW sT ⟨by go_cell, by go_cell, by go_cell, by go_cell, by go_cell⟩ HJL.out).mono ?_); rintro E w6 ⟨hE6, hb⟩; rw [HJ.out] at hE6; subst hE6) | (go_at_call 57; first | ((with_reducible refine (L1.out _ (by assumption)).mono ?_); rintro E w7 ⟨rfl, hb⟩) | ((with_reducible refine (L2.out _ (by assumption)).mono ?_); rintro E w7 ⟨rfl, hb⟩)))
      all_goals
        go_wp2_with fail
        go_ret2
        exact ⟨rfl, compS_below (w0 := w) (m := m) (n := 0) (v1 := v1) (v2 := v2) (by assumption)⟩
    · have HN := Lib.hid hn
      clear HV0
      show Calls Tryz.prog 12 #[.agg #[.int .i64 n, .int .i64 e, .string u, .string r, .bool false, v1, v2]] w _
      go_enter Tryz.func12, Tryz.ntmps12
      go_wp2_with fail
      refine CR.out.mono ?_
      rintro E w1 ⟨rfl, hb⟩
      have X1 := X0.below hb
      have HB1 := Lib.hid (step_below hb0 hb)
      clear c0 c1 c2 c3 c4 c5 c6 X0 CR hb hb0
      obtain ⟨m, hm⟩ : ∃ m, w.heap.size = m := ⟨_, rfl⟩
      rw [hm] at X1
      have HX1 := Lib.hid X1
      have c0 := X1.c0
      have c1 := X1.c1
      have c2 := X1.c2
      have c3 := X1.c3
      have c4 := X1.c4
      clear X1
      (try rw [hm])
      clear hm
      go_wp2_with fail
      refine (CV.out _ HB1.out hn).mono ?_
      rintro E w2 ⟨rfl, hb⟩
      have X2 := HX1.out.below hb
      have S0 : CompS w m n v1 v2 w2 := ⟨X2.c5, X2.c6, X2.c0, step_below HB1.out hb⟩
      clear X2 HX1 hb c0 c1 c2 c3 c4 HB1
      have c0 := S0.2.2.1
      go_wp2_with fail
      have D0 := compS_go S0 (below_drew _)
      clear c0
      have LI := Lib.hid (fun (W : World) (h : W.cell? ⟨m, 5, none⟩ = some v1 ∧ W.cell? ⟨m, 6, none⟩ = some v2 ∧ W.cell? ⟨m, 0, none⟩ = some (.int .i64 n) ∧ Below w.heap.size w W) => CI.out W h.2.2.2)
      have L1 := Lib.hid (fun (W : World) (h : W.cell? ⟨m, 5, none⟩ = some v1 ∧ W.cell? ⟨m, 6, none⟩ = some v2 ∧ W.cell? ⟨m, 0, none⟩ = some (.int .i64 n) ∧ Below w.heap.size w W) => CL1.out W h.2.2.2)
      have L2 := Lib.hid (fun (W : World) (h : W.cell? ⟨m, 5, none⟩ = some v1 ∧ W.cell? ⟨m, 6, none⟩ = some v2 ∧ W.cell? ⟨m, 0, none⟩ = some (.int .i64 n) ∧ Below w.heap.size w W) => CL2.out W h.2.2.2)
      clear CI CL1 CL2
      go_region_held3 (fun W => W.cell? ⟨m, 5, none⟩ = some v1 ∧ W.cell? ⟨m, 6, none⟩ = some v2 ∧ W.cell? ⟨m, 0, none⟩ = some (.int .i64 n) ∧ Below w.heap.size w W)
        ((first | assumption | exact compS_go (by assumption) hb | exact compS_go (by assumption) (below_alloc _ _)))
        (first | (go_at_call 60; (refine (LI.out _ (by assumption)).mono ?_); rintro E w5 ⟨rfl, hb⟩) | (go_at_call 58; (refine (join5 _ _ sN sV ⟨#[102, 114, 101, 101]⟩ sW sT ⟨by go_cell, by go_cell, by go_cell, by go_cell, by go_cell⟩ HJL.out).mono ?_); rintro E w6 ⟨hE6, hb⟩; rw [HJ.out] at hE6; subst hE6) | (go_at_call 57; first | ((with_reducible refine (L1.out _ (by assumption)).mono ?_); rintro E w7 ⟨rfl, hb⟩) | ((with_reducible refine (L2.out _ (by assumption)).mono ?_); rintro E w7 ⟨rfl, hb⟩)))
      all_goals
        go_wp2_with fail
        go_ret2
        exact ⟨rfl, compS_below (w0 := w) (m := m) (n := n) (v1 := v1) (v2 := v2) (by assumption)⟩

theorem statPrint_calls (z : St) (v1 v2 : Value) (w : World) (hE : Env w) (hA : StAt w v1 v2 z) (hf : StFit z) : Calls Tryz.prog 12 #[stV z v1 v2] w (PrintStIs z w) := by
  cases hr : rightS z with
  | true => exact statPrint_yes z v1 v2 w hE hA hf hr
  | false => exact statPrint_no z v1 v2 w hE hA hf hr
end Go.Proofs.YtpbbhjifgaeklaaGreatDoor

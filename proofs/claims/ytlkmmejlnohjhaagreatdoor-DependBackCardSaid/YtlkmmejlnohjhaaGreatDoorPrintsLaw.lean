/- DependPrints: for all that is asked for the call returns true: from the walks. -/
import Derived.Test.YtlkmmejlnohjhaaGreatDoorRefPrint2
import Derived.Test.YtlkmmejlnohjhaaGreatDoorDepSingles
import Derived.Test.YtlkmmejlnohjhaaGreatDoorLawFlat
namespace Go.Proofs.YtlkmmejlnohjhaaGreatDoor
open Go.RowKit

theorem small_of {L : List (List Tv)} {w : World} {v : Value} (h : AskedAt w v L) (hb : termsB L = true) : ∀ x ∈ L, ∀ t ∈ x, t.small := by
  unfold termsB at hb
  rw [Bool.and_eq_true, List.all_eq_true] at hb
  intro x hx t ht
  have hf := hb.2 x hx
  unfold flatB at hf
  rw [Bool.and_eq_true, List.all_eq_true] at hf
  have h1 := hf.2 t ht
  unfold flatT shortB at h1
  simp at h1
  obtain ⟨i, hi⟩ := List.getElem?_of_mem hx
  obtain ⟨A, c, rfl, _, _, hr⟩ := h
  obtain ⟨b, off, _, hh⟩ := hr (List.ne_nil_of_mem hx)
  obtain ⟨vx, _, A', c', _, _, _, hr'⟩ := hh i x hi
  obtain ⟨b', off', _, hh'⟩ := hr' (List.ne_nil_of_mem ht)
  obtain ⟨j, hj⟩ := List.getElem?_of_mem ht
  exact ⟨by omega, by omega, by omega, (hh' j t hj).2⟩

theorem few_of {L : List (List Tv)} (hb : termsB L = true) : ∀ x ∈ L, x.length ≤ 1000 := by
  unfold termsB at hb
  rw [Bool.and_eq_true, List.all_eq_true] at hb
  intro x hx
  have hf := hb.2 x hx
  unfold flatB at hf
  rw [Bool.and_eq_true, decide_eq_true_eq] at hf
  have := hf.1
  omega

theorem block_of {ts : List Tv} {w : World} {v : Value} (h : TermsAt w v ts) : ∀ a n c, v = .slice (some a) n c → ts ≠ [] → a.block < w.heap.size := by
  intro a n c hv hne
  obtain ⟨A, c', hv', _, _, hr⟩ := h
  obtain ⟨b, off, rfl, hi⟩ := hr hne
  rw [hv] at hv'
  injection hv' with h1 _ _
  injection h1 with h1
  subst h1
  cases ts with
  | nil => exact absurd rfl hne
  | cons t r => exact cell_lt (hi 0 t rfl).1.c0

set_option maxHeartbeats 1000000 in
set_option maxRecDepth 100000 in
theorem prints_calls (v1 v2 : Value) (L : List (List Tv)) (ts : List Tv) (w : World) (hE : Env w) (hG : EnvE w) (hS : EnvS w) (h1 : AskedAt w v1 L) (h2 : TermsAt w v2 ts) :
    Calls Tryz.prog 3 #[v1, v2] w (BoolIs true w) := by
  have T1 := Lib.hid (lawTerms_calls v1 L w h1)
  have hb1 : termsB L = true ∨ termsB L = false := by cases termsB L <;> simp
  rcases hb1 with hb1 | hb1
  · have HB1 := Lib.hid hb1
    have hsm := Lib.hid (small_of h1 hb1)
    have hfew := Lib.hid (few_of hb1)
    rw [hb1] at T1
    clear hb1
    have T2 := Lib.hid (fun (W : World) (h : TermsAt W v2 ts) => lawFlat_calls v2 ts W h)
    have hb2 : flatB ts = true ∨ flatB ts = false := by cases flatB ts <;> simp
    rcases hb2 with hb2 | hb2
    · have h40 : Hid (ts.length ≤ 1000) := by
        unfold flatB at hb2
        rw [Bool.and_eq_true, decide_eq_true_eq] at hb2
        exact Nat.le_trans hb2.1 (by omega)
      rw [hb2] at T2
      clear hb2
      have A1 := Lib.hid (fun (W : World) (hb : Below w.heap.size w W) => refPrintT_calls v1 L W (hE.below hb) (h1.below hb) hsm.out hfew.out)
      have A2 := Lib.hid (fun (W : World) (hb : Below w.heap.size w W) => printT_calls v1 L W (hE.below hb) (hS.below hb) (h1.below hb) hsm.out hfew.out)
      have A3 := Lib.hid (fun (n : Int) (W : World) (hb : Below w.heap.size w W) => bare_calls n n W (hG.below hb))
      have A4 := Lib.hid (fun (W : World) (hb : Below w.heap.size w W) => asked_calls v1 L W (hE.below hb) (h1.below hb) hsm.out hfew.out)
      have A5 := Lib.hid (fun (W : World) (hb : Below w.heap.size w W) => refAsked_calls v1 L W (hE.below hb) (h1.below hb) hsm.out hfew.out)
      have A6 := Lib.hid (fun (W : World) (hb : Below w.heap.size w W) => singles_calls v2 ts W (h2.below hb) h40.out)
      have A7 := Lib.hid (fun (W : World) (hb : Below w.heap.size w W) => refSingles_calls v2 ts W (h2.below hb) (block_of (h2.below hb)) h40.out)
      have H2 := Lib.hid h2
      obtain ⟨n, hn⟩ : ∃ n : Int, (if VP.askedP (tmL L) then 0 else 1) = n := ⟨_, rfl⟩
      obtain ⟨S, hS'⟩ : ∃ S : ByteArray, (if VP.askedP (tmL L) then wholeS L else ⟨#[]⟩) = S := ⟨_, rfl⟩
      have P1 : Hid (∀ W, Below w.heap.size w W → Calls Tryz.prog 8 #[v1] W fun E W' => E = .returned (.tuple #[.string S, .int .i64 n]) ∧ Below W.heap.size W W') := fun W hb => (A1.out W hb).mono fun E W' h => by
        rw [hn] at h
        unfold RefPrintTIs at h
        rw [hS'] at h
        exact h
      have P2 : Hid (∀ W, Below w.heap.size w W → Calls Tryz.prog 9 #[v1] W fun E W' => E = .returned (.tuple #[.string S, errV n]) ∧ Below W.heap.size W W') := fun W hb => (A2.out W hb).mono fun E W' h => by
        rw [hn] at h
        unfold PrintTIs at h
        rw [hS'] at h
        exact h
      obtain ⟨b, hbq⟩ : ∃ b, VP.askedP (tmL L) = b := ⟨_, rfl⟩
      have P4 : Hid (∀ W, Below w.heap.size w W → Calls Tryz.prog 11 #[v1] W (BoolIs b W)) := fun W hb => by rw [← hbq]; exact A4.out W hb
      have P5 : Hid (∀ W, Below w.heap.size w W → Calls Tryz.prog 12 #[v1] W (BoolIs b W)) := fun W hb => by rw [← hbq]; exact A5.out W hb
      have P3 : Hid (∀ W, Below w.heap.size w W → Calls Tryz.prog 10 #[errV n, .int .i64 n] W (BoolIs true W)) := fun W hb => (A3.out n W hb).mono fun E W' h => ⟨by rw [h.1]; exact ret_bool (by simp), h.2⟩
      clear A1 A2 A3 A4 A5 hn hS' hbq h1 h2 hE hG hS
      generalize errV n = ev at P2 P3
      go_enter Tryz.func3, Tryz.ntmps3
      go_wp2_with fail
      refine T1.out.mono ?_
      rintro E w1 ⟨rfl, hB⟩
      go_wp2_with fail
      refine (T2.out _ (H2.out.below hB)).mono ?_
      rintro E w2 ⟨rfl, hb⟩
      replace hB := step_below hB hb
      clear hb
      go_wp2_with fail
      refine (P1.out _ hB).mono ?_
      rintro E w3 ⟨rfl, hb⟩
      replace hB := step_below hB hb
      clear hb
      go_wp2_with fail
      refine (P2.out _ hB).mono ?_
      rintro E w4 ⟨rfl, hb⟩
      replace hB := step_below hB hb
      clear hb
      go_wp2_with fail
      refine (P3.out _ hB).mono ?_
      rintro E w5 ⟨rfl, hb⟩
      replace hB := step_below hB hb
      clear hb
      go_wp2_with fail
      refine (P4.out _ hB).mono ?_
      rintro E w6 ⟨rfl, hb⟩
      replace hB := step_below hB hb
      clear hb
      go_wp2_with fail
      refine (P5.out _ hB).mono ?_
      rintro E w7 ⟨rfl, hb⟩
      replace hB := step_below hB hb
      clear hb
      go_wp2_with fail
      refine (A6.out _ hB).mono ?_
      rintro E w8 ⟨v8, rfl, ha8, hb⟩
      have HA8 := Lib.hid ha8
      replace hB := step_below hB hb
      clear hb ha8
      go_wp2_with fail
      refine (A7.out _ hB).mono ?_
      rintro E w9 ⟨v9, rfl, ha9, hb⟩
      have HS9 := Lib.hid (lawSameAsked_calls v8 v9 _ w9 (HA8.out.below hb) ha9)
      replace hB := step_below hB hb
      clear hb ha9
      go_wp2_with fail
      refine HS9.out.mono ?_
      rintro E w10 ⟨rfl, hb⟩
      replace hB := step_below hB hb
      clear hb
      go_wp2_with fail
      go_ret
      exact ⟨rfl, hB⟩
    · rw [hb2] at T2
      have H2 := Lib.hid h2
      clear hb2 h1 h2 hE hG hS
      go_enter Tryz.func3, Tryz.ntmps3
      go_wp2_with fail
      refine T1.out.mono ?_
      rintro E w1 ⟨rfl, hB⟩
      go_wp2_with fail
      refine (T2.out _ (H2.out.below hB)).mono ?_
      rintro E w2 ⟨rfl, hb⟩
      replace hB := step_below hB hb
      clear hb
      go_wp2_with fail
      go_ret
      exact ⟨rfl, hB⟩
  · rw [hb1] at T1
    clear hb1 h1 h2 hE hG hS
    go_enter Tryz.func3, Tryz.ntmps3
    go_wp2_with fail
    refine T1.out.mono ?_
    rintro E w1 ⟨rfl, hB⟩
    go_wp2_with fail
    go_ret
    exact ⟨rfl, hB⟩
end Go.Proofs.YtlkmmejlnohjhaaGreatDoor

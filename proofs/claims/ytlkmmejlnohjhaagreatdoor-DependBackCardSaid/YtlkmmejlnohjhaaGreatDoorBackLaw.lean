/- DependBack: for all that is asked for and every text the call returns true: from the walks. -/
import Derived.Test.YtlkmmejlnohjhaaGreatDoorKeepAsked
import Derived.Test.YtlkmmejlnohjhaaGreatDoorKeepFlat
import Derived.Test.YtlkmmejlnohjhaaGreatDoorKeepSame
import Derived.Test.YtlkmmejlnohjhaaGreatDoorDepPrint2
import Derived.Test.YtlkmmejlnohjhaaGreatDoorPrintsLaw
namespace Go.Proofs.YtlkmmejlnohjhaaGreatDoor
open Go.RowKit

theorem wholeS_len {L : List (List Tv)} (h : VP.askedP (tmL L) = true) : (wholeS L).size ≤ 200000 := by
  obtain ⟨hlen, hx⟩ := asked_sizes h
  have h1 := joinP_len [44, 32] 4000 ((L.map lineS).map (·.data.toList)) (fun y hy => by
    obtain ⟨s', hs', rfl⟩ := List.mem_map.1 hy
    obtain ⟨x, hx', rfl⟩ := List.mem_map.1 hs'
    obtain ⟨h2, h3⟩ := hx x hx'
    have := lineS_len h3
    omega)
  rw [← joinP_eq, wholeS_eq, List.length_map, List.length_map, ← size_eq_length] at h1
  simp at h1
  exact Nat.le_trans h1 (by omega)

/-- what is printed reads back -/
theorem back_calls (L : List (List Tv)) (w : World) (hE : Env w) (hS : EnvS w) (h : VP.askedP (tmL L) = true) (W : World) (hb : Below w.heap.size w W) :
    Calls Tryz.prog 18 #[.string (wholeS L)] W fun E W' => ∃ v, E = .returned (.tuple #[v, .nilIface]) ∧ AskedAt W' v L ∧ Below W.heap.size W W' := by
  have hT : VP.termsP (wholeS L).data.toList = .ok (tmL L) := VP.termsP_print ((VP.askedP_iff _).1 h)
  refine (terms_walk (wholeS L) W (hE.below hb) (hS.below hb) (wholeS_len h)).mono ?_
  rintro E W' ⟨hb', ⟨L', v, rfl, hL, hA, _⟩ | ⟨e, _, he, _⟩⟩
  · rw [hT] at hL
    injection hL with hL
    rw [tmL_inj hL]
    exact ⟨v, rfl, hA, hb'⟩
  · rw [hT] at he; cases he
theorem print_yes (v : Value) (L : List (List Tv)) (w : World) (hE : Env w) (hS : EnvS w) (hs : ∀ x ∈ L, ∀ t ∈ x, t.small) (h40 : ∀ x ∈ L, x.length ≤ 1000) (h : VP.askedP (tmL L) = true) (W : World) (hb : Below w.heap.size w W) (hA : AskedAt W v L) :
    Calls Tryz.prog 9 #[v] W fun E W' => E = .returned (.tuple #[.string (wholeS L), .nilIface]) ∧ Below W.heap.size W W' :=
  (printT_calls v L W (hE.below hb) (hS.below hb) hA hs h40).mono fun E W' ⟨he, hb'⟩ => ⟨by rw [he, h]; rfl, hb'⟩
theorem print_no (v : Value) (L : List (List Tv)) (w : World) (hE : Env w) (hS : EnvS w) (hs : ∀ x ∈ L, ∀ t ∈ x, t.small) (h40 : ∀ x ∈ L, x.length ≤ 1000) (h : VP.askedP (tmL L) = false) (W : World) (hb : Below w.heap.size w W) (hA : AskedAt W v L) :
    Calls Tryz.prog 9 #[v] W fun E W' => E = .returned (.tuple #[.string ⟨#[]⟩, .iface 26 (.int .i64 1)]) ∧ Below W.heap.size W W' :=
  (printT_calls v L W (hE.below hb) (hS.below hb) hA hs h40).mono fun E W' ⟨he, hb'⟩ => ⟨by rw [he, h]; rfl, hb'⟩
theorem few_read {l : List UInt8} {L : List (List Tv)} (h : VP.termsP l = .ok (tmL L)) : VP.askedP (tmL L) = true ∧ ∀ x ∈ L, x.length ≤ 1000 := by
  have ha := (VP.askedP_iff _).2 (VP.termsP_asked h)
  refine ⟨ha, fun x hx => ?_⟩
  have := ((asked_sizes ha).2 x hx).1
  omega

set_option maxHeartbeats 2000000 in
set_option maxRecDepth 100000 in
/-- the law's second half: what a text asks for -/
theorem backs_calls (v : Value) (L : List (List Tv)) (s : ByteArray) (w : World) (hE : Env w) (hS : EnvS w) (hA : AskedAt w v L) : Calls Tryz.prog 4 #[v, .string s] w (BoolIs true w) := by
  have T1 := Lib.hid (keepTerms_calls v L w hA)
  cases hb1 : termsB L with
  | false =>
    rw [hb1] at T1
    clear hb1 hE hS hA
    go_enter Tryz.func4, Tryz.ntmps4
    go_wp2_with fail
    refine T1.out.mono ?_
    rintro E w1 ⟨rfl, hB⟩
    go_wp2_with fail
    go_ret
    exact ⟨rfl, hB⟩
  | true =>
    have hsm := Lib.hid (small_of hA hb1)
    have hfew := Lib.hid (few_of hb1)
    rw [hb1] at T1
    clear hb1
    by_cases hs : 500 < s.size
    · clear hE hS hA
      go_enter Tryz.func4, Tryz.ntmps4
      go_wp2_with fail
      refine T1.out.mono ?_
      rintro E w1 ⟨rfl, hB⟩
      go_wp2_with fail
      go_ret
      exact ⟨rfl, hB⟩
    · have KA := Lib.hid (fun (W : World) (hb : Below w.heap.size w W) => asked_holds W (hE.below hb) (hS.below hb))
      have HA := Lib.hid hA
      have PY := Lib.hid (fun (h : VP.askedP (tmL L) = true) (W : World) (hb : Below w.heap.size w W) => print_yes v L w hE hS hsm.out hfew.out h W hb (hA.below hb))
      have PN := Lib.hid (fun (h : VP.askedP (tmL L) = false) (W : World) (hb : Below w.heap.size w W) => print_no v L w hE hS hsm.out hfew.out h W hb (hA.below hb))
      have BK := Lib.hid (fun (L : List (List Tv)) (h : VP.askedP (tmL L) = true) => back_calls L w hE hS h)
      have PQ := Lib.hid (fun (v : Value) (L : List (List Tv)) (hs : ∀ x ∈ L, ∀ t ∈ x, t.small) (h40 : ∀ x ∈ L, x.length ≤ 1000) (h : VP.askedP (tmL L) = true) => print_yes v L w hE hS hs h40 h)
      have TS := Lib.hid (fun (W : World) (hb : Below w.heap.size w W) => terms_walk s W (hE.below hb) (hS.below hb) (by omega))
      clear hE hS hA
      go_enter Tryz.func4, Tryz.ntmps4
      go_wp2_with fail
      refine T1.out.mono ?_
      rintro E w1 ⟨rfl, hB⟩
      go_wp2_with fail
      refine (KA.out _ hB).mono ?_
      rintro E w2 ⟨rfl, hb⟩
      replace hB := step_below hB hb
      clear hb
      cases hy : VP.askedP (tmL L) with
      | true =>
        have PY1 := Lib.hid (PY.out hy)
        have BK1 := Lib.hid (BK.out L hy)
        clear hy PN PY
        go_wp2_with fail
        refine (PY1.out _ hB).mono ?_
        rintro E w3 ⟨rfl, hb⟩
        replace hB := step_below hB hb
        clear hb
        go_wp2_with fail
        refine (BK1.out _ hB).mono ?_
        rintro E w4 ⟨v4, rfl, ha4, hb⟩
        replace hB := step_below hB hb
        have SA := Lib.hid (keepSame_calls v4 v L w4 ha4 (HA.out.below hB))
        clear hb ha4
        go_wp2_with fail
        refine SA.out.mono ?_
        rintro E w5 ⟨rfl, hb⟩
        replace hB := step_below hB hb
        clear hb
        go_wp2_with fail
        refine (TS.out _ hB).mono ?_
        rintro E w6 ⟨hb, ⟨L2, v6, rfl, hL2, ha6, hsm6⟩ | ⟨e, rfl, _, _⟩⟩
        · obtain ⟨hy2, hf2⟩ := few_read hL2
          have PQ1 := Lib.hid (PQ.out v6 L2 hsm6 hf2 hy2)
          have BK2 := Lib.hid (BK.out L2 hy2)
          have HA6 := Lib.hid ha6
          replace hB := step_below hB hb
          clear hb ha6 hL2 hsm6 hy2 hf2
          go_wp2_with fail
          refine (PQ1.out _ hB HA6.out).mono ?_
          rintro E w7 ⟨rfl, hb⟩
          replace hB := step_below hB hb
          have HA7 := Lib.hid (HA6.out.below hb)
          clear hb
          go_wp2_with fail
          refine (BK2.out _ hB).mono ?_
          rintro E w8 ⟨v8, rfl, ha8, hb⟩
          replace hB := step_below hB hb
          have SA8 := Lib.hid (keepSame_calls v8 v6 L2 w8 ha8 (HA7.out.below hb))
          clear hb ha8
          go_wp2_with fail
          refine SA8.out.mono ?_
          rintro E w9 ⟨rfl, hb⟩
          replace hB := step_below hB hb
          clear hb
          go_wp2_with fail
          go_ret
          exact ⟨rfl, hB⟩
        · replace hB := step_below hB hb
          clear hb
          go_wp2_with fail
          go_ret
          exact ⟨rfl, hB⟩
      | false =>
        have PN1 := Lib.hid (PN.out hy)
        clear hy PN PY
        go_wp2_with fail
        refine (PN1.out _ hB).mono ?_
        rintro E w3 ⟨rfl, hb⟩
        replace hB := step_below hB hb
        clear hb
        go_wp2_with fail
        refine (TS.out _ hB).mono ?_
        rintro E w6 ⟨hb, ⟨L2, v6, rfl, hL2, ha6, hsm6⟩ | ⟨e, rfl, _, _⟩⟩
        · obtain ⟨hy2, hf2⟩ := few_read hL2
          have PQ1 := Lib.hid (PQ.out v6 L2 hsm6 hf2 hy2)
          have BK2 := Lib.hid (BK.out L2 hy2)
          have HA6 := Lib.hid ha6
          replace hB := step_below hB hb
          clear hb ha6 hL2 hsm6 hy2 hf2
          go_wp2_with fail
          refine (PQ1.out _ hB HA6.out).mono ?_
          rintro E w7 ⟨rfl, hb⟩
          replace hB := step_below hB hb
          have HA7 := Lib.hid (HA6.out.below hb)
          clear hb
          go_wp2_with fail
          refine (BK2.out _ hB).mono ?_
          rintro E w8 ⟨v8, rfl, ha8, hb⟩
          replace hB := step_below hB hb
          have SA8 := Lib.hid (keepSame_calls v8 v6 L2 w8 ha8 (HA7.out.below hb))
          clear hb ha8
          go_wp2_with fail
          refine SA8.out.mono ?_
          rintro E w9 ⟨rfl, hb⟩
          replace hB := step_below hB hb
          clear hb
          go_wp2_with fail
          go_ret
          exact ⟨rfl, hB⟩
        · replace hB := step_below hB hb
          clear hb
          go_wp2_with fail
          go_ret
          exact ⟨rfl, hB⟩
end Go.Proofs.YtlkmmejlnohjhaaGreatDoor

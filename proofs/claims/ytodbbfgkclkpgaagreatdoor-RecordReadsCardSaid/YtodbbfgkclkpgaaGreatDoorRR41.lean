/- The reference's ReadFields: the walk. · record.Read, and the reference's ReadFields, of all fields. · law.flat, law.terms: is what is asked for short enough to be held. · law.sameTerms, law.sameAsked: of the same that was asked for they say so. -/
import Derived.Test.YtodbbfgkclkpgaaGreatDoorRR34
import Derived.Test.YtodbbfgkclkpgaaGreatDoorRR35
import Derived.Test.YtodbbfgkclkpgaaGreatDoorRR36
import Derived.Test.YtodbbfgkclkpgaaGreatDoorRR37
import Derived.Test.YtodbbfgkclkpgaaGreatDoorRR38
import Derived.Test.YtodbbfgkclkpgaaGreatDoorRR39
import Derived.Test.YtodbbfgkclkpgaaGreatDoorRR40
import Derived.Test.YtodbbfgkclkpgaaGreatDoorRR32
import Derived.Test.YtodbbfgkclkpgaaGreatDoorRR10
import Derived.Deep.QuietTactic
import Derived.BigQuiet
import Derived.Deep.RegionHeld3
namespace Go.Proofs.YtodbbfgkclkpgaaGreatDoor
open Go Go.RowKit

set_option maxHeartbeats 8000000 in
set_option maxRecDepth 100000 in
theorem refRead_main (lv : Value) (fs : List Fv) (w : World) (hE : Env w) (h : FieldsAt w lv fs) (hs : ∀ f ∈ fs, f.n.size ≤ 6000 ∧ f.v.size ≤ 6000) (hm : ((getB fs nPackage).isSome && (getB fs nVersion).isSome) = true) : Calls Tryz.prog 25 #[lv] w (RefReadIs fs w) := by
  cases hv : VP.parseP (sayF fs nVersion).data.toList with
  | none => exact refRead_v lv fs w hE h hs hv hm
  | some x =>
  have hvs : (VP.parseP (sayF fs nVersion).data.toList).isSome = true := by rw [hv]; rfl
  cases hx0 : readT (sayF fs nDepends) with
  | error e0 => exact refRead_e0 lv fs w hE h hs hvs  e0 hx0 hm
  | ok L0 =>
  cases hx1 : readT (sayF fs nPre) with
  | error e0 => exact refRead_e1 lv fs w hE h hs hvs L0 hx0 e0 hx1 hm
  | ok L1 =>
  cases hx2 : readS (sayF fs nConflicts) with
  | error e0 => exact refRead_e2 lv fs w hE h hs hvs L0 hx0 L1 hx1 e0 hx2 hm
  | ok L2 =>
  cases hx3 : readS (sayF fs nBreaks) with
  | error e0 => exact refRead_e3 lv fs w hE h hs hvs L0 hx0 L1 hx1 L2 hx2 e0 hx3 hm
  | ok L3 =>
  cases hx4 : readS (sayF fs nReplaces) with
  | error e0 => exact refRead_e4 lv fs w hE h hs hvs L0 hx0 L1 hx1 L2 hx2 L3 hx3 e0 hx4 hm
  | ok L4 =>
  cases hx5 : readS (sayF fs nProvides) with
  | error e0 => exact refRead_e5 lv fs w hE h hs hvs L0 hx0 L1 hx1 L2 hx2 L3 hx3 L4 hx4 e0 hx5 hm
  | ok L5 =>
  cases hA : linesOk fs nConffiles with
  | false => exact refRead_six_a lv fs w hE h hs hvs L0 hx0 L1 hx1 L2 hx2 L3 hx3 L4 hx4 L5 hx5 hA hm
  | true =>
  cases hB : linesOk fs nTriggers with
  | false => exact refRead_six_b lv fs w hE h hs hvs L0 hx0 L1 hx1 L2 hx2 L3 hx3 L4 hx4 L5 hx5 hA hB hm
  | true => exact refRead_six_c lv fs w hE h hs hvs L0 hx0 L1 hx1 L2 hx2 L3 hx3 L4 hx4 L5 hx5 hA hB hm
end Go.Proofs.YtodbbfgkclkpgaaGreatDoor

namespace Go.Proofs.YtodbbfgkclkpgaaGreatDoor
open Go Go.RowKit

set_option maxHeartbeats 4000000 in
set_option maxRecDepth 100000 in
theorem read_missing (v : Value) (fs : List Fv) (w : World) (h : FieldsAt w v fs) (hs : ∀ f ∈ fs, f.n.size ≤ 6000 ∧ f.v.size ≤ 6000) (hm : ((getB fs nPackage).isSome && (getB fs nVersion).isSome) = false) : Calls Tryz.prog 26 #[v] w (ReadIs fs w) := by
  have CG := Lib.hid (fun (n : ByteArray) (hn : n.size ≤ 1000) (W : World) (hb : Below w.heap.size w W) => (show Calls Tryz.prog 95 #[v, .string n] W (fun E W' => E = .returned (.tuple #[.string (sayF fs n), .bool (getB fs n).isSome]) ∧ Below W.heap.size W W') from get_calls v fs n W (h.below hb) (fun f hf => by have := (hs f hf).1; omega) (by omega)))
  obtain ⟨A0, n0, k0, rfl⟩ : ∃ A n c, v = .slice A n c := by obtain ⟨A, c, hv, _⟩ := h; exact ⟨A, _, c, hv⟩
  have HR := Lib.hid (rd_error (readP_missing hm))
  have C1 := Lib.hid (CG.out nPackage (by decide))
  have C2 := Lib.hid (CG.out nVersion (by decide))
  have LOW := Lib.hid (get_low fs)


  obtain ⟨a, ha⟩ : ∃ a, (getB fs nPackage).isSome = a := ⟨_, rfl⟩
  obtain ⟨b, hb⟩ : ∃ b, (getB fs nVersion).isSome = b := ⟨_, rfl⟩
  rw [ha] at C1 hm
  rw [hb] at C2 hm
  have R0 := RdSt.start w
  have hB0 := R0.w

  clear ha hb h hs CG
  go_enter Tryz.func26, Tryz.ntmps26
  go_wp2_with fail
  refine (C1.out _ hB0).mono ?_
  rintro E w1 ⟨rfl, hb⟩
  have R1 := R0.below hb
  have HB1 := Lib.hid R1.w

  clear hb hB0 R0 
  go_wp2_with fail
  refine (C2.out _ HB1.out).mono ?_
  rintro E w2 ⟨rfl, hb⟩
  have R2 := R1.below hb
  have HB2 := Lib.hid R2.w
  have fz := R2.z.frozen
  have z0 := (R2.z.cell (i := 0) rfl); have z1 := (R2.z.cell (i := 1) rfl); have z2 := (R2.z.cell (i := 2) rfl); have z3 := (R2.z.cell (i := 3) rfl); have z4 := (R2.z.cell (i := 4) rfl); have z5 := (R2.z.cell (i := 5) rfl); have z6 := (R2.z.cell (i := 6) rfl); have z7 := (R2.z.cell (i := 7) rfl); have z8 := (R2.z.cell (i := 8) rfl); have z9 := (R2.z.cell (i := 9) rfl); have z10 := (R2.z.cell (i := 10) rfl); have z11 := (R2.z.cell (i := 11) rfl); have z12 := (R2.z.cell (i := 12) rfl)

  have hlow : w.heap.size ≤ w.heap.size := by omega
  clear C1 C2 hb R1 R2 
  cases a <;> cases b <;> first | (cases hm; done) | (
    go_wp2_with fail
    refine bodyPost_ret (v := .tuple #[.agg zeros, .iface 32 (.int .i64 7)]) (by simp [results, zeros, Tryz.results26, go_sem, z0, z1, z2, z3, z4, z5, z6, z7, z8, z9, z10, z11, z12]) rfl ?_
    exact readIs_err (n := 7) HR.out (below_set13 HB2.out hlow _ _ _ _ _ _ _ _ _ _ _ _ _))

set_option maxHeartbeats 4000000 in
set_option maxRecDepth 100000 in
theorem refRead_missing (v : Value) (fs : List Fv) (w : World) (h : FieldsAt w v fs) (hs : ∀ f ∈ fs, f.n.size ≤ 6000 ∧ f.v.size ≤ 6000) (hm : ((getB fs nPackage).isSome && (getB fs nVersion).isSome) = false) : Calls Tryz.prog 25 #[v] w (RefReadIs fs w) := by
  have CG := Lib.hid (fun (n : ByteArray) (hn : n.size ≤ 1000) (W : World) (hb : Below w.heap.size w W) => (show Calls Tryz.prog 89 #[v, .string n] W (fun E W' => E = .returned (.tuple #[.string (sayF fs n), .bool (getB fs n).isSome]) ∧ Below W.heap.size W W') from refGet_calls v fs n W (h.below hb) (fun f hf => by have := (hs f hf).1; omega) (by omega)))
  obtain ⟨A0, n0, k0, rfl⟩ : ∃ A n c, v = .slice A n c := by obtain ⟨A, c, hv, _⟩ := h; exact ⟨A, _, c, hv⟩
  have HR := Lib.hid (rd_error (readP_missing hm))
  have C1 := Lib.hid (CG.out lPackage (by decide))
  have C2 := Lib.hid (CG.out lVersion (by decide))
  have LOW := Lib.hid (get_low fs)
  rw [LOW.out.1] at C1
  rw [LOW.out.2.1] at C2
  obtain ⟨a, ha⟩ : ∃ a, (getB fs nPackage).isSome = a := ⟨_, rfl⟩
  obtain ⟨b, hb⟩ : ∃ b, (getB fs nVersion).isSome = b := ⟨_, rfl⟩
  rw [ha] at C1 hm
  rw [hb] at C2 hm
  have R0 := RfSt.start w (.slice A0 n0 k0)
  have hB0 := R0.w
  have l0 := R0.l
  clear ha hb h hs CG
  go_enter Tryz.func25, Tryz.ntmps25
  go_wp2_with fail
  refine (C1.out _ hB0).mono ?_
  rintro E w1 ⟨rfl, hb⟩
  have R1 := R0.below hb
  have HB1 := Lib.hid R1.w
  have l1 := R1.l
  clear hb hB0 R0 l0
  go_wp2_with fail
  refine (C2.out _ HB1.out).mono ?_
  rintro E w2 ⟨rfl, hb⟩
  have R2 := R1.below hb
  have HB2 := Lib.hid R2.w
  have fz := R2.z.frozen
  have z0 := (R2.z.cell (i := 0) rfl); have z1 := (R2.z.cell (i := 1) rfl); have z2 := (R2.z.cell (i := 2) rfl); have z3 := (R2.z.cell (i := 3) rfl); have z4 := (R2.z.cell (i := 4) rfl); have z5 := (R2.z.cell (i := 5) rfl); have z6 := (R2.z.cell (i := 6) rfl); have z7 := (R2.z.cell (i := 7) rfl); have z8 := (R2.z.cell (i := 8) rfl); have z9 := (R2.z.cell (i := 9) rfl); have z10 := (R2.z.cell (i := 10) rfl); have z11 := (R2.z.cell (i := 11) rfl); have z12 := (R2.z.cell (i := 12) rfl)
  obtain ⟨o0, o1, o2, o3, o4, o5, o6, o7, o8, o9, o10, o11, o12⟩ := zero_box R2.n
  have hlow : w.heap.size ≤ w.heap.size + 1 := by omega
  clear C1 C2 hb R1 R2 l1
  cases a <;> cases b <;> first | (cases hm; done) | (
    go_wp2_with fail
    refine bodyPost_ret (v := .tuple #[.agg zeros, .int .i64 7]) (by simp [results, zeros, pack0, Tryz.results25, go_sem, z0, z1, z2, z3, z4, z5, z6, z7, z8, z9, z10, z11, z12]) rfl ?_
    exact refReadIs_err HR.out (below_set13 HB2.out hlow _ _ _ _ _ _ _ _ _ _ _ _ _))

theorem read_calls (v : Value) (fs : List Fv) (w : World) (hE : Env w) (hS : EnvS w) (h : FieldsAt w v fs) (hs : ∀ f ∈ fs, f.n.size ≤ 6000 ∧ f.v.size ≤ 6000) : Calls Tryz.prog 26 #[v] w (ReadIs fs w) := by
  cases hm : (getB fs nPackage).isSome && (getB fs nVersion).isSome with
  | false => exact read_missing v fs w h hs hm
  | true => exact read_main v fs w hE hS h hs hm
theorem refRead_calls (v : Value) (fs : List Fv) (w : World) (hE : Env w) (h : FieldsAt w v fs) (hs : ∀ f ∈ fs, f.n.size ≤ 6000 ∧ f.v.size ≤ 6000) : Calls Tryz.prog 25 #[v] w (RefReadIs fs w) := by
  cases hm : (getB fs nPackage).isSome && (getB fs nVersion).isSome with
  | false => exact refRead_missing v fs w h hs hm
  | true => exact refRead_main v fs w hE h hs hm
end Go.Proofs.YtodbbfgkclkpgaaGreatDoor

namespace Go.Proofs.YtodbbfgkclkpgaaGreatDoor
open Go.RowKit

set_option maxHeartbeats 1000000 in
set_option maxRecDepth 100000 in
theorem lawFlat_calls (v : Value) (ts : List Tv) (w : World) (h : TermsAt w v ts) : Calls Tryz.prog 51 #[v] w (BoolIs (flatB ts) w) := by
  obtain ⟨A, c, rfl, hc, hm, hr⟩ := h
  obtain ⟨len, hlen⟩ : ∃ len, ts.length = len := ⟨_, rfl⟩
  have HL := Lib.hid hlen
  rw [hlen] at hc hm ⊢
  clear hlen
  by_cases h40 : 40 < len
  · have F := Lib.hid (show flatB ts = false by unfold flatB; rw [HL.out]; simp; omega)
    clear hr
    go_enter Tryz.func51, Tryz.ntmps51
    go_wp2
    go_ret
    exact ⟨ret_bool F.out.symm, Below.refl _ _⟩
  · have F := Lib.hid (show flatB ts = ts.all flatT by unfold flatB; rw [HL.out, decide_eq_true (by omega)]; rfl)
    have HR := Lib.hid hr
    clear hr
    go_enter Tryz.func51, Tryz.ntmps51
    go_wp2_with fail
    go_loopw [3] (fun i wr => ∃ k : Nat, k ≤ len ∧ i = .int .i64 k ∧ Hid ((ts.take k).all flatT = true) ∧ Below w.heap.size w wr) (fun i _ => len - (intOf i).toNat)
    case atStart => exact ⟨0, Nat.zero_le _, rfl, rfl, Below.refl _ _⟩
    case round =>
      obtain ⟨k, hk, rfl, hall, hB⟩ := hrel
      by_cases hlt : k < len
      · have hne : ts ≠ [] := by
          intro e
          have := HL.out
          rw [e] at this
          simp at this
          omega
        obtain ⟨t, ht⟩ : ∃ t, ts[k]? = some t := ⟨ts[k]'(by have := HL.out; omega), List.getElem?_eq_getElem _⟩
        obtain ⟨b, off, rfl, hi⟩ := HR.out hne
        obtain ⟨hT0, hok⟩ := hi k t ht
        clear hi hne
        have hT := hT0.below hB
        obtain ⟨c0, c1, c2, c3, c4⟩ := hT
        have HT := Lib.hid ht
        clear ht hT0 hok
        by_cases hn : 60 < t.n.size
        · have HF := Lib.hid (show flatT t = false by unfold flatT; rw [decide_eq_false (by omega)]; rfl)
          go_wp2_with fail
          go_ret
          exact ⟨ret_bool (by rw [F.out, all_stop HT.out HF.out]), hB⟩
        · have HF := Lib.hid (show flatT t = shortB t.u t.r by unfold flatT; rw [decide_eq_true (by omega)]; rfl)
          go_wp2_with fail
          refine (lawShort_calls t.e t.u t.r _).mono ?_
          rintro E w1 ⟨rfl, hb⟩
          have hB := step_below hB hb
          clear hb c0 c1 c2 c3 c4
          have hs : shortB t.u t.r = true ∨ shortB t.u t.r = false := by cases shortB t.u t.r <;> simp
          rcases hs with hs | hs
          · have HS := Lib.hid hs
            rw [hs]
            clear hs
            go_wp2_with fail
            go_roundw
            case rel => exact ⟨k + 1, by omega, by go_num, Lib.hid (all_take_succ hall.out HT.out (by rw [HF.out, HS.out])), hB⟩
            case measure => simp [intOf]; omega
          · have HS := Lib.hid hs
            rw [hs]
            clear hs
            go_wp2_with fail
            go_ret
            exact ⟨ret_bool (by rw [F.out, all_stop HT.out (by rw [HF.out, HS.out])]), hB⟩
      · obtain rfl : k = len := by omega
        go_wp2_with fail
        go_ret
        exact ⟨ret_bool (by rw [F.out]; have := hall.out; rw [← HL.out] at this; exact (all_done this).symm), hB⟩

set_option maxHeartbeats 1000000 in
set_option maxRecDepth 100000 in
theorem lawTerms_calls (v : Value) (L : List (List Tv)) (w : World) (h : AskedAt w v L) : Calls Tryz.prog 50 #[v] w (BoolIs (termsB L) w) := by
  obtain ⟨A, c, rfl, hc, hm, hr⟩ := h
  obtain ⟨len, hlen⟩ : ∃ len, L.length = len := ⟨_, rfl⟩
  have HL := Lib.hid hlen
  rw [hlen] at hc hm ⊢
  clear hlen
  by_cases h40 : 40 < len
  · have F := Lib.hid (show termsB L = false by unfold termsB; rw [HL.out]; simp; omega)
    clear hr
    go_enter Tryz.func50, Tryz.ntmps50
    go_wp2
    go_ret
    exact ⟨ret_bool F.out.symm, Below.refl _ _⟩
  · have F := Lib.hid (show termsB L = L.all flatB by unfold termsB; rw [HL.out, decide_eq_true (by omega)]; rfl)
    have HR := Lib.hid hr
    clear hr
    go_enter Tryz.func50, Tryz.ntmps50
    go_wp2_with fail
    go_loopw [3] (fun i wr => ∃ k : Nat, k ≤ len ∧ i = .int .i64 k ∧ Hid ((L.take k).all flatB = true) ∧ Below w.heap.size w wr) (fun i _ => len - (intOf i).toNat)
    case atStart => exact ⟨0, Nat.zero_le _, rfl, rfl, Below.refl _ _⟩
    case round =>
      obtain ⟨k, hk, rfl, hall, hB⟩ := hrel
      by_cases hlt : k < len
      · have hne : L ≠ [] := by
          intro e
          have := HL.out
          rw [e] at this
          simp at this
          omega
        obtain ⟨x, hx⟩ : ∃ x, L[k]? = some x := ⟨L[k]'(by have := HL.out; omega), List.getElem?_eq_getElem _⟩
        obtain ⟨b, off, rfl, hi⟩ := HR.out hne
        obtain ⟨vx, hc0, hT⟩ := hi k x hx
        clear hi hne
        have hT1 := Lib.hid (hT.below hB)
        have c0 := kept hB hc0
        have HT := Lib.hid hx
        clear hx hc0 hT
        go_wp2_with fail
        refine (lawFlat_calls vx x _ hT1.out).mono ?_
        rintro E w1 ⟨rfl, hb⟩
        have hB := step_below hB hb
        clear hb c0
        have hs : flatB x = true ∨ flatB x = false := by cases flatB x <;> simp
        rcases hs with hs | hs
        · have HS := Lib.hid hs
          rw [hs]
          clear hs
          go_wp2_with fail
          go_roundw
          case rel => exact ⟨k + 1, by omega, by go_num, Lib.hid (all_take_succ hall.out HT.out HS.out), hB⟩
          case measure => simp [intOf]; omega
        · have HS := Lib.hid hs
          rw [hs]
          clear hs
          go_wp2_with fail
          go_ret
          exact ⟨ret_bool (by rw [F.out, all_stop HT.out HS.out]), hB⟩
      · obtain rfl : k = len := by omega
        go_wp2_with fail
        go_ret
        exact ⟨ret_bool (by rw [F.out]; have := hall.out; rw [← HL.out] at this; exact (all_done this).symm), hB⟩
end Go.Proofs.YtodbbfgkclkpgaaGreatDoor

namespace Go.Proofs.YtodbbfgkclkpgaaGreatDoor
open Go.RowKit

set_option maxHeartbeats 1000000 in
set_option maxRecDepth 100000 in
theorem lawSameTerms_calls (v1 v2 : Value) (ts : List Tv) (w : World) (h1 : TermsAt w v1 ts) (h2 : TermsAt w v2 ts) : Calls Tryz.prog 101 #[v1, v2] w (BoolIs true w) := by
  obtain ⟨A1, c1, rfl, hc1, hm, hr1⟩ := h1
  obtain ⟨A2, c2, rfl, hc2, _, hr2⟩ := h2
  obtain ⟨len, hlen⟩ : ∃ len, ts.length = len := ⟨_, rfl⟩
  have HL := Lib.hid hlen
  have HR1 := Lib.hid hr1
  have HR2 := Lib.hid hr2
  rw [hlen] at hc1 hc2 hm ⊢
  clear hlen hr1 hr2
  have hne0 : ((len : Int) == (len : Int)) = true := by simp
  go_enter Tryz.func101, Tryz.ntmps101
  go_wp2_with fail
  go_loopw [5] (fun i wr => ∃ k : Nat, k ≤ len ∧ i = .int .i64 k ∧ Below w.heap.size w wr) (fun i _ => len - (intOf i).toNat)
  case atStart => exact ⟨0, Nat.zero_le _, rfl, Below.refl _ _⟩
  case round =>
    obtain ⟨k, hk, rfl, hB⟩ := hrel
    by_cases hlt : k < len
    · have hne : ts ≠ [] := by
        intro e
        have := HL.out
        rw [e] at this
        simp at this
        omega
      obtain ⟨t, ht⟩ : ∃ t, ts[k]? = some t := ⟨ts[k]'(by have := HL.out; omega), List.getElem?_eq_getElem _⟩
      obtain ⟨b1, off1, rfl, hi1⟩ := HR1.out hne
      obtain ⟨b2, off2, rfl, hi2⟩ := HR2.out hne
      have hT1 := (hi1 k t ht).1.below hB
      have hT2 := (hi2 k t ht).1.below hB
      clear hi1 hi2 hne ht
      obtain ⟨n, op, e, u, r⟩ := t
      obtain ⟨c0, c1', c2', c3, c4⟩ := hT1
      obtain ⟨d0, d1, d2, d3, d4⟩ := hT2
      dsimp only at c0 c1' c2' c3 c4 d0 d1 d2 d3 d4
      have hk0 : (0 : Int) ≤ (k : Int) := by omega
      have hk1 : (k : Int) < (len : Int) := by omega
      go_wp2_with fail
      go_quiet (fail)
      all_goals
        go_wp2_with fail
        go_roundw
        case rel => exact ⟨k + 1, by omega, by go_num, hB.trans (below_drewN _ _ _)⟩
        case measure => simp [intOf]; omega
    · obtain rfl : k = len := by omega
      go_wp2_with fail
      go_ret
      exact ⟨rfl, hB⟩

theorem two_go {w0 W W' : World} {p q : Addr} {x1 x2 : Value} (h : W.cell? p = some x1 ∧ W.cell? q = some x2 ∧ Below w0.heap.size w0 W) (hb : Below W.heap.size W W') : W'.cell? p = some x1 ∧ W'.cell? q = some x2 ∧ Below w0.heap.size w0 W' :=
  ⟨kept hb h.1, kept hb h.2.1, step_below h.2.2 hb⟩
theorem two_below {w0 W : World} {p q : Addr} {x1 x2 : Value} (h : W.cell? p = some x1 ∧ W.cell? q = some x2 ∧ Below w0.heap.size w0 W) : Below w0.heap.size w0 W := h.2.2

set_option maxHeartbeats 1000000 in
set_option maxRecDepth 100000 in
theorem lawSameAsked_calls (v1 v2 : Value) (L : List (List Tv)) (w : World) (h1 : AskedAt w v1 L) (h2 : AskedAt w v2 L) : Calls Tryz.prog 100 #[v1, v2] w (BoolIs true w) := by
  obtain ⟨A1, c1, rfl, hc1, hm, hr1⟩ := h1
  obtain ⟨A2, c2, rfl, hc2, _, hr2⟩ := h2
  obtain ⟨len, hlen⟩ : ∃ len, L.length = len := ⟨_, rfl⟩
  have HL := Lib.hid hlen
  have HR1 := Lib.hid hr1
  have HR2 := Lib.hid hr2
  rw [hlen] at hc1 hc2 hm ⊢
  clear hlen hr1 hr2
  have hne0 : ((len : Int) == (len : Int)) = true := by simp
  go_enter Tryz.func100, Tryz.ntmps100
  go_wp2_with fail
  go_loopw [5] (fun i wr => ∃ k : Nat, k ≤ len ∧ i = .int .i64 k ∧ Below w.heap.size w wr) (fun i _ => len - (intOf i).toNat)
  case atStart => exact ⟨0, Nat.zero_le _, rfl, Below.refl _ _⟩
  case round =>
    obtain ⟨k, hk, rfl, hB⟩ := hrel
    by_cases hlt : k < len
    · have hne : L ≠ [] := by
        intro e
        have := HL.out
        rw [e] at this
        simp at this
        omega
      obtain ⟨x, hx⟩ : ∃ x, L[k]? = some x := ⟨L[k]'(by have := HL.out; omega), List.getElem?_eq_getElem _⟩
      obtain ⟨b1, off1, rfl, hi1⟩ := HR1.out hne
      obtain ⟨b2, off2, rfl, hi2⟩ := HR2.out hne
      obtain ⟨x1, hc1', hT1⟩ := hi1 k x hx
      obtain ⟨x2, hc2', hT2⟩ := hi2 k x hx
      have e1 := kept hB hc1'
      have e2 := kept hB hc2'
      have HT1 := Lib.hid (hT1.below hB)
      have HT2 := Lib.hid (hT2.below hB)
      clear hi1 hi2 hne hx hc1' hc2' hT1 hT2
      have hk0 : (0 : Int) ≤ (k : Int) := by omega
      have hk1 : (k : Int) < (len : Int) := by omega
      have hS : wr.cell? ⟨b1, off1 + k, none⟩ = some x1 ∧ wr.cell? ⟨b2, off2 + k, none⟩ = some x2 ∧ Below wr.heap.size wr wr := ⟨e1, e2, Below.refl _ _⟩
      go_wp2_with fail
      go_region_held3 (fun W => W.cell? ⟨b1, off1 + k, none⟩ = some x1 ∧ W.cell? ⟨b2, off2 + k, none⟩ = some x2 ∧ Below wr.heap.size wr W)
        ((first | assumption | exact two_go (by assumption) hb | exact two_go hS (below_drew _) | exact two_go (by assumption) (below_drew _)))
        (first | (go_at_call 101; (with_reducible refine (lawSameTerms_calls x1 x2 x _ ?_ ?_).mono ?_); (exact HT1.out.below (two_below (by assumption))); (exact HT2.out.below (two_below (by assumption))); rintro E w' ⟨rfl, hb⟩))
      all_goals
        go_wp2_with fail
        go_roundw
        case rel => exact ⟨k + 1, by omega, by go_num, step_below hB (two_below (by assumption))⟩
        case measure => simp [intOf]; omega
    · obtain rfl : k = len := by omega
      go_wp2_with fail
      go_ret
      exact ⟨rfl, hB⟩
end Go.Proofs.YtodbbfgkclkpgaaGreatDoor

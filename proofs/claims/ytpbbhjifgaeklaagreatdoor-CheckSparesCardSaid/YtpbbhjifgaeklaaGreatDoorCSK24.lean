/- order.walker.visit: the walk. -/
import Derived.Test.YtpbbhjifgaeklaaGreatDoorCSK18
import Derived.BigRegion
import Derived.Deep.QuietTactic
import Derived.BigQuiet
namespace Go.Proofs.YtpbbhjifgaeklaaGreatDoor
open Go Go.RowKit
open TJ (EdgeN hasN Tj Inv g0 visitT zeros srt startT endT ixN lowT)

/-- what visit leaves -/
def VDone (B wb ba bl bo n : Nat) (t : Tj) (w : World) (E : Ending) (w' : World) : Prop :=
  E = .returned (.tuple #[]) ∧ (∃ vop vs vals, Wk B wb ba bl bo n w' vop vs vals t) ∧ WkKeep B wb ba bl w w'
/-- the walker as it stands -/
def WkS (B wb ba bl bo n : Nat) (t : Tj) (w0 w : World) : Prop := (∃ vop vs vals, Wk B wb ba bl bo n w vop vs vals t) ∧ WkKeep B wb ba bl w0 w

/-- the contract, at so much fuel -/
def VisitOk (B wb ba bl bo n : Nat) (out : Nat → List Nat) (f : Nat) : Prop :=
  ∀ (v : Nat) (st : Tj) (vop vs : Value) (vals : List Value) (w : World), Wk B wb ba bl bo n w vop vs vals st → Inv n out st → v < n → g0 st.nums v = 0 → zeros n st ≤ f → OutAt B wb ba bl bo n w out → B ≤ w.heap.size →
      Calls Tryz.prog 230 #[.pointer (some ⟨wb, 0, none⟩), .int .i64 v] w (VDone B wb ba bl bo n (visitT out f v st) w)

set_option maxHeartbeats 8000000 in
set_option maxRecDepth 100000 in
theorem visit_step {B wb ba bl bo n f : Nat} {out : Nat → List Nat} (ho : ∀ a b, b ∈ out a → b < n) (hn : n ≤ 40) (hwb : wb < B) (hba : ba < B) (hbl : bl < B) (hbo : bo < B) (d1 : wb ≠ ba) (d2 : wb ≠ bl) (d3 : ba ≠ bl) (o1 : bo ≠ wb) (o2 : bo ≠ ba) (o3 : bo ≠ bl) (IH : VisitOk B wb ba bl bo n out f)
    (v : Nat) (st : Tj) (vop vs : Value) (vals : List Value) (w : World) (h : Wk B wb ba bl bo n w vop vs vals st) (hI : Inv n out st) (hv : v < n) (hv00 : g0 st.nums v = 0) (hz : zeros n st ≤ f + 1) (hO : OutAt B wb ba bl bo n w out) (hB : B ≤ w.heap.size) :
      Calls Tryz.prog 230 #[.pointer (some ⟨wb, 0, none⟩), .int .i64 v] w (VDone B wb ba bl bo n (visitT out (f + 1) v st) w) := by
    have c4 : w.cell? ⟨wb, 4, none⟩ = some (.int .i64 st.count) := h.wk.cell rfl
    have fz := h.wk.frozen
    have hcz := hI.cz
    have hzp := TJ.zeros_pos (n := n) (s := st) hv hv00
    have hla := hI.la
    have hll := hI.ll
    have hcnt : ¬ (9223372036854775807 : Int) < st.count + 1 := by omega
    have K1 : Blk 262 (w.setCell ⟨wb, 4, none⟩ (.int .i64 (st.count + 1))) wb #[.slice (some ⟨bo, 0, none⟩) n n, .slice (some ⟨ba, 0, none⟩) n n, .slice (some ⟨bl, 0, none⟩) n n, vop, .int .i64 (st.count + 1), vs] := h.wk.set 4 _
    have K2 := h.nu.other d1 (i := 4) (v := .int .i64 (st.count + 1))
    have K3 := h.lo.other d2 (i := 4) (v := .int .i64 (st.count + 1))
    have HS := h.start (v := v) hwb hba hbl d1 d2 d3
    obtain ⟨W1, hW1⟩ : ∃ W, w.setCell ⟨wb, 4, none⟩ (.int .i64 (st.count + 1)) = W := ⟨_, rfl⟩
    rw [hW1] at K1 K2 K3 HS
    obtain ⟨W2, hW2⟩ : ∃ W, ((W1.setCell ⟨ba, v, none⟩ (.int .i64 (st.count + 1))).setCell ⟨bl, v, none⟩ (.int .i64 (st.count + 1))).drew = W := ⟨_, rfl⟩
    rw [hW2] at HS
    have k1 : W1.cell? ⟨wb, 1, none⟩ = some (.slice (some ⟨ba, 0, none⟩) n n) := K1.cell rfl
    have k2 : W1.cell? ⟨wb, 2, none⟩ = some (.slice (some ⟨bl, 0, none⟩) n n) := K1.cell rfl
    have k4 : W1.cell? ⟨wb, 4, none⟩ = some (.int .i64 (st.count + 1)) := K1.cell rfl
    have a1 := K2.cell (natA_at (g0_at (l := st.nums) (i := v) (by omega)))
    have a2 := K3.cell (natA_at (g0_at (l := st.low) (i := v) (by omega)))
    have f1 := K1.frozen
    have f2 := K2.frozen
    have f3 := K3.frozen
    have hv1 : (v : Int) < n := by omega
    have hv0 : (0 : Int) ≤ v := by omega
    have HI := Lib.hid hI
    have HZ := Lib.hid hz
    have HO := Lib.hid hO
    have HB := Lib.hid hB
    have H2 := Lib.hid HS
    have HW2 := Lib.hid hW2
    have H0 := Lib.hid hv00
    have IH := Lib.hid IH
    have HOO := Lib.hid ho
    clear h K1 K2 K3 HS hI hz hO hB hW2 hv00 ho hcz hzp hla hll
    go_enter Tryz.func230, Tryz.ntmps230
    go_upto_region 1 with fail
    clear hW1 c4 fz
    go_region
    clear k1 k2 k4 a1 a2 f1 f2 f3
    rw [HW2.out]
    have OWN2 := Lib.hid (show W2.ownsRow B 3 1 vop st.opn.length (st.opn.flatMap natC) from H2.out.1.op)
    have hB2 : B ≤ W2.heap.size := Nat.le_trans HB.out H2.out.2.size
    have hol := inv_len HI.out
    have c3 : W2.cell? ⟨wb, 3, none⟩ = some vop := H2.out.1.wk.cell rfl
    have HB2 := Lib.hid hB2
    go_upto_region 3 with (at_builtin; obtain ⟨i0, hi, hz0, hz1, hz2⟩ := info_parts info_int; refine wpList_append_own_at _ rfl _ _ 40 rfl B 3 i0 (.int .i64 0) 1 8 Tryz.underlying40 hi hz0 hz1 hz2 rfl (by decide) _ _ _ rfl (OWN2.out.alloc _) ⟨W2.heap.size, 0, none⟩ 1 1 [.int .i64 v] rfl rfl (cell_one_new _ _ _) (by simp [Value.oneCell']) (by simp only [maxLen]; omega) (by omega) (by simp; omega) ?_; clear hi hz0 hz1 hz2; intro v5 w3 hown3 hgrow hnil hloc; obtain ⟨A5, cc5, rfl, _, _⟩ := own_sl hown3; have hb3 := H2.out.1.blk3 hwb HB2.out (fun g e => (row_lt H2.out.1.op e).1) hgrow; have fz3 := hb3.frozen; clear c3; have c3 := hb3.cell (i := 3) rfl; clear hb3)
    have HP := H2.out.1.push hwb hba hbl d1 d2 hB2 hown3 hgrow hloc
    have HS4 : WkS B wb ba bl bo n (startT v st) w (w3.setCell ⟨wb, 3, none⟩ (.slice A5 (st.opn.length + 1) cc5)) := ⟨⟨_, _, _, HP.1⟩, H2.out.2.trans HP.2⟩
    obtain ⟨W4, hW4⟩ : ∃ W, w3.setCell ⟨wb, 3, none⟩ (.slice A5 (st.opn.length + 1) cc5) = W := ⟨_, rfl⟩
    rw [hW4] at HS4 ⊢
    obtain ⟨vi, hcv, hnl⟩ := HO.out v hv
    have hcv4 := HS4.2.cell (a := ⟨bo, v, none⟩) hbo o1 o2 o3 hcv
    obtain ⟨vop4, vs4, vals4, hwk4⟩ := HS4.1
    have c0 : W4.cell? ⟨wb, 0, none⟩ = some (.slice (some ⟨bo, 0, none⟩) n n) := hwk4.wk.cell rfl
    obtain ⟨A6, c6, rfl, hc6, hm6, hr6⟩ := hnl.1.open
    obtain ⟨len, hlen⟩ : ∃ len, (out v).length = len := ⟨_, rfl⟩
    have HL := Lib.hid hlen
    have HN := Lib.hid hnl
    have HR := Lib.hid hr6
    rw [hlen] at hc6 hm6 hcv4
    have HLp := Lib.hid (TJ.start_loop HI.out hv H0.out)
    have HS := Lib.hid HS4
    clear HP hown3 hgrow hnil hloc hW4 hwk4 hnl hr6 hlen HS4 hcv fz3 c3 hB2 hol OWN2
    go_wp2_with fail
    go_loopw [53] (fun i wr => ∃ k : Nat, k ≤ len ∧ i = .int .i64 k ∧ Hid (WkS B wb ba bl bo n (((out v).take k).foldl (TJ.stepT (visitT out f) v) (startT v st)) w wr) ∧ Hid (TJ.Loop n out v st ((out v).take k) (((out v).take k).foldl (TJ.stepT (visitT out f) v) (startT v st)))) (fun i _ => len - (intOf i).toNat)
    case atStart => exact ⟨0, Nat.zero_le _, rfl, HS, HLp⟩
    case round =>
      obtain ⟨k, hk, rfl, hws, hlp⟩ := hrel
      by_cases hlt : k < len
      · obtain ⟨u, hu⟩ : ∃ u, (out v)[k]? = some u := ⟨(out v)[k]'(by have := HL.out; omega), List.getElem?_eq_getElem _⟩
        have hun : u < n := HOO.out v u (List.mem_of_getElem? hu)
        obtain ⟨⟨vop1, vs1, vals1, hwk⟩, hkp⟩ := hws.out
        have hne : out v ≠ [] := fun e => by rw [e] at hu; simp at hu
        obtain ⟨b6, off6, rfl, hi6⟩ := HR.out hne
        obtain ⟨q0, q1, q2, q3⟩ := HN.out.2 hne b6 off6 _ _ rfl
        have cu := hkp.cell (a := ⟨b6, off6 + k, none⟩) q0 q1 q2 q3 (hi6 k u hu)
        have hst : ((out v).take (k + 1)).foldl (TJ.stepT (visitT out f) v) (startT v st) = TJ.stepT (visitT out f) v (((out v).take k).foldl (TJ.stepT (visitT out f) v) (startT v st)) u := by
          rw [List.take_add_one, hu, List.foldl_append]
          rfl
        have htk : (out v).take (k + 1) = (out v).take k ++ [u] := by rw [List.take_add_one, hu]; rfl
        obtain ⟨S, hS⟩ : ∃ S, ((out v).take k).foldl (TJ.stepT (visitT out f) v) (startT v st) = S := ⟨_, rfl⟩
        rw [hS] at hwk hlp hst
        have hzS : zeros n S ≤ f := by
          have h1 := TJ.zeros_lt (n := n) hlp.out.keeps hv H0.out (by rw [hlp.out.num]; omega)
          have h2 := HZ.out
          omega
        have hL1 := TJ.step_loop HI.out H0.out hv hun hlp.out (fun x t a b c d => TJ.visit_post HOO.out f x t a b c d) hzS
        rw [← htk] at hL1
        have HL1 := Lib.hid hL1
        have HST := Lib.hid hst
        have g1 : wr.cell? ⟨wb, 1, none⟩ = some (.slice (some ⟨ba, 0, none⟩) n n) := hwk.wk.cell rfl
        have g2 := hwk.nu.cell (natA_at (g0_at (l := S.nums) (i := u) (by have := hlp.out.inv.la; omega)))
        have hun1 : (u : Int) < n := by omega
        have hun0 : (0 : Int) ≤ u := by omega
        have HWK := Lib.hid hwk
        have HKP := Lib.hid hkp
        have HZS := Lib.hid hzS
        clear hu hwk hkp hne hi6 q0 q1 q2 q3 hst htk hS hzS hL1 hws
        by_cases h0 : g0 S.nums u = 0
        · have t0 : ((g0 S.nums u : Int) == 0) = true := by simp [h0]
          have CI := Lib.hid (IH.out u S vop1 vs1 vals1 wr HWK.out hlp.out.inv hun h0 HZS.out (HO.out.keep hbo o1 o2 o3 HKP.out) (Nat.le_trans HB.out HKP.out.size))
          have hP := TJ.visit_post HOO.out f u S hlp.out.inv hun h0 HZS.out
          have hse : TJ.stepT (visitT out f) v S u = lowT v (g0 (visitT out f u S).low u) (visitT out f u S) := by unfold TJ.stepT; rw [if_pos h0]
          obtain ⟨T, hT⟩ : ∃ T, visitT out f u S = T := ⟨_, rfl⟩
          rw [hT] at hP hse CI
          have HSE := Lib.hid hse
          have HP := Lib.hid hP
          clear h0 hP hse hT
          go_wp2_with fail
          refine CI.out.mono ?_
          rintro E w5 ⟨rfl, ⟨vop5, vs5, vals5, hwk5⟩, hkp5⟩
          have r2 : w5.cell? ⟨wb, 2, none⟩ = some (.slice (some ⟨bl, 0, none⟩) n n) := hwk5.wk.cell rfl
          have r3 := hwk5.lo.cell (natA_at (g0_at (l := T.low) (i := v) (by have := HP.out.inv.ll; omega)))
          have r4 := hwk5.lo.cell (natA_at (g0_at (l := T.low) (i := u) (by have := HP.out.inv.ll; omega)))
          have fl := hwk5.lo.frozen
          have HWK5 := Lib.hid hwk5
          have HKP5 := Lib.hid hkp5
          clear hwk5 hkp5 g1 g2 cu t0 CI
          go_upto_region 8 with fail
          go_region
          clear r2 r3 r4 fl
          have em : min ((g0 T.low v : Nat) : Int) ((g0 T.low u : Nat) : Int) = ((min (g0 T.low v) (g0 T.low u) : Nat) : Int) := by omega
          have HSET := HWK5.out.set (v := v) (x := min (g0 T.low v) (g0 T.low u)) hwb hba hbl d2 d3
          rw [← em] at HSET
          obtain ⟨W6, hW6⟩ : ∃ W, (w5.setCell ⟨bl, v, none⟩ (.int .i64 (min ((g0 T.low v : Nat) : Int) ((g0 T.low u : Nat) : Int)))).drew = W := ⟨_, rfl⟩
          rw [hW6] at HSET ⊢
          have HS6 := Lib.hid (show WkS B wb ba bl bo n (lowT v (g0 T.low u) T) w W6 from ⟨⟨_, _, _, HSET.1⟩, (HKP.out.trans HKP5.out).trans HSET.2⟩)
          clear em HSET hW6
          go_wp2_with fail
          go_roundw
          case rel => exact ⟨k + 1, by omega, by go_num, Lib.hid (by rw [HST.out, HSE.out]; exact HS6.out), Lib.hid (by rw [HST.out]; exact HL1.out)⟩
          case measure => simp [intOf]; omega
        · have t0 : ((g0 S.nums u : Int) == 0) = false := by simp [h0]
          obtain ⟨A7, c7, rfl, _, _⟩ := own_sl HWK.out.op
          have r0 : wr.cell? ⟨wb, 3, none⟩ = some (.slice A7 S.opn.length c7) := HWK.out.wk.cell rfl
          have hol := inv_len hlp.out.inv
          have hop := row_nats HWK.out.op rfl (by omega)
          have CC := Lib.hid (natHas_calls _ S.opn u wr hop)
          obtain ⟨pb, hpb⟩ : ∃ pb, hasN S.opn u = pb := ⟨_, rfl⟩
          rw [hpb] at CC
          obtain ⟨ol, hol2⟩ : ∃ ol, S.opn.length = ol := ⟨_, rfl⟩
          rw [hol2] at CC r0
          cases pb with
          | true =>
            have hse : TJ.stepT (visitT out f) v S u = lowT v (g0 S.nums u) S := by unfold TJ.stepT; rw [if_neg h0, if_pos hpb]
            have r2 : wr.cell? ⟨wb, 2, none⟩ = some (.slice (some ⟨bl, 0, none⟩) n n) := HWK.out.wk.cell rfl
            have r3 := HWK.out.lo.cell (natA_at (g0_at (l := S.low) (i := v) (by have := hlp.out.inv.ll; omega)))
            have fl := HWK.out.lo.frozen
            have HSE := Lib.hid hse
            clear h0 hse hop hol hol2 hpb
            go_wp2_with fail
            refine CC.out.mono ?_
            rintro E w5 ⟨rfl, rfl⟩
            clear r0 CC cu
            go_upto_region 10 with fail
            go_region
            clear r2 r3 fl g1 g2 t0
            have em : min ((g0 S.low v : Nat) : Int) ((g0 S.nums u : Nat) : Int) = ((min (g0 S.low v) (g0 S.nums u) : Nat) : Int) := by omega
            have HSET := HWK.out.set (v := v) (x := min (g0 S.low v) (g0 S.nums u)) hwb hba hbl d2 d3
            rw [← em] at HSET
            obtain ⟨W6, hW6⟩ : ∃ W, (wr.setCell ⟨bl, v, none⟩ (.int .i64 (min ((g0 S.low v : Nat) : Int) ((g0 S.nums u : Nat) : Int)))).drew = W := ⟨_, rfl⟩
            rw [hW6] at HSET ⊢
            have HS6 := Lib.hid (show WkS B wb ba bl bo n (lowT v (g0 S.nums u) S) w W6 from ⟨⟨_, _, _, HSET.1⟩, HKP.out.trans HSET.2⟩)
            clear em HSET hW6
            go_wp2_with fail
            go_roundw
            case rel => exact ⟨k + 1, by omega, by go_num, Lib.hid (by rw [HST.out, HSE.out]; exact HS6.out), Lib.hid (by rw [HST.out]; exact HL1.out)⟩
            case measure => simp [intOf]; omega
          | false =>
            have hse : TJ.stepT (visitT out f) v S u = S := by unfold TJ.stepT; rw [if_neg h0, if_neg (by rw [hpb]; decide)]
            have HSE := Lib.hid hse
            have HS6 := Lib.hid (show WkS B wb ba bl bo n S w wr from ⟨⟨_, _, _, HWK.out⟩, HKP.out⟩)
            clear h0 hse hop hol hol2 hpb
            go_wp2_with fail
            refine CC.out.mono ?_
            rintro E w5 ⟨rfl, rfl⟩
            clear r0 CC cu
            go_wp2_with fail
            go_roundw
            case rel => exact ⟨k + 1, by omega, by go_num, Lib.hid (by rw [HST.out, HSE.out]; exact HS6.out), Lib.hid (by rw [HST.out]; exact HL1.out)⟩
            case measure => simp [intOf]; omega
      · obtain rfl : k = len := by omega
        have hall : (out v).take k = out v := List.take_of_length_le (by have := HL.out; omega)
        rw [hall] at hws hlp
        obtain ⟨S, hS⟩ : ∃ S, (out v).foldl (TJ.stepT (visitT out f) v) (startT v st) = S := ⟨_, rfl⟩
        rw [hS] at hws hlp
        have F := Lib.hid (show visitT out (f + 1) v st = endT v S from by rw [← hS]; rfl)
        obtain ⟨⟨vop1, vs1, vals1, hwk⟩, hkp⟩ := hws.out
        have g1 : wr.cell? ⟨wb, 1, none⟩ = some (.slice (some ⟨ba, 0, none⟩) n n) := hwk.wk.cell rfl
        have g2 : wr.cell? ⟨wb, 2, none⟩ = some (.slice (some ⟨bl, 0, none⟩) n n) := hwk.wk.cell rfl
        have g3 := hwk.nu.cell (natA_at (g0_at (l := S.nums) (i := v) (by have := hlp.out.inv.la; omega)))
        have g4 := hwk.lo.cell (natA_at (g0_at (l := S.low) (i := v) (by have := hlp.out.inv.ll; omega)))
        have HWK := Lib.hid hwk
        have HKP := Lib.hid hkp
        clear hall hS hwk hkp hws HN HR HS HLp hcv4 hc6 hm6 c0
        by_cases hl : g0 S.low v < g0 S.nums v
        · have hl2 : (g0 S.low v : Int) < g0 S.nums v := by omega
          have HE := Lib.hid (show endT v S = S from if_pos hl)
          clear hl
          go_upto_region 12 with fail
          go_quiet (fail)
          go_wp2_with fail
          refine bodyPost_ret (results_none rfl _ _ _) rfl ?_
          exact ⟨rfl, by rw [F.out, HE.out]; exact ⟨_, _, _, HWK.out.grow fun _ _ => rfl⟩, HKP.out.trans (wkKeep_drewN nq)⟩
        · have hl2 : ¬ ((g0 S.low v : Int) < g0 S.nums v) := by omega
          have hE : endT v S = { S with sets := S.sets ++ [srt (S.opn.drop (ixN v S.opn))], opn := S.opn.take (ixN v S.opn) } := if_neg hl
          obtain ⟨R, hR, _⟩ := hlp.out.opn
          have hvno : v ∉ st.opn := fun e => (HI.out.vis v hv).2 (.inl e) H0.out
          have hix : ixN v S.opn = st.opn.length := by rw [hR]; exact TJ.ixN_mid hvno
          have hkl : ixN v S.opn < S.opn.length := by rw [hix, hR]; simp
          have hvm : v ∈ S.opn := by rw [hR]; simp
          have hol := inv_len hlp.out.inv
          obtain ⟨A7, c7, rfl, hc7, hA7⟩ := own_sl HWK.out.op
          obtain ⟨go, rfl⟩ := hA7 (by omega)
          obtain ⟨A8, c8, rfl, hc8, _⟩ := own_sl HWK.out.se
          have hWB := Nat.le_trans HB.out HKP.out.size
          have hop := row_nats HWK.out.op rfl (by omega)
          have hdr := nats_drop hop hkl
          have hne : S.opn.drop (ixN v S.opn) ≠ [] := fun e => by have := congrArg List.length e; rw [List.length_drop] at this; simp at this; omega
          have hdl : (S.opn.drop (ixN v S.opn)).length = S.opn.length - ixN v S.opn := List.length_drop
          obtain ⟨D, hD⟩ : ∃ D, S.opn.drop (ixN v S.opn) = D := ⟨_, rfl⟩
          rw [hD] at hdr hne hdl hE
          have HE := Lib.hid hE
          have CI := Lib.hid (fun (W : World) (hb : Below wr.heap.size wr W) => indexN_calls _ S.opn v W (hop.below hb) hvm)
          have CC := Lib.hid (fun (W : World) (hb : Below wr.heap.size wr W) => cloneN_calls _ D W (hdr.below hb) hne (by omega))
          obtain ⟨kx, hkx⟩ : ∃ kx, ixN v S.opn = kx := ⟨_, rfl⟩
          obtain ⟨ol, hol2⟩ : ∃ ol, S.opn.length = ol := ⟨_, rfl⟩
          have HDL := Lib.hid hdl
          have HKX := Lib.hid hkx
          have HOL2 := Lib.hid hol2
          rw [hkx, hol2] at hkl
          rw [hol2] at hol hc7
          rw [hkx, hol2] at CI CC
          have hkc : (kx : Int) ≤ ol := by omega
          have hkc2 : (kx : Int) ≤ c7 := by omega
          have hc0 : c7 - kx ≠ 0 := by omega
          have r3 : wr.cell? ⟨wb, 3, none⟩ = some (.slice (some ⟨go, 0, none⟩) ol c7) := by rw [← hol2]; exact HWK.out.wk.cell rfl
          clear hl hE hR hvno hix hvm hop hdr hne hdl hD hkx hol2
          go_upto_region 12 with fail
          go_quiet (fail)
          have hbq := below_drewN wr.heap.size wr nq
          have CI2 := Lib.hid (CI.out _ hbq)
          clear g1 g2 g3 g4
          have HK0 := Lib.hid (And.intro hol (And.intro hkl hWB))
          clear hol hkl hc8 hWB
          go_wp2_with fail
          refine CI2.out.mono ?_
          rintro E w7 ⟨rfl, rfl⟩
          clear CI CI2
          go_wp2_with fail
          refine (CC.out _ hbq).mono ?_
          rintro E w8 ⟨g, c9, rfl, ho8, hb8⟩
          have ho8 : w8.ownsRow wr.heap.size 3 1 (.slice (some ⟨g, 0, none⟩) D.length c9) D.length (D.flatMap natC) := ho8
          have hb8 : Below wr.heap.size wr w8 := hbq.trans hb8
          have CS := Lib.hid (sortN_calls wr.heap.size g c9 D w8 ho8 (by have := HDL.out; have := HK0.out.1; have := HOL2.out; omega))
          have HO8 := Lib.hid ho8
          have HB8 := Lib.hid hb8
          obtain ⟨dl, hdl2⟩ : ∃ dl, D.length = dl := ⟨_, rfl⟩
          have HDL2 := Lib.hid hdl2
          rw [hdl2] at CS ⊢
          clear ho8 hb8 hbq CC hdl2 r3
          go_wp2_with fail
          refine CS.out.mono ?_
          rintro E w9 ⟨rfl, ho9, hg9⟩
          have hk9 : ∀ i, i < wr.heap.size → w9.heap[i]? = wr.heap[i]? := fun i hi => (hg9.block i (Nat.lt_of_lt_of_le hi HB8.out.size) (fun e => by injection e with e; have := (row_lt HO8.out (g := g) rfl).1; omega)).trans (HB8.out.block i hi)
          have hs9 : wr.heap.size ≤ w9.heap.size := Nat.le_trans HB8.out.size hg9.size
          have hgs := row_lt HO8.out (g := g) rfl
          have HK9 := Lib.hid (HWK.out.grow hk9)
          have HKK := Lib.hid hk9
          have HG9 := Lib.hid hg9
          have HX9 := Lib.hid (show NatsAt w9 (.slice (some ⟨g, 0, none⟩) (srt D).length c9) (srt D) from (by have := row_nats ho9 (by rw [(TJ.perm_srt D).length_eq, HDL2.out]) (by have := HDL.out; have := HK0.out.1; have := HOL2.out; have := HDL2.out; omega); rwa [(TJ.perm_srt D).length_eq, HDL2.out]))
          have HGS := Lib.hid (And.intro hgs.1 (Nat.lt_of_lt_of_le hgs.2 hg9.size))
          have HS9 := Lib.hid hs9
          have hB9 : B ≤ w9.heap.size := Nat.le_trans HK0.out.2.2 hs9
          have OWN9 := Lib.hid (show w9.ownsRow B 40 1 (.slice A8 S.sets.length c8) S.sets.length vals1 from HK9.out.se)
          have c5 : w9.cell? ⟨wb, 5, none⟩ = some (.slice A8 S.sets.length c8) := HK9.out.wk.cell rfl
          have hol := HK0.out.1
          have HB9 := Lib.hid hB9
          clear hk9 hs9 hgs ho9 hg9 CS
          go_wp2_with (at_builtin; obtain ⟨i0, hi, hz0, hz1, hz2⟩ := info_parts info_ints; refine wpList_append_own_at _ rfl _ _ 208 rfl B 40 i0 (.slice none 0 0) 1 24 Tryz.underlying208 hi hz0 hz1 hz2 rfl (by decide) _ _ _ rfl (OWN9.out.alloc _) ⟨w9.heap.size, 0, none⟩ 1 1 [.slice (some ⟨g, 0, none⟩) dl c9] rfl rfl (cell_one_new _ _ _) (by simp [Value.oneCell']) (by simp only [maxLen]; omega) (by omega) (by simp; omega) ?_; clear hi hz0 hz1 hz2; intro v10 w10 hown10 hgrow10 hnil10 hloc10; obtain ⟨A10, c10, rfl, _, _⟩ := own_sl hown10; have hb10 := HK9.out.blk3 hwb HB9.out (fun g e => (row_lt HK9.out.se e).1) hgrow10; have fz10 := hb10.frozen; clear c5; have c5 := hb10.cell (i := 5) rfl; have c3 : w10.cell? ⟨wb, 3, none⟩ = some (.slice (some ⟨go, 0, none⟩) ol c7) := (by rw [← HOL2.out]; exact hb10.cell (i := 3) rfl); clear hb10)
          refine bodyPost_end (results_none rfl _ _ _) rfl ?_
          have hpop := Wk.pop (k := kx) (x := srt D) HWK.out hwb hba hbl d1 d2 HK0.out.2.2 (by have := HK0.out.2.1; have := HOL2.out; omega) HS9.out HKK.out (HG9.out.os.trans HB8.out.os) (HG9.out.tape.trans HB8.out.tape) (HG9.out.output.trans HB8.out.output) HX9.out HGS.out.1 HGS.out.2 (by rw [(TJ.perm_srt D).length_eq, HDL2.out]; exact hown10) hgrow10 hloc10
          rw [(TJ.perm_srt D).length_eq, HDL2.out] at hpop
          refine ⟨rfl, ?_, HKP.out.trans hpop.2⟩
          rw [F.out, HE.out, HKX.out]
          exact ⟨_, _, _, hpop.1⟩

theorem visit_calls {B wb ba bl bo n : Nat} {out : Nat → List Nat} (ho : ∀ a b, b ∈ out a → b < n) (hn : n ≤ 40) (hwb : wb < B) (hba : ba < B) (hbl : bl < B) (hbo : bo < B) (d1 : wb ≠ ba) (d2 : wb ≠ bl) (d3 : ba ≠ bl) (o1 : bo ≠ wb) (o2 : bo ≠ ba) (o3 : bo ≠ bl) : ∀ f, VisitOk B wb ba bl bo n out f
  | 0 => fun v st _ _ _ _ _ _ hv h0 hz _ _ => by
    have := TJ.zeros_pos (n := n) (s := st) hv h0
    omega
  | f + 1 => fun v st vop vs vals w h hI hv h0 hz hO hB => visit_step ho hn hwb hba hbl hbo d1 d2 d3 o1 o2 o3 (visit_calls ho hn hwb hba hbl hbo d1 d2 d3 o1 o2 o3 f) v st vop vs vals w h hI hv h0 hz hO hB
end Go.Proofs.YtpbbhjifgaeklaaGreatDoor

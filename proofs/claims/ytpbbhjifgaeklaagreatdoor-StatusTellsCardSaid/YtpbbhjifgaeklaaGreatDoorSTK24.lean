/- The reference's PrintStatus: what a status is written as. · stanza.Right's closure: two names alike in small letters; is one of some fields called so. · What a field says, line by line; how long what is written is: plain. -/
import Derived.Test.YtpbbhjifgaeklaaGreatDoorSTK22
import Derived.Test.YtpbbhjifgaeklaaGreatDoorSTK23
import Derived.Test.YtpbbhjifgaeklaaGreatDoorSTK6
import Derived.Deep.DeepCutAuto
import Derived.Test.YtpbbhjifgaeklaaGreatDoorSTK19
import Derived.Test.YtpbbhjifgaeklaaGreatDoorSTK15
import Derived.Deep.RegionHeld3
import Derived.Test.YtpbbhjifgaeklaaGreatDoorSTK11
namespace Go.Proofs.YtpbbhjifgaeklaaGreatDoor
open Go Go.RowKit

def refPrintV (z : St) : Value := if rightS z then .tuple #[.string (printB z), .int .i64 0] else .tuple #[.string ⟨#[]⟩, .int .i64 1]
def RefPrintStIs (z : St) (w : World) (E : Ending) (w' : World) : Prop := E = .returned (refPrintV z) ∧ Below w.heap.size w w'

set_option maxRecDepth 100000 in
theorem refPrintSt_no (z : St) (v1 v2 : Value) (w : World) (hE : Env w) (hA : StAt w v1 v2 z) (hf : StFit z) (he0 : -9223372036854775808 ≤ z.e) (he1 : z.e ≤ 9223372036854775807) (hr : rightS z = false) : Calls Tryz.prog 19 #[stV z v1 v2] w (RefPrintStIs z w) := by
  have hb0 := below_alloc w (.cells #[.int .i64 z.n, .int .i64 z.e, .string z.u, .string z.r, .bool z.h, v1, v2] 42)
  have CR := Lib.hid (refStands_calls z v1 v2 _ (hE.below hb0) (hA.below hb0) hf he0 he1)
  obtain ⟨c0, c1, c2, c3, c4, c5, c6⟩ := stBox_new w z v1 v2 42
  have F := Lib.hid (show refPrintV z = .tuple #[.string ⟨#[]⟩, .int .i64 1] by unfold refPrintV; rw [hr]; rfl)
  rw [hr] at CR
  unfold RefPrintStIs
  rw [F.out]
  obtain ⟨n, e, u, r, hh, ws, ts⟩ := z
  unfold stV at CR
  simp only at *
  clear hA hf hE hr F he0 he1
  show Calls Tryz.prog 19 #[.agg #[.int .i64 n, .int .i64 e, .string u, .string r, .bool hh, v1, v2]] w _
  go_enter Tryz.func19, Tryz.ntmps19
  go_wp2_with fail
  refine CR.out.mono ?_
  rintro E w1 ⟨rfl, hb⟩
  have hB := step_below hb0 hb
  clear hb hb0 CR c0 c1 c2 c3 c4 c5 c6
  go_wp2_with fail
  go_ret2
  exact ⟨rfl, hB⟩

theorem join_list (v : Value) (l : List ByteArray) (w : World) (h : StrsAt w v l) (hs : SmallL l) (hne : l ≠ []) : Calls Tryz.prog 58 #[v, .string ⟨#[44]⟩] w fun E w' => E = .returned (.string (listB l)) ∧ Below w.heap.size w w' := by
  have hj := joinP_eq [44] (l.map (·.data.toList))
  have hl := joinC_len hs
  have h4 := hs.n
  have CJ := call_joinAt w v l ⟨#[44]⟩ h hne (by omega) (by
    show (Lib.join (l.map (·.data.toList)) [44]).length ≤ 1000000
    rw [hj]
    unfold joinC at hl
    omega)
  have e : (⟨(Lib.join (l.map (·.data.toList)) (⟨#[44]⟩ : ByteArray).data.toList).toArray⟩ : ByteArray) = listB l := by
    show (⟨(Lib.join (l.map (·.data.toList)) [44]).toArray⟩ : ByteArray) = listB l
    unfold listB listT
    rw [hj, if_neg hne]
    rfl
  rw [e] at CJ
  exact CJ

theorem print_cat (z : St) : printS z = (numB z).data.toList ++ ([32] ++ ((verB z).data.toList ++ ([32] ++ ((heldS z.h).data.toList ++ ([32] ++ ((listB z.ws).data.toList ++ ([32] ++ (listB z.ts).data.toList))))))) := by
  show VP.joinP [32] [_, _, _, _, _] = _
  simp [VP.joinP, numB, verB, heldS, listB]

def Held7 (w : World) (m : Nat) (z : St) (v1 v2 : Value) (W : World) : Prop := StBox W m z v1 v2 ∧ Below w.heap.size w W

set_option maxHeartbeats 4000000 in
set_option maxRecDepth 100000 in
theorem refPrintSt_yes (z : St) (v1 v2 : Value) (w : World) (hE : Env w) (hA : StAt w v1 v2 z) (hf : StFit z) (hr : rightS z = true) : Calls Tryz.prog 19 #[stV z v1 v2] w (RefPrintStIs z w) := by
  have hb0 := below_alloc w (.cells #[.int .i64 z.n, .int .i64 z.e, .string z.u, .string z.r, .bool z.h, v1, v2] 42)
  obtain ⟨hN0, hN1, hE0, hE1⟩ := right_nums hr
  have CR := Lib.hid (refStands_calls z v1 v2 _ (hE.below hb0) (hA.below hb0) hf hE0 hE1)
  have X0 := stBox_new w z v1 v2 42
  obtain ⟨c0, c1, c2, c3, c4, c5, c6⟩ := id X0
  have F := Lib.hid (show refPrintV z = .tuple #[.string (printB z), .int .i64 0] by unfold refPrintV; rw [hr]; rfl)
  have HC := Lib.hid (print_cat z)
  have HPB := Lib.hid (show (printB z).data.toList = printS z from rfl)
  have HPL := Lib.hid (print_len hr)
  have CI := Lib.hid (fun (W : World) (hb : Below w.heap.size w W) => (call_itoa z.n W (hE.below hb) hN0 hN1).mono (R' := fun E W' => E = .returned (.string (numB z)) ∧ Below W.heap.size W W') fun E W' ⟨t, he, ht, _, hb⟩ => ⟨by rw [he]; unfold numB; rw [← ht, Lib.mk_data], hb⟩)
  have CL1 := Lib.hid (fun (W : World) (hb : Below w.heap.size w W) (hne : z.ws ≠ []) => join_list v1 z.ws W (hA.ws.below hb) (right_small hr).1 hne)
  have CL2 := Lib.hid (fun (W : World) (hb : Below w.heap.size w W) (hne : z.ts ≠ []) => join_list v2 z.ts W (hA.ts.below hb) (right_small hr).2 hne)
  have hu : z.u.size ≤ 1000000 := by have := hf.u; omega
  have hrr : z.r.size ≤ 1000000 := by have := hf.r; omega
  have CV := Lib.hid (fun (W : World) (hb : Below w.heap.size w W) (hn : z.n ≠ 0) => (refPrint_calls z.e z.u z.r W (hE.below hb) hE0 hE1 hu hrr).mono (R' := fun E W' => E = .returned (.string (verB z)) ∧ Below W.heap.size W W') fun E W' ⟨t, he, ht, hb⟩ => ⟨by rw [he]; unfold verB verT; rw [if_neg hn, ← ht, Lib.mk_data], hb⟩)
  have HV0 := Lib.hid (fun (hn : z.n = 0) => show verB z = ⟨#[45]⟩ by unfold verB verT; rw [if_pos hn])
  have HH1 := Lib.hid (fun (hn : z.h = true) => show heldS z.h = ⟨#[104, 101, 108, 100]⟩ by rw [hn]; rfl)
  have HH0 := Lib.hid (fun (hn : z.h = false) => show heldS z.h = ⟨#[102, 114, 101, 101]⟩ by rw [hn]; rfl)
  have HW0 := Lib.hid (fun (hn : z.ws = []) => show listB z.ws = ⟨#[45]⟩ by rw [hn]; rfl)
  have HT0 := Lib.hid (fun (hn : z.ts = []) => show listB z.ts = ⟨#[45]⟩ by rw [hn]; rfl)
  obtain ⟨A1, k1, hv1, hc1, hm1, _⟩ := hA.ws.open
  obtain ⟨A2, k2, hv2, hc2, hm2, _⟩ := hA.ts.open
  rw [hr] at CR
  unfold RefPrintStIs
  rw [F.out]
  clear hf hA hu hrr hE hr F hN0 hN1 hE0 hE1
  obtain ⟨n, e, u, r, hh, ws, ts⟩ := z
  unfold stV at CR
  simp only at *
  have HLW : Hid (ws.length = 0 → ws = []) := Lib.hid (fun h => List.eq_nil_of_length_eq_zero h)
  have HLT : Hid (ts.length = 0 → ts = []) := Lib.hid (fun h => List.eq_nil_of_length_eq_zero h)
  have HLW1 : Hid (0 < ws.length → ws ≠ []) := Lib.hid (fun h e => by rw [e] at h; exact absurd h (by decide))
  have HLT1 : Hid (0 < ts.length → ts ≠ []) := Lib.hid (fun h e => by rw [e] at h; exact absurd h (by decide))
  obtain ⟨lw, hlw⟩ : ∃ y, ws.length = y := ⟨_, rfl⟩
  obtain ⟨lt, hlt⟩ : ∃ y, ts.length = y := ⟨_, rfl⟩
  rw [hlw] at hv1 hc1 hm1 HLW HLW1
  rw [hlt] at hv2 hc2 hm2 HLT HLT1
  clear hlw hlt
  subst hv1 hv2
  obtain ⟨sP, hsP⟩ : ∃ y, printB ⟨n, e, u, r, hh, ws, ts⟩ = y := ⟨_, rfl⟩
  obtain ⟨sN, hsN⟩ : ∃ y, numB ⟨n, e, u, r, hh, ws, ts⟩ = y := ⟨_, rfl⟩
  obtain ⟨sV, hsV⟩ : ∃ y, verB ⟨n, e, u, r, hh, ws, ts⟩ = y := ⟨_, rfl⟩
  obtain ⟨sH, hsH⟩ : ∃ y, heldS hh = y := ⟨_, rfl⟩
  obtain ⟨sW, hsW⟩ : ∃ y, listB ws = y := ⟨_, rfl⟩
  obtain ⟨sT, hsT⟩ : ∃ y, listB ts = y := ⟨_, rfl⟩
  rw [HC.out, hsN, hsV, hsH, hsW, hsT] at HPL
  rw [hsP, HC.out, hsN, hsV, hsH, hsW, hsT] at HPB
  rw [hsN] at CI
  rw [hsW] at CL1 HW0
  rw [hsT] at CL2 HT0
  rw [hsV] at CV HV0
  rw [hsH] at HH1 HH0
  rw [hsP]
  clear hsP hsN hsV hsH hsW hsT HC
  show Calls Tryz.prog 19 #[.agg #[.int .i64 n, .int .i64 e, .string u, .string r, .bool hh, .slice A1 lw k1, .slice A2 lt k2]] w _
  go_enter Tryz.func19, Tryz.ntmps19
  go_wp2_with fail
  refine CR.out.mono ?_
  rintro E w1 ⟨rfl, hb⟩
  have HX := Lib.hid (show Held7 w w.heap.size ⟨n, e, u, r, hh, ws, ts⟩ (.slice A1 lw k1) (.slice A2 lt k2) w1 from ⟨X0.below hb, step_below hb0 hb⟩)
  clear c0 c1 c2 c3 c4 c5 c6 X0 CR hb hb0
  obtain ⟨m, hm⟩ : ∃ m, w.heap.size = m := ⟨_, rfl⟩
  have HM := Lib.hid hm
  rw [hm] at HX
  (try rw [hm])
  clear hm
  have c0 := HX.out.1.c0
  go_upto_if 13 with fail
  go_cut [4] (fun s wx => s = .string sV ∧ Held7 w m ⟨n, e, u, r, hh, ws, ts⟩ (.slice A1 lw k1) (.slice A2 lt k2) wx)
  case first =>
    by_cases hn : n = 0
    · obtain rfl := HV0.out hn
      subst hn
      go_wp2_with fail
      go_meet
      exact ⟨rfl, HX.out⟩
    · have hnb : (n != 0) = true := by simpa using hn
      have c1 := HX.out.1.c1
      have c2 := HX.out.1.c2
      have c3 := HX.out.1.c3
      go_wp2_with fail
      refine (CV.out _ (by have := HX.out.2; first | exact this | (rw [HM.out] at this; exact this)) hn).mono ?_
      rintro E w2 ⟨rfl, hb⟩
      have HX2 := Lib.hid (show Held7 w m ⟨n, e, u, r, hh, ws, ts⟩ (.slice A1 lw k1) (.slice A2 lt k2) w2 from ⟨HX.out.1.below hb, step_below HX.out.2 hb⟩)
      clear c0 c1 c2 c3 hb
      go_wp2_with fail
      go_meet
      exact ⟨rfl, HX2.out⟩
  case rest =>
  obtain ⟨rfl, hX⟩ := hcut
  clear CV HV0 HX c0
  have c4 := hX.1.c4
  have HX := Lib.hid hX
  clear hX
  go_upto_if 18 with fail
  go_cut [5] (fun s wx => s = .string sH ∧ wx = wc)
  case first =>
    cases hh with
    | true =>
      obtain rfl := HH1.out rfl
      go_wp2_with fail
      go_meet
      exact ⟨rfl, rfl⟩
    | false =>
      obtain rfl := HH0.out rfl
      go_wp2_with fail
      go_meet
      exact ⟨rfl, rfl⟩
  case rest =>
  obtain ⟨rfl, rfl⟩ := hcut
  clear HH0 HH1 c4
  have c5 := HX.out.1.c5
  go_upto_if 22 with fail
  go_cut [6] (fun s wx => s = .string sW ∧ Held7 w m ⟨n, e, u, r, hh, ws, ts⟩ (.slice A1 lw k1) (.slice A2 lt k2) wx)
  case first =>
    by_cases hl : lw = 0
    · obtain rfl := HW0.out (HLW.out hl)
      subst hl
      go_wp2_with fail
      go_meet
      exact ⟨rfl, HX.out⟩
    · have h1 : decide ((0 : Int) < (lw : Int)) = true := decide_eq_true (by omega)
      have h2 : decide (0 < lw) = true := decide_eq_true (by omega)
      have h3 : 0 < lw := by omega
      go_wp2_with fail
      refine (CL1.out _ HX.out.2 (HLW1.out (by omega))).mono ?_
      rintro E w2 ⟨rfl, hb⟩
      have HX2 := Lib.hid (show Held7 w m ⟨n, e, u, r, hh, ws, ts⟩ (.slice A1 lw k1) (.slice A2 lt k2) w2 from ⟨HX.out.1.below hb, step_below HX.out.2 hb⟩)
      clear c5 hb
      go_wp2_with fail
      go_meet
      exact ⟨rfl, HX2.out⟩
  case rest =>
  obtain ⟨rfl, hX⟩ := hcut
  clear CL1 HW0 HX c5
  have c6 := hX.1.c6
  have HX := Lib.hid hX
  clear hX
  go_upto_if 29 with fail
  go_cut [7] (fun s wx => s = .string sT ∧ Held7 w m ⟨n, e, u, r, hh, ws, ts⟩ (.slice A1 lw k1) (.slice A2 lt k2) wx)
  case first =>
    by_cases hl : lt = 0
    · obtain rfl := HT0.out (HLT.out hl)
      subst hl
      go_wp2_with fail
      go_meet
      exact ⟨rfl, HX.out⟩
    · have h1 : decide ((0 : Int) < (lt : Int)) = true := decide_eq_true (by omega)
      have h2 : decide (0 < lt) = true := decide_eq_true (by omega)
      have h3 : 0 < lt := by omega
      go_wp2_with fail
      refine (CL2.out _ HX.out.2 (HLT1.out (by omega))).mono ?_
      rintro E w2 ⟨rfl, hb⟩
      have HX2 := Lib.hid (show Held7 w m ⟨n, e, u, r, hh, ws, ts⟩ (.slice A1 lw k1) (.slice A2 lt k2) w2 from ⟨HX.out.1.below hb, step_below HX.out.2 hb⟩)
      clear c6 hb
      go_wp2_with fail
      go_meet
      exact ⟨rfl, HX2.out⟩
  case rest =>
  obtain ⟨rfl, hX⟩ := hcut
  clear CL2 HT0 HX c6
  have c0 := hX.1.c0
  have HX := Lib.hid hX
  clear hX
  go_wp2_with fail
  refine (CI.out _ HX.out.2).mono ?_
  rintro E w3 ⟨rfl, hb⟩
  have HB := Lib.hid (step_below HX.out.2 hb)
  clear hb HX c0 CI
  have hl := HPL.out
  simp only [List.length_append, List.length_singleton, ← size_eq_length] at hl
  have g0 : ¬ 9223372036854775807 < sN.size + 1 := by omega
  have g1 : ¬ 9223372036854775807 < sN.size + 1 + sV.size := by omega
  have g2 : ¬ 9223372036854775807 < sN.size + 1 + sV.size + 1 := by omega
  have g3 : ¬ 9223372036854775807 < sN.size + 1 + sV.size + 1 + sH.size := by omega
  have g4 : ¬ 9223372036854775807 < sN.size + 1 + sV.size + 1 + sH.size + 1 := by omega
  have g5 : ¬ 9223372036854775807 < sN.size + 1 + sV.size + 1 + sH.size + 1 + sW.size := by omega
  have g6 : ¬ 9223372036854775807 < sN.size + 1 + sV.size + 1 + sH.size + 1 + sW.size + 1 := by omega
  have g7 : ¬ 9223372036854775807 < sN.size + 1 + sV.size + 1 + sH.size + 1 + sW.size + 1 + sT.size := by omega
  clear hl
  have e : sN ++ ⟨#[32]⟩ ++ sV ++ ⟨#[32]⟩ ++ sH ++ ⟨#[32]⟩ ++ sW ++ ⟨#[32]⟩ ++ sT = sP := data_inj (by rw [HPB.out]; simp)
  have HE := Lib.hid e
  clear e
  go_wp2_with fail
  refine bodyPost_ret (v := .tuple #[.string sP, .int .i64 0]) (by rw [← HE.out]; simp [results, Tryz.results19, go_sem]) rfl ⟨rfl, HB.out⟩

theorem refPrintSt_calls (z : St) (v1 v2 : Value) (w : World) (hE : Env w) (hA : StAt w v1 v2 z) (hf : StFit z) (he0 : -9223372036854775808 ≤ z.e) (he1 : z.e ≤ 9223372036854775807) : Calls Tryz.prog 19 #[stV z v1 v2] w (RefPrintStIs z w) := by
  cases hr : rightS z with
  | true => exact refPrintSt_yes z v1 v2 w hE hA hf hr
  | false => exact refPrintSt_no z v1 v2 w hE hA hf he0 he1 hr
end Go.Proofs.YtpbbhjifgaeklaaGreatDoor

namespace Go.Proofs.YtpbbhjifgaeklaaGreatDoor
open Go Go.RowKit

/-- alike in small letters -/
def sameN (a b : ByteArray) : Bool := decide (VP.smallP a.data.toList = VP.smallP b.data.toList)
end Go.Proofs.YtpbbhjifgaeklaaGreatDoor

namespace Go.Proofs.YtpbbhjifgaeklaaGreatDoor.VP
theorem pieces_count (c : UInt8) (l : List UInt8) : ((pieces c l).flatMap id).length + (pieces c l).length = l.length + 1 := by
  induction l with
  | nil => rfl
  | cons x l ih =>
    rw [pieces]
    by_cases hx : x = c
    · rw [if_pos hx, List.flatMap_cons, List.length_append, List.length_cons, List.length_cons]
      simp only [id, List.length_nil]
      omega
    · rw [if_neg hx]
      cases hp : pieces c l with
      | nil => exact absurd hp (pieces_ne c l)
      | cons p ps =>
        rw [hp] at ih
        simp only [List.flatMap_cons, List.length_append, List.length_cons, id] at ih ⊢
        omega
end Go.Proofs.YtpbbhjifgaeklaaGreatDoor.VP
namespace Go.Proofs.YtpbbhjifgaeklaaGreatDoor
open Go Go.RowKit

/-- the fields so far are well -/
def FieldsTo (fs : List Fv) (k : Nat) : Prop := ∀ i, i < k → VP.fieldOk (fs.map Fv.fd) i = true
theorem any_named (fs : List Fv) (k : Nat) (n : ByteArray) : (((fs.map Fv.fd).take k).any fun g => decide (VP.smallP g.n = VP.smallP n.data.toList)) = (fs.take k).any (fun g => sameN g.n n) := by
  rw [← List.map_take, List.any_map]
  rfl
theorem fieldOk_at {fs : List Fv} {k : Nat} {f : Fv} (h : fs[k]? = some f) : VP.fieldOk (fs.map Fv.fd) k = (VP.fnameP f.n.data.toList && !((fs.take k).any fun g => sameN g.n f.n) && VP.valueP f.v.data.toList) := by
  unfold VP.fieldOk
  rw [List.getElem?_map, h, ← any_named]
  rfl
theorem FieldsTo.succ {fs : List Fv} {k : Nat} {f : Fv} (h : FieldsTo fs k) (hf : fs[k]? = some f) (hb : (VP.fnameP f.n.data.toList && !((fs.take k).any fun g => sameN g.n f.n) && VP.valueP f.v.data.toList) = true) : FieldsTo fs (k + 1) := fun i hi => by
  rcases Nat.lt_or_ge i k with h' | h'
  · exact h i h'
  · obtain rfl : i = k := by omega
    exact (fieldOk_at hf).trans hb
end Go.Proofs.YtpbbhjifgaeklaaGreatDoor

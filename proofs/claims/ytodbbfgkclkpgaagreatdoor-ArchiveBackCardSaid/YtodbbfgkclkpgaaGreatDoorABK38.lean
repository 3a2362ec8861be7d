/- ArchiveBack: for all packages the call returns true: from the walks. -/
import Derived.Test.YtodbbfgkclkpgaaGreatDoorABK36
import Derived.Test.YtodbbfgkclkpgaaGreatDoorABK37
import Derived.Test.YtodbbfgkclkpgaaGreatDoorABK33
import Derived.Test.YtodbbfgkclkpgaaGreatDoorABK11
import Derived.Test.YtodbbfgkclkpgaaGreatDoorABK9
import Derived.Deep.QuietTactic
import Derived.BigQuiet
namespace Go.Proofs.YtodbbfgkclkpgaaGreatDoor
open Go Go.RowKit

/-! pick -/
def pickV (a n : Int) : Int := wrap64 ((IntKind.u64.wrap a).tmod n)
def PickIs (a n : Int) (w : World) (E : Ending) (w' : World) : Prop := E = .returned (.int .i64 (pickV a n)) ∧ w = w'
theorem pick_num (a n : Int) (h0 : 1 ≤ n) (h1 : n ≤ 1000) : ∃ k : Nat, (k : Int) < n ∧ pickV a n = (k : Int) := by
  unfold pickV
  have hw : IntKind.u64.wrap a = a % 18446744073709551616 := IntKind.wrap_u64 a
  have hn : 0 ≤ a % 18446744073709551616 := Int.emod_nonneg _ (by decide)
  have hr : (a % 18446744073709551616).tmod n = (a % 18446744073709551616) % n := Int.tmod_eq_emod_of_nonneg hn
  rw [hw, hr]
  have l0 := Int.emod_nonneg (a % 18446744073709551616) (b := n) (by omega)
  have l1 := Int.emod_lt_of_pos (a % 18446744073709551616) (b := n) (by omega)
  generalize (a % 18446744073709551616) % n = r at l0 l1
  refine ⟨r.toNat, by omega, ?_⟩
  unfold wrap64
  omega
set_option maxRecDepth 100000 in
theorem pick_calls (a n : Int) (h0 : 1 ≤ n) (h1 : n ≤ 1000) (w : World) : Calls Tryz.prog 34 #[.int .i64 a, .int .i64 n] w (PickIs a n w) := by
  have hn : (n == 0) = false := by rw [beq_eq_false_iff_ne]; omega
  have hu : IntKind.u64.wrap n = n := by rw [IntKind.wrap_u64]; omega
  go_enter Tryz.func34, Tryz.ntmps34
  go_wp2
  go_ret
  exact ⟨rfl, rfl⟩
/-! text -/
theorem arcOk_ok {p : Pv} (h : arcOk p = true) : arcE p = 0 := by
  unfold arcOk at h
  unfold arcE
  cases ha : archB p with
  | false => rw [ha] at h; cases h
  | true => rw [ha, Bool.true_and] at h; rw [if_pos rfl, if_pos h]
theorem arcOk_no {p : Pv} (h : arcOk p = false) : arcE p = 1 ∨ arcE p = 4 := by
  unfold arcOk at h
  unfold arcE
  cases ha : archB p with
  | false => exact .inl rfl
  | true => rw [ha, Bool.true_and] at h; rw [if_pos rfl, if_neg (by rw [h]; decide)]; exact .inr rfl
theorem says_files {p : Pv} (h : saysB p = true) : ∀ f ∈ p.fi, f.n.size ≤ 1000 ∧ f.v.size ≤ 500 := by
  unfold saysB filesB at h
  simp only [Bool.and_eq_true, decide_eq_true_eq, List.all_eq_true] at h
  intro f hf
  have := h.2.2.2.2.2.2.2.2.2.2.2 f hf
  omega
set_option maxHeartbeats 4000000 in
set_option maxRecDepth 100000 in
theorem keepText_calls (v : Value) (p : Pv) (w : World) (hE : Env w) (hS : EnvS w) (h : PackAt w v p) (hf : p.Fit) (hz : ∀ f ∈ p.fi, f.n.size ≤ 1000 ∧ f.v.size ≤ 1000) (ho : arcOk p = true) : Calls Tryz.prog 49 #[v] w fun E w' => E = .returned (.string (arcS p)) ∧ Below w.heap.size w w' := by
  have CW := Lib.hid (fun (W : World) (hb : Below w.heap.size w W) => arcWrite_calls v p W (hE.below hb) (hS.below hb) (h.below hb) hf hz)
  unfold ArcWIs at CW
  rw [arcOk_ok ho] at CW
  have ez : errV 0 = .nilIface := rfl
  rw [ez] at CW
  obtain ⟨S, hS2⟩ : ∃ S, arcS p = S := ⟨_, rfl⟩
  rw [hS2] at CW ⊢
  clear hE hS hf hz ho hS2 ez
  obtain ⟨v1, v2, v3, v4, v5, v6, v7, v8, v9, rfl, hxr⟩ := id h
  obtain ⟨E1, e1, f1, rfl⟩ := ask_slice hxr.1
  obtain ⟨E2, e2, f2, rfl⟩ := ask_slice hxr.2.1
  obtain ⟨E3, e3, f3, rfl⟩ := term_slice hxr.2.2.1
  obtain ⟨E4, e4, f4, rfl⟩ := term_slice hxr.2.2.2.1
  obtain ⟨E5, e5, f5, rfl⟩ := term_slice hxr.2.2.2.2.1
  obtain ⟨E6, e6, f6, rfl⟩ := term_slice hxr.2.2.2.2.2.1
  obtain ⟨E7, e7, f7, rfl⟩ := slc_sl hxr.2.2.2.2.2.2.1
  obtain ⟨E8, e8, f8, rfl⟩ := slc_sl hxr.2.2.2.2.2.2.2.1
  obtain ⟨E9, e9, f9, rfl⟩ := slc_sl hxr.2.2.2.2.2.2.2.2.1
  have HPA := Lib.hid h
  have X0 := packBox_new w p (.slice E1 e1 f1) (.slice E2 e2 f2) (.slice E3 e3 f3) (.slice E4 e4 f4) (.slice E5 e5 f5) (.slice E6 e6 f6) (.slice E7 e7 f7) (.slice E8 e8 f8) (.slice E9 e9 f9) 29
  have hB0 := below_alloc w (.cells #[.string p.n, .int .i64 p.e, .string p.u, .string p.r, (.slice E1 e1 f1), (.slice E2 e2 f2), (.slice E3 e3 f3), (.slice E4 e4 f4), (.slice E5 e5 f5), (.slice E6 e6 f6), (.slice E7 e7 f7), (.slice E8 e8 f8), (.slice E9 e9 f9)] 29)
  clear h hxr
  obtain ⟨m, hm⟩ : ∃ m, w.heap.size = m := ⟨_, rfl⟩
  rw [hm] at X0
  go_enter Tryz.func49, Tryz.ntmps49
  go_wp2_with fail
  (try rw [hm])
  generalize w.alloc (.cells #[.string p.n, .int .i64 p.e, .string p.u, .string p.r, (.slice E1 e1 f1), (.slice E2 e2 f2), (.slice E3 e3 f3), (.slice E4 e4 f4), (.slice E5 e5 f5), (.slice E6 e6 f6), (.slice E7 e7 f7), (.slice E8 e8 f8), (.slice E9 e9 f9)] 29) = W0 at X0 hB0 ⊢
  clear hm
  obtain ⟨c0, c1, c2, c3, c4, c5, c6, c7, c8, c9, c10, c11, c12⟩ := id X0
  go_wp2_with fail
  refine (CW.out W0 hB0).mono ?_
  rintro E w1 ⟨rfl, hb⟩
  have HB1 := Lib.hid (step_below hB0 hb)
  clear hb hB0 X0
  clear c0 c1 c2 c3 c4 c5 c6 c7 c8 c9 c10 c11 c12
  go_wp2_with fail
  go_ret
  exact ⟨rfl, HB1.out⟩

theorem last_sizes {p : Pv} (ho : arcOk p = true) (hb : saysB p = true) {f : Fv} (hf : f ∈ p.fi) : f.v.size ≤ 500 ∧ f.v.size + 1 ≤ (arcS p).size ∧ (arcS p).size ≤ 4000 := by
  obtain ⟨_, _, _, h4, _, h6⟩ := arc_facts ho
  have h1 := says_files hb f hf
  refine ⟨h1.2, ?_, by rw [h6, mk_size (bodyL p)]; exact h4⟩
  rw [h6, mk_size (bodyL p)]
  have h2 : (fileL f).length ≤ (p.fi.flatMap fileL).length := by
    obtain ⟨a, b, hab⟩ := List.append_of_mem hf
    rw [hab]
    simp only [List.flatMap_append, List.flatMap_cons, List.length_append]
    omega
  have h3 : f.v.size + 1 ≤ (fileL f).length := by
    rw [fileL_eq]
    have := size_eq_length f.v
    simp only [List.length_append, List.length_cons]
    omega
  have h5 : (bodyL p).length = (textS p).length + (1 + (p.fi.flatMap fileL).length) := by unfold bodyL; rw [List.length_append, List.length_append]; rfl
  omega
theorem cut_read {p : Pv} (ho : arcOk p = true) {fs : List Fv} {f : Fv} (hfs : p.fi = fs ++ [f]) {k q : Nat} (hk : k ≤ f.v.size) (hq : (arcS p).size = q + 1 + k) (W : World) (hE : Env W) (hS : EnvS W) (hA : EnvA W) :
    Calls Tryz.prog 47 #[.string ((arcS p).extract 0 q)] W fun E W' => ∃ v', E = .returned (.tuple #[v', .iface 32 (.int .i64 3)]) ∧ PackAt W' v' pack0 ∧ Below W.heap.size W W' := by
  obtain ⟨_, _, _, h4, _, h6⟩ := arc_facts ho
  have hq2 : (bodyL p).length = q + 1 + k := by rw [h6, mk_size] at hq; exact hq
  have e : (arcS p).extract 0 q = ⟨((bodyL p).take ((bodyL p).length - 1 - k)).toArray⟩ := data_inj (by
    rw [Lib.extract_data, h6, show (bodyL p).length - 1 - k = q by omega]
    simp)
  have hr := ar_error (arc_cut ho hfs hk)
  refine (arcRead_calls ((arcS p).extract 0 q) W hE hS hA ?_).mono fun E W' h => ?_
  · rw [e, mk_size, List.length_take]; omega
  · unfold ArcRIs at h
    rw [e, hr.1, hr.2] at h
    exact h
set_option maxHeartbeats 4000000 in
set_option maxRecDepth 100000 in
theorem aback_no (v : Value) (p : Pv) (cut : Int) (w : World) (h : PackAt w v p) (hb : saysB p = false) : Calls Tryz.prog 10 #[v, .int .i64 cut] w (BoolIs true w) := by
  have CS := Lib.hid (fun (W : World) (hb : Below w.heap.size w W) => keepSays_calls v p W (h.below hb))
  unfold BoolIs at CS
  rw [hb] at CS
  clear hb
  obtain ⟨v1, v2, v3, v4, v5, v6, v7, v8, v9, rfl, hxr⟩ := id h
  obtain ⟨E1, e1, f1, rfl⟩ := ask_slice hxr.1
  obtain ⟨E2, e2, f2, rfl⟩ := ask_slice hxr.2.1
  obtain ⟨E3, e3, f3, rfl⟩ := term_slice hxr.2.2.1
  obtain ⟨E4, e4, f4, rfl⟩ := term_slice hxr.2.2.2.1
  obtain ⟨E5, e5, f5, rfl⟩ := term_slice hxr.2.2.2.2.1
  obtain ⟨E6, e6, f6, rfl⟩ := term_slice hxr.2.2.2.2.2.1
  obtain ⟨E7, e7, f7, rfl⟩ := slc_sl hxr.2.2.2.2.2.2.1
  obtain ⟨E8, e8, f8, rfl⟩ := slc_sl hxr.2.2.2.2.2.2.2.1
  obtain ⟨E9, e9, f9, rfl⟩ := slc_sl hxr.2.2.2.2.2.2.2.2.1
  have HPA := Lib.hid h
  have X0 := packBox_new w p (.slice E1 e1 f1) (.slice E2 e2 f2) (.slice E3 e3 f3) (.slice E4 e4 f4) (.slice E5 e5 f5) (.slice E6 e6 f6) (.slice E7 e7 f7) (.slice E8 e8 f8) (.slice E9 e9 f9) 29
  have hB0 := below_alloc w (.cells #[.string p.n, .int .i64 p.e, .string p.u, .string p.r, (.slice E1 e1 f1), (.slice E2 e2 f2), (.slice E3 e3 f3), (.slice E4 e4 f4), (.slice E5 e5 f5), (.slice E6 e6 f6), (.slice E7 e7 f7), (.slice E8 e8 f8), (.slice E9 e9 f9)] 29)
  clear h hxr
  obtain ⟨m, hm⟩ : ∃ m, w.heap.size = m := ⟨_, rfl⟩
  rw [hm] at X0
  go_enter Tryz.func10, Tryz.ntmps10
  go_wp2_with fail
  (try rw [hm])
  generalize w.alloc (.cells #[.string p.n, .int .i64 p.e, .string p.u, .string p.r, (.slice E1 e1 f1), (.slice E2 e2 f2), (.slice E3 e3 f3), (.slice E4 e4 f4), (.slice E5 e5 f5), (.slice E6 e6 f6), (.slice E7 e7 f7), (.slice E8 e8 f8), (.slice E9 e9 f9)] 29) = W0 at X0 hB0 ⊢
  clear hm
  refine (CS.out W0 hB0).mono ?_
  rintro E w1 ⟨rfl, hb⟩
  have HB1 := Lib.hid (step_below hB0 hb)
  clear hb hB0 X0
  go_wp2_with fail
  go_ret
  exact ⟨rfl, HB1.out⟩

set_option maxHeartbeats 4000000 in
set_option maxRecDepth 100000 in
theorem aback_err (v : Value) (p : Pv) (cut : Int) (w : World) (hE : Env w) (hG : EnvE w) (hS : EnvS w) (hA : EnvA w) (h : PackAt w v p) (hb : saysB p = true) (hf : p.Fit) (n : Int) (hn : arcE p = n) (h14 : n = 1 ∨ n = 4) : Calls Tryz.prog 10 #[v, .int .i64 cut] w (BoolIs true w) := by
  have hb0 := hb
  have CS := Lib.hid (fun (W : World) (hb : Below w.heap.size w W) => keepSays_calls v p W (h.below hb))
  unfold BoolIs at CS
  rw [hb] at CS
  have CT := Lib.hid (fun (W : World) (hb : Below w.heap.size w W) => wrapped_holds W (hE.below hb) (hS.below hb) (hA.below hb))
  unfold BoolIs at CT
  have CW := Lib.hid (fun (W : World) (hb : Below w.heap.size w W) => arcWrite_calls v p W (hE.below hb) (hS.below hb) (h.below hb) hf (fun f hf => by have := says_files hb0 f hf; omega))
  unfold ArcWIs at CW
  rw [hn] at CW
  have hev : errV n = .iface 32 (.int .i64 n) := by unfold errV; rw [if_neg (by omega)]
  rw [hev] at CW
  have CE := Lib.hid (fun (W : World) (hb : Below w.heap.size w W) => tell_errno n W (hG.below hb))
  have HN := Lib.hid h14
  clear hb hb0 hE hG hS hA hf hn hev h14
  obtain ⟨v1, v2, v3, v4, v5, v6, v7, v8, v9, rfl, hxr⟩ := id h
  obtain ⟨E1, e1, f1, rfl⟩ := ask_slice hxr.1
  obtain ⟨E2, e2, f2, rfl⟩ := ask_slice hxr.2.1
  obtain ⟨E3, e3, f3, rfl⟩ := term_slice hxr.2.2.1
  obtain ⟨E4, e4, f4, rfl⟩ := term_slice hxr.2.2.2.1
  obtain ⟨E5, e5, f5, rfl⟩ := term_slice hxr.2.2.2.2.1
  obtain ⟨E6, e6, f6, rfl⟩ := term_slice hxr.2.2.2.2.2.1
  obtain ⟨E7, e7, f7, rfl⟩ := slc_sl hxr.2.2.2.2.2.2.1
  obtain ⟨E8, e8, f8, rfl⟩ := slc_sl hxr.2.2.2.2.2.2.2.1
  obtain ⟨E9, e9, f9, rfl⟩ := slc_sl hxr.2.2.2.2.2.2.2.2.1
  have HPA := Lib.hid h
  have X0 := packBox_new w p (.slice E1 e1 f1) (.slice E2 e2 f2) (.slice E3 e3 f3) (.slice E4 e4 f4) (.slice E5 e5 f5) (.slice E6 e6 f6) (.slice E7 e7 f7) (.slice E8 e8 f8) (.slice E9 e9 f9) 29
  have hB0 := below_alloc w (.cells #[.string p.n, .int .i64 p.e, .string p.u, .string p.r, (.slice E1 e1 f1), (.slice E2 e2 f2), (.slice E3 e3 f3), (.slice E4 e4 f4), (.slice E5 e5 f5), (.slice E6 e6 f6), (.slice E7 e7 f7), (.slice E8 e8 f8), (.slice E9 e9 f9)] 29)
  clear h hxr
  obtain ⟨m, hm⟩ : ∃ m, w.heap.size = m := ⟨_, rfl⟩
  rw [hm] at X0
  go_enter Tryz.func10, Tryz.ntmps10
  go_wp2_with fail
  (try rw [hm])
  generalize w.alloc (.cells #[.string p.n, .int .i64 p.e, .string p.u, .string p.r, (.slice E1 e1 f1), (.slice E2 e2 f2), (.slice E3 e3 f3), (.slice E4 e4 f4), (.slice E5 e5 f5), (.slice E6 e6 f6), (.slice E7 e7 f7), (.slice E8 e8 f8), (.slice E9 e9 f9)] 29) = W0 at X0 hB0 ⊢
  clear hm
  refine (CS.out W0 hB0).mono ?_
  rintro E w1 ⟨rfl, hb⟩
  have X1 := X0.below hb
  have HB1 := Lib.hid (step_below hB0 hb)
  clear hb hB0 X0
  go_wp2_with fail
  refine (CT.out w1 HB1.out).mono ?_
  rintro E w2 ⟨rfl, hb⟩
  have X2 := X1.below hb
  have HB2 := Lib.hid (step_below HB1.out hb)
  clear hb X1 CT CS
  obtain ⟨c0, c1, c2, c3, c4, c5, c6, c7, c8, c9, c10, c11, c12⟩ := id X2
  go_wp2_with fail
  refine (CW.out w2 HB2.out).mono ?_
  rintro E w3 ⟨rfl, hb⟩
  have X3 := X2.below hb
  have HB3 := Lib.hid (step_below HB2.out hb)
  clear hb X2 CW
  clear c0 c1 c2 c3 c4 c5 c6 c7 c8 c9 c10 c11 c12
  go_wp2_with fail
  refine (CE.out w3 HB3.out).mono ?_
  rintro E w4 ⟨rfl, hb⟩
  have HB4 := Lib.hid (step_below HB3.out hb)
  clear hb X3
  rcases HN.out with rfl | rfl
  · go_wp2_with fail
    go_ret
    exact ⟨rfl, HB4.out⟩
  · go_wp2_with fail
    refine (CE.out w4 HB4.out).mono ?_
    rintro E w5 ⟨rfl, hb⟩
    have HB5 := Lib.hid (step_below HB4.out hb)
    clear hb
    go_wp2_with fail
    go_ret
    exact ⟨rfl, HB5.out⟩

set_option maxHeartbeats 4000000 in
set_option maxRecDepth 100000 in
theorem aback_main (v : Value) (p : Pv) (cut : Int) (w : World) (hE : Env w) (hS : EnvS w) (hA : EnvA w) (h : PackAt w v p) (hb : saysB p = true) (hf : p.Fit) (ho : arcOk p = true) : Calls Tryz.prog 10 #[v, .int .i64 cut] w (BoolIs true w) := by
  have hb0 := hb
  have CS := Lib.hid (fun (W : World) (hb : Below w.heap.size w W) => keepSays_calls v p W (h.below hb))
  unfold BoolIs at CS
  rw [hb] at CS
  have CT := Lib.hid (fun (W : World) (hb : Below w.heap.size w W) => wrapped_holds W (hE.below hb) (hS.below hb) (hA.below hb))
  unfold BoolIs at CT
  have CW := Lib.hid (fun (W : World) (hb : Below w.heap.size w W) => arcWrite_calls v p W (hE.below hb) (hS.below hb) (h.below hb) hf (fun f hf => by have := says_files hb0 f hf; omega))
  unfold ArcWIs at CW
  rw [arcOk_ok ho] at CW
  have ez : errV 0 = .nilIface := rfl
  rw [ez] at CW
  have CR := Lib.hid (fun (W : World) (hb : Below w.heap.size w W) => arcRead_calls (arcS p) W (hE.below hb) (hS.below hb) (hA.below hb) (by have := arc_facts ho; rw [this.2.2.2.2.2, mk_size]; omega))
  unfold ArcRIs at CR
  rw [(ar_ok (arc_back ho)).1, (ar_ok (arc_back ho)).2, ez] at CR
  have CX := Lib.hid (fun (y : Value) (W : World) (hb : Below w.heap.size w W) (h : PackAt W y p) => keepText_calls y p W (hE.below hb) (hS.below hb) h hf (fun f hf => by have := says_files hb0 f hf; omega) ho)
  have CC := Lib.hid (fun (f : Fv) (fs : List Fv) (hfs : p.fi = fs ++ [f]) (k q : Nat) (hk : k ≤ f.v.size) (hq : (arcS p).size = q + 1 + k) (W : World) (hb : Below w.heap.size w W) => cut_read ho hfs hk hq W (hE.below hb) (hS.below hb) (hA.below hb))
  have HSZ := Lib.hid (fun (f : Fv) (hf : f ∈ p.fi) => last_sizes ho hb0 hf)
  obtain ⟨S, hS2⟩ : ∃ S, arcS p = S := ⟨_, rfl⟩
  rw [hS2] at CW CR CX CC HSZ
  clear hb hb0 hE hS hA hf ho hS2 ez
  obtain ⟨v1, v2, v3, v4, v5, v6, v7, v8, v9, rfl, hxr⟩ := id h
  obtain ⟨E1, e1, f1, rfl⟩ := ask_slice hxr.1
  obtain ⟨E2, e2, f2, rfl⟩ := ask_slice hxr.2.1
  obtain ⟨E3, e3, f3, rfl⟩ := term_slice hxr.2.2.1
  obtain ⟨E4, e4, f4, rfl⟩ := term_slice hxr.2.2.2.1
  obtain ⟨E5, e5, f5, rfl⟩ := term_slice hxr.2.2.2.2.1
  obtain ⟨E6, e6, f6, rfl⟩ := term_slice hxr.2.2.2.2.2.1
  obtain ⟨E7, e7, f7, rfl⟩ := slc_sl hxr.2.2.2.2.2.2.1
  obtain ⟨E8, e8, f8, rfl⟩ := slc_sl hxr.2.2.2.2.2.2.2.1
  obtain ⟨len, hlen⟩ : ∃ len, p.fi.length = len := ⟨_, rfl⟩
  obtain ⟨E9, i9, rfl, hc1, hm1, hr1⟩ := FieldsAt.open hxr.2.2.2.2.2.2.2.2.1
  have HPA := Lib.hid h
  rw [hlen] at hc1 hm1 HPA CS CW ⊢
  have HL := Lib.hid hlen
  have HR1 := Lib.hid hr1
  have X0 := packBox_new w p (.slice E1 e1 f1) (.slice E2 e2 f2) (.slice E3 e3 f3) (.slice E4 e4 f4) (.slice E5 e5 f5) (.slice E6 e6 f6) (.slice E7 e7 f7) (.slice E8 e8 f8) (.slice E9 len i9) 29
  have hB0 := below_alloc w (.cells #[.string p.n, .int .i64 p.e, .string p.u, .string p.r, (.slice E1 e1 f1), (.slice E2 e2 f2), (.slice E3 e3 f3), (.slice E4 e4 f4), (.slice E5 e5 f5), (.slice E6 e6 f6), (.slice E7 e7 f7), (.slice E8 e8 f8), (.slice E9 len i9)] 29)
  clear h hxr hlen hr1
  obtain ⟨m, hm⟩ : ∃ m, w.heap.size = m := ⟨_, rfl⟩
  rw [hm] at X0
  go_enter Tryz.func10, Tryz.ntmps10
  go_wp2_with fail
  (try rw [hm])
  generalize w.alloc (.cells #[.string p.n, .int .i64 p.e, .string p.u, .string p.r, (.slice E1 e1 f1), (.slice E2 e2 f2), (.slice E3 e3 f3), (.slice E4 e4 f4), (.slice E5 e5 f5), (.slice E6 e6 f6), (.slice E7 e7 f7), (.slice E8 e8 f8), (.slice E9 len i9)] 29) = W0 at X0 hB0 ⊢
  clear hm
  refine (CS.out W0 hB0).mono ?_
  rintro E w1 ⟨rfl, hb⟩
  have X1 := X0.below hb
  have HB1 := Lib.hid (step_below hB0 hb)
  clear hb hB0 X0
  go_wp2_with fail
  refine (CT.out w1 HB1.out).mono ?_
  rintro E w2 ⟨rfl, hb⟩
  have X2 := X1.below hb
  have HB2 := Lib.hid (step_below HB1.out hb)
  clear hb X1 CT CS
  obtain ⟨c0, c1, c2, c3, c4, c5, c6, c7, c8, c9, c10, c11, c12⟩ := id X2
  go_wp2_with fail
  refine (CW.out w2 HB2.out).mono ?_
  rintro E w3 ⟨rfl, hb⟩
  have X3 := X2.below hb
  have HB3 := Lib.hid (step_below HB2.out hb)
  clear hb X2 CW
  clear c0 c1 c2 c3 c4 c5 c6 c7 c8 c9 c10 c11 c12
  go_wp2_with fail
  refine (CR.out w3 HB3.out).mono ?_
  rintro E w4 ⟨y, rfl, hy, hb⟩
  have X4 := X3.below hb
  have HB4 := Lib.hid (step_below HB3.out hb)
  have HYA := Lib.hid hy
  clear hb X3 CR
  obtain ⟨u1, u2, u3, u4, u5, u6, u7, u8, u9, rfl, hyr⟩ := id hy
  obtain ⟨G1, g1, h1, rfl⟩ := ask_slice hyr.1
  obtain ⟨G2, g2, h2, rfl⟩ := ask_slice hyr.2.1
  obtain ⟨G3, g3, h3, rfl⟩ := term_slice hyr.2.2.1
  obtain ⟨G4, g4, h4, rfl⟩ := term_slice hyr.2.2.2.1
  obtain ⟨G5, g5, h5, rfl⟩ := term_slice hyr.2.2.2.2.1
  obtain ⟨G6, g6, h6, rfl⟩ := term_slice hyr.2.2.2.2.2.1
  obtain ⟨G7, g7, h7, rfl⟩ := slc_sl hyr.2.2.2.2.2.2.1
  obtain ⟨G8, g8, h8, rfl⟩ := slc_sl hyr.2.2.2.2.2.2.2.1
  obtain ⟨G9, j9, rfl, hc2, hm2, hr2⟩ := FieldsAt.open hyr.2.2.2.2.2.2.2.2.1
  rw [HL.out] at hc2 hm2 HYA
  have HR2 := Lib.hid hr2
  have Y0 := packBox_new w4 p (.slice G1 g1 h1) (.slice G2 g2 h2) (.slice G3 g3 h3) (.slice G4 g4 h4) (.slice G5 g5 h5) (.slice G6 g6 h6) (.slice G7 g7 h7) (.slice G8 g8 h8) (.slice G9 len j9) 29
  have hb4 := below_alloc w4 (.cells #[.string p.n, .int .i64 p.e, .string p.u, .string p.r, (.slice G1 g1 h1), (.slice G2 g2 h2), (.slice G3 g3 h3), (.slice G4 g4 h4), (.slice G5 g5 h5), (.slice G6 g6 h6), (.slice G7 g7 h7), (.slice G8 g8 h8), (.slice G9 len j9)] 29)
  rw [HL.out]
  clear hy hyr hr2
  have X5 := X4.below hb4
  have HB5 := Lib.hid (step_below HB4.out hb4)
  have HYB := Lib.hid (HYA.out.below hb4)
  have HB45 := Lib.hid hb4
  obtain ⟨m4, hm4⟩ : ∃ m, w4.heap.size = m := ⟨_, rfl⟩
  rw [hm4] at Y0
  clear X4 HYA hb4
  obtain ⟨c0, c1, c2, c3, c4, c5, c6, c7, c8, c9, c10, c11, c12⟩ := id X5
  obtain ⟨d0, d1, d2, d3, d4, d5, d6, d7, d8, d9, d10, d11, d12⟩ := id Y0

  have hLL : ((len : Int) == (len : Int)) = true := by simp
  go_wp2_with fail
  refine (CX.out _ _ HB5.out HYB.out).mono ?_
  rintro E w5 ⟨rfl, hb⟩
  have X6 := X5.below hb
  have Y6 := Y0.below hb
  have HB6 := Lib.hid (step_below HB5.out hb)
  have HB46 := Lib.hid (step_below HB45.out hb)
  clear hb X5 Y0 CX HYB HB45
  clear c0 c1 c2 c3 c4 c5 c6 c7 c8 c9 c10 c11 c12
  clear d0 d1 d2 d3 d4 d5 d6 d7 d8 d9 d10 d11 d12
  obtain ⟨c0, c1, c2, c3, c4, c5, c6, c7, c8, c9, c10, c11, c12⟩ := id X6
  obtain ⟨d0, d1, d2, d3, d4, d5, d6, d7, d8, d9, d10, d11, d12⟩ := id Y6
  have HX := Lib.hid X6
  have HY := Lib.hid Y6
  clear X6 Y6
  go_wp2_with fail
  clear c0 c1 c2 c3 c4 c5 c6 c7 c8 c9 c10 c11 c12
  clear d0 d1 d2 d3 d4 d5 d6 d7 d8 d9 d10 d11 d12
  go_loopw [8] (fun i wr => ∃ k : Nat, k ≤ len ∧ i = .int .i64 k ∧ Below w5.heap.size w5 wr) (fun i _ => len - (intOf i).toNat)
  case atStart => exact ⟨0, Nat.zero_le _, rfl, Below.refl _ _⟩
  case round =>
    obtain ⟨k, hk, rfl, hz⟩ := hrel
    have c12 := kept hz HX.out.c12
    have d12 := kept hz HY.out.c12
    by_cases hlt : k < len
    · have hne : p.fi ≠ [] := by
        intro e
        have := HL.out
        rw [e] at this
        simp at this
        omega
      obtain ⟨f, ht⟩ : ∃ f, p.fi[k]? = some f := ⟨p.fi[k]'(by have := HL.out; omega), List.getElem?_eq_getElem _⟩
      obtain ⟨b1, off1, rfl, hi1⟩ := HR1.out hne
      obtain ⟨b2, off2, rfl, hi2⟩ := HR2.out hne
      obtain ⟨p0, p1⟩ := hi1 k f ht
      obtain ⟨q0, q1⟩ := hi2 k f ht
      have hBw := step_below HB6.out hz
      have hBq := step_below HB46.out hz
      replace p0 := kept hBw p0
      replace p1 := kept hBw p1
      replace q0 := kept hBq q0
      replace q1 := kept hBq q1
      clear hi1 hi2 hne ht hBw hBq
      obtain ⟨fn, fu⟩ := f
      dsimp only at p0 p1 q0 q1
      have hk0 : (0 : Int) ≤ (k : Int) := by omega
      have hk1 : (k : Int) < (len : Int) := by omega
      go_wp2_with fail
      go_quiet (fail)
      all_goals
        go_wp2_with fail
        go_roundw
        case rel => exact ⟨k + 1, by omega, by go_num, hz.trans (below_drewN _ _ _)⟩
        case measure => simp [intOf]; omega
    · obtain rfl : k = len := by omega
      by_cases h0 : k = 0
      · subst h0
        go_wp2_with fail
        go_ret
        exact ⟨rfl, step_below HB6.out hz⟩
      · obtain ⟨fs, f, hfs⟩ : ∃ fs f, p.fi = fs ++ [f] := by
          rcases List.eq_nil_or_concat p.fi with e | ⟨fs, f, e⟩
          · have := HL.out
            rw [e] at this
            exact absurd this.symm h0
          · exact ⟨fs, f, by rw [e, List.concat_eq_append]⟩
        have hn : k = fs.length + 1 := by have := HL.out; rw [hfs] at this; simpa using this.symm
        have hf : p.fi[fs.length]? = some f := by rw [hfs]; simp
        obtain ⟨b1, off1, rfl, hi1⟩ := HR1.out (by rw [hfs]; simp)
        obtain ⟨p0, p1⟩ := hi1 fs.length f hf
        have hBw := Lib.hid (step_below HB6.out hz)
        replace p0 := kept hBw.out p0
        replace p1 := kept hBw.out p1
        have hsz := HSZ.out f (by rw [hfs]; simp)
        obtain ⟨n, hn2⟩ : ∃ n, fs.length = n := ⟨_, rfl⟩
        have HCF := Lib.hid (CC.out f fs hfs)
        rw [hn2] at hn p0 p1
        clear hi1 hf hfs hn2 CC HSZ HR1 HR2 HL
        subst hn
        obtain ⟨fn, fu⟩ := f
        dsimp only at p0 p1 hsz
        have hk0 : ((n + 1 : Nat) : Int) - 1 = (n : Int) := by omega
        obtain ⟨kk, hkk, hpk⟩ := pick_num cut ((fu.size : Int) + 1) (by omega) (by omega)
        have CP := Lib.hid (fun W => pick_calls cut ((fu.size : Int) + 1) (by omega) (by omega) W)
        obtain ⟨q, hq⟩ : ∃ q, S.size = q + 1 + kk := ⟨S.size - 1 - kk, by omega⟩
        have C3 := Lib.hid (HCF.out kk q (by show kk ≤ fu.size; omega) hq)
        go_wp2_with fail
        refine (CP.out _).mono ?_
        rintro E w6 ⟨rfl, hw⟩
        rw [hpk]
        have hB7 := step_below hBw.out (hw ▸ below_alloc _ _)
        have C4 := Lib.hid (C3.out w6 hB7)
        have HB7 := Lib.hid hB7
        have hq2 : (S.size : Int) - 1 - (kk : Int) = (q : Int) := by omega
        have hq3 : (q : Int) ≤ (S.size : Int) := by omega
        have hq4 : (0 : Int) ≤ (q : Int) := by omega
        have hs9 : (S.size : Int) ≤ 4000 := by omega
        clear CP C3 HCF hpk hw hB7
        go_wp2_with fail
        refine C4.out.mono ?_
        rintro E w7 ⟨v', rfl, hv, hb⟩
        obtain ⟨s1, s2, s3, s4, s5, s6, s7, s8, s9, rfl, _⟩ := hv
        have HB8 := Lib.hid (step_below HB7.out hb)
        clear hb C4
        go_wp2_with fail
        go_ret
        exact ⟨rfl, HB8.out⟩

theorem aback_calls (v : Value) (p : Pv) (cut : Int) (w : World) (hE : Env w) (hG : EnvE w) (hS : EnvS w) (hA : EnvA w) (h : PackAt w v p) : Calls Tryz.prog 10 #[v, .int .i64 cut] w (BoolIs true w) := by
  cases hb : saysB p with
  | false => exact aback_no v p cut w h hb
  | true =>
  have hf := fit_of h hb
  cases ho : arcOk p with
  | false => exact aback_err v p cut w hE hG hS hA h hb hf (arcE p) rfl (arcOk_no ho)
  | true => exact aback_main v p cut w hE hS hA h hb hf ho
end Go.Proofs.YtodbbfgkclkpgaaGreatDoor

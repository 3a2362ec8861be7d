/- RecordBack: for all packages the call returns true: from the walks. -/
import Derived.Test.YtodbbfgkclkpgaaGreatDoorRK35
import Derived.Test.YtodbbfgkclkpgaaGreatDoorRK36
import Derived.Test.YtodbbfgkclkpgaaGreatDoorRK37
import Derived.Test.YtodbbfgkclkpgaaGreatDoorRK41
import Derived.Test.YtodbbfgkclkpgaaGreatDoorRK21
import Derived.Test.YtodbbfgkclkpgaaGreatDoorRK14
namespace Go.Proofs.YtodbbfgkclkpgaaGreatDoor
open Go Go.RowKit

theorem linesL_ge (ps : List (List UInt8)) : (ps.flatMap id).length + ps.length ≤ (VP.linesL ps).length := by
  cases ps with
  | nil => exact Nat.le_refl _
  | cons a r =>
    have h1 : a.length + 1 ≤ (VP.firstL2 a).length := by
      unfold VP.firstL2
      split
      · rename_i e; subst e; simp
      · simp
    have h2 : ∀ r : List (List UInt8), (r.flatMap id).length + r.length ≤ (r.flatMap VP.restL).length := by
      intro r
      induction r with
      | nil => exact Nat.le_refl _
      | cons s r ih =>
        have h3 : s.length + 1 ≤ (VP.restL s).length := by
          unfold VP.restL
          split <;> simp
        simp only [List.flatMap_cons, List.length_append, List.length_cons, id]
        omega
    have h4 := h2 r
    show ((a :: r).flatMap id).length + (a :: r).length ≤ (VP.firstL2 a ++ r.flatMap VP.restL).length
    simp only [List.flatMap_cons, List.length_append, List.length_cons, id]
    omega
theorem fieldL_ge (f : VP.Fd) : f.n.length + f.v.length ≤ (VP.fieldL f).length := by
  unfold VP.fieldL
  have h1 := linesL_ge (VP.pieces 10 f.v)
  have h2 := VP.pieces_count 10 f.v
  simp only [List.length_append, List.length_cons]
  omega
theorem textL_ge : ∀ (l : List VP.Fd), ∀ f ∈ l, f.n.length + f.v.length ≤ (VP.textL l).length
  | [], f, hf => by cases hf
  | g :: l, f, hf => by
    show _ ≤ (VP.fieldL g ++ VP.textL l).length
    rw [List.length_append]
    rcases List.mem_cons.1 hf with rfl | hf
    · have := fieldL_ge f
      omega
    · have := textL_ge l f hf
      omega
theorem stanza_sizes {fs : List Fv} (h : stanzaB fs = true) : ∀ f ∈ fs, f.n.size ≤ 4000 ∧ f.v.size ≤ 4000 := by
  intro f hf
  unfold stanzaB VP.stanzaP at h
  simp only [Bool.and_eq_true, decide_eq_true_eq] at h
  have h1 : f.n.data.toList.length + f.v.data.toList.length ≤ (VP.textL (fs.map Fv.fd)).length := textL_ge (fs.map Fv.fd) f.fd (List.mem_map_of_mem hf)
  have h2 := h.2
  rw [size_eq_length, size_eq_length]
  omega
def nMore : ByteArray := ⟨#[88, 45, 77, 111, 114, 101]⟩
theorem noneOf_more (s : ByteArray) : NoneOf [⟨nMore, s⟩] :=
  ⟨getB_one (by decide) s, getB_one (by decide) s, getB_one (by decide) s, getB_one (by decide) s, getB_one (by decide) s, getB_one (by decide) s, getB_one (by decide) s, getB_one (by decide) s, getB_one (by decide) s, getB_one (by decide) s⟩
theorem Pv.Fit.noFiles {p : Pv} (h : p.Fit) : (noFiles p).Fit := by
  obtain ⟨a, b, c, d, e, f, g, i, j, k, l, m, n, o, q, r, s⟩ := h
  exact ⟨a, b, c, d, e, f, g, i, j, k, l, m, n, o, q, r, s⟩

/-- what a package says, as fields -/
theorem fields_back (v : Value) (p : Pv) (W : World) (hE : Env W) (hS : EnvS W) (h : PackAt W v p) (hf : p.Fit) (hy : saysOk p = true) (hz : stanzaB (fldB p) = true) :
    Calls Tryz.prog 13 #[v] W fun E W' => ∃ A n c, E = .returned (.tuple #[.slice A n c, .nilIface]) ∧ FieldsAt W' (.slice A n c) (fldB p) ∧ Below W.heap.size W W' :=
  (recFields_calls v p W hE hS h hf).mono fun E W' ⟨vl, he, hl, hb⟩ => by
    have e1 : fldE p = 0 := by unfold fldE; rw [hy, hz]; rfl
    have e2 : fldR p = fldB p := by unfold fldR; rw [hy, hz]; rfl
    rw [e1] at he
    rw [e2] at hl
    obtain ⟨A, n, c, rfl⟩ := slc_sl hl
    exact ⟨A, n, c, he, hl, hb⟩
/-- .. and read again -/
theorem read_again (vl : Value) (p : Pv) (m : List Fv) (hm : NoneOf m) (hms : ∀ f ∈ m, f.n.size ≤ 4000 ∧ f.v.size ≤ 4000) (W : World) (hE : Env W) (hS : EnvS W) (h : FieldsAt W vl (fldB p ++ m)) (hy : saysOk p = true) (hz : stanzaB (fldB p) = true) :
    Calls Tryz.prog 26 #[vl] W fun E W' => ∃ A1 n1 c1 A2 n2 c2 A3 n3 c3 A4 n4 c4 A5 n5 c5 A6 n6 c6 A7 n7 c7 A8 n8 c8, E = .returned (.tuple #[.agg #[.string (noFiles p).n, .int .i64 (noFiles p).e, .string (noFiles p).u, .string (noFiles p).r, .slice A1 n1 c1, .slice A2 n2 c2, .slice A3 n3 c3, .slice A4 n4 c4, .slice A5 n5 c5, .slice A6 n6 c6, .slice A7 n7 c7, .slice A8 n8 c8, .slice none 0 0], .nilIface]) ∧
      PackFr W.heap.size W' (.agg #[.string (noFiles p).n, .int .i64 (noFiles p).e, .string (noFiles p).u, .string (noFiles p).r, .slice A1 n1 c1, .slice A2 n2 c2, .slice A3 n3 c3, .slice A4 n4 c4, .slice A5 n5 c5, .slice A6 n6 c6, .slice A7 n7 c7, .slice A8 n8 c8, .slice none 0 0]) (noFiles p) ∧ Below W.heap.size W W' := by
  obtain ⟨r1, r2⟩ := rd_ok (read_back p hm hy)
  refine (read_calls vl (fldB p ++ m) W hE hS h (fun f hf => ?_)).mono fun E W' ⟨y, he, _, hb, hfr⟩ => ?_
  · rcases List.mem_append.1 hf with hf | hf
    · have := stanza_sizes hz f hf; omega
    · have := hms f hf; omega
  · rw [r1] at he
    rw [r2] at hfr
    obtain ⟨v1, v2, v3, v4, v5, v6, v7, v8, rfl, hr⟩ := id hfr
    obtain ⟨A1, n1, c1, rfl⟩ := ask_slice hr.d.1
    obtain ⟨A2, n2, c2, rfl⟩ := ask_slice hr.a.1
    obtain ⟨A3, n3, c3, rfl⟩ := term_slice hr.g.1
    obtain ⟨A4, n4, c4, rfl⟩ := term_slice hr.b.1
    obtain ⟨A5, n5, c5, rfl⟩ := term_slice hr.r.1
    obtain ⟨A6, n6, c6, rfl⟩ := term_slice hr.p.1
    obtain ⟨A7, n7, c7, rfl⟩ := slc_sl hr.s.1
    obtain ⟨A8, n8, c8, rfl⟩ := slc_sl hr.l.1
    exact ⟨_, _, _, _, _, _, _, _, _, _, _, _, _, _, _, _, _, _, _, _, _, _, _, _, he, hfr, hb⟩
theorem flat_len (fs : List Fv) : (fs.flatMap fldC).length = fs.length * 2 := flat_length (cs := fldC) (size := 2) (fun _ => rfl) fs
theorem flat_one (fs : List Fv) : ∀ u ∈ fs.flatMap fldC, u.oneCell' = true := by
  intro u hu
  obtain ⟨f, _, hf⟩ := List.mem_flatMap.1 hu
  rcases List.mem_cons.1 hf with rfl | hf
  · rfl
  · rw [List.mem_singleton.1 hf]; rfl
theorem pk_set13 {W : World} {b : Nat} {c0 c1 c2 c3 c4 c5 c6 c7 c8 c9 ca cb cc : Value} (h : PkBlk W b #[c0, c1, c2, c3, c4, c5, c6, c7, c8, c9, ca, cb, cc]) (v0 v1 v2 v3 v4 v5 v6 v7 v8 v9 va vb vc : Value) :
    PkBlk (((((((((((((W.setCell ⟨b, 0, none⟩ v0).setCell ⟨b, 1, none⟩ v1).setCell ⟨b, 2, none⟩ v2).setCell ⟨b, 3, none⟩ v3).setCell ⟨b, 4, none⟩ v4).setCell ⟨b, 5, none⟩ v5).setCell ⟨b, 6, none⟩ v6).setCell ⟨b, 7, none⟩ v7).setCell ⟨b, 8, none⟩ v8).setCell ⟨b, 9, none⟩ v9).setCell ⟨b, 10, none⟩ va).setCell ⟨b, 11, none⟩ vb).setCell ⟨b, 12, none⟩ vc) b #[v0, v1, v2, v3, v4, v5, v6, v7, v8, v9, va, vb, vc] := by
  have h1 : PkBlk _ b #[v0, c1, c2, c3, c4, c5, c6, c7, c8, c9, ca, cb, cc] := h.set 0 v0
  have h2 : PkBlk _ b #[v0, v1, c2, c3, c4, c5, c6, c7, c8, c9, ca, cb, cc] := h1.set 1 v1
  have h3 : PkBlk _ b #[v0, v1, v2, c3, c4, c5, c6, c7, c8, c9, ca, cb, cc] := h2.set 2 v2
  have h4 : PkBlk _ b #[v0, v1, v2, v3, c4, c5, c6, c7, c8, c9, ca, cb, cc] := h3.set 3 v3
  have h5 : PkBlk _ b #[v0, v1, v2, v3, v4, c5, c6, c7, c8, c9, ca, cb, cc] := h4.set 4 v4
  have h6 : PkBlk _ b #[v0, v1, v2, v3, v4, v5, c6, c7, c8, c9, ca, cb, cc] := h5.set 5 v5
  have h7 : PkBlk _ b #[v0, v1, v2, v3, v4, v5, v6, c7, c8, c9, ca, cb, cc] := h6.set 6 v6
  have h8 : PkBlk _ b #[v0, v1, v2, v3, v4, v5, v6, v7, c8, c9, ca, cb, cc] := h7.set 7 v7
  have h9 : PkBlk _ b #[v0, v1, v2, v3, v4, v5, v6, v7, v8, c9, ca, cb, cc] := h8.set 8 v8
  have h10 : PkBlk _ b #[v0, v1, v2, v3, v4, v5, v6, v7, v8, v9, ca, cb, cc] := h9.set 9 v9
  have h11 : PkBlk _ b #[v0, v1, v2, v3, v4, v5, v6, v7, v8, v9, va, cb, cc] := h10.set 10 va
  have h12 : PkBlk _ b #[v0, v1, v2, v3, v4, v5, v6, v7, v8, v9, va, vb, cc] := h11.set 11 vb
  have h13 : PkBlk _ b #[v0, v1, v2, v3, v4, v5, v6, v7, v8, v9, va, vb, vc] := h12.set 12 vc
  exact h13
-- the walks

set_option maxHeartbeats 4000000 in
set_option maxRecDepth 100000 in
theorem rback_no (v : Value) (p : Pv) (s : ByteArray) (w : World) (h : PackAt w v p) (hb : saysB p = false) : Calls Tryz.prog 7 #[v, .string s] w (BoolIs true w) := by
  have CS := Lib.hid (fun (W : World) (hb : Below w.heap.size w W) => keepSays_calls v p W (h.below hb))
  unfold BoolIs at CS
  rw [hb] at CS
  clear hb
  obtain ⟨v1, v2, v3, v4, v5, v6, v7, v8, v9, rfl, hxr⟩ := id h
  obtain ⟨E1, e1, f1, rfl⟩ := ask_slice hxr.1
  obtain ⟨E2, e2, f2, rfl⟩ := ask_slice hxr.2.1
  obtain ⟨E3, e3, f3, rfl⟩ := term_slice hxr.2.2.1
  obtain ⟨E4, e4, f4, rfl⟩ := term_slice hxr.2.2.2.1
  obtain ⟨E5, e5, f5, rfl⟩ := term_slice hxr.2.2.2.2.1
  obtain ⟨E6, e6, f6, rfl⟩ := term_slice hxr.2.2.2.2.2.1
  obtain ⟨E7, e7, f7, rfl⟩ := slc_sl hxr.2.2.2.2.2.2.1
  obtain ⟨E8, e8, f8, rfl⟩ := slc_sl hxr.2.2.2.2.2.2.2.1
  obtain ⟨E9, e9, f9, rfl⟩ := slc_sl hxr.2.2.2.2.2.2.2.2.1
  have X0 := packBox_new w p (.slice E1 e1 f1) (.slice E2 e2 f2) (.slice E3 e3 f3) (.slice E4 e4 f4) (.slice E5 e5 f5) (.slice E6 e6 f6) (.slice E7 e7 f7) (.slice E8 e8 f8) (.slice E9 e9 f9) 29
  have hB0 := below_alloc w (.cells #[.string p.n, .int .i64 p.e, .string p.u, .string p.r, (.slice E1 e1 f1), (.slice E2 e2 f2), (.slice E3 e3 f3), (.slice E4 e4 f4), (.slice E5 e5 f5), (.slice E6 e6 f6), (.slice E7 e7 f7), (.slice E8 e8 f8), (.slice E9 e9 f9)] 29)
  have HPA := Lib.hid h
  clear h hxr
  obtain ⟨m, hm⟩ : ∃ m, w.heap.size = m := ⟨_, rfl⟩
  rw [hm] at X0
  go_enter Tryz.func7, Tryz.ntmps7
  go_wp2_with fail
  (try rw [hm])
  generalize w.alloc (.cells #[.string p.n, .int .i64 p.e, .string p.u, .string p.r, (.slice E1 e1 f1), (.slice E2 e2 f2), (.slice E3 e3 f3), (.slice E4 e4 f4), (.slice E5 e5 f5), (.slice E6 e6 f6), (.slice E7 e7 f7), (.slice E8 e8 f8), (.slice E9 e9 f9)] 29) = W0 at X0 hB0 ⊢
  clear hm
  refine (CS.out W0 hB0).mono ?_
  rintro E w1 ⟨rfl, hb⟩
  have X1 := X0.below hb
  have HB1 := Lib.hid (step_below hB0 hb)
  clear hb hB0 X0
  clear X1
  go_wp2_with fail
  go_ret
  exact ⟨rfl, HB1.out⟩

set_option maxHeartbeats 4000000 in
set_option maxRecDepth 100000 in
theorem rback_long (v : Value) (p : Pv) (s : ByteArray) (w : World) (h : PackAt w v p) (hb : saysB p = true) (hs : 100 < s.size) : Calls Tryz.prog 7 #[v, .string s] w (BoolIs true w) := by
  have CS := Lib.hid (fun (W : World) (hb : Below w.heap.size w W) => keepSays_calls v p W (h.below hb))
  unfold BoolIs at CS
  rw [hb] at CS
  clear hb
  obtain ⟨v1, v2, v3, v4, v5, v6, v7, v8, v9, rfl, hxr⟩ := id h
  obtain ⟨E1, e1, f1, rfl⟩ := ask_slice hxr.1
  obtain ⟨E2, e2, f2, rfl⟩ := ask_slice hxr.2.1
  obtain ⟨E3, e3, f3, rfl⟩ := term_slice hxr.2.2.1
  obtain ⟨E4, e4, f4, rfl⟩ := term_slice hxr.2.2.2.1
  obtain ⟨E5, e5, f5, rfl⟩ := term_slice hxr.2.2.2.2.1
  obtain ⟨E6, e6, f6, rfl⟩ := term_slice hxr.2.2.2.2.2.1
  obtain ⟨E7, e7, f7, rfl⟩ := slc_sl hxr.2.2.2.2.2.2.1
  obtain ⟨E8, e8, f8, rfl⟩ := slc_sl hxr.2.2.2.2.2.2.2.1
  obtain ⟨E9, e9, f9, rfl⟩ := slc_sl hxr.2.2.2.2.2.2.2.2.1
  have X0 := packBox_new w p (.slice E1 e1 f1) (.slice E2 e2 f2) (.slice E3 e3 f3) (.slice E4 e4 f4) (.slice E5 e5 f5) (.slice E6 e6 f6) (.slice E7 e7 f7) (.slice E8 e8 f8) (.slice E9 e9 f9) 29
  have hB0 := below_alloc w (.cells #[.string p.n, .int .i64 p.e, .string p.u, .string p.r, (.slice E1 e1 f1), (.slice E2 e2 f2), (.slice E3 e3 f3), (.slice E4 e4 f4), (.slice E5 e5 f5), (.slice E6 e6 f6), (.slice E7 e7 f7), (.slice E8 e8 f8), (.slice E9 e9 f9)] 29)
  have HPA := Lib.hid h
  clear h hxr
  obtain ⟨m, hm⟩ : ∃ m, w.heap.size = m := ⟨_, rfl⟩
  rw [hm] at X0
  go_enter Tryz.func7, Tryz.ntmps7
  go_wp2_with fail
  (try rw [hm])
  generalize w.alloc (.cells #[.string p.n, .int .i64 p.e, .string p.u, .string p.r, (.slice E1 e1 f1), (.slice E2 e2 f2), (.slice E3 e3 f3), (.slice E4 e4 f4), (.slice E5 e5 f5), (.slice E6 e6 f6), (.slice E7 e7 f7), (.slice E8 e8 f8), (.slice E9 e9 f9)] 29) = W0 at X0 hB0 ⊢
  clear hm
  refine (CS.out W0 hB0).mono ?_
  rintro E w1 ⟨rfl, hb⟩
  have X1 := X0.below hb
  have HB1 := Lib.hid (step_below hB0 hb)
  clear hb hB0 X0
  clear X1
  go_wp2_with fail
  go_ret
  exact ⟨rfl, HB1.out⟩

set_option maxHeartbeats 4000000 in
set_option maxRecDepth 100000 in
theorem rback_err (v : Value) (p : Pv) (s : ByteArray) (w : World) (hE : Env w) (hG : EnvE w) (hS : EnvS w) (h : PackAt w v p) (hb : saysB p = true) (hs : ¬ 100 < s.size) (hf : p.Fit) (n : Int) (hn : fldE p = n) (h14 : (n = 1 ∧ saysOk p = false) ∨ n = 4) : Calls Tryz.prog 7 #[v, .string s] w (BoolIs true w) := by
  have CS := Lib.hid (fun (W : World) (hb : Below w.heap.size w W) => keepSays_calls v p W (h.below hb))
  unfold BoolIs at CS
  rw [hb] at CS
  have CT := Lib.hid (fun (W : World) (hb : Below w.heap.size w W) => told_holds W (hE.below hb) (hS.below hb))
  unfold BoolIs at CT
  have CF := Lib.hid (fun (W : World) (hb : Below w.heap.size w W) => recFields_calls v p W (hE.below hb) (hS.below hb) (h.below hb) hf)
  unfold RecFieldsIs at CF
  rw [hn] at CF
  have hev : errV n = .iface 32 (.int .i64 n) := by unfold errV; rw [if_neg (by omega)]
  rw [hev] at CF
  have CE := Lib.hid (fun (W : World) (hb : Below w.heap.size w W) => tell_errno n W (hG.below hb))
  have CR := Lib.hid (fun (W : World) (hb : Below w.heap.size w W) => recRight_calls v p W (hE.below hb) (h.below hb) hf)
  unfold BoolIs at CR
  have HSO := Lib.hid h14
  clear hb hE hG hS hf hn hev h14
  obtain ⟨v1, v2, v3, v4, v5, v6, v7, v8, v9, rfl, hxr⟩ := id h
  obtain ⟨E1, e1, f1, rfl⟩ := ask_slice hxr.1
  obtain ⟨E2, e2, f2, rfl⟩ := ask_slice hxr.2.1
  obtain ⟨E3, e3, f3, rfl⟩ := term_slice hxr.2.2.1
  obtain ⟨E4, e4, f4, rfl⟩ := term_slice hxr.2.2.2.1
  obtain ⟨E5, e5, f5, rfl⟩ := term_slice hxr.2.2.2.2.1
  obtain ⟨E6, e6, f6, rfl⟩ := term_slice hxr.2.2.2.2.2.1
  obtain ⟨E7, e7, f7, rfl⟩ := slc_sl hxr.2.2.2.2.2.2.1
  obtain ⟨E8, e8, f8, rfl⟩ := slc_sl hxr.2.2.2.2.2.2.2.1
  obtain ⟨E9, e9, f9, rfl⟩ := slc_sl hxr.2.2.2.2.2.2.2.2.1
  have X0 := packBox_new w p (.slice E1 e1 f1) (.slice E2 e2 f2) (.slice E3 e3 f3) (.slice E4 e4 f4) (.slice E5 e5 f5) (.slice E6 e6 f6) (.slice E7 e7 f7) (.slice E8 e8 f8) (.slice E9 e9 f9) 29
  have hB0 := below_alloc w (.cells #[.string p.n, .int .i64 p.e, .string p.u, .string p.r, (.slice E1 e1 f1), (.slice E2 e2 f2), (.slice E3 e3 f3), (.slice E4 e4 f4), (.slice E5 e5 f5), (.slice E6 e6 f6), (.slice E7 e7 f7), (.slice E8 e8 f8), (.slice E9 e9 f9)] 29)
  have HPA := Lib.hid h
  clear h hxr
  obtain ⟨m, hm⟩ : ∃ m, w.heap.size = m := ⟨_, rfl⟩
  rw [hm] at X0
  go_enter Tryz.func7, Tryz.ntmps7
  go_wp2_with fail
  (try rw [hm])
  generalize w.alloc (.cells #[.string p.n, .int .i64 p.e, .string p.u, .string p.r, (.slice E1 e1 f1), (.slice E2 e2 f2), (.slice E3 e3 f3), (.slice E4 e4 f4), (.slice E5 e5 f5), (.slice E6 e6 f6), (.slice E7 e7 f7), (.slice E8 e8 f8), (.slice E9 e9 f9)] 29) = W0 at X0 hB0 ⊢
  clear hm
  refine (CS.out W0 hB0).mono ?_
  rintro E w1 ⟨rfl, hb⟩
  have X1 := X0.below hb
  have HB1 := Lib.hid (step_below hB0 hb)
  clear hb hB0 X0
  go_wp2_with fail
  refine (CT.out w1 HB1.out).mono ?_
  rintro E w2 ⟨rfl, hb⟩
  have X2 := X1.below hb
  have HB2 := Lib.hid (step_below HB1.out hb)
  clear hb X1 CT CS
  obtain ⟨c0, c1, c2, c3, c4, c5, c6, c7, c8, c9, c10, c11, c12⟩ := id X2
  go_wp2_with fail
  refine (CF.out w2 HB2.out).mono ?_
  rintro E w3 ⟨vl, rfl, hl, hb⟩
  obtain ⟨A, k, c, rfl⟩ := slc_sl hl
  have X3 := X2.below hb
  have HB3 := Lib.hid (step_below HB2.out hb)
  clear hb X2 CF hl
  clear c0 c1 c2 c3 c4 c5 c6 c7 c8 c9 c10 c11 c12
  obtain ⟨c0, c1, c2, c3, c4, c5, c6, c7, c8, c9, c10, c11, c12⟩ := id X3
  go_wp2_with fail
  refine (CE.out w3 HB3.out).mono ?_
  rintro E w4 ⟨rfl, hb⟩
  have X4 := X3.below hb
  have HB4 := Lib.hid (step_below HB3.out hb)
  clear hb X3
  clear c0 c1 c2 c3 c4 c5 c6 c7 c8 c9 c10 c11 c12
  obtain ⟨c0, c1, c2, c3, c4, c5, c6, c7, c8, c9, c10, c11, c12⟩ := id X4
  rcases HSO.out with ⟨rfl, hso⟩ | rfl
  · rw [hso] at CR
    clear hso
    go_wp2_with fail
    refine (CR.out w4 HB4.out).mono ?_
    rintro E w5 ⟨rfl, hb⟩
    have HB5 := Lib.hid (step_below HB4.out hb)
    clear hb X4
    clear c0 c1 c2 c3 c4 c5 c6 c7 c8 c9 c10 c11 c12
    go_wp2_with fail
    go_ret
    exact ⟨rfl, HB5.out⟩
  · go_wp2_with fail
    refine (CE.out w4 HB4.out).mono ?_
    rintro E w5 ⟨rfl, hb⟩
    have HB5 := Lib.hid (step_below HB4.out hb)
    clear hb X4
    clear c0 c1 c2 c3 c4 c5 c6 c7 c8 c9 c10 c11 c12
    go_wp2_with fail
    go_ret
    exact ⟨rfl, HB5.out⟩

set_option maxHeartbeats 4000000 in
set_option maxRecDepth 100000 in
theorem rback_main (v : Value) (p : Pv) (s : ByteArray) (w : World) (hE : Env w) (hS : EnvS w) (h : PackAt w v p) (hb : saysB p = true) (hs : ¬ 100 < s.size) (hf : p.Fit) (hy : saysOk p = true) (hz : stanzaB (fldB p) = true) : Calls Tryz.prog 7 #[v, .string s] w (BoolIs true w) := by
  have CS := Lib.hid (fun (W : World) (hb : Below w.heap.size w W) => keepSays_calls v p W (h.below hb))
  unfold BoolIs at CS
  rw [hb] at CS
  have CT := Lib.hid (fun (W : World) (hb : Below w.heap.size w W) => told_holds W (hE.below hb) (hS.below hb))
  unfold BoolIs at CT
  have CF := Lib.hid (fun (W : World) (hb : Below w.heap.size w W) => fields_back v p W (hE.below hb) (hS.below hb) (h.below hb) hf hy hz)
  have CQ := Lib.hid (fun (y : Value) (W : World) (hb : Below w.heap.size w W) (h : PackAt W y (noFiles p)) => fields_back y (noFiles p) W (hE.below hb) (hS.below hb) h hf.noFiles hy hz)
  have CG := Lib.hid (fun (vl : Value) (W : World) (hb : Below w.heap.size w W) (h : FieldsAt W vl (fldB p)) => read_again vl p [] noneOf_nil (fun f hf => by cases hf) W (hE.below hb) (hS.below hb) (by rw [List.append_nil]; exact h) hy hz)
  have CM := Lib.hid (fun (vl : Value) (W : World) (hb : Below w.heap.size w W) (h : FieldsAt W vl (fldB p ++ [⟨nMore, s⟩])) => read_again vl p [⟨nMore, s⟩] (noneOf_more s) (fun f hf => by rw [List.mem_singleton.1 hf]; exact ⟨show nMore.size ≤ 4000 by decide, show s.size ≤ 4000 by omega⟩) W (hE.below hb) (hS.below hb) h hy hz)
  have CR := Lib.hid (fun (W : World) (hb : Below w.heap.size w W) => recRight_calls v p W (hE.below hb) (h.below hb) hf)
  unfold BoolIs at CR
  rw [hy] at CR
  have HE1 := Lib.hid (show -9223372036854775808 ≤ p.e ∧ p.e ≤ 9223372036854775807 by obtain ⟨_, _, _, _, _, _, _, _, _, _, _, _, _, _, _, _, _, _, _, h1, h2⟩ := h; exact ⟨h1, h2⟩)
  have HLN := Lib.hid ((fld_lens p).2.2.2.2.2.2.2.2)
  clear hb hE hS hf hy hz
  obtain ⟨v1, v2, v3, v4, v5, v6, v7, v8, v9, rfl, hxr⟩ := id h
  obtain ⟨E1, e1, f1, rfl⟩ := ask_slice hxr.1
  obtain ⟨E2, e2, f2, rfl⟩ := ask_slice hxr.2.1
  obtain ⟨E3, e3, f3, rfl⟩ := term_slice hxr.2.2.1
  obtain ⟨E4, e4, f4, rfl⟩ := term_slice hxr.2.2.2.1
  obtain ⟨E5, e5, f5, rfl⟩ := term_slice hxr.2.2.2.2.1
  obtain ⟨E6, e6, f6, rfl⟩ := term_slice hxr.2.2.2.2.2.1
  obtain ⟨E7, e7, f7, rfl⟩ := slc_sl hxr.2.2.2.2.2.2.1
  obtain ⟨E8, e8, f8, rfl⟩ := slc_sl hxr.2.2.2.2.2.2.2.1
  obtain ⟨E9, e9, f9, rfl⟩ := slc_sl hxr.2.2.2.2.2.2.2.2.1
  have X0 := packBox_new w p (.slice E1 e1 f1) (.slice E2 e2 f2) (.slice E3 e3 f3) (.slice E4 e4 f4) (.slice E5 e5 f5) (.slice E6 e6 f6) (.slice E7 e7 f7) (.slice E8 e8 f8) (.slice E9 e9 f9) 29
  have hB0 := below_alloc w (.cells #[.string p.n, .int .i64 p.e, .string p.u, .string p.r, (.slice E1 e1 f1), (.slice E2 e2 f2), (.slice E3 e3 f3), (.slice E4 e4 f4), (.slice E5 e5 f5), (.slice E6 e6 f6), (.slice E7 e7 f7), (.slice E8 e8 f8), (.slice E9 e9 f9)] 29)
  have HPA := Lib.hid h
  clear h hxr
  obtain ⟨m, hm⟩ : ∃ m, w.heap.size = m := ⟨_, rfl⟩
  rw [hm] at X0
  go_enter Tryz.func7, Tryz.ntmps7
  go_wp2_with fail
  (try rw [hm])
  generalize w.alloc (.cells #[.string p.n, .int .i64 p.e, .string p.u, .string p.r, (.slice E1 e1 f1), (.slice E2 e2 f2), (.slice E3 e3 f3), (.slice E4 e4 f4), (.slice E5 e5 f5), (.slice E6 e6 f6), (.slice E7 e7 f7), (.slice E8 e8 f8), (.slice E9 e9 f9)] 29) = W0 at X0 hB0 ⊢
  clear hm
  refine (CS.out W0 hB0).mono ?_
  rintro E w1 ⟨rfl, hb⟩
  have X1 := X0.below hb
  have HB1 := Lib.hid (step_below hB0 hb)
  clear hb hB0 X0
  go_wp2_with fail
  refine (CT.out w1 HB1.out).mono ?_
  rintro E w2 ⟨rfl, hb⟩
  have X2 := X1.below hb
  have HB2 := Lib.hid (step_below HB1.out hb)
  clear hb X1 CT CS
  obtain ⟨c0, c1, c2, c3, c4, c5, c6, c7, c8, c9, c10, c11, c12⟩ := id X2
  go_wp2_with fail
  refine (CF.out w2 HB2.out).mono ?_
  rintro E w3 ⟨A, k, c, rfl, hl, hb⟩
  have X3 := X2.below hb
  have HB3 := Lib.hid (step_below HB2.out hb)
  have HL3 := Lib.hid hl
  clear hb X2 CF hl
  clear c0 c1 c2 c3 c4 c5 c6 c7 c8 c9 c10 c11 c12
  go_wp2_with fail
  refine (CG.out _ w3 HB3.out HL3.out).mono ?_
  rintro E w4 ⟨A1, nA1, cA1, A2, nA2, cA2, A3, nA3, cA3, A4, nA4, cA4, A5, nA5, cA5, A6, nA6, cA6, A7, nA7, cA7, A8, nA8, cA8, rfl, hfr, hb⟩
  have X4 := X3.below hb
  have HB4 := Lib.hid (step_below HB3.out hb)
  have HL4 := Lib.hid (HL3.out.below hb)
  have HQ4 := Lib.hid (hfr.at HE1.out.1 HE1.out.2)
  clear hb X3 HL3 CG hfr
  go_upto_region 9 with fail
  have hba := below_alloc w4 (.cells #[.string (noFiles p).n, .int .i64 (noFiles p).e, .string (noFiles p).u, .string (noFiles p).r, .slice A1 nA1 cA1, .slice A2 nA2 cA2, .slice A3 nA3 cA3, .slice A4 nA4 cA4, .slice A5 nA5 cA5, .slice A6 nA6 cA6, .slice A7 nA7 cA7, .slice A8 nA8 cA8, .slice none 0 0] 29)
  have K5 := Lib.hid (pk_new w4 #[.string (noFiles p).n, .int .i64 (noFiles p).e, .string (noFiles p).u, .string (noFiles p).r, .slice A1 nA1 cA1, .slice A2 nA2 cA2, .slice A3 nA3 cA3, .slice A4 nA4 cA4, .slice A5 nA5 cA5, .slice A6 nA6 cA6, .slice A7 nA7 cA7, .slice A8 nA8 cA8, .slice none 0 0])
  have X5 := X4.below hba
  have HB5 := Lib.hid (step_below HB4.out hba)
  have HL5 := Lib.hid (HL4.out.below hba)
  have HQ5 := Lib.hid (HQ4.out.below hba)
  obtain ⟨m7, hm7⟩ : ∃ m7, w4.heap.size = m7 := ⟨_, rfl⟩
  have HM7 := Lib.hid hm7
  rw [hm7] at K5
  (try rw [hm7])
  generalize w4.alloc (.cells #[.string (noFiles p).n, .int .i64 (noFiles p).e, .string (noFiles p).u, .string (noFiles p).r, .slice A1 nA1 cA1, .slice A2 nA2 cA2, .slice A3 nA3 cA3, .slice A4 nA4 cA4, .slice A5 nA5 cA5, .slice A6 nA6 cA6, .slice A7 nA7 cA7, .slice A8 nA8 cA8, .slice none 0 0] 29) = W5 at hba K5 X5 HB5 HL5 HQ5 ⊢
  have HC5 := Lib.hid hba
  have k0 := K5.out.cell (i := 0) rfl
  have k1 := K5.out.cell (i := 1) rfl
  have k2 := K5.out.cell (i := 2) rfl
  have k3 := K5.out.cell (i := 3) rfl
  have k4 := K5.out.cell (i := 4) rfl
  have k5 := K5.out.cell (i := 5) rfl
  have k6 := K5.out.cell (i := 6) rfl
  have k7 := K5.out.cell (i := 7) rfl
  have k8 := K5.out.cell (i := 8) rfl
  have k9 := K5.out.cell (i := 9) rfl
  have k10 := K5.out.cell (i := 10) rfl
  have k11 := K5.out.cell (i := 11) rfl
  have k12 := K5.out.cell (i := 12) rfl
  have HB4s := Lib.hid HB4.out.size
  clear X4 HB4 HQ4 hba hm7
  go_wp2_with fail
  refine (CQ.out _ W5 HB5.out HQ5.out).mono ?_
  rintro E w6 ⟨A', n', c', rfl, hl6, hb⟩
  have X6 := X5.below hb
  have HB6 := Lib.hid (step_below HB5.out hb)
  have HC6 := Lib.hid (step_below HC5.out hb)
  have HL6 := Lib.hid (HL5.out.below hb)
  have K6 := Lib.hid (K5.out.keep hb)
  have CS6 := Lib.hid (keepSameFields_calls _ _ (fldB p) w6 hl6 HL6.out)
  clear hb X5 HB5 HC5 HL5 K5 HQ5 hl6 k0 k1 k2 k3 k4 k5 k6 k7 k8 k9 k10 k11 k12
  go_wp2_with fail
  refine CS6.out.mono ?_
  rintro E w7 ⟨rfl, hb⟩
  have X7 := X6.below hb
  have HB7 := Lib.hid (step_below HB6.out hb)
  have HC7 := Lib.hid (step_below HC6.out hb)
  have HL7 := Lib.hid (HL6.out.below hb)
  have K7 := Lib.hid (K6.out.keep hb)
  clear hb X6 HB6 HC6 HL6 K6 CS6
  obtain ⟨c0, c1, c2, c3, c4, c5, c6, c7, c8, c9, c10, c11, c12⟩ := id X7
  go_wp2_with fail
  refine (CR.out w7 HB7.out).mono ?_
  rintro E w8 ⟨rfl, hb⟩
  have HB8 := Lib.hid (step_below HB7.out hb)
  have HC8 := Lib.hid (step_below HC7.out hb)
  have HL8 := Lib.hid (HL7.out.below hb)
  have K8 := Lib.hid (K7.out.keep hb)
  clear hb X7 HB7 HC7 HL7 K7 CR
  clear c0 c1 c2 c3 c4 c5 c6 c7 c8 c9 c10 c11 c12
  obtain ⟨i0, hi, hz0, hz1, hz2⟩ := info_parts info_field
  obtain ⟨fs, hfs⟩ : ∃ fs, fldB p = fs := ⟨_, rfl⟩
  have HFS := Lib.hid hfs
  have hsrc := SlC.src HL8.out
  have hln := HLN.out
  rw [hfs] at hsrc hln
  have hz8 := HB8.out.size
  clear hfs
  go_upto_region 15 with (first | (at_builtin; refine wpList_append_src _ rfl _ _ 31 rfl w8.heap.size 69 i0 (.agg #[.string ⟨#[]⟩, .string ⟨#[]⟩]) 2 32 Tryz.underlying31 hi hz0 hz1 hz2 rfl (by decide) _ _ _ rfl (made_at w8 _ _) _ fs.length (fs.flatMap fldC) rfl (hsrc.below (below_alloc _ _)) (flat_len fs) (flat_one fs) (by simp only [maxLen]; omega) (by omega) (by simp) ?_; intro v9 w9 own9 g9; have hb9 := below_grown (below_alloc w8 (.cells #[] 69)) (made_at w8 69 2) g9; have hz9 := hb9.size; clear hsrc) | (at_builtin; refine wpList_append_own _ rfl _ _ 31 rfl w8.heap.size 69 i0 (.agg #[.string ⟨#[]⟩, .string ⟨#[]⟩]) 2 32 Tryz.underlying31 hi hz0 hz1 hz2 rfl (by decide) _ _ _ rfl (own9.alloc _) ⟨w9.heap.size, 0, none⟩ 1 1 (fldC ⟨nMore, s⟩) rfl rfl (cells_new2 _ _ _) (by simp [Value.oneCell', fldC]) (by simp only [maxLen]; omega) (by omega) (by simp; omega) ?_; intro v10 w10 own10 g10 hnil) | (go_at_call 26; have hb10 := below_grown (step_below hb9 (below_alloc _ _)) (own9.alloc _) g10; have hfa : FieldsAt w10 v10 (fldB p ++ [⟨nMore, s⟩]) := (by rw [HFS.out]; exact slc_of_own (by rw [List.flatMap_append]; simpa using own10) (by simp) (by omega)); refine (CM.out _ w10 (step_below HB8.out hb10) hfa).mono ?_; rintro E w11 ⟨B1, nB1, cB1, B2, nB2, cB2, B3, nB3, cB3, B4, nB4, cB4, B5, nB5, cB5, B6, nB6, cB6, B7, nB7, cB7, B8, nB8, cB8, rfl, hfr, hb11⟩; have K11 := (K8.out.keep hb10).keep hb11; have fk := K11.frozen; have k0 := K11.cell (i := 0) rfl; have k1 := K11.cell (i := 1) rfl; have k2 := K11.cell (i := 2) rfl; have k3 := K11.cell (i := 3) rfl; have k4 := K11.cell (i := 4) rfl; have k5 := K11.cell (i := 5) rfl; have k6 := K11.cell (i := 6) rfl; have k7 := K11.cell (i := 7) rfl; have k8 := K11.cell (i := 8) rfl; have k9 := K11.cell (i := 9) rfl; have k10 := K11.cell (i := 10) rfl; have k11 := K11.cell (i := 11) rfl; have k12 := K11.cell (i := 12) rfl))
  have HB11 := step_below (step_below HB8.out hb10) hb11
  have HC11 := step_below (step_below HC8.out hb10) hb11
  have hm7l : m7 < w10.heap.size := (K8.out.keep hb10).lt
  have hwm : w.heap.size ≤ m7 := by rw [← HM7.out]; exact HB4s.out
  have HB12 := Lib.hid (below_set13 HB11 hwm (.string (noFiles p).n) (.int .i64 (noFiles p).e) (.string (noFiles p).u) (.string (noFiles p).r) (.slice B1 nB1 cB1) (.slice B2 nB2 cB2) (.slice B3 nB3 cB3) (.slice B4 nB4 cB4) (.slice B5 nB5 cB5) (.slice B6 nB6 cB6) (.slice B7 nB7 cB7) (.slice B8 nB8 cB8) (.slice none 0 0))
  have HC12 := Lib.hid (below_set13 HC11 (Nat.le_of_eq HM7.out) (.string (noFiles p).n) (.int .i64 (noFiles p).e) (.string (noFiles p).u) (.string (noFiles p).r) (.slice B1 nB1 cB1) (.slice B2 nB2 cB2) (.slice B3 nB3 cB3) (.slice B4 nB4 cB4) (.slice B5 nB5 cB5) (.slice B6 nB6 cB6) (.slice B7 nB7 cB7) (.slice B8 nB8 cB8) (.slice none 0 0))
  have HQ12 := Lib.hid ((hfr.keep (fromAs_set13 hm7l (.string (noFiles p).n) (.int .i64 (noFiles p).e) (.string (noFiles p).u) (.string (noFiles p).r) (.slice B1 nB1 cB1) (.slice B2 nB2 cB2) (.slice B3 nB3 cB3) (.slice B4 nB4 cB4) (.slice B5 nB5 cB5) (.slice B6 nB6 cB6) (.slice B7 nB7 cB7) (.slice B8 nB8 cB8) (.slice none 0 0))).at HE1.out.1 HE1.out.2)
  have K12 := Lib.hid (pk_set13 K11 (.string (noFiles p).n) (.int .i64 (noFiles p).e) (.string (noFiles p).u) (.string (noFiles p).r) (.slice B1 nB1 cB1) (.slice B2 nB2 cB2) (.slice B3 nB3 cB3) (.slice B4 nB4 cB4) (.slice B5 nB5 cB5) (.slice B6 nB6 cB6) (.slice B7 nB7 cB7) (.slice B8 nB8 cB8) (.slice none 0 0))
  clear K11 fk k0 k1 k2 k3 k4 k5 k6 k7 k8 k9 k10 k11 k12 hfr hb11 HB11 HC11 hb10 hfa hb9
  generalize (((((((((((((w11.setCell ⟨m7, 0, none⟩ (.string (noFiles p).n)).setCell ⟨m7, 1, none⟩ (.int .i64 (noFiles p).e)).setCell ⟨m7, 2, none⟩ (.string (noFiles p).u)).setCell ⟨m7, 3, none⟩ (.string (noFiles p).r)).setCell ⟨m7, 4, none⟩ (.slice B1 nB1 cB1)).setCell ⟨m7, 5, none⟩ (.slice B2 nB2 cB2)).setCell ⟨m7, 6, none⟩ (.slice B3 nB3 cB3)).setCell ⟨m7, 7, none⟩ (.slice B4 nB4 cB4)).setCell ⟨m7, 8, none⟩ (.slice B5 nB5 cB5)).setCell ⟨m7, 9, none⟩ (.slice B6 nB6 cB6)).setCell ⟨m7, 10, none⟩ (.slice B7 nB7 cB7)).setCell ⟨m7, 11, none⟩ (.slice B8 nB8 cB8)).setCell ⟨m7, 12, none⟩ (.slice none 0 0)) = W12 at HB12 HC12 HQ12 K12 ⊢
  have HL12 := Lib.hid (HL4.out.below HC12.out)
  have k0 := K12.out.cell (i := 0) rfl
  have k1 := K12.out.cell (i := 1) rfl
  have k2 := K12.out.cell (i := 2) rfl
  have k3 := K12.out.cell (i := 3) rfl
  have k4 := K12.out.cell (i := 4) rfl
  have k5 := K12.out.cell (i := 5) rfl
  have k6 := K12.out.cell (i := 6) rfl
  have k7 := K12.out.cell (i := 7) rfl
  have k8 := K12.out.cell (i := 8) rfl
  have k9 := K12.out.cell (i := 9) rfl
  have k10 := K12.out.cell (i := 10) rfl
  have k11 := K12.out.cell (i := 11) rfl
  have k12 := K12.out.cell (i := 12) rfl
  go_wp2_with fail
  refine (CQ.out _ W12 HB12.out HQ12.out).mono ?_
  rintro E w13 ⟨A'', n'', c'', rfl, hl13, hb⟩
  have HB13 := Lib.hid (step_below HB12.out hb)
  have CS13 := Lib.hid (keepSameFields_calls _ _ (fldB p) w13 hl13 (HL12.out.below hb))
  clear hb hl13 k0 k1 k2 k3 k4 k5 k6 k7 k8 k9 k10 k11 k12
  go_wp2_with fail
  refine CS13.out.mono ?_
  rintro E w14 ⟨rfl, hb⟩
  have HB14 := Lib.hid (step_below HB13.out hb)
  clear hb CS13
  go_wp2_with fail
  go_ret
  exact ⟨rfl, HB14.out⟩

theorem rback_calls (v : Value) (p : Pv) (s : ByteArray) (w : World) (hE : Env w) (hG : EnvE w) (hS : EnvS w) (h : PackAt w v p) : Calls Tryz.prog 7 #[v, .string s] w (BoolIs true w) := by
  cases hb : saysB p with
  | false => exact rback_no v p s w h hb
  | true =>
  by_cases hs : 100 < s.size
  · exact rback_long v p s w h hb hs
  have hf := fit_of h hb
  cases hy : saysOk p with
  | false => exact rback_err v p s w hE hG hS h hb hs hf 1 (by unfold fldE; rw [hy]; rfl) (.inl ⟨rfl, hy⟩)
  | true =>
  cases hz : stanzaB (fldB p) with
  | false => exact rback_err v p s w hE hG hS h hb hs hf 4 (by unfold fldE; rw [hy, hz]; rfl) (.inr rfl)
  | true => exact rback_main v p s w hE hS h hb hs hf hy hz
end Go.Proofs.YtodbbfgkclkpgaaGreatDoor

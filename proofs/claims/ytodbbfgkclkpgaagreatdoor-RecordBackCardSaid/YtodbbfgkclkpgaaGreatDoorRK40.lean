/- The reference's Fields: the walk. -/
import Derived.Test.YtodbbfgkclkpgaaGreatDoorRK39
import Derived.Test.YtodbbfgkclkpgaaGreatDoorRK37
import Derived.Test.YtodbbfgkclkpgaaGreatDoorRK18
import Derived.Test.YtodbbfgkclkpgaaGreatDoorRK29
import Derived.Deep.RegionWith
import Derived.Deep.RegionHeld3
import Derived.Deep.DeepCutAuto
namespace Go.Proofs.YtodbbfgkclkpgaaGreatDoor
open Go Go.RowKit

def SixR (w0 : World) (m : Nat) (u4 u5 u6 u7 u8 u9 : Value) (W : World) : Prop := W.cell? ⟨m, 4, none⟩ = some u4 ∧ W.cell? ⟨m, 5, none⟩ = some u5 ∧ W.cell? ⟨m, 6, none⟩ = some u6 ∧ W.cell? ⟨m, 7, none⟩ = some u7 ∧ W.cell? ⟨m, 8, none⟩ = some u8 ∧ W.cell? ⟨m, 9, none⟩ = some u9 ∧ Below w0.heap.size w0 W
theorem sixR_go {w0 W W' : World} {m : Nat} {u4 u5 u6 u7 u8 u9 : Value} (h : SixR w0 m u4 u5 u6 u7 u8 u9 W) (hb : Below W.heap.size W W') : SixR w0 m u4 u5 u6 u7 u8 u9 W' := by
  obtain ⟨h4, h5, h6, h7, h8, h9, hz⟩ := h
  exact ⟨kept hb h4, kept hb h5, kept hb h6, kept hb h7, kept hb h8, kept hb h9, step_below hz hb⟩
theorem sixR_below {w0 W : World} {m : Nat} {u4 u5 u6 u7 u8 u9 : Value} (h : SixR w0 m u4 u5 u6 u7 u8 u9 W) : Below w0.heap.size w0 W := h.2.2.2.2.2.2

theorem ask_go {m : Nat} {W W' : World} {v : Value} {L : List (List Tv)} (h : AskedAt W v L ∧ AskedTy W m v L) (hb : Below W.heap.size W W') (hm : m ≤ W.heap.size) : AskedAt W' v L ∧ AskedTy W' m v L := (KeptT.of_below hb hm).asked h.1 h.2

set_option maxHeartbeats 8000000 in
set_option maxRecDepth 100000 in
theorem refFields_yes (v : Value) (p : Pv) (w : World) (hE : Env w) (h : PackAt w v p) (hf : p.Fit) (hy : saysOk p = true) : Calls Tryz.prog 12 #[v] w (RefFieldsIs p w) := by
  obtain ⟨v1, v2, v3, v4, v5, v6, v7, v8, v9, rfl, h1, h2, h3, h4, h5, h6, h7, h8, h9, hlo, hhi⟩ := id h
  obtain ⟨m, hm⟩ : ∃ m, w.heap.size = m := ⟨_, rfl⟩
  obtain ⟨A1, n1, k1, rfl⟩ := asked_slice h1
  obtain ⟨A2, n2, k2, rfl⟩ := asked_slice h2
  obtain ⟨A7, n7, k7, rfl⟩ := strs_slice h7
  obtain ⟨A8, n8, k8, rfl⟩ := strs_slice h8
  have hB0 := below_alloc w (.cells #[.string p.n, .int .i64 p.e, .string p.u, .string p.r, .slice A1 n1 k1, .slice A2 n2 k2, v3, v4, v5, v6, .slice A7 n7 k7, .slice A8 n8 k8, v9] 29)
  have CR := Lib.hid (refSays_calls _ p _ (hE.below hB0) (h.below hB0) hf)
  rw [hy] at CR
  have X0 := packBox_new w p (.slice A1 n1 k1) (.slice A2 n2 k2) v3 v4 v5 v6 (.slice A7 n7 k7) (.slice A8 n8 k8) v9 29
  obtain ⟨c0, c1, c2, c3, c4, c5, c6, c7, c8, c9, c10, c11, c12⟩ := id X0
  have T0 : Ty (w.alloc (.cells #[.string p.n, .int .i64 p.e, .string p.u, .string p.r, .slice A1 n1 k1, .slice A2 n2 k2, v3, v4, v5, v6, .slice A7 n7 k7, .slice A8 n8 k8, v9] 29)) w.heap.size w.heap.size := ty_new _ _ _ _ (by decide)
  have CP := Lib.hid (fun (W : World) (hb : Below w.heap.size w W) => refPrint_calls p.e p.u p.r W (hE.below hb) hlo hhi (by have := hf.u; omega) (by have := hf.r; omega))
  have OK := ok_of hy
  have HS3 := Lib.hid (fun (W : World) (hb : Below w.heap.size w W) => refSinglesT_calls m v3 p.ag W (h3.below hb) (by rw [← hm]; exact hb.size) (by rw [← hm]; exact block_of2 h3) hf.agN)
  have HS4 := Lib.hid (fun (W : World) (hb : Below w.heap.size w W) => refSinglesT_calls m v4 p.br W (h4.below hb) (by rw [← hm]; exact hb.size) (by rw [← hm]; exact block_of2 h4) hf.brN)
  have HS5 := Lib.hid (fun (W : World) (hb : Below w.heap.size w W) => refSinglesT_calls m v5 p.re W (h5.below hb) (by rw [← hm]; exact hb.size) (by rw [← hm]; exact block_of2 h5) hf.reN)
  have HS6 := Lib.hid (fun (W : World) (hb : Below w.heap.size w W) => refSinglesT_calls m v6 p.pr W (h6.below hb) (by rw [← hm]; exact hb.size) (by rw [← hm]; exact block_of2 h6) hf.prN)
  have HA1 := Lib.hid (fun (W : World) (hb : Below w.heap.size w W) => (show AskedAt W (.slice A1 n1 k1) p.dep ∧ AskedTy W m (.slice A1 n1 k1) p.dep from ⟨h1.below hb, by rw [← hm]; exact askedTy_below hb (Nat.le_refl _) h1 (askedTy_low (Nat.le_refl _) h1)⟩))
  have HA2 := Lib.hid (fun (W : World) (hb : Below w.heap.size w W) => (show AskedAt W (.slice A2 n2 k2) p.ahead ∧ AskedTy W m (.slice A2 n2 k2) p.ahead from ⟨h2.below hb, by rw [← hm]; exact askedTy_below hb (Nat.le_refl _) h2 (askedTy_low (Nat.le_refl _) h2)⟩))
  have HT7 := Lib.hid h7
  have HT8 := Lib.hid h8
  have HEE := Lib.hid hE
  have HSZ := Lib.hid (fldB_sizes OK hf.n)
  have HY := Lib.hid hy
  have HPA := Lib.hid (paths_len OK.se)
  have HPB := Lib.hid (paths_len OK.li)
  have HSIX := Lib.hid (fun (j : Nat) (L : List (List Tv)) (hL : (sixL p)[j]? = some L) => six_at hf OK hL)
  have HM := Lib.hid hm
  clear h1 h2 h3 h4 h5 h6 h7 h8 h9 h hf hE OK hm
  go_enter Tryz.func12, Tryz.ntmps12
  go_wp2_with fail
  refine CR.out.mono ?_
  rintro E w1 ⟨rfl, hb⟩
  obtain ⟨d0, d1, d2, d3, d4, d5, d6, d7, d8, d9, d10, d11, d12⟩ := X0.below hb
  have hB1 := step_below hB0 hb
  have T1 := Lib.hid (T0.below hb (by rw [World.size_alloc]; omega))
  clear c0 c1 c2 c3 c4 c5 c6 c7 c8 c9 c10 c11 c12 X0 CR hb hB0 T0
  rw [HM.out] at d0 d1 d2 d3 d4 d5 d6 d7 d8 d9 d10 d11 d12 T1
  go_upto_region 3 with fail
  (try rw [HM.out])
  have X1 := Lib.hid (show PackBox w1 m p (.slice A1 n1 k1) (.slice A2 n2 k2) v3 v4 v5 v6 (.slice A7 n7 k7) (.slice A8 n8 k8) v9 from ⟨d0, d1, d2, d3, d4, d5, d6, d7, d8, d9, d10, d11, d12⟩)
  have HB1 := Lib.hid hB1
  have hlm : m ≤ w1.heap.size := by have := hB1.size; have := HM.out; omega
  clear d4 d5 d6 d7 d8 d9 d10 d11 d12 hB1
  have S0 : FourS w1 m p.n p.e p.u p.r w1 := ⟨d0, d1, d2, d3, Below.refl _ _⟩
  have CP1 := Lib.hid (fun (W : World) (hb : Below w1.heap.size w1 W) => CP.out W (step_below HB1.out hb))
  clear CP
  have a0 : ∀ o, (w1.drew.alloc o).cell? ⟨m, 0, none⟩ = some (.string p.n) := fun o => kept (step_below (below_drew w1) (below_alloc _ o)) d0
  have a1 : ∀ o, (w1.drew.alloc o).cell? ⟨m, 1, none⟩ = some (.int .i64 p.e) := fun o => kept (step_below (below_drew w1) (below_alloc _ o)) d1
  have a2 : ∀ o, (w1.drew.alloc o).cell? ⟨m, 2, none⟩ = some (.string p.u) := fun o => kept (step_below (below_drew w1) (below_alloc _ o)) d2
  have a3 : ∀ o, (w1.drew.alloc o).cell? ⟨m, 3, none⟩ = some (.string p.r) := fun o => kept (step_below (below_drew w1) (below_alloc _ o)) d3
  go_cut [4] (fun s4 wx => ∃ g, s4 = .slice (some ⟨g, 0, none⟩) 2 2 ∧ wx.ownsRow m 69 2 (.slice (some ⟨g, 0, none⟩) 2 2) 2 ((fld0 p).flatMap fldC) ∧ Below w1.heap.size w1 wx)
  case first =>
    go_region_with (first | (go_at_call 52; refine (CP1.out _ (by first | exact below_drew _ | exact step_below (below_drew _) (below_alloc _ _))).mono ?_; rintro E w' ⟨t, rfl, ht, hb⟩; have n0 : w'.cell? ⟨m, 0, none⟩ = some (.string p.n) := (by first | exact kept hb (a0 _) | exact kept hb (show w1.drew.cell? _ = _ from d0))))
    all_goals
      have e : t = versS p := data_inj ht
      subst e
      go_wp2_with fail
      go_meet
      have hsz : w1.heap.size ≤ w'.heap.size := by have := hb.size; simp at this; omega
      have hbb : Below w1.heap.size w1 w' := step_below (below_drew w1) hb
      exact ⟨_, rfl, row_new w' m (Nat.le_trans hlm hsz) _ _ _ _, step_below hbb (below_alloc _ _)⟩
  case rest =>
  obtain ⟨g, rfl, hown, hz⟩ := hcut
  have X2 := X1.out.below hz
  have hN : ∀ (k : Nat) n, sixN[k]? = some n → (wc.alloc (.cells #[.string nDepends, .string nPre, .string nConflicts, .string nBreaks, .string nReplaces, .string nProvides] 9)).cell? ⟨wc.heap.size, k, none⟩ = some (.string n) := by
    intro k n hk
    match k, hk with
    | 0, hk => rw [← Option.some.inj hk]; go_cell
    | 1, hk => rw [← Option.some.inj hk]; go_cell
    | 2, hk => rw [← Option.some.inj hk]; go_cell
    | 3, hk => rw [← Option.some.inj hk]; go_cell
    | 4, hk => rw [← Option.some.inj hk]; go_cell
    | 5, hk => rw [← Option.some.inj hk]; go_cell
  have TN : Ty (wc.alloc (.cells #[.string nDepends, .string nPre, .string nConflicts, .string nBreaks, .string nReplaces, .string nProvides] 9)) m wc.heap.size := ty_new _ _ _ _ (by decide)
  have hbn := below_alloc wc (.cells #[.string nDepends, .string nPre, .string nConflicts, .string nBreaks, .string nReplaces, .string nProvides] 9)
  have hownN := own_below hown hbn
  have XN := X2.below hbn
  have hzN := step_below hz hbn
  clear S0 CP1 a0 a1 a2 a3 d0 d1 d2 d3 hown hz hbn X2
  go_upto_region 5 with fail
  obtain ⟨gn, hgn⟩ : ∃ gn, wc.heap.size = gn := ⟨_, rfl⟩
  obtain ⟨Wn, hWn⟩ : ∃ x, x = wc.alloc (.cells #[.string nDepends, .string nPre, .string nConflicts, .string nBreaks, .string nReplaces, .string nProvides] 9) := ⟨_, rfl⟩
  rw [← hWn, hgn] at hN TN
  rw [← hWn] at hownN XN hzN
  (try rw [show wc.alloc (.cells #[.string ⟨#[68, 101, 112, 101, 110, 100, 115]⟩, .string ⟨#[80, 114, 101, 45, 68, 101, 112, 101, 110, 100, 115]⟩, .string ⟨#[67, 111, 110, 102, 108, 105, 99, 116, 115]⟩, .string ⟨#[66, 114, 101, 97, 107, 115]⟩, .string ⟨#[82, 101, 112, 108, 97, 99, 101, 115]⟩, .string ⟨#[80, 114, 111, 118, 105, 100, 101, 115]⟩] 9) = Wn from hWn.symm])
  (try rw [hgn])
  have HN := Lib.hid hN
  have HTN := Lib.hid TN
  have HON := Lib.hid hownN
  have HZN := Lib.hid hzN
  clear hN TN hownN hWn hgn
  have e4 : Wn.drew.cell? ⟨m, 4, none⟩ = some (.slice A1 n1 k1) := kept (below_drew Wn) XN.c4
  have e5 : Wn.drew.cell? ⟨m, 5, none⟩ = some (.slice A2 n2 k2) := kept (below_drew Wn) XN.c5
  have e6 : Wn.drew.cell? ⟨m, 6, none⟩ = some v3 := kept (below_drew Wn) XN.c6
  have e7 : Wn.drew.cell? ⟨m, 7, none⟩ = some v4 := kept (below_drew Wn) XN.c7
  have e8 : Wn.drew.cell? ⟨m, 8, none⟩ = some v5 := kept (below_drew Wn) XN.c8
  have e9 : Wn.drew.cell? ⟨m, 9, none⟩ = some v6 := kept (below_drew Wn) XN.c9
  have HX := Lib.hid XN
  have HS3' := Lib.hid (fun (W : World) (hb : Below Wn.heap.size Wn W) => HS3.out W (step_below HB1.out (step_below HZN.out hb)))
  have HS4' := Lib.hid (fun (W : World) (hb : Below Wn.heap.size Wn W) => HS4.out W (step_below HB1.out (step_below HZN.out hb)))
  have HS5' := Lib.hid (fun (W : World) (hb : Below Wn.heap.size Wn W) => HS5.out W (step_below HB1.out (step_below HZN.out hb)))
  have HS6' := Lib.hid (fun (W : World) (hb : Below Wn.heap.size Wn W) => HS6.out W (step_below HB1.out (step_below HZN.out hb)))
  clear HS3 HS4 HS5 HS6 XN hzN
  have hN6 := (show SixR Wn m (.slice A1 n1 k1) (.slice A2 n2 k2) v3 v4 v5 v6 Wn from ⟨HX.out.c4, HX.out.c5, HX.out.c6, HX.out.c7, HX.out.c8, HX.out.c9, Below.refl _ _⟩)
  clear e4 e5 e6 e7 e8 e9
  go_region_held3 (fun W => W.cell? ⟨m, 4, none⟩ = some (.slice A1 n1 k1) ∧ W.cell? ⟨m, 5, none⟩ = some (.slice A2 n2 k2) ∧ W.cell? ⟨m, 6, none⟩ = some (v3) ∧ W.cell? ⟨m, 7, none⟩ = some (v4) ∧ W.cell? ⟨m, 8, none⟩ = some (v5) ∧ W.cell? ⟨m, 9, none⟩ = some (v6) ∧ Below Wn.heap.size Wn W)
    ((first | assumption | exact sixR_go (by assumption) hb4 | exact sixR_go (by assumption) hb3 | exact sixR_go (by assumption) hb2 | exact sixR_go (by assumption) hb1 | exact sixR_go hN6 (below_drew _) | exact sixR_go (by assumption) (below_drew _) | exact sixR_go (by assumption) (below_alloc _ _)))
    (first | (go_at_call_of 53 v3; (with_reducible refine (HS3'.out _ ?_).mono ?_); (exact sixR_below (by assumption)); rintro E y1 ⟨x1, rfl, hx1, hb1⟩; obtain ⟨B1, o1, l1, rfl⟩ := asked_slice hx1.1; have hy1 := Lib.hid hx1; clear hx1) | (go_at_call_of 53 v4; (with_reducible refine (HS4'.out _ ?_).mono ?_); (exact sixR_below (by assumption)); rintro E y2 ⟨x2, rfl, hx2, hb2⟩; obtain ⟨B2, o2, l2, rfl⟩ := asked_slice hx2.1; have hy2 := Lib.hid hx2; clear hx2) | (go_at_call_of 53 v5; (with_reducible refine (HS5'.out _ ?_).mono ?_); (exact sixR_below (by assumption)); rintro E y3 ⟨x3, rfl, hx3, hb3⟩; obtain ⟨B3, o3, l3, rfl⟩ := asked_slice hx3.1; have hy3 := Lib.hid hx3; clear hx3) | (go_at_call_of 53 v6; (with_reducible refine (HS6'.out _ ?_).mono ?_); (exact sixR_below (by assumption)); rintro E y4 ⟨x4, rfl, hx4, hb4⟩; obtain ⟨B4, o4, l4, rfl⟩ := asked_slice hx4.1; have hy4 := Lib.hid hx4; clear hx4))
  have z1 := step_below (below_drew Wn) hb1
  have z2 := step_below z1 hb2
  have z3 := step_below z2 hb3
  have z4 := step_below z3 hb4
  have hmn : m ≤ Wn.heap.size := Nat.le_trans hlm HZN.out.size
  have hb5 := below_alloc y4 (.cells #[.slice A1 n1 k1, .slice A2 n2 k2, .slice B1 o1 l1, .slice B2 o2 l2, .slice B3 o3 l3, .slice B4 o4 l4] 24)
  have hm1 : m ≤ y1.heap.size := Nat.le_trans hmn z1.size
  have hm2 : m ≤ y2.heap.size := Nat.le_trans hmn z2.size
  have hm3 : m ≤ y3.heap.size := Nat.le_trans hmn z3.size
  have hm4 : m ≤ y4.heap.size := Nat.le_trans hmn z4.size
  have r1 := ask_go hy1.out (step_below (step_below (step_below hb2 hb3) hb4) hb5) hm1
  have r2 := ask_go hy2.out (step_below (step_below hb3 hb4) hb5) hm2
  have r3 := ask_go hy3.out (step_below hb4 hb5) hm3
  have r4 := ask_go hy4.out hb5 hm4
  have z5 := step_below z4 hb5
  have zw5 := step_below HB1.out (step_below HZN.out z5)
  have r5 := HA1.out _ zw5
  have r6 := HA2.out _ zw5
  obtain ⟨V6, hV6⟩ : ∃ V6 : List Value, V6 = [Value.slice A1 n1 k1, .slice A2 n2 k2, .slice B1 o1 l1, .slice B2 o2 l2, .slice B3 o3 l3, .slice B4 o4 l4] := ⟨_, rfl⟩
  have HV6 : V6.length = 6 := by rw [hV6]; rfl
  have H6 : ∀ (j : Nat) (x : Value) (L : List (List Tv)), V6[j]? = some x → (sixL p)[j]? = some L → (y4.alloc (.cells #[.slice A1 n1 k1, .slice A2 n2 k2, .slice B1 o1 l1, .slice B2 o2 l2, .slice B3 o3 l3, .slice B4 o4 l4] 24)).cell? ⟨y4.heap.size, j, none⟩ = some x ∧ AskedAt (y4.alloc (.cells #[.slice A1 n1 k1, .slice A2 n2 k2, .slice B1 o1 l1, .slice B2 o2 l2, .slice B3 o3 l3, .slice B4 o4 l4] 24)) x L ∧ AskedTy (y4.alloc (.cells #[.slice A1 n1 k1, .slice A2 n2 k2, .slice B1 o1 l1, .slice B2 o2 l2, .slice B3 o3 l3, .slice B4 o4 l4] 24)) m x L := by
    intro j x L hx hL
    rw [hV6] at hx
    match j, hx, hL with
    | 0, hx, hL => rw [← Option.some.inj hx, ← Option.some.inj hL]; exact ⟨by go_cell, r5⟩
    | 1, hx, hL => rw [← Option.some.inj hx, ← Option.some.inj hL]; exact ⟨by go_cell, r6⟩
    | 2, hx, hL => rw [← Option.some.inj hx, ← Option.some.inj hL]; exact ⟨by go_cell, r1⟩
    | 3, hx, hL => rw [← Option.some.inj hx, ← Option.some.inj hL]; exact ⟨by go_cell, r2⟩
    | 4, hx, hL => rw [← Option.some.inj hx, ← Option.some.inj hL]; exact ⟨by go_cell, r3⟩
    | 5, hx, hL => rw [← Option.some.inj hx, ← Option.some.inj hL]; exact ⟨by go_cell, r4⟩
  have T6 : Ty (y4.alloc (.cells #[.slice A1 n1 k1, .slice A2 n2 k2, .slice B1 o1 l1, .slice B2 o2 l2, .slice B3 o3 l3, .slice B4 o4 l4] 24)) m y4.heap.size := ty_new _ _ _ _ (by decide)
  have X5 := HX.out.below z5
  have N5 : ∀ (k : Nat) n, sixN[k]? = some n → (y4.alloc (.cells #[.slice A1 n1 k1, .slice A2 n2 k2, .slice B1 o1 l1, .slice B2 o2 l2, .slice B3 o3 l3, .slice B4 o4 l4] 24)).cell? ⟨gn, k, none⟩ = some (.string n) := fun k n h => kept z5 (HN.out k n h)
  have TN5 := HTN.out.below z5 hmn
  have O5 := own_below HON.out z5
  have TM5 := T1.out.below (step_below HZN.out z5) hlm
  have hm5 : m ≤ (y4.alloc (.cells #[.slice A1 n1 k1, .slice A2 n2 k2, .slice B1 o1 l1, .slice B2 o2 l2, .slice B3 o3 l3, .slice B4 o4 l4] 24)).heap.size := Nat.le_trans hmn z5.size
  clear r1 r2 r3 r4 r5 r6 hV6 hy1 hy2 hy3 hy4 hb1 hb2 hb3 hb4 hb5 z1 z2 z3 hm1 hm2 hm3 hm4 HS3' HS4' HS5' HS6' HA1 HA2 HN HTN HON
  clear z4 HX z5 hN6
  go_wp2_with fail
  obtain ⟨g5, hg5⟩ : ∃ g5, y4.heap.size = g5 := ⟨_, rfl⟩
  obtain ⟨W5, hW5⟩ : ∃ x, x = y4.alloc (.cells #[.slice A1 n1 k1, .slice A2 n2 k2, .slice B1 o1 l1, .slice B2 o2 l2, .slice B3 o3 l3, .slice B4 o4 l4] 24) := ⟨_, rfl⟩
  rw [← hW5, hg5] at H6 T6
  rw [← hW5] at X5 N5 TN5 O5 TM5 hm5 zw5
  (try rw [← hW5])
  (try rw [hg5])
  have HH6 := Lib.hid H6
  have HT6 := Lib.hid T6
  have HX5 := Lib.hid X5
  have HN5 := Lib.hid N5
  have HTN5 := Lib.hid TN5
  have HTM5 := Lib.hid TM5
  have HZ5 := Lib.hid zw5
  have HM5 := Lib.hid hm5
  have HLV := Lib.hid HV6
  clear H6 T6 X5 N5 TN5 TM5 zw5 hm5 HV6 hW5 hg5
  obtain ⟨i0, hi, hz0, hz1, hz2⟩ := info_parts info_field
  go_loopw [4, 45] (fun s4 i wr => ∃ k : Nat, k ≤ 6 ∧ i = .int .i64 k ∧ wr.ownsRow m 69 2 s4 (fldK p k).length ((fldK p k).flatMap fldC) ∧ Hid (KeptT m W5 wr)) (fun _ i _ => 6 - (intOf i).toNat)
  case atStart => exact ⟨0, by omega, rfl, O5, Lib.hid (KeptT.refl _ _)⟩
  case round =>
    clear O5
    obtain ⟨k, hk, rfl, hown, hkt⟩ := hrel
    by_cases hk6 : k < 6
    · obtain ⟨x, hx⟩ : ∃ x, V6[k]? = some x := ⟨V6[k]'(by have := HLV.out; omega), List.getElem?_eq_getElem _⟩
      obtain ⟨L, hL⟩ : ∃ L, (sixL p)[k]? = some L := ⟨(sixL p)[k]'(by show k < 6; omega), List.getElem?_eq_getElem _⟩
      obtain ⟨n, hn⟩ : ∃ n, sixN[k]? = some n := ⟨sixN[k]'(by show k < 6; omega), List.getElem?_eq_getElem _⟩
      obtain ⟨hc, ha, hty⟩ := HH6.out k x L hx hL
      have hkt1 := hkt.out
      have cx := hkt1.cell hc HT6.out
      have cn := hkt1.cell (HN5.out k n hn) HTN5.out
      obtain ⟨ha1, _⟩ := hkt1.asked ha hty
      obtain ⟨s1, s2, s3⟩ := HSIX.out k L hL
      have hbw : Below w.heap.size w wr := HZ5.out.trans (by have := hkt1.below; rw [HM.out]; exact this)
      have C := Lib.hid (show Calls Tryz.prog 54 #[x] wr (fun E W' => E = .returned (.tuple #[.string (wholeS L), .int .i64 0]) ∧ Below wr.heap.size wr W') from (refPrintT_yes x L wr (HEE.out.below hbw) ha1 s1 s2 s3).mono fun E W' h => ⟨by rw [h.1, if_pos s3], h.2⟩)
      have HE := Lib.hid (fldK_six hn hL)
      have hlen := fldK_len p k
      obtain ⟨A, nA, kA, rfl⟩ := asked_slice ha1
      have hmr : m ≤ wr.heap.size := Nat.le_trans HM5.out hkt1.size
      clear hc ha hty ha1 s1 s2 s3 hbw hkt1 hx hL hn
      go_wp2_with fail
      refine C.out.mono ?_
      rintro E w2 ⟨rfl, hb⟩
      have cn2 := kept hb cn
      have hown2 := own_below hown hb
      have hkt2 := Lib.hid (hkt.out.trans (KeptT.of_below hb hmr))
      have hmr2 : m ≤ w2.heap.size := Nat.le_trans hmr hb.size
      obtain ⟨S, hS⟩ : ∃ S, wholeS L = S := ⟨_, rfl⟩
      rw [hS] at HE
      rw [hS]
      clear C hb cx cn hown hS hkt hmr
      by_cases hS0 : S.size = 0
      · have hem : S = ⟨#[]⟩ := eq_empty S hS0
        have HO := Lib.hid (fld_own_same hown2 HE.out hS0)
        clear hS0 hown2 cn2
        subst hem
        go_wp2_with fail
        go_roundw
        case rel => exact ⟨k + 1, by omega, by go_num, HO.out, hkt2⟩
        case measure => simp [intOf]; omega
      · have hem := isEmpty_false S (by omega)
        obtain ⟨hem3, hem2⟩ := text_ne hS0
        have HS0 := Lib.hid hS0
        obtain ⟨N, hN⟩ : ∃ N, (fldK p k).length = N := ⟨_, rfl⟩
        have HNL := Lib.hid hN
        rw [hN] at hown2 hlen
        clear hS0 hN
        go_wp2_with (at_builtin; refine wpList_append_own _ rfl _ _ 31 rfl m 69 i0 (.agg #[.string ⟨#[]⟩, .string ⟨#[]⟩]) 2 32 Tryz.underlying31 hi hz0 hz1 hz2 rfl (by decide) _ _ _ rfl (hown2.alloc _) ⟨w2.heap.size, 0, none⟩ 1 1 (fldC ⟨n, S⟩) rfl rfl (cells_new2 _ _ _) (by simp [Value.oneCell', fldC]) (by simp only [maxLen]; omega) (by omega) (by rw [World.size_alloc]; omega) ?_; intro v' w3 hown3 hgrow hnil)
        have HO := Lib.hid hown3
        have HK := Lib.hid ((hkt2.out.trans (KeptT.of_below (below_alloc w2 _) hmr2)).trans (KeptT.grown (hown2.alloc _) hgrow (by rw [World.size_alloc]; omega)))
        clear hown3 hgrow hown2 hnil cn2
        go_roundw
        case rel => exact ⟨k + 1, by omega, by go_num, fld_own_more (by rw [HNL.out]; exact HO.out) HE.out HS0.out, HK⟩
        case measure => simp [intOf]; omega
    · obtain rfl : k = 6 := by omega
      clear HH6 HT6 HN5 HTN5 HLV HSIX
      have c10 := hkt.out.cell HX5.out.c10 HTM5.out
      have c11 := hkt.out.cell HX5.out.c11 HTM5.out
      have hbz : Below w.heap.size w wr := HZ5.out.trans (by have := hkt.out.below; rw [HM.out]; exact this)
      have hmr : m ≤ wr.heap.size := Nat.le_trans HM5.out hkt.out.size
      have hb7 := below_alloc wr (.cells #[.slice A7 n7 k7, .slice A8 n8 k8] 26)
      obtain ⟨V2, hV2⟩ : ∃ V2 : List Value, V2 = [Value.slice A7 n7 k7, .slice A8 n8 k8] := ⟨_, rfl⟩
      have HV2 : V2.length = 2 := by rw [hV2]; rfl
      have H2 : ∀ (j : Nat) (x : Value) (ss : List ByteArray), V2[j]? = some x → (twoS p)[j]? = some ss → (wr.alloc (.cells #[.slice A7 n7 k7, .slice A8 n8 k8] 26)).cell? ⟨wr.heap.size, j, none⟩ = some x ∧ StrsAt w x ss ∧ (ss.length ≤ 20 ∧ ∀ s ∈ ss, s.size ≤ 60) := by
        intro j x ss hx hL
        rw [hV2] at hx
        match j, hx, hL with
        | 0, hx, hL => rw [← Option.some.inj hx, ← Option.some.inj hL]; exact ⟨by go_cell, HT7.out, HPA.out⟩
        | 1, hx, hL => rw [← Option.some.inj hx, ← Option.some.inj hL]; exact ⟨by go_cell, HT8.out, HPB.out⟩
      have T7 : Ty (wr.alloc (.cells #[.slice A7 n7 k7, .slice A8 n8 k8] 26)) m wr.heap.size := ty_new _ _ _ _ (by decide)
      have O7 := own_below hown hb7
      have Z7 := step_below hbz hb7
      have M7 : m ≤ (wr.alloc (.cells #[.slice A7 n7 k7, .slice A8 n8 k8] 26)).heap.size := Nat.le_trans hmr hb7.size
      clear hV2 hbz hmr hb7 hown hkt
      go_wp2_with fail
      clear c10 c11
      obtain ⟨g7, hg7⟩ : ∃ g7, wr.heap.size = g7 := ⟨_, rfl⟩
      obtain ⟨W7, hW7⟩ : ∃ x, x = wr.alloc (.cells #[.slice A7 n7 k7, .slice A8 n8 k8] 26) := ⟨_, rfl⟩
      rw [← hW7, hg7] at H2 T7
      rw [← hW7] at O7 Z7 M7
      (try rw [← hW7])
      (try rw [hg7])
      have HH2 := Lib.hid H2
      have HT7' := Lib.hid T7
      have HZ7 := Lib.hid Z7
      have HM7 := Lib.hid M7
      have HLV := Lib.hid HV2
      clear H2 T7 Z7 M7 HV2 hW7 hg7 HX5 HTM5 HZ5 HM5
      go_loopw [4, 73] (fun s4 i wx => ∃ k : Nat, k ≤ 2 ∧ i = .int .i64 k ∧ wx.ownsRow m 69 2 s4 (fldK p (6 + k)).length ((fldK p (6 + k)).flatMap fldC) ∧ Hid (KeptT m W7 wx)) (fun _ i _ => 2 - (intOf i).toNat)
      case atStart => exact ⟨0, by omega, rfl, O7, Lib.hid (KeptT.refl _ _)⟩
      case round =>
        clear O7
        obtain ⟨k, hk, rfl, hown, hkt⟩ := hrel
        by_cases hk2 : k < 2
        · obtain ⟨x, hx⟩ : ∃ x, V2[k]? = some x := ⟨V2[k]'(by have := HLV.out; omega), List.getElem?_eq_getElem _⟩
          obtain ⟨ss, hL⟩ : ∃ ss, (twoS p)[k]? = some ss := ⟨(twoS p)[k]'(by show k < 2; omega), List.getElem?_eq_getElem _⟩
          obtain ⟨n, hn⟩ : ∃ n, twoN[k]? = some n := ⟨twoN[k]'(by show k < 2; omega), List.getElem?_eq_getElem _⟩
          obtain ⟨hc, hst, hsz⟩ := HH2.out k x ss hx hL
          have hkt1 := hkt.out
          have cx := hkt1.cell hc HT7'.out
          have hbw : Below w.heap.size w wr := HZ7.out.trans (by have := hkt1.below; rw [HM.out]; exact this)
          have hst1 := hst.below hbw
          have HE := Lib.hid (fldK_two hn hL)
          have HNN := Lib.hid hn
          have hlen := fldK_len p (6 + k)
          have hmr : m ≤ wr.heap.size := Nat.le_trans HM7.out hkt1.size
          obtain ⟨A, cp, rfl, hcp, hmx, hr⟩ := hst1.open
          obtain ⟨len, hln⟩ : ∃ len, ss.length = len := ⟨_, rfl⟩
          have HL := Lib.hid hln
          have HR := Lib.hid hr
          have HSS := Lib.hid hsz
          have hl20 := hsz.1
          rw [hln] at hcp hmx cx hl20
          have hnm : (∀ W : World, (W.alloc (.cells #[.string ⟨#[67, 111, 110, 102, 102, 105, 108, 101, 115]⟩, .string ⟨#[84, 114, 105, 103, 103, 101, 114, 115]⟩] 9)).cell? ⟨W.heap.size, k, none⟩ = some (.string n)) := by
            intro W
            match k, hk2, hn with
            | 0, _, hn => rw [← Option.some.inj hn]; exact (by go_cell : (W.alloc (.cells #[.string ⟨#[67, 111, 110, 102, 102, 105, 108, 101, 115]⟩, .string ⟨#[84, 114, 105, 103, 103, 101, 114, 115]⟩] 9)).cell? ⟨W.heap.size, 0, none⟩ = some (.string ⟨#[67, 111, 110, 102, 102, 105, 108, 101, 115]⟩))
            | 1, _, hn => rw [← Option.some.inj hn]; exact (by go_cell : (W.alloc (.cells #[.string ⟨#[67, 111, 110, 102, 102, 105, 108, 101, 115]⟩, .string ⟨#[84, 114, 105, 103, 103, 101, 114, 115]⟩] 9)).cell? ⟨W.heap.size, 1, none⟩ = some (.string ⟨#[84, 114, 105, 103, 103, 101, 114, 115]⟩))
          have HNM := Lib.hid hnm
          obtain ⟨wo, rfl⟩ : ∃ wo : World, wo = wr := ⟨_, rfl⟩
          have HOo := Lib.hid hown
          clear hnm hr hst hst1 hsz hln hc hkt1 hx hL hn hown hbw
          go_wp2_with fail
          clear cx
          go_loopw [12, 80] (fun sv i wy => ∃ (q : Nat) (S : ByteArray), q ≤ len ∧ sv = .string S ∧ i = .int .i64 q ∧ Hid (S.data.toList = linesTo ss q) ∧ Below wo.heap.size wo wy) (fun _ i _ => len - (intOf i).toNat)
          case atStart => exact ⟨0, ⟨#[]⟩, Nat.zero_le _, rfl, rfl, Lib.hid rfl, Below.refl _ _⟩
          case round =>
            obtain ⟨q, S, hq, rfl, rfl, hS, hB⟩ := hrel
            have hS2 : S.size ≤ 2000 := by rw [size_eq_length, hS.out]; exact linesTo_len HSS.out q
            by_cases hqt : q < len
            · obtain ⟨t, ht⟩ : ∃ t, ss[q]? = some t := ⟨ss[q]'(by have := HL.out; omega), List.getElem?_eq_getElem _⟩
              have hne : ss ≠ [] := by
                intro e
                have := HL.out
                rw [e] at this
                simp at this
                omega
              obtain ⟨b, off, rfl, hi'⟩ := HR.out hne
              have q0 := kept hB (hi' q t ht)
              have ht60 := HSS.out.2 t (List.mem_of_getElem? ht)
              have HNX := Lib.hid (show (S ++ (⟨#[10]⟩ ++ t)).data.toList = linesTo ss (q + 1) by rw [append_data, append_data, linesTo_succ ht, hS.out]; rfl)
              clear hi' hne ht hS
              go_wp2_with fail
              go_roundw
              case rel => exact ⟨q + 1, _, by omega, rfl, by go_num, HNX, hB⟩
              case measure => simp [intOf]; omega
            · obtain rfl : q = len := by omega
              have HSE : S = linesS ss := data_inj (by rw [hS.out, ← HL.out, ← linesTo_all])
              have HE2 := Lib.hid (show fldK p (6 + k + 1) = fldK p (6 + k) ++ optF n S by rw [HSE]; exact HE.out)
              have hown2 := own_below HOo.out hB
              have hkt2 := Lib.hid (hkt.out.trans (KeptT.of_below hB hmr))
              have hmr2 : m ≤ wr.heap.size := Nat.le_trans hmr hB.size
              clear HSE hS HOo HE hB hkt hmr HR HSS
              by_cases hS0 : S.size = 0
              · have hem : S = ⟨#[]⟩ := eq_empty S hS0
                have HO := Lib.hid (fld_own_same hown2 HE2.out hS0)
                clear hS0 hown2 HNM
                subst hem
                go_wp2_with fail
                go_roundw
                case rel => exact ⟨k + 1, by omega, by go_num, HO.out, hkt2⟩
                case measure => simp [intOf]; omega
              · have hem := isEmpty_false S (by omega)
                obtain ⟨hem3, hem2⟩ := text_ne hS0
                have HS0 := Lib.hid hS0
                obtain ⟨N, hN⟩ : ∃ N, (fldK p (6 + k)).length = N := ⟨_, rfl⟩
                have HNL := Lib.hid hN
                have cn := HNM.out wr
                have hba := below_alloc wr (.cells #[.string ⟨#[67, 111, 110, 102, 102, 105, 108, 101, 115]⟩, .string ⟨#[84, 114, 105, 103, 103, 101, 114, 115]⟩] 9)
                have hown3 := own_below hown2 hba
                have hmr3 : m ≤ (wr.alloc (.cells #[.string ⟨#[67, 111, 110, 102, 102, 105, 108, 101, 115]⟩, .string ⟨#[84, 114, 105, 103, 103, 101, 114, 115]⟩] 9)).heap.size := Nat.le_trans hmr2 hba.size
                have hkt3 := Lib.hid (hkt2.out.trans (KeptT.of_below hba hmr2))
                rw [hN] at hown3 hlen
                clear hS0 hN hba hown2 HNM
                go_wp2_with (at_builtin; refine wpList_append_own _ rfl _ _ 31 rfl m 69 i0 (.agg #[.string ⟨#[]⟩, .string ⟨#[]⟩]) 2 32 Tryz.underlying31 hi hz0 hz1 hz2 rfl (by decide) _ _ _ rfl (hown3.alloc _) ⟨wr.heap.size + 1, 0, none⟩ 1 1 (fldC ⟨n, S⟩) rfl rfl (by have := cells_new2 (wr.alloc (.cells #[.string ⟨#[67, 111, 110, 102, 102, 105, 108, 101, 115]⟩, .string ⟨#[84, 114, 105, 103, 103, 101, 114, 115]⟩] 9)) n S; rwa [World.size_alloc] at this) (by simp [Value.oneCell', fldC]) (by simp only [maxLen]; omega) (by omega) (by rw [World.size_alloc]; omega) ?_; intro v' w3 hown4 hgrow hnil)
                have HO := Lib.hid hown4
                have HK := Lib.hid ((hkt3.out.trans (KeptT.of_below (below_alloc _ _) hmr3)).trans (KeptT.grown (hown3.alloc _) hgrow (by rw [World.size_alloc]; omega)))
                clear hown4 hgrow hown3 hnil cn
                go_roundw
                case rel => first | exact ⟨k + 1, by omega, by go_num, fld_own_more (j := 6 + k) (by rw [HNL.out]; exact HO.out) HE2.out HS0.out, HK⟩ | ((repeat apply Exists.intro); exact ⟨⟨k + 1, by omega, by go_num, fld_own_more (j := 6 + k) (by rw [HNL.out]; exact HO.out) HE2.out HS0.out, HK⟩, rfl⟩)
                case measure => simp [intOf]; omega
        · obtain rfl : k = 2 := by omega
          have hbw : Below w.heap.size w wr := HZ7.out.trans (by have := hkt.out.below; rw [HM.out]; exact this)
          have HF := Lib.hid (show FieldsAt wr _ (fldB p) from slc_of_own hown rfl (Nat.le_trans (fldK_len p (6 + 2)) (by decide)))
          have C := Lib.hid (refStanza_calls _ (fldB p) wr (HEE.out.below hbw) HF.out HSZ.out)
          have HBW := Lib.hid hbw
          obtain ⟨bq, hbq⟩ : ∃ y, stanzaB (fldB p) = y := ⟨_, rfl⟩
          have HE1 := Lib.hid (show fldE p = (if bq then 0 else 4) by unfold fldE; rw [HY.out, if_pos rfl, hbq])
          have HR1 := Lib.hid (show fldR p = (if bq then fldB p else []) by unfold fldR; rw [HY.out, if_pos rfl, hbq])
          rw [hbq] at C
          clear hbw hbq hown hkt
          go_wp2_with fail
          refine C.out.mono ?_
          rintro E w9 ⟨rfl, hb⟩
          have HB9 := Lib.hid (step_below HBW.out hb)
          have HF9 := Lib.hid (HF.out.below hb)
          clear C hb HF
          cases bq with
          | false =>
            go_wp2_with fail
            go_ret2
            exact ⟨_, by rw [HE1.out]; rfl, by rw [HR1.out]; exact SlC.nil _ _ _, HB9.out⟩
          | true =>
            go_wp2_with fail
            go_ret2
            exact ⟨_, by rw [HE1.out]; rfl, by rw [HR1.out]; exact HF9.out, HB9.out⟩
end Go.Proofs.YtodbbfgkclkpgaaGreatDoor

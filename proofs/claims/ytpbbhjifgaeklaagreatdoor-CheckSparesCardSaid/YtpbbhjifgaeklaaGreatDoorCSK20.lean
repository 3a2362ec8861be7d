/- check.Line's closure edges: the walk, at what packages depend on and at what must be done ahead. -/
import Derived.Test.YtpbbhjifgaeklaaGreatDoorCSK18
import Derived.Test.YtpbbhjifgaeklaaGreatDoorCSK19
namespace Go.Proofs.YtpbbhjifgaeklaaGreatDoor
open Go Go.RowKit
open TJ (EdgeN)

theorem edges_snoc (o : List EdgeN) (e : EdgeN) : (o ++ [e]).flatMap edgC = o.flatMap edgC ++ [.int .i64 e.1, .int .i64 e.2] := by
  rw [List.flatMap_append]
  rfl
theorem eA_drop {ks : List Kv} {x : List Tv} {b : Nat} {w : List Nat} {j i : Nat} (h : w[j]? = some i) (a : Nat) : eA ks x b (w.drop j) a = (if hitB ks x i then [(a, b)] else []) ++ eA ks x b (w.drop (j + 1)) (a + 1) := by
  obtain ⟨h1, h2⟩ := List.getElem?_eq_some_iff.1 h
  rw [List.drop_eq_getElem_cons h1, h2]
  rfl
theorem eX_drop {ks : List Kv} {w : List Nat} {b j : Nat} {xs : List (List Tv)} {x : List Tv} (h : xs[j]? = some x) : eX ks w b (xs.drop j) = eA ks x b w 0 ++ eX ks w b (xs.drop (j + 1)) := by
  obtain ⟨h1, h2⟩ := List.getElem?_eq_some_iff.1 h
  rw [List.drop_eq_getElem_cons h1, h2]
  rfl
theorem eB_drop {ks : List Kv} {wh w : List Nat} {sel : Kv → List (List Tv)} {j i : Nat} (h : w[j]? = some i) (b : Nat) : eB ks wh sel (w.drop j) b = eX ks wh b (selK ks sel i) ++ eB ks wh sel (w.drop (j + 1)) (b + 1) := by
  obtain ⟨h1, h2⟩ := List.getElem?_eq_some_iff.1 h
  rw [List.drop_eq_getElem_cons h1, h2]
  rfl
theorem edge_news (w : World) (x y : Value) : ∀ j u, [x, y][j]? = some u → (w.alloc (.cells #[x, y] 153)).cell? ((⟨w.heap.size, 0, none⟩ : Addr).add j) = some u := by
  intro j u hj
  match j, hj with
  | 0, hj =>
    simp at hj
    subst hj
    simp [Addr.add]
  | 1, hj =>
    simp at hj
    subst hj
    simp [Addr.add]
def depK (k : Kv) : List (List Tv) := k.p.dep
def ahK (k : Kv) : List (List Tv) := k.p.ahead

set_option maxHeartbeats 8000000 in
set_option maxRecDepth 100000 in
theorem edgesD_calls (y1 y2 bk offk kl kc : Nat) (Ak : Option Addr) (vw : Value) (ks : List Kv) (which : List Nat) (w : World) (h1 : w.cell? ⟨y1, 0, none⟩ = some vw) (h2 : w.cell? ⟨y2, 0, none⟩ = some (.slice Ak kl kc)) (hAk : which ≠ [] → Ak = some ⟨bk, offk, none⟩) (hw : NatsAt w vw which) (hkl : ks.length = kl) (hk : ∀ (i : Nat) (k : Kv), ks[i]? = some k → KnownAt w bk (offk + i * 20) k) (hwl : ∀ i, i ∈ which → i < kl)
    (hos : ∀ k, k ∈ ks → k.offer.small) (hts : ∀ k, k ∈ ks → ∀ x, x ∈ depK k → ∀ t, t ∈ x → Tv.small t) (htot : (edgesK ks which depK).length ≤ 100000) :
    Calls Tryz.prog 97 #[.func (.func 103) #[] #[], .pointer (some ⟨y1, 0, none⟩), .pointer (some ⟨y2, 0, none⟩)] w fun E w' => ∃ v', E = .returned v' ∧ EdgesAt w' v' (edgesK ks which depK) ∧ Below w.heap.size w w' := by
  obtain ⟨Aw, cw, rfl, hwc, hwm, hwr⟩ := hw.open
  obtain ⟨wn, hwn⟩ : ∃ wn, which.length = wn := ⟨_, rfl⟩
  have HWN := Lib.hid hwn
  have HWR := Lib.hid hwr
  have HK := Lib.hid hk
  have HKL := Lib.hid hkl
  have HWL := Lib.hid hwl
  have HOS := Lib.hid hos
  have HTS := Lib.hid hts
  have HTOT := Lib.hid htot
  have H1 := Lib.hid h1
  have H2 := Lib.hid h2
  have HAK := Lib.hid hAk
  rw [hwn] at h1 H1 hwc hwm
  clear hwn hwr hk hkl hwl hos hts htot hw hAk
  go_enter Tryz.func97, Tryz.ntmps97
  go_wp2_with fail
  go_loopw [5, 14] (fun v i wr => ∃ (k1 c' : Nat) (A' : Option Addr) (o : List EdgeN), k1 ≤ wn ∧ i = .int .i64 k1 ∧ v = .slice A' o.length c' ∧ Hid (wr.ownsRow w.heap.size 153 2 (.slice A' o.length c') o.length (o.flatMap edgC)) ∧ Hid (o ++ eB ks which depK (which.drop k1) k1 = edgesK ks which depK) ∧ Hid (Below w.heap.size w wr)) (fun _ i _ => wn - (intOf i).toNat)
  case atStart => exact ⟨0, 0, none, [], Nat.zero_le _, rfl, rfl, Lib.hid (World.ownsRow_nil _ _ _ _), Lib.hid rfl, Lib.hid (Below.refl _ _)⟩
  case round =>
    obtain ⟨k1, c', A', o, hk1, rfl, rfl, hrow, heq, hB⟩ := hrel
    obtain ⟨ol, hol⟩ : ∃ ol, o.length = ol := ⟨_, rfl⟩
    have HOL := Lib.hid hol
    rw [hol] at hrow ⊢
    clear hol
    by_cases hlt : k1 < wn
    · obtain ⟨i1, hi1⟩ : ∃ i1, which[k1]? = some i1 := ⟨which[k1]'(by have := HWN.out; omega), List.getElem?_eq_getElem _⟩
      have hneW : which ≠ [] := fun e => by rw [e] at hi1; simp at hi1
      obtain ⟨bw, ow, rfl, hwi⟩ := HWR.out hneW
      obtain rfl := HAK.out hneW
      have cw1 := kept hB.out (hwi k1 i1 hi1)
      have hik := HWL.out i1 (List.mem_of_getElem? hi1)
      obtain ⟨kv, hkv⟩ : ∃ kv, ks[i1]? = some kv := ⟨ks[i1]'(by have := HKL.out; omega), List.getElem?_eq_getElem _⟩
      obtain ⟨A1, A2, A3, A4, A5, A6, A7, A8, A9, m1, m2, m3, m4, m5, m6, m7, m8, m9, c1, c2, c3, c4, c5, c6, c7, c8, c9, K⟩ := (HK.out i1 kv hkv).open
      have hD := eB_drop (ks := ks) (wh := which) (sel := depK) hi1 k1
      have hsel : selK ks depK i1 = depK kv := by unfold selK; rw [hkv]
      rw [hsel] at hD
      have HQ := Lib.hid (heq.out.symm.trans (by rw [hD, ← List.append_assoc] : o ++ eB ks which depK (which.drop k1) k1 = (o ++ eX ks which k1 (depK kv)) ++ eB ks which depK (which.drop (k1 + 1)) (k1 + 1)))
      obtain ⟨Ad, cd, hvd, hcd, hmd, hrd⟩ := K.d1
      replace hvd : Value.slice A1 m1 c1 = Value.slice Ad (depK kv).length cd := hvd
      replace hcd : (depK kv).length ≤ cd := hcd
      replace hmd : (depK kv).length ≤ 9223372036854775807 := hmd
      have HRD := Lib.hid (show depK kv ≠ [] → ∃ b off, Ad = some ⟨b, off, none⟩ ∧ ∀ (i : Nat) (x : List Tv), (depK kv)[i]? = some x → ∃ vx, w.cell? ⟨b, off + i, none⟩ = some vx ∧ TermsAt w vx x from hrd)
      obtain ⟨dl, hdl⟩ : ∃ dl, (depK kv).length = dl := ⟨_, rfl⟩
      have HDL := Lib.hid hdl
      rw [hdl] at hvd hcd hmd
      injection hvd with e1 e2 e3
      subst e1 e3
      have HDL := Lib.hid (show (depK kv).length = m1 from by rw [HDL.out, e2])
      rw [← e2] at hcd hmd
      have CS := Lib.hid (fun (W : World) => lineDep_calls kv.p.n kv.p.u kv.p.r kv.p.e A1 A2 A3 A4 A5 A6 A7 A8 A9 m1 m2 m3 m4 m5 m6 m7 m8 m9 c1 c2 c3 c4 c5 c6 c7 c8 c9 W)
      have p0 := kept hB.out K.p0
      have p1 := kept hB.out K.p1
      have p2 := kept hB.out K.p2
      have p3 := kept hB.out K.p3
      have p4 := kept hB.out K.p4
      have p5 := kept hB.out K.p5
      have p6 := kept hB.out K.p6
      have p7 := kept hB.out K.p7
      have p8 := kept hB.out K.p8
      have p9 := kept hB.out K.p9
      have p10 := kept hB.out K.p10
      have p11 := kept hB.out K.p11
      have p12 := kept hB.out K.p12
      have g1 := kept hB.out h2
      have g0 := kept hB.out H1.out
      have g2 : (i1 : Int) < kl := by omega
      have g3 : (0 : Int) ≤ i1 := by omega
      have HTK := Lib.hid (fun x (hx : x ∈ depK kv) => HTS.out kv (List.mem_of_getElem? hkv) x hx)
      clear hi1 hneW hwi hik hkv K hD hsel hrd hdl e2
      go_wp2_with fail
      refine (CS.out _).mono ?_
      rintro E w2 ⟨rfl, hb2⟩
      have HB2 := Lib.hid (hB.out.trans (hb2.mono hB.out.size))
      have HROW2 := Lib.hid (row_keep hrow.out fun g e => hb2.block g (row_lt hrow.out e).2)
      clear p0 p1 p2 p3 p4 p5 p6 p7 p8 p9 p10 p11 p12 cw1 g1 g0 hb2 CS
      go_wp2_with fail
      go_loopw [5, 27] (fun v i wq => ∃ (k2 c' : Nat) (A' : Option Addr) (o2 : List EdgeN), k2 ≤ m1 ∧ i = .int .i64 k2 ∧ v = .slice A' o2.length c' ∧ Hid (wq.ownsRow w.heap.size 153 2 (.slice A' o2.length c') o2.length (o2.flatMap edgC)) ∧ Hid (o2 ++ eX ks which k1 ((depK kv).drop k2) = o ++ eX ks which k1 (depK kv)) ∧ Hid (Below w.heap.size w wq)) (fun _ i _ => m1 - (intOf i).toNat)
      case atStart => exact ⟨0, c', A', o, Nat.zero_le _, rfl, by rw [HOL.out], by rw [HOL.out]; exact HROW2, Lib.hid rfl, HB2⟩
      case round =>
        obtain ⟨k2, c2', A2', o2, hk2, rfl, rfl, hrow2, heq2, hBq⟩ := hrel
        obtain ⟨ol2, hol2⟩ : ∃ ol2, o2.length = ol2 := ⟨_, rfl⟩
        have HOL2 := Lib.hid hol2
        rw [hol2] at hrow2 ⊢
        clear hol2
        by_cases hlt2 : k2 < m1
        · obtain ⟨x, hx⟩ : ∃ x, (depK kv)[k2]? = some x := ⟨(depK kv)[k2]'(by have := HDL.out; omega), List.getElem?_eq_getElem _⟩
          have hneX : depK kv ≠ [] := fun e => by rw [e] at hx; simp at hx
          obtain ⟨bd, od, rfl, hdi⟩ := HRD.out hneX
          obtain ⟨vx, hvx, htx⟩ := hdi k2 x hx
          have cx1 := kept hBq.out hvx
          have HQ2 := Lib.hid (heq2.out.symm.trans (by rw [eX_drop hx, ← List.append_assoc] : o2 ++ eX ks which k1 ((depK kv).drop k2) = (o2 ++ eA ks x k1 which 0) ++ eX ks which k1 ((depK kv).drop (k2 + 1))))
          have HTX := Lib.hid (fun t (ht : t ∈ x) => HTK.out x (List.mem_of_getElem? hx) t ht)
          have HTA := Lib.hid htx
          obtain ⟨Ax, ccx, rfl, _, _, _⟩ := htx
          have g0 := kept hBq.out H1.out
          obtain ⟨xl, hxl⟩ : ∃ xl, x.length = xl := ⟨_, rfl⟩
          rw [hxl] at cx1 HTA
          clear hx hneX hdi hvx hxl
          go_wp2_with fail
          go_loopw [5, 33] (fun v i wp => ∃ (k3 c' : Nat) (A' : Option Addr) (o3 : List EdgeN), k3 ≤ wn ∧ i = .int .i64 k3 ∧ v = .slice A' o3.length c' ∧ Hid (wp.ownsRow w.heap.size 153 2 (.slice A' o3.length c') o3.length (o3.flatMap edgC)) ∧ Hid (o3 ++ eA ks x k1 (which.drop k3) k3 = o2 ++ eA ks x k1 which 0) ∧ Hid (Below w.heap.size w wp)) (fun _ i _ => wn - (intOf i).toNat)
          case atStart => exact ⟨0, c2', A2', o2, Nat.zero_le _, rfl, by rw [HOL2.out], by rw [HOL2.out]; exact hrow2, Lib.hid rfl, hBq⟩
          case round =>
            obtain ⟨k3, c3', A3', o3, hk3, rfl, rfl, hrow3, heq3, hBp⟩ := hrel
            obtain ⟨ol3, hol3⟩ : ∃ ol3, o3.length = ol3 := ⟨_, rfl⟩
            have HOL3 := Lib.hid hol3
            rw [hol3] at hrow3 ⊢
            clear hol3
            by_cases hlt3 : k3 < wn
            · obtain ⟨i3, hi3⟩ : ∃ i3, which[k3]? = some i3 := ⟨which[k3]'(by have := HWN.out; omega), List.getElem?_eq_getElem _⟩
              have hneW3 : which ≠ [] := fun e => by rw [e] at hi3; simp at hi3
              obtain ⟨bw3, ow3, hbw, hwi3⟩ := HWR.out hneW3
              injection hbw with hbw
              injection hbw with hb1 hb2 _
              subst hb1 hb2
              have cw3 := kept hBp.out (hwi3 k3 i3 hi3)
              have hik3 := HWL.out i3 (List.mem_of_getElem? hi3)
              obtain ⟨kv3, hkv3⟩ : ∃ kv3, ks[i3]? = some kv3 := ⟨ks[i3]'(by have := HKL.out; omega), List.getElem?_eq_getElem _⟩
              have hb5 := below_alloc wr (.cells #[.int .i64 i3] 3)
              have hx5 := blk_new 3 wr #[.int .i64 i3]
              have hbb := hBp.out.trans (hb5.mono hBp.out.size)
              have CM := Lib.hid (hasM_calls _ x y2 wr.heap.size (meetsB kv3.offer) (wr.alloc (.cells #[.int .i64 i3] 3)) (HTA.out.below hbb) fun W t hW ht => lineM_calls y2 wr.heap.size i3 bk offk kl kc kv3 t W (kept hW (kept hbb H2.out)) ((hx5.keep hW).cell rfl) hik3 ((HK.out i3 kv3 hkv3).below (hbb.trans (hW.mono hbb.size))) (HOS.out kv3 (List.mem_of_getElem? hkv3)) (HTX.out t ht).vs)
              obtain ⟨pb, hpb⟩ : ∃ pb, x.any (meetsB kv3.offer) = pb := ⟨_, rfl⟩
              rw [hpb] at CM
              have hD3 := eA_drop (ks := ks) (x := x) (b := k1) hi3 k3
              have hhit : hitB ks x i3 = pb := by unfold hitB; rw [hkv3]; exact hpb
              rw [hhit] at hD3
              have HD3 := Lib.hid hD3
              have HB5 := Lib.hid hb5
              have HBB := Lib.hid hbb
              clear hi3 hneW3 hwi3 hik3 hkv3 hb5 hx5 hbb hpb hD3 hhit
              cases pb with
              | false =>
                go_wp2_with fail
                refine CM.out.mono ?_
                rintro E w6 ⟨rfl, hb6⟩
                have HB6 := Lib.hid (HBB.out.trans (hb6.mono HBB.out.size))
                have hbb6 := HB5.out.trans (hb6.mono HB5.out.size)
                have HROW6 := Lib.hid (row_keep hrow3.out fun g e => hbb6.block g (row_lt hrow3.out e).2)
                have HE6 := Lib.hid (show o3 ++ eA ks x k1 (which.drop (k3 + 1)) (k3 + 1) = o2 ++ eA ks x k1 which 0 from by rw [← heq3.out, HD3.out]; rfl)
                clear hb6 hbb6 CM cw3
                go_wp2_with fail
                go_roundw
                case rel => exact ⟨k3 + 1, c3', A3', o3, by omega, by go_num, by rw [HOL3.out], by rw [HOL3.out]; exact HROW6, HE6, HB6⟩
                case measure => simp [intOf]; omega
              | true =>
                have HE6 := Lib.hid (show (o3 ++ [(k3, k1)]) ++ eA ks x k1 (which.drop (k3 + 1)) (k3 + 1) = o2 ++ eA ks x k1 which 0 from by rw [← heq3.out, HD3.out, List.append_assoc]; rfl)
                have hbound : ol3 ≤ 100000 := by
                  have h1 := congrArg List.length HE6.out
                  have h2 := congrArg List.length HQ2.out
                  have h3 := congrArg List.length heq2.out
                  have h4 := congrArg List.length HQ.out
                  have h5 := HTOT.out
                  have h6 := HOL3.out
                  simp only [List.length_append] at h1 h2 h3 h4
                  omega
                go_upto_region 12 with (go_at_call 98; refine CM.out.mono ?_; rintro E w6 ⟨rfl, hb6⟩)
                have HB6 := Lib.hid (HBB.out.trans (hb6.mono HBB.out.size))
                have hbb6 := HB5.out.trans (hb6.mono HB5.out.size)
                have HROW6 := Lib.hid (row_keep hrow3.out fun g e => hbb6.block g (row_lt hrow3.out e).2)
                have hsz6 := HB6.out.size
                clear hb6 hbb6 CM cw3
                go_wp2_with (at_builtin; obtain ⟨i0, hi, hz0, hz1, hz2⟩ := info_parts info_ccE; refine wpList_append_own_at _ rfl _ _ 147 rfl w.heap.size 153 i0 (.agg #[.int .i64 0, .int .i64 0]) 2 16 Tryz.underlying147 hi hz0 hz1 hz2 rfl (by decide) _ _ _ rfl (HROW6.out.alloc _) ⟨w6.heap.size, 0, none⟩ 1 1 [.int .i64 k3, .int .i64 k1] rfl rfl (edge_news _ _ _) (by simp [Value.oneCell']) (by simp only [maxLen]; omega) (by omega) (by simp; omega) ?_; clear hi hz0 hz1 hz2; intro v10 w10 hown10 hgrow10 hnil10 hloc10; obtain ⟨A10, c10, rfl, _, _⟩ := own_sl hown10)
                have hb10 : Below w.heap.size w w10 := (HB6.out.trans ((below_alloc w6 _).mono HB6.out.size)).grown hgrow10 (Nat.le_trans HB6.out.size (below_alloc w6 _).size) fun g e => (row_lt HROW6.out e).1
                have HB10 := Lib.hid hb10
                have HO10 := Lib.hid (show w10.ownsRow w.heap.size 153 2 (.slice A10 (ol3 + 1) c10) (ol3 + 1) ((o3 ++ [(k3, k1)]).flatMap edgC) from by rw [edges_snoc]; exact hown10)
                have HLL := Lib.hid (show (o3 ++ [(k3, k1)]).length = ol3 + 1 from by rw [List.length_append, HOL3.out]; rfl)
                clear hown10 hgrow10 hnil10 hloc10 hb10
                go_roundw
                case rel => exact ⟨k3 + 1, c10, A10, o3 ++ [(k3, k1)], by omega, by go_num, by rw [HLL.out], by rw [HLL.out]; exact HO10, HE6, HB10⟩
                case measure => simp [intOf]; omega
            · obtain rfl : k3 = wn := by omega
              have hnil : which.drop k3 = [] := List.drop_eq_nil_iff.2 (by have := HWN.out; omega)
              have HE3 := Lib.hid (show o3 = o2 ++ eA ks x k1 which 0 from by rw [← heq3.out, hnil]; simp [eA])
              clear hnil
              go_wp2_with fail
              go_roundw
              case rel => exact ⟨k2 + 1, c3', A3', o3, by omega, by go_num, by rw [HOL3.out], by rw [HOL3.out]; exact hrow3, Lib.hid (by rw [HE3.out]; exact HQ2.out.symm), hBp⟩
              case measure => simp [intOf]; omega
        · obtain rfl : k2 = m1 := by omega
          have hnil : (depK kv).drop k2 = [] := List.drop_eq_nil_iff.2 (by have := HDL.out; omega)
          have HE2 := Lib.hid (show o2 = o ++ eX ks which k1 (depK kv) from by rw [← heq2.out, hnil]; simp [eX])
          clear hnil
          go_wp2_with fail
          go_roundw
          case rel => exact ⟨k1 + 1, c2', A2', o2, by omega, by go_num, by rw [HOL2.out], by rw [HOL2.out]; exact hrow2, Lib.hid (by rw [HE2.out]; exact HQ.out.symm), hBq⟩
          case measure => simp [intOf]; omega
    · obtain rfl : k1 = wn := by omega
      have hnil : which.drop k1 = [] := List.drop_eq_nil_iff.2 (by have := HWN.out; omega)
      have HE1 := Lib.hid (show o = edgesK ks which depK from by rw [← heq.out, hnil]; simp [eB])
      have HAT := Lib.hid (show EdgesAt wr (.slice A' ol c') (edgesK ks which depK) from by rw [← HE1.out]; exact slc_of_own hrow.out HOL.out.symm (by have := HTOT.out; rw [← HE1.out, HOL.out] at this; omega))
      clear hnil
      go_wp2_with fail
      go_ret
      exact ⟨_, rfl, HAT.out, hB.out⟩

set_option maxHeartbeats 8000000 in
set_option maxRecDepth 100000 in
theorem edgesA_calls (y1 y2 bk offk kl kc : Nat) (Ak : Option Addr) (vw : Value) (ks : List Kv) (which : List Nat) (w : World) (h1 : w.cell? ⟨y1, 0, none⟩ = some vw) (h2 : w.cell? ⟨y2, 0, none⟩ = some (.slice Ak kl kc)) (hAk : which ≠ [] → Ak = some ⟨bk, offk, none⟩) (hw : NatsAt w vw which) (hkl : ks.length = kl) (hk : ∀ (i : Nat) (k : Kv), ks[i]? = some k → KnownAt w bk (offk + i * 20) k) (hwl : ∀ i, i ∈ which → i < kl)
    (hos : ∀ k, k ∈ ks → k.offer.small) (hts : ∀ k, k ∈ ks → ∀ x, x ∈ ahK k → ∀ t, t ∈ x → Tv.small t) (htot : (edgesK ks which ahK).length ≤ 100000) :
    Calls Tryz.prog 97 #[.func (.func 104) #[] #[], .pointer (some ⟨y1, 0, none⟩), .pointer (some ⟨y2, 0, none⟩)] w fun E w' => ∃ v', E = .returned v' ∧ EdgesAt w' v' (edgesK ks which ahK) ∧ Below w.heap.size w w' := by
  obtain ⟨Aw, cw, rfl, hwc, hwm, hwr⟩ := hw.open
  obtain ⟨wn, hwn⟩ : ∃ wn, which.length = wn := ⟨_, rfl⟩
  have HWN := Lib.hid hwn
  have HWR := Lib.hid hwr
  have HK := Lib.hid hk
  have HKL := Lib.hid hkl
  have HWL := Lib.hid hwl
  have HOS := Lib.hid hos
  have HTS := Lib.hid hts
  have HTOT := Lib.hid htot
  have H1 := Lib.hid h1
  have H2 := Lib.hid h2
  have HAK := Lib.hid hAk
  rw [hwn] at h1 H1 hwc hwm
  clear hwn hwr hk hkl hwl hos hts htot hw hAk
  go_enter Tryz.func97, Tryz.ntmps97
  go_wp2_with fail
  go_loopw [5, 14] (fun v i wr => ∃ (k1 c' : Nat) (A' : Option Addr) (o : List EdgeN), k1 ≤ wn ∧ i = .int .i64 k1 ∧ v = .slice A' o.length c' ∧ Hid (wr.ownsRow w.heap.size 153 2 (.slice A' o.length c') o.length (o.flatMap edgC)) ∧ Hid (o ++ eB ks which ahK (which.drop k1) k1 = edgesK ks which ahK) ∧ Hid (Below w.heap.size w wr)) (fun _ i _ => wn - (intOf i).toNat)
  case atStart => exact ⟨0, 0, none, [], Nat.zero_le _, rfl, rfl, Lib.hid (World.ownsRow_nil _ _ _ _), Lib.hid rfl, Lib.hid (Below.refl _ _)⟩
  case round =>
    obtain ⟨k1, c', A', o, hk1, rfl, rfl, hrow, heq, hB⟩ := hrel
    obtain ⟨ol, hol⟩ : ∃ ol, o.length = ol := ⟨_, rfl⟩
    have HOL := Lib.hid hol
    rw [hol] at hrow ⊢
    clear hol
    by_cases hlt : k1 < wn
    · obtain ⟨i1, hi1⟩ : ∃ i1, which[k1]? = some i1 := ⟨which[k1]'(by have := HWN.out; omega), List.getElem?_eq_getElem _⟩
      have hneW : which ≠ [] := fun e => by rw [e] at hi1; simp at hi1
      obtain ⟨bw, ow, rfl, hwi⟩ := HWR.out hneW
      obtain rfl := HAK.out hneW
      have cw1 := kept hB.out (hwi k1 i1 hi1)
      have hik := HWL.out i1 (List.mem_of_getElem? hi1)
      obtain ⟨kv, hkv⟩ : ∃ kv, ks[i1]? = some kv := ⟨ks[i1]'(by have := HKL.out; omega), List.getElem?_eq_getElem _⟩
      obtain ⟨A1, A2, A3, A4, A5, A6, A7, A8, A9, m1, m2, m3, m4, m5, m6, m7, m8, m9, c1, c2, c3, c4, c5, c6, c7, c8, c9, K⟩ := (HK.out i1 kv hkv).open
      have hD := eB_drop (ks := ks) (wh := which) (sel := ahK) hi1 k1
      have hsel : selK ks ahK i1 = ahK kv := by unfold selK; rw [hkv]
      rw [hsel] at hD
      have HQ := Lib.hid (heq.out.symm.trans (by rw [hD, ← List.append_assoc] : o ++ eB ks which ahK (which.drop k1) k1 = (o ++ eX ks which k1 (ahK kv)) ++ eB ks which ahK (which.drop (k1 + 1)) (k1 + 1)))
      obtain ⟨Ad, cd, hvd, hcd, hmd, hrd⟩ := K.d2
      replace hvd : Value.slice A2 m2 c2 = Value.slice Ad (ahK kv).length cd := hvd
      replace hcd : (ahK kv).length ≤ cd := hcd
      replace hmd : (ahK kv).length ≤ 9223372036854775807 := hmd
      have HRD := Lib.hid (show ahK kv ≠ [] → ∃ b off, Ad = some ⟨b, off, none⟩ ∧ ∀ (i : Nat) (x : List Tv), (ahK kv)[i]? = some x → ∃ vx, w.cell? ⟨b, off + i, none⟩ = some vx ∧ TermsAt w vx x from hrd)
      obtain ⟨dl, hdl⟩ : ∃ dl, (ahK kv).length = dl := ⟨_, rfl⟩
      have HDL := Lib.hid hdl
      rw [hdl] at hvd hcd hmd
      injection hvd with e1 e2 e3
      subst e1 e3
      have HDL := Lib.hid (show (ahK kv).length = m2 from by rw [HDL.out, e2])
      rw [← e2] at hcd hmd
      have CS := Lib.hid (fun (W : World) => lineAh_calls kv.p.n kv.p.u kv.p.r kv.p.e A1 A2 A3 A4 A5 A6 A7 A8 A9 m1 m2 m3 m4 m5 m6 m7 m8 m9 c1 c2 c3 c4 c5 c6 c7 c8 c9 W)
      have p0 := kept hB.out K.p0
      have p1 := kept hB.out K.p1
      have p2 := kept hB.out K.p2
      have p3 := kept hB.out K.p3
      have p4 := kept hB.out K.p4
      have p5 := kept hB.out K.p5
      have p6 := kept hB.out K.p6
      have p7 := kept hB.out K.p7
      have p8 := kept hB.out K.p8
      have p9 := kept hB.out K.p9
      have p10 := kept hB.out K.p10
      have p11 := kept hB.out K.p11
      have p12 := kept hB.out K.p12
      have g1 := kept hB.out h2
      have g0 := kept hB.out H1.out
      have g2 : (i1 : Int) < kl := by omega
      have g3 : (0 : Int) ≤ i1 := by omega
      have HTK := Lib.hid (fun x (hx : x ∈ ahK kv) => HTS.out kv (List.mem_of_getElem? hkv) x hx)
      clear hi1 hneW hwi hik hkv K hD hsel hrd hdl e2
      go_wp2_with fail
      refine (CS.out _).mono ?_
      rintro E w2 ⟨rfl, hb2⟩
      have HB2 := Lib.hid (hB.out.trans (hb2.mono hB.out.size))
      have HROW2 := Lib.hid (row_keep hrow.out fun g e => hb2.block g (row_lt hrow.out e).2)
      clear p0 p1 p2 p3 p4 p5 p6 p7 p8 p9 p10 p11 p12 cw1 g1 g0 hb2 CS
      go_wp2_with fail
      go_loopw [5, 27] (fun v i wq => ∃ (k2 c' : Nat) (A' : Option Addr) (o2 : List EdgeN), k2 ≤ m2 ∧ i = .int .i64 k2 ∧ v = .slice A' o2.length c' ∧ Hid (wq.ownsRow w.heap.size 153 2 (.slice A' o2.length c') o2.length (o2.flatMap edgC)) ∧ Hid (o2 ++ eX ks which k1 ((ahK kv).drop k2) = o ++ eX ks which k1 (ahK kv)) ∧ Hid (Below w.heap.size w wq)) (fun _ i _ => m2 - (intOf i).toNat)
      case atStart => exact ⟨0, c', A', o, Nat.zero_le _, rfl, by rw [HOL.out], by rw [HOL.out]; exact HROW2, Lib.hid rfl, HB2⟩
      case round =>
        obtain ⟨k2, c2', A2', o2, hk2, rfl, rfl, hrow2, heq2, hBq⟩ := hrel
        obtain ⟨ol2, hol2⟩ : ∃ ol2, o2.length = ol2 := ⟨_, rfl⟩
        have HOL2 := Lib.hid hol2
        rw [hol2] at hrow2 ⊢
        clear hol2
        by_cases hlt2 : k2 < m2
        · obtain ⟨x, hx⟩ : ∃ x, (ahK kv)[k2]? = some x := ⟨(ahK kv)[k2]'(by have := HDL.out; omega), List.getElem?_eq_getElem _⟩
          have hneX : ahK kv ≠ [] := fun e => by rw [e] at hx; simp at hx
          obtain ⟨bd, od, rfl, hdi⟩ := HRD.out hneX
          obtain ⟨vx, hvx, htx⟩ := hdi k2 x hx
          have cx1 := kept hBq.out hvx
          have HQ2 := Lib.hid (heq2.out.symm.trans (by rw [eX_drop hx, ← List.append_assoc] : o2 ++ eX ks which k1 ((ahK kv).drop k2) = (o2 ++ eA ks x k1 which 0) ++ eX ks which k1 ((ahK kv).drop (k2 + 1))))
          have HTX := Lib.hid (fun t (ht : t ∈ x) => HTK.out x (List.mem_of_getElem? hx) t ht)
          have HTA := Lib.hid htx
          obtain ⟨Ax, ccx, rfl, _, _, _⟩ := htx
          have g0 := kept hBq.out H1.out
          obtain ⟨xl, hxl⟩ : ∃ xl, x.length = xl := ⟨_, rfl⟩
          rw [hxl] at cx1 HTA
          clear hx hneX hdi hvx hxl
          go_wp2_with fail
          go_loopw [5, 33] (fun v i wp => ∃ (k3 c' : Nat) (A' : Option Addr) (o3 : List EdgeN), k3 ≤ wn ∧ i = .int .i64 k3 ∧ v = .slice A' o3.length c' ∧ Hid (wp.ownsRow w.heap.size 153 2 (.slice A' o3.length c') o3.length (o3.flatMap edgC)) ∧ Hid (o3 ++ eA ks x k1 (which.drop k3) k3 = o2 ++ eA ks x k1 which 0) ∧ Hid (Below w.heap.size w wp)) (fun _ i _ => wn - (intOf i).toNat)
          case atStart => exact ⟨0, c2', A2', o2, Nat.zero_le _, rfl, by rw [HOL2.out], by rw [HOL2.out]; exact hrow2, Lib.hid rfl, hBq⟩
          case round =>
            obtain ⟨k3, c3', A3', o3, hk3, rfl, rfl, hrow3, heq3, hBp⟩ := hrel
            obtain ⟨ol3, hol3⟩ : ∃ ol3, o3.length = ol3 := ⟨_, rfl⟩
            have HOL3 := Lib.hid hol3
            rw [hol3] at hrow3 ⊢
            clear hol3
            by_cases hlt3 : k3 < wn
            · obtain ⟨i3, hi3⟩ : ∃ i3, which[k3]? = some i3 := ⟨which[k3]'(by have := HWN.out; omega), List.getElem?_eq_getElem _⟩
              have hneW3 : which ≠ [] := fun e => by rw [e] at hi3; simp at hi3
              obtain ⟨bw3, ow3, hbw, hwi3⟩ := HWR.out hneW3
              injection hbw with hbw
              injection hbw with hb1 hb2 _
              subst hb1 hb2
              have cw3 := kept hBp.out (hwi3 k3 i3 hi3)
              have hik3 := HWL.out i3 (List.mem_of_getElem? hi3)
              obtain ⟨kv3, hkv3⟩ : ∃ kv3, ks[i3]? = some kv3 := ⟨ks[i3]'(by have := HKL.out; omega), List.getElem?_eq_getElem _⟩
              have hb5 := below_alloc wr (.cells #[.int .i64 i3] 3)
              have hx5 := blk_new 3 wr #[.int .i64 i3]
              have hbb := hBp.out.trans (hb5.mono hBp.out.size)
              have CM := Lib.hid (hasM_calls _ x y2 wr.heap.size (meetsB kv3.offer) (wr.alloc (.cells #[.int .i64 i3] 3)) (HTA.out.below hbb) fun W t hW ht => lineM_calls y2 wr.heap.size i3 bk offk kl kc kv3 t W (kept hW (kept hbb H2.out)) ((hx5.keep hW).cell rfl) hik3 ((HK.out i3 kv3 hkv3).below (hbb.trans (hW.mono hbb.size))) (HOS.out kv3 (List.mem_of_getElem? hkv3)) (HTX.out t ht).vs)
              obtain ⟨pb, hpb⟩ : ∃ pb, x.any (meetsB kv3.offer) = pb := ⟨_, rfl⟩
              rw [hpb] at CM
              have hD3 := eA_drop (ks := ks) (x := x) (b := k1) hi3 k3
              have hhit : hitB ks x i3 = pb := by unfold hitB; rw [hkv3]; exact hpb
              rw [hhit] at hD3
              have HD3 := Lib.hid hD3
              have HB5 := Lib.hid hb5
              have HBB := Lib.hid hbb
              clear hi3 hneW3 hwi3 hik3 hkv3 hb5 hx5 hbb hpb hD3 hhit
              cases pb with
              | false =>
                go_wp2_with fail
                refine CM.out.mono ?_
                rintro E w6 ⟨rfl, hb6⟩
                have HB6 := Lib.hid (HBB.out.trans (hb6.mono HBB.out.size))
                have hbb6 := HB5.out.trans (hb6.mono HB5.out.size)
                have HROW6 := Lib.hid (row_keep hrow3.out fun g e => hbb6.block g (row_lt hrow3.out e).2)
                have HE6 := Lib.hid (show o3 ++ eA ks x k1 (which.drop (k3 + 1)) (k3 + 1) = o2 ++ eA ks x k1 which 0 from by rw [← heq3.out, HD3.out]; rfl)
                clear hb6 hbb6 CM cw3
                go_wp2_with fail
                go_roundw
                case rel => exact ⟨k3 + 1, c3', A3', o3, by omega, by go_num, by rw [HOL3.out], by rw [HOL3.out]; exact HROW6, HE6, HB6⟩
                case measure => simp [intOf]; omega
              | true =>
                have HE6 := Lib.hid (show (o3 ++ [(k3, k1)]) ++ eA ks x k1 (which.drop (k3 + 1)) (k3 + 1) = o2 ++ eA ks x k1 which 0 from by rw [← heq3.out, HD3.out, List.append_assoc]; rfl)
                have hbound : ol3 ≤ 100000 := by
                  have h1 := congrArg List.length HE6.out
                  have h2 := congrArg List.length HQ2.out
                  have h3 := congrArg List.length heq2.out
                  have h4 := congrArg List.length HQ.out
                  have h5 := HTOT.out
                  have h6 := HOL3.out
                  simp only [List.length_append] at h1 h2 h3 h4
                  omega
                go_upto_region 12 with (go_at_call 98; refine CM.out.mono ?_; rintro E w6 ⟨rfl, hb6⟩)
                have HB6 := Lib.hid (HBB.out.trans (hb6.mono HBB.out.size))
                have hbb6 := HB5.out.trans (hb6.mono HB5.out.size)
                have HROW6 := Lib.hid (row_keep hrow3.out fun g e => hbb6.block g (row_lt hrow3.out e).2)
                have hsz6 := HB6.out.size
                clear hb6 hbb6 CM cw3
                go_wp2_with (at_builtin; obtain ⟨i0, hi, hz0, hz1, hz2⟩ := info_parts info_ccE; refine wpList_append_own_at _ rfl _ _ 147 rfl w.heap.size 153 i0 (.agg #[.int .i64 0, .int .i64 0]) 2 16 Tryz.underlying147 hi hz0 hz1 hz2 rfl (by decide) _ _ _ rfl (HROW6.out.alloc _) ⟨w6.heap.size, 0, none⟩ 1 1 [.int .i64 k3, .int .i64 k1] rfl rfl (edge_news _ _ _) (by simp [Value.oneCell']) (by simp only [maxLen]; omega) (by omega) (by simp; omega) ?_; clear hi hz0 hz1 hz2; intro v10 w10 hown10 hgrow10 hnil10 hloc10; obtain ⟨A10, c10, rfl, _, _⟩ := own_sl hown10)
                have hb10 : Below w.heap.size w w10 := (HB6.out.trans ((below_alloc w6 _).mono HB6.out.size)).grown hgrow10 (Nat.le_trans HB6.out.size (below_alloc w6 _).size) fun g e => (row_lt HROW6.out e).1
                have HB10 := Lib.hid hb10
                have HO10 := Lib.hid (show w10.ownsRow w.heap.size 153 2 (.slice A10 (ol3 + 1) c10) (ol3 + 1) ((o3 ++ [(k3, k1)]).flatMap edgC) from by rw [edges_snoc]; exact hown10)
                have HLL := Lib.hid (show (o3 ++ [(k3, k1)]).length = ol3 + 1 from by rw [List.length_append, HOL3.out]; rfl)
                clear hown10 hgrow10 hnil10 hloc10 hb10
                go_roundw
                case rel => exact ⟨k3 + 1, c10, A10, o3 ++ [(k3, k1)], by omega, by go_num, by rw [HLL.out], by rw [HLL.out]; exact HO10, HE6, HB10⟩
                case measure => simp [intOf]; omega
            · obtain rfl : k3 = wn := by omega
              have hnil : which.drop k3 = [] := List.drop_eq_nil_iff.2 (by have := HWN.out; omega)
              have HE3 := Lib.hid (show o3 = o2 ++ eA ks x k1 which 0 from by rw [← heq3.out, hnil]; simp [eA])
              clear hnil
              go_wp2_with fail
              go_roundw
              case rel => exact ⟨k2 + 1, c3', A3', o3, by omega, by go_num, by rw [HOL3.out], by rw [HOL3.out]; exact hrow3, Lib.hid (by rw [HE3.out]; exact HQ2.out.symm), hBp⟩
              case measure => simp [intOf]; omega
        · obtain rfl : k2 = m2 := by omega
          have hnil : (ahK kv).drop k2 = [] := List.drop_eq_nil_iff.2 (by have := HDL.out; omega)
          have HE2 := Lib.hid (show o2 = o ++ eX ks which k1 (ahK kv) from by rw [← heq2.out, hnil]; simp [eX])
          clear hnil
          go_wp2_with fail
          go_roundw
          case rel => exact ⟨k1 + 1, c2', A2', o2, by omega, by go_num, by rw [HOL2.out], by rw [HOL2.out]; exact hrow2, Lib.hid (by rw [HE2.out]; exact HQ.out.symm), hBq⟩
          case measure => simp [intOf]; omega
    · obtain rfl : k1 = wn := by omega
      have hnil : which.drop k1 = [] := List.drop_eq_nil_iff.2 (by have := HWN.out; omega)
      have HE1 := Lib.hid (show o = edgesK ks which ahK from by rw [← heq.out, hnil]; simp [eB])
      have HAT := Lib.hid (show EdgesAt wr (.slice A' ol c') (edgesK ks which ahK) from by rw [← HE1.out]; exact slc_of_own hrow.out HOL.out.symm (by have := HTOT.out; rw [← HE1.out, HOL.out] at this; omega))
      clear hnil
      go_wp2_with fail
      go_ret
      exact ⟨_, rfl, HAT.out, hB.out⟩
end Go.Proofs.YtpbbhjifgaeklaaGreatDoor

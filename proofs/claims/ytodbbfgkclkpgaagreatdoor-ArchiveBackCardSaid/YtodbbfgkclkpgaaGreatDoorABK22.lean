/- record.Fields: the walk. · The reference's Singles: of which type the blocks of what comes back are. · The reference's Fields: plain things: the fields by number; what is loaded. · record.Fields, and the reference's, of every package. -/
import Derived.Test.YtodbbfgkclkpgaaGreatDoorABK21
import Derived.Deep.RegionHeld3
import Derived.Deep.RegionWith
import Derived.Deep.DeepCutAuto
import Derived.Test.YtodbbfgkclkpgaaGreatDoorABK10
import Derived.Test.YtodbbfgkclkpgaaGreatDoorABK11
import Derived.Test.YtodbbfgkclkpgaaGreatDoorABK8
import Derived.Test.YtodbbfgkclkpgaaGreatDoorABK7
import Derived.Test.YtodbbfgkclkpgaaGreatDoorABK2
import Derived.Test.YtodbbfgkclkpgaaGreatDoorABK17
import Derived.Test.YtodbbfgkclkpgaaGreatDoorABK20
namespace Go.Proofs.YtodbbfgkclkpgaaGreatDoor
open Go Go.RowKit

theorem cell_alloc2 (w : World) (o : Obj) (c : Array Value) (t : TypeId) (i : Nat) : ((w.alloc (.cells c t)).alloc o).cell? ⟨w.heap.size, i, none⟩ = c[i]? := by
  rw [World.cell?_alloc_old _ _ _ (by simp), World.cell?_alloc_new]
theorem frozen_alloc2 (w : World) (o : Obj) (c : Array Value) (t : TypeId) (i : Nat) : ((w.alloc (.cells c t)).alloc o).frozen? ⟨w.heap.size, i, none⟩ = false := by
  rw [World.frozen?_alloc_old _ _ _ (by simp), World.frozen?_alloc_new]
attribute [local go_sem] run_store_func
attribute [local go_sem] cell_alloc2 frozen_alloc2
attribute [local simp] cell_alloc2 frozen_alloc2

theorem lbox_1 (w : World) (B : Nat) (hB : B ≤ w.heap.size) (a b c d : ByteArray) : LBox B (w.heap.size + 1) [⟨a, b⟩, ⟨c, d⟩] ((w.alloc (.cells #[.string a, .string b, .string c, .string d] 69)).alloc (.cells #[.slice (some ⟨w.heap.size, 0, none⟩) 2 2] 31)) :=
  ⟨⟨_, by have := Boxed.new (w.alloc (.cells #[.string a, .string b, .string c, .string d] 69)) 31 (.slice (some ⟨w.heap.size, 0, none⟩) 2 2); rwa [World.size_alloc] at this, (row_new w B hB a b c d).alloc _⟩, by omega⟩
theorem lbox_2 (w : World) (B : Nat) (hB : B ≤ w.heap.size) (a b c d : ByteArray) : LBox B w.heap.size [⟨a, b⟩, ⟨c, d⟩] ((w.alloc (.cells #[.slice (some ⟨w.heap.size + 1, 0, none⟩) 2 2] 31)).alloc (.cells #[.string a, .string b, .string c, .string d] 69)) :=
  ⟨⟨_, (Boxed.new w 31 (.slice (some ⟨w.heap.size + 1, 0, none⟩) 2 2)).alloc _, by have := row_new (w.alloc (.cells #[.slice (some ⟨w.heap.size + 1, 0, none⟩) 2 2] 31)) B (by rw [World.size_alloc]; omega) a b c d; rwa [World.size_alloc] at this⟩, hB⟩
theorem lbox_3 (w : World) (B q : Nat) (hB : B ≤ w.heap.size) (hq : B ≤ q) (v : Value) (kb : Boxed w q 31 v) (a b c d : ByteArray) : LBox B q [⟨a, b⟩, ⟨c, d⟩] ((w.alloc (.cells #[.string a, .string b, .string c, .string d] 69)).setCell ⟨q, 0, none⟩ (.slice (some ⟨w.heap.size, 0, none⟩) 2 2)) :=
  ⟨⟨_, (kb.alloc _).set _, (row_new w B hB a b c d).kept (grownBy_setCell' _ q _) (.inr ((kb.alloc _).not_row (by decide) (row_new w B hB a b c d)).symm)⟩, hq⟩

set_option maxHeartbeats 4000000 in
set_option maxRecDepth 100000 in
theorem fields_yes (v : Value) (p : Pv) (w : World) (hE : Env w) (hS : EnvS w) (h : PackAt w v p) (hf : p.Fit) (hy : saysOk p = true) : Calls Tryz.prog 13 #[v] w (RecFieldsIs p w) := by
  obtain ⟨v1, v2, v3, v4, v5, v6, v7, v8, v9, rfl, h1, h2, h3, h4, h5, h6, h7, h8, h9, hlo, hhi⟩ := id h
  have hB0 := below_alloc w (.cells #[.string p.n, .int .i64 p.e, .string p.u, .string p.r, v1, v2, v3, v4, v5, v6, v7, v8, v9] 29)
  have CR := Lib.hid (recRight_calls _ p _ (hE.below hB0) (h.below hB0) hf)
  rw [hy] at CR
  have X0 := packBox_new w p v1 v2 v3 v4 v5 v6 v7 v8 v9 29
  obtain ⟨c0, c1, c2, c3, c4, c5, c6, c7, c8, c9, c10, c11, c12⟩ := id X0
  have CP := Lib.hid (fun (W : World) (hb : Below w.heap.size w W) => print_calls p.e p.u p.r W (hE.below hb) hlo hhi (by have := hf.u; omega) (by have := hf.r; omega))
  have OK := ok_of hy
  have HP1 := Lib.hid (fun (W : World) (hb : Below w.heap.size w W) => prints_to (hE.below hb) (hS.below hb) (h1.below hb) hf.dep hf.depN OK.dep)
  have HP2 := Lib.hid (fun (W : World) (hb : Below w.heap.size w W) => prints_to (hE.below hb) (hS.below hb) (h2.below hb) hf.ahead hf.aheadN OK.ahead)
  have HS3 := Lib.hid (fun (W : World) (hb : Below w.heap.size w W) => singles_calls v3 p.ag W (h3.below hb) hf.agN)
  have HS4 := Lib.hid (fun (W : World) (hb : Below w.heap.size w W) => singles_calls v4 p.br W (h4.below hb) hf.brN)
  have HS5 := Lib.hid (fun (W : World) (hb : Below w.heap.size w W) => singles_calls v5 p.re W (h5.below hb) hf.reN)
  have HS6 := Lib.hid (fun (W : World) (hb : Below w.heap.size w W) => singles_calls v6 p.pr W (h6.below hb) hf.prN)
  have HP3 := Lib.hid (fun (W : World) (x : Value) (hb : Below w.heap.size w W) (ha : AskedAt W x (p.ag.map fun t => [t])) => prints_to (hE.below hb) (hS.below hb) ha (singles_small hf.ag) singles_few OK.ag)
  have HP4 := Lib.hid (fun (W : World) (x : Value) (hb : Below w.heap.size w W) (ha : AskedAt W x (p.br.map fun t => [t])) => prints_to (hE.below hb) (hS.below hb) ha (singles_small hf.br) singles_few OK.br)
  have HP5 := Lib.hid (fun (W : World) (x : Value) (hb : Below w.heap.size w W) (ha : AskedAt W x (p.re.map fun t => [t])) => prints_to (hE.below hb) (hS.below hb) ha (singles_small hf.re) singles_few OK.re)
  have HP6 := Lib.hid (fun (W : World) (x : Value) (hb : Below w.heap.size w W) (ha : AskedAt W x (p.pr.map fun t => [t])) => prints_to (hE.below hb) (hS.below hb) ha (singles_small hf.pr) singles_few OK.pr)
  have HT7 := Lib.hid h7
  have HT8 := Lib.hid h8
  have HEE := Lib.hid hE
  have HLEN := Lib.hid (fld_lens p)
  have HSZ := Lib.hid (fldB_sizes OK hf.n)
  have HY := Lib.hid hy
  have HPA := Lib.hid (paths_len OK.se)
  have HPB := Lib.hid (paths_len OK.li)
  clear h1 h2 h3 h4 h5 h6 h7 h8 h9 h hf hE hS OK
  go_enter Tryz.func13, Tryz.ntmps13
  go_wp2_with fail
  refine CR.out.mono ?_
  rintro E w1 ⟨rfl, hb⟩
  obtain ⟨d0, d1, d2, d3, d4, d5, d6, d7, d8, d9, d10, d11, d12⟩ := X0.below hb
  have hB1 := step_below hB0 hb
  clear c0 c1 c2 c3 c4 c5 c6 c7 c8 c9 c10 c11 c12 X0 CR hb hB0
  obtain ⟨m, hm⟩ : ∃ m, w.heap.size = m := ⟨_, rfl⟩
  rw [hm] at d0 d1 d2 d3
  go_upto_region 3 with fail
  (try rw [hm])
  have HB1 := Lib.hid hB1
  rw [hm] at d4 d5 d6 d7 d8 d9 d10 d11 d12
  have X1 := Lib.hid (show PackBox w1 m p v1 v2 v3 v4 v5 v6 v7 v8 v9 from ⟨d0, d1, d2, d3, d4, d5, d6, d7, d8, d9, d10, d11, d12⟩)
  clear d4 d5 d6 d7 d8 d9 d10 d11 d12 hB1
  have S0 : FourS w1 m p.n p.e p.u p.r w1 := ⟨d0, d1, d2, d3, Below.refl _ _⟩
  have CP1 := Lib.hid (fun (W : World) (hb : Below w1.heap.size w1 W) => CP.out W (step_below HB1.out hb))
  clear CP
  have hlm : m < w1.heap.size := cell_lt d0
  have a0 : ∀ o, (w1.drew.alloc o).cell? ⟨m, 0, none⟩ = some (.string p.n) := fun o => kept (step_below (below_drew w1) (below_alloc _ o)) d0
  have a1 : ∀ o, (w1.drew.alloc o).cell? ⟨m, 1, none⟩ = some (.int .i64 p.e) := fun o => kept (step_below (below_drew w1) (below_alloc _ o)) d1
  have a2 : ∀ o, (w1.drew.alloc o).cell? ⟨m, 2, none⟩ = some (.string p.u) := fun o => kept (step_below (below_drew w1) (below_alloc _ o)) d2
  have a3 : ∀ o, (w1.drew.alloc o).cell? ⟨m, 3, none⟩ = some (.string p.r) := fun o => kept (step_below (below_drew w1) (below_alloc _ o)) d3
  go_cut [4] (fun s4 wx => ∃ q, s4 = .pointer (some ⟨q, 0, none⟩) ∧ LBox w1.heap.size q (fld0 p) wx ∧ Below w1.heap.size w1 wx)
  case first =>
    go_region_with (first | (go_at_call 56; refine (CP1.out _ (by first | exact below_drew _ | exact step_below (below_drew _) (below_alloc _ _))).mono ?_; rintro E w' ⟨t, rfl, ht, hb⟩; have n0 : w'.cell? ⟨m, 0, none⟩ = some (.string p.n) := (by first | exact kept hb (a0 _) | exact kept hb (show w1.drew.cell? _ = _ from d0)); have n1 : ∀ o, (w'.alloc o).cell? ⟨m, 0, none⟩ = some (.string p.n) := (fun o => kept (below_alloc _ o) n0); (try (have kb : Boxed w' w1.heap.size 31 (.slice none 0 0) := boxed_below (Boxed.new w1.drew 31 (.slice none 0 0)) hb; have k0 := kb.cell; have k1 := kb.frozen; have k2 : ∀ o, (w'.alloc o).cell? ⟨w1.heap.size, 0, none⟩ = some (.slice none 0 0) := (fun o => (kb.alloc o).cell); have k3 : ∀ o, (w'.alloc o).frozen? ⟨w1.heap.size, 0, none⟩ = false := (fun o => (kb.alloc o).frozen)))))
    all_goals
      have e : t = versS p := data_inj ht
      subst e
      go_wp2_with fail
      go_meet
      have hsz : w1.heap.size ≤ w'.heap.size := by have := hb.size; simp at this; omega
      have hbb : Below w1.heap.size w1 w' := by first | exact step_below (below_drew w1) hb | exact step_below (step_below (below_drew w1) (below_alloc _ _)) hb
      first | exact ⟨_, rfl, lbox_1 w' _ hsz _ _ _ _, step_below (step_below hbb (below_alloc _ _)) (below_alloc _ _)⟩ | exact ⟨_, rfl, lbox_2 w' _ hsz _ _ _ _, step_below (step_below hbb (below_alloc _ _)) (below_alloc _ _)⟩ | exact ⟨_, rfl, lbox_3 w' _ _ hsz (Nat.le_refl _) _ kb _ _ _ _, (step_below hbb (below_alloc _ _)).setCell (Nat.le_refl _) _⟩
  case rest =>
    obtain ⟨q, rfl, hl, hz⟩ := hcut
    have F0 := Lib.hid (fst_new hl hz)
    have c4 := kept (step_below hz (below_alloc _ (.cells #[.func (.func 57) #[] #[.pointer (some ⟨q, 0, none⟩)]] 90))) X1.out.c4
    clear S0 CP1 hlm a0 a1 a2 a3 d0 d1 d2 d3 hl hz
    go_wp2_with fail
    obtain ⟨a, ha⟩ : ∃ a, wc.heap.size = a := ⟨_, rfl⟩
    rw [ha] at F0
    (try rw [ha])
    clear ha c4
    refine (F0.out.terms nDepends (wholeS p.dep) _ (HP1.out _ (step_below HB1.out F0.out.z)) (by have := HLEN.out; omega)).mono ?_
    rintro E w2 ⟨rfl, hF⟩
    have F1 := Lib.hid (show FSt w1 q a (fld1 p) w2 from hF)
    have c5 := kept hF.z X1.out.c5
    clear hF F0
    go_wp2_with fail
    (try clear c5)
    refine (F1.out.terms nPre (wholeS p.ahead) _ (HP2.out _ (step_below HB1.out F1.out.z)) (by have := HLEN.out; omega)).mono ?_
    rintro E w3 ⟨rfl, hF⟩
    have F2 := Lib.hid (show FSt w1 q a (fld2 p) w3 from hF)
    have c6 := kept hF.z X1.out.c6
    clear hF F1
    go_wp2_with fail
    (try clear c6)
    refine (HS3.out _ (step_below HB1.out F2.out.z)).mono ?_
    rintro E y2 ⟨x2, rfl, hx2, hb⟩
    have G2 := Lib.hid (F2.out.below hb)
    have HX2 := Lib.hid (HP3.out _ _ (step_below HB1.out G2.out.z) hx2)
    clear hb hx2 F2
    go_wp2_with fail
    refine (G2.out.terms nConflicts (singS p.ag) _ HX2.out (by have := HLEN.out; omega)).mono ?_
    rintro E w4 ⟨rfl, hF⟩
    have F3 := Lib.hid (show FSt w1 q a (fld3 p) w4 from hF)
    have c7 := kept hF.z X1.out.c7
    clear hF G2 HX2
    go_wp2_with fail
    (try clear c7)
    refine (HS4.out _ (step_below HB1.out F3.out.z)).mono ?_
    rintro E y3 ⟨x3, rfl, hx3, hb⟩
    have G3 := Lib.hid (F3.out.below hb)
    have HX3 := Lib.hid (HP4.out _ _ (step_below HB1.out G3.out.z) hx3)
    clear hb hx3 F3
    go_wp2_with fail
    refine (G3.out.terms nBreaks (singS p.br) _ HX3.out (by have := HLEN.out; omega)).mono ?_
    rintro E w5 ⟨rfl, hF⟩
    have F4 := Lib.hid (show FSt w1 q a (fld4 p) w5 from hF)
    have c8 := kept hF.z X1.out.c8
    clear hF G3 HX3
    go_wp2_with fail
    (try clear c8)
    refine (HS5.out _ (step_below HB1.out F4.out.z)).mono ?_
    rintro E y4 ⟨x4, rfl, hx4, hb⟩
    have G4 := Lib.hid (F4.out.below hb)
    have HX4 := Lib.hid (HP5.out _ _ (step_below HB1.out G4.out.z) hx4)
    clear hb hx4 F4
    go_wp2_with fail
    refine (G4.out.terms nReplaces (singS p.re) _ HX4.out (by have := HLEN.out; omega)).mono ?_
    rintro E w6 ⟨rfl, hF⟩
    have F5 := Lib.hid (show FSt w1 q a (fld5 p) w6 from hF)
    have c9 := kept hF.z X1.out.c9
    clear hF G4 HX4
    go_wp2_with fail
    (try clear c9)
    refine (HS6.out _ (step_below HB1.out F5.out.z)).mono ?_
    rintro E y5 ⟨x5, rfl, hx5, hb⟩
    have G5 := Lib.hid (F5.out.below hb)
    have HX5 := Lib.hid (HP6.out _ _ (step_below HB1.out G5.out.z) hx5)
    clear hb hx5 F5
    go_wp2_with fail
    refine (G5.out.terms nProvides (singS p.pr) _ HX5.out (by have := HLEN.out; omega)).mono ?_
    rintro E w7 ⟨rfl, hF⟩
    have F6 := Lib.hid (show FSt w1 q a (fld6 p) w7 from hF)
    clear hF G5 HX5
    go_upto_region 12 with fail
    go_cut [4] (fun s4 wx => s4 = .pointer (some ⟨q, 0, none⟩) ∧ FSt w1 q a (fld7 p) wx)
    case first =>
      have D := Lib.hid (F6.out.below (below_drew w7))
      have ca := D.out.run
      have ca1 : ∀ o, (w7.drew.alloc o).cell? ⟨a, 0, none⟩ = some (.func (.func 57) #[] #[.pointer (some ⟨q, 0, none⟩)]) := fun o => (D.out.below (below_alloc _ o)).run
      have cs : w7.drew.cell? ⟨m, 10, none⟩ = some v7 := kept D.out.z X1.out.c10
      have cs1 : ∀ o, (w7.drew.alloc o).cell? ⟨m, 10, none⟩ = some v7 := fun o => kept (below_alloc _ o) cs
      have SR := Lib.hid (fun o => (SlC.src (HT7.out.below (step_below HB1.out (D.out.below (below_alloc _ o)).z))))
      obtain ⟨i0, hi, hz0, hz1, hz2⟩ := info_parts info_str
      have hlen := HPA.out.1
      have D1 := Lib.hid (fun o => D.out.below (below_alloc _ o))
      go_region_held3 (fun W => W.cell? ⟨a, 0, none⟩ = some (.func (.func 57) #[] #[.pointer (some ⟨q, 0, none⟩)]) ∧ W.cell? ⟨m, 10, none⟩ = some v7)
        ((first | assumption | exact ⟨ca, cs⟩ | exact ⟨ca1 _, cs1 _⟩ | exact ⟨D5.out.run, kept D5.out.z X1.out.c10⟩ | exact ⟨D4.out.run, kept D4.out.z X1.out.c10⟩ | exact ⟨D3.out.run, kept D3.out.z X1.out.c10⟩))
        (first | (go_at_call 61; refine (joinLines _ _ _ _ hown HPA.out).mono ?_; rintro E w4 ⟨rfl, hb⟩; have D4 := Lib.hid (D3.out.below hb)) | (go_at_call 57; refine (D4.out.add nConffiles _ (by have := HLEN.out; omega)).mono ?_; rintro E w5 ⟨rfl, hF⟩; have D5 := Lib.hid hF) | (refine step_append_src _ rfl _ _ 26 rfl w7.drew.heap.size 9 i0 (.string ⟨#[]⟩) 1 16 Tryz.underlying26 hi hz0 hz1 hz2 rfl (by decide) _ 1 [.string ⟨#[]⟩] rfl (row_one _) v7 _ (_) rfl (SR.out _) (strs_len _) (strs_one _) (by simp only [maxLen]; omega) (by omega) (below_alloc w7.drew (.cells #[.string ⟨#[]⟩] 9)).size ?_; intro v' w3 hown hg; have D3 := Lib.hid (D.out.appended hg)))
      all_goals
        go_wp2_with fail
        go_meet
        exact ⟨rfl, D5.out⟩
    case rest =>
    obtain ⟨rfl, hF⟩ := hcut
    have F7 := Lib.hid hF
    clear hF F6
    go_upto_region 13 with fail
    go_cut [4] (fun s4 wx => s4 = .pointer (some ⟨q, 0, none⟩) ∧ FSt w1 q a (fldB p) wx)
    case first =>
      have D := Lib.hid (F7.out.below (below_drew wc))
      have ca := D.out.run
      have ca1 : ∀ o, (wc.drew.alloc o).cell? ⟨a, 0, none⟩ = some (.func (.func 57) #[] #[.pointer (some ⟨q, 0, none⟩)]) := fun o => (D.out.below (below_alloc _ o)).run
      have cs : wc.drew.cell? ⟨m, 11, none⟩ = some v8 := kept D.out.z X1.out.c11
      have cs1 : ∀ o, (wc.drew.alloc o).cell? ⟨m, 11, none⟩ = some v8 := fun o => kept (below_alloc _ o) cs
      have SR := Lib.hid (fun o => (SlC.src (HT8.out.below (step_below HB1.out (D.out.below (below_alloc _ o)).z))))
      obtain ⟨i0, hi, hz0, hz1, hz2⟩ := info_parts info_str
      have hlen := HPB.out.1
      have D1 := Lib.hid (fun o => D.out.below (below_alloc _ o))
      go_region_held3 (fun W => W.cell? ⟨a, 0, none⟩ = some (.func (.func 57) #[] #[.pointer (some ⟨q, 0, none⟩)]) ∧ W.cell? ⟨m, 11, none⟩ = some v8)
        ((first | assumption | exact ⟨ca, cs⟩ | exact ⟨ca1 _, cs1 _⟩ | exact ⟨D5.out.run, kept D5.out.z X1.out.c11⟩ | exact ⟨D4.out.run, kept D4.out.z X1.out.c11⟩ | exact ⟨D3.out.run, kept D3.out.z X1.out.c11⟩))
        (first | (go_at_call 61; refine (joinLines _ _ _ _ hown HPB.out).mono ?_; rintro E w4 ⟨rfl, hb⟩; have D4 := Lib.hid (D3.out.below hb)) | (go_at_call 57; refine (D4.out.add nTriggers _ (by have := HLEN.out; omega)).mono ?_; rintro E w5 ⟨rfl, hF⟩; have D5 := Lib.hid hF) | (refine step_append_src _ rfl _ _ 26 rfl wc.drew.heap.size 9 i0 (.string ⟨#[]⟩) 1 16 Tryz.underlying26 hi hz0 hz1 hz2 rfl (by decide) _ 1 [.string ⟨#[]⟩] rfl (row_one _) v8 _ (_) rfl (SR.out _) (strs_len _) (strs_one _) (by simp only [maxLen]; omega) (by omega) (below_alloc wc.drew (.cells #[.string ⟨#[]⟩] 9)).size ?_; intro v' w3 hown hg; have D3 := Lib.hid (D.out.appended hg)))
      all_goals
        go_wp2_with fail
        go_meet
        exact ⟨rfl, D5.out⟩
    case rest =>
    obtain ⟨rfl, hF⟩ := hcut
    have F8 := Lib.hid hF
    clear hF F7
    go_upto_region 14 with fail
    obtain ⟨s, hbx, hrow⟩ := F8.out.l.box
    have cq := hbx.cell
    have hbw := step_below HB1.out F8.out.z
    have HF := Lib.hid (show FieldsAt wc s (fldB p) from slc_of_own hrow rfl (by have := HLEN.out; omega))
    have C := Lib.hid (stanza_calls s (fldB p) wc (HEE.out.below hbw) HF.out HSZ.out)
    have HBW := Lib.hid hbw
    obtain ⟨bq, hbq⟩ : ∃ y, stanzaB (fldB p) = y := ⟨_, rfl⟩
    have HE1 := Lib.hid (show fldE p = (if bq then 0 else 4) by unfold fldE; rw [HY.out, if_pos rfl, hbq])
    have HR1 := Lib.hid (show fldR p = (if bq then fldB p else []) by unfold fldR; rw [HY.out, if_pos rfl, hbq])
    rw [hbq] at C
    clear hbw hbq hbx hrow
    go_wp2_with fail
    refine C.out.mono ?_
    rintro E w9 ⟨rfl, hb⟩
    have HB9 := Lib.hid (step_below HBW.out hb)
    have HF9 := Lib.hid (HF.out.below hb)
    have cq9 := kept hb cq
    clear C hb HF cq
    cases bq with
    | false =>
      go_wp2_with fail
      go_ret2
      exact ⟨_, by rw [HE1.out]; rfl, by rw [HR1.out]; exact SlC.nil _ _ _, HB9.out⟩
    | true =>
      go_wp2_with fail
      go_ret2
      exact ⟨_, by rw [HE1.out]; rfl, by rw [HR1.out]; exact HF9.out, HB9.out⟩
end Go.Proofs.YtodbbfgkclkpgaaGreatDoor

namespace Go.Proofs.YtodbbfgkclkpgaaGreatDoor
open Go Go.RowKit

/-- the blocks of lists of terms: below B0, or of another type than fields' -/
def Ty (W : World) (B0 b : Nat) : Prop := b < B0 ∨ ∃ cs t fz, W.heap[b]? = some (.cells cs t fz) ∧ t ≠ 69
/-- what appending fields keeps: the blocks below B0, and those of other types -/
structure KeptT (B0 : Nat) (W W' : World) : Prop where
  size : W.heap.size ≤ W'.heap.size
  below : Below B0 W W'
  others : ∀ (j : Nat) cs t fz, W.heap[j]? = some (.cells cs t fz) → t ≠ 69 → W'.heap[j]? = W.heap[j]?
theorem KeptT.refl (B0 : Nat) (W : World) : KeptT B0 W W := ⟨Nat.le_refl _, Below.refl _ _, fun _ _ _ _ _ _ => rfl⟩
theorem KeptT.of_below {B0 : Nat} {W W' : World} (hb : Below W.heap.size W W') (hB : B0 ≤ W.heap.size) : KeptT B0 W W' :=
  ⟨hb.size, hb.mono hB, fun j _ _ _ hj _ => hb.block j (Array.getElem?_eq_some_iff.1 hj).1⟩
theorem KeptT.trans {B0 : Nat} {W W1 W2 : World} (h : KeptT B0 W W1) (k : KeptT B0 W1 W2) : KeptT B0 W W2 :=
  ⟨Nat.le_trans h.size k.size, h.below.trans k.below, fun j cs t fz hj ht => (k.others j cs t fz ((h.others j cs t fz hj ht).trans hj) ht).trans (h.others j cs t fz hj ht)⟩
theorem KeptT.grown {B0 : Nat} {W W' : World} {s : Value} {n size : Nat} {xs : List Value} (ho : W.ownsRow B0 69 size s n xs) (hg : W.grownBy W' s.ownBlock) (hB : B0 ≤ W.heap.size) : KeptT B0 W W' :=
  ⟨hg.size, (Below.refl B0 W).grown hg hB (fun g e => (ho.lt g e).1), fun j _ _ _ hj ht => hg.block j (Array.getElem?_eq_some_iff.1 hj).1 (own_other ho hj ht)⟩
theorem KeptT.block {B0 b : Nat} {W W' : World} (h : KeptT B0 W W') (ht : Ty W B0 b) : W'.heap[b]? = W.heap[b]? := by
  rcases ht with h1 | ⟨cs, t, fz, h1, h2⟩
  · exact h.below.block b h1
  · exact h.others b cs t fz h1 h2
theorem cell_heap {W W' : World} {a : Addr} (h : W'.heap[a.block]? = W.heap[a.block]?) : W'.cell? a = W.cell? a := by
  unfold World.cell?
  rw [h]
theorem KeptT.cell {B0 : Nat} {W W' : World} {a : Addr} {v : Value} (h : KeptT B0 W W') (hc : W.cell? a = some v) (ht : Ty W B0 a.block) : W'.cell? a = some v :=
  (cell_heap (h.block ht)).trans hc
theorem KeptT.ty {B0 b : Nat} {W W' : World} (h : KeptT B0 W W') (ht : Ty W B0 b) : Ty W' B0 b := by
  rcases ht with h1 | ⟨cs, t, fz, h1, h2⟩
  · exact .inl h1
  · exact .inr ⟨cs, t, fz, (h.others b cs t fz h1 h2).trans h1, h2⟩
end Go.Proofs.YtodbbfgkclkpgaaGreatDoor

namespace Go.Proofs.YtodbbfgkclkpgaaGreatDoor
open Go Go.RowKit

theorem Ty.below {W W' : World} {B0 b : Nat} (h : Ty W B0 b) (hb : Below W.heap.size W W') (hle : B0 ≤ W.heap.size) : Ty W' B0 b := (KeptT.of_below hb hle).ty h
end Go.Proofs.YtodbbfgkclkpgaaGreatDoor

namespace Go.Proofs.YtodbbfgkclkpgaaGreatDoor
open Go Go.RowKit

set_option maxRecDepth 100000 in
theorem fields_no (v : Value) (p : Pv) (w : World) (hE : Env w) (h : PackAt w v p) (hf : p.Fit) (hy : saysOk p = false) : Calls Tryz.prog 13 #[v] w (RecFieldsIs p w) := by
  obtain ⟨v1, v2, v3, v4, v5, v6, v7, v8, v9, rfl, _⟩ := id h
  have hB0 := below_alloc w (.cells #[.string p.n, .int .i64 p.e, .string p.u, .string p.r, v1, v2, v3, v4, v5, v6, v7, v8, v9] 29)
  have CR := Lib.hid (recRight_calls _ p _ (hE.below hB0) (h.below hB0) hf)
  rw [hy] at CR
  have X0 := packBox_new w p v1 v2 v3 v4 v5 v6 v7 v8 v9 29
  obtain ⟨c0, c1, c2, c3, c4, c5, c6, c7, c8, c9, c10, c11, c12⟩ := X0
  have F1 := Lib.hid (show fldE p = 1 by unfold fldE; rw [hy]; rfl)
  have F2 := Lib.hid (show fldR p = [] by unfold fldR; rw [hy]; rfl)
  clear h hf hE hy
  go_enter Tryz.func13, Tryz.ntmps13
  go_wp2_with fail
  refine CR.out.mono ?_
  rintro E w1 ⟨rfl, hb⟩
  have hB := step_below hB0 hb
  clear c0 c1 c2 c3 c4 c5 c6 c7 c8 c9 c10 c11 c12 CR hb hB0
  go_wp2_with fail
  go_ret2
  exact ⟨_, by rw [F1.out]; rfl, by rw [F2.out]; exact SlC.nil _ _ _, hB⟩

theorem recFields_calls (v : Value) (p : Pv) (w : World) (hE : Env w) (hS : EnvS w) (h : PackAt w v p) (hf : p.Fit) : Calls Tryz.prog 13 #[v] w (RecFieldsIs p w) := by
  cases hy : saysOk p with
  | false => exact fields_no v p w hE h hf hy
  | true => exact fields_yes v p w hE hS h hf hy
end Go.Proofs.YtodbbfgkclkpgaaGreatDoor

/- The reference's ReadArchive: the walk. -/
import Derived.Test.YtodbbfgkclkpgaaGreatDoorARC27
import Derived.Test.YtodbbfgkclkpgaaGreatDoorARC30
import Derived.Test.YtodbbfgkclkpgaaGreatDoorARC37
import Derived.Test.YtodbbfgkclkpgaaGreatDoorARC38
import Derived.Test.YtodbbfgkclkpgaaGreatDoorARC39
import Derived.Deep.RegionLaw
namespace Go.Proofs.YtodbbfgkclkpgaaGreatDoor
open Go Go.RowKit

theorem refArIs_err {s : ByteArray} {w W : World} {n : Int} (h : arE s = n ∧ arV s = pack0) (hb : Below w.heap.size w W) : RefArcRIs s w (.returned (.tuple #[.agg zeros, .int .i64 n])) W :=
  ⟨_, by rw [h.1], by rw [h.2]; exact pack0_at W, hb⟩
theorem src_pairF (W : World) (A T : ByteArray) : SrcIs (W.alloc (.cells #[.string A, .string T] 81)) (.slice (some ⟨W.heap.size, 0, none⟩) 1 1) 1 (fldC ⟨A, T⟩) := ⟨_, 1, rfl, fun _ => ⟨_, 0, rfl, fun j u hj => by have := cells_newF W A T j u hj; rwa [Go.WideShapes.add_plain] at this⟩⟩
/-- the result's box b, and the empty package's, b + 1 -/
def NilBoxes (b : Nat) (W : World) : Prop := PkBlk W b zeros ∧ PkBlk W (b + 1) zeros
theorem NilBoxes.keep {b : Nat} {W W' : World} (h : NilBoxes b W) (hb : Below W.heap.size W W') : NilBoxes b W' := ⟨h.1.keep hb, h.2.keep hb⟩

set_option maxHeartbeats 4000000 in
set_option maxRecDepth 100000 in
theorem refArc_big (s : ByteArray) (w : World) (h : 4000 < s.size) (hs : s.size ≤ 6000) : Calls Tryz.prog 46 #[.string s] w (RefArcRIs s w) := by
  have HRR := Lib.hid (ar_error (arc_big h))
  go_enter Tryz.func46, Tryz.ntmps46
  go_wp2_with fail
  refine bodyPost_ret (v := .tuple #[.agg zeros, .int .i64 4]) (by simp [results, zeros, Tryz.results46, go_sem]) rfl ?_
  exact refArIs_err HRR.out (by go_grown)

set_option maxHeartbeats 8000000 in
set_option maxRecDepth 100000 in
theorem refArc_small (s : ByteArray) (w : World) (hE : Env w) (hF : EnvF w) (hbig : ¬ 4000 < s.size) : Calls Tryz.prog 46 #[.string s] w (RefArcRIs s w) := by
  have hs : s.size ≤ 4000 := by omega
  have b1 := below_alloc w (.cells #[.string ⟨#[]⟩, .int .i64 0, .string ⟨#[]⟩, .string ⟨#[]⟩, .slice none 0 0, .slice none 0 0, .slice none 0 0, .slice none 0 0, .slice none 0 0, .slice none 0 0, .slice none 0 0, .slice none 0 0, .slice none 0 0] 29)
  have b2 := below_alloc (w.alloc (.cells #[.string ⟨#[]⟩, .int .i64 0, .string ⟨#[]⟩, .string ⟨#[]⟩, .slice none 0 0, .slice none 0 0, .slice none 0 0, .slice none 0 0, .slice none 0 0, .slice none 0 0, .slice none 0 0, .slice none 0 0, .slice none 0 0] 29)) (.cells #[.string ⟨#[]⟩, .int .i64 0, .string ⟨#[]⟩, .string ⟨#[]⟩, .slice none 0 0, .slice none 0 0, .slice none 0 0, .slice none 0 0, .slice none 0 0, .slice none 0 0, .slice none 0 0, .slice none 0 0, .slice none 0 0] 29)
  have z1 : PkBlk (w.alloc (.cells #[.string ⟨#[]⟩, .int .i64 0, .string ⟨#[]⟩, .string ⟨#[]⟩, .slice none 0 0, .slice none 0 0, .slice none 0 0, .slice none 0 0, .slice none 0 0, .slice none 0 0, .slice none 0 0, .slice none 0 0, .slice none 0 0] 29)) w.heap.size zeros := pk_new w zeros
  have z2 : PkBlk ((w.alloc (.cells #[.string ⟨#[]⟩, .int .i64 0, .string ⟨#[]⟩, .string ⟨#[]⟩, .slice none 0 0, .slice none 0 0, .slice none 0 0, .slice none 0 0, .slice none 0 0, .slice none 0 0, .slice none 0 0, .slice none 0 0, .slice none 0 0] 29)).alloc (.cells #[.string ⟨#[]⟩, .int .i64 0, .string ⟨#[]⟩, .string ⟨#[]⟩, .slice none 0 0, .slice none 0 0, .slice none 0 0, .slice none 0 0, .slice none 0 0, .slice none 0 0, .slice none 0 0, .slice none 0 0, .slice none 0 0] 29)) (w.alloc (.cells #[.string ⟨#[]⟩, .int .i64 0, .string ⟨#[]⟩, .string ⟨#[]⟩, .slice none 0 0, .slice none 0 0, .slice none 0 0, .slice none 0 0, .slice none 0 0, .slice none 0 0, .slice none 0 0, .slice none 0 0, .slice none 0 0] 29)).heap.size zeros := pk_new _ zeros
  rw [World.size_alloc] at z2
  have hz0 : NilBoxes w.heap.size ((w.alloc (.cells #[.string ⟨#[]⟩, .int .i64 0, .string ⟨#[]⟩, .string ⟨#[]⟩, .slice none 0 0, .slice none 0 0, .slice none 0 0, .slice none 0 0, .slice none 0 0, .slice none 0 0, .slice none 0 0, .slice none 0 0, .slice none 0 0] 29)).alloc (.cells #[.string ⟨#[]⟩, .int .i64 0, .string ⟨#[]⟩, .string ⟨#[]⟩, .slice none 0 0, .slice none 0 0, .slice none 0 0, .slice none 0 0, .slice none 0 0, .slice none 0 0, .slice none 0 0, .slice none 0 0, .slice none 0 0] 29)) := ⟨z1.keep b2, z2⟩
  have ba0 := step_below b1 b2
  obtain ⟨b, hb⟩ : ∃ b, w.heap.size = b := ⟨_, rfl⟩
  rw [hb] at hz0
  have HBW := Lib.hid (Nat.le_of_eq hb)
  have HE := Lib.hid hE
  have HF := Lib.hid hF
  have HBIG := Lib.hid hbig
  have HIX := headP_index s
  have HCI := Lib.hid (fun (W : World) (hb : Below w.heap.size w W) => call_index2 s W (hE.below hb) (by omega))
  obtain ⟨ix, hix⟩ : ∃ ix, Lib.index s.data.toList [10, 10] = ix := ⟨_, rfl⟩
  rw [hix] at HCI HIX
  clear hE hF hbig hix b1 b2 z1 z2
  go_enter Tryz.func46, Tryz.ntmps46
  go_wp2_with fail
  (try rw [hb])
  generalize (w.alloc (.cells #[.string ⟨#[]⟩, .int .i64 0, .string ⟨#[]⟩, .string ⟨#[]⟩, .slice none 0 0, .slice none 0 0, .slice none 0 0, .slice none 0 0, .slice none 0 0, .slice none 0 0, .slice none 0 0, .slice none 0 0, .slice none 0 0] 29)).alloc (.cells #[.string ⟨#[]⟩, .int .i64 0, .string ⟨#[]⟩, .string ⟨#[]⟩, .slice none 0 0, .slice none 0 0, .slice none 0 0, .slice none 0 0, .slice none 0 0, .slice none 0 0, .slice none 0 0, .slice none 0 0, .slice none 0 0] 29) = W0 at ba0 hz0 ⊢
  clear hb
  refine (HCI.out W0 ba0).mono ?_
  rintro E w1 ⟨rfl, rfl⟩
  have HB1 := Lib.hid ba0
  have HZ1 := Lib.hid hz0
  clear HCI ba0 hz0
  rcases HIX with ⟨rfl, hh⟩ | ⟨k, rfl, hk, hh⟩
  · have HNH := Lib.hid (arc_nohead HBIG.out hh)
    clear hh
    have HRR := Lib.hid (ar_error (HNH.out))
    have HBE := Lib.hid HB1.out
    obtain ⟨z, y⟩ := id HZ1.out
    have fz := z.frozen
    have z0 := z.cell (i := 0) rfl; have z1 := z.cell (i := 1) rfl; have z2 := z.cell (i := 2) rfl; have z3 := z.cell (i := 3) rfl; have z4 := z.cell (i := 4) rfl; have z5 := z.cell (i := 5) rfl; have z6 := z.cell (i := 6) rfl; have z7 := z.cell (i := 7) rfl; have z8 := z.cell (i := 8) rfl; have z9 := z.cell (i := 9) rfl; have z10 := z.cell (i := 10) rfl; have z11 := z.cell (i := 11) rfl; have z12 := z.cell (i := 12) rfl
    obtain ⟨o0, o1, o2, o3, o4, o5, o6, o7, o8, o9, o10, o11, o12⟩ := zero_box y
    clear z y
    go_wp2_with fail
    refine bodyPost_ret (v := .tuple #[.agg zeros, .int .i64 3]) (by simp [results, zeros, pack0, Tryz.results46, go_sem, z0, z1, z2, z3, z4, z5, z6, z7, z8, z9, z10, z11, z12]) rfl ?_
    exact refArIs_err HRR.out (below_set13 HBE.out HBW.out _ _ _ _ _ _ _ _ _ _ _ _ _)
  · have HH := Lib.hid hh
    clear hh
    have hdz : (s.extract 0 k).size ≤ 4000 := by simp; omega
    have CP := Lib.hid (refStz_calls (s.extract 0 k) W0 (HE.out.below HB1.out) (HF.out.below HB1.out) (by omega))
    go_wp2_with fail
    refine CP.out.mono ?_
    rintro E w2 ⟨hb2, h⟩
    have HB2 := Lib.hid (step_below HB1.out hb2)
    have HZ2 := Lib.hid (HZ1.out.keep hb2)
    have HF2 := Lib.hid (HF.out.below (step_below HB1.out hb2))
    clear hb2 HB1 HZ1 CP
    rcases h with ⟨L, v, rfl, hL, hv⟩ | ⟨n, rfl, hn⟩
    · have HL := Lib.hid hL
      obtain ⟨A, c, rfl, _, hr⟩ := hv
      go_upto_region 8 with fail
      have ba3 := below_alloc w2 (.cells #[.int .i64 0, .int .i64 (-1)] 96)
      have hf3 := heap_alloc_new w2 (.cells #[.int .i64 0, .int .i64 (-1)] 96)
      obtain ⟨bf, hbf⟩ : ∃ bf, w2.heap.size = bf := ⟨_, rfl⟩
      rw [hbf] at hf3
      (try rw [hbf])
      generalize w2.alloc (.cells #[.int .i64 0, .int .i64 (-1)] 96) = w3 at ba3 hf3 ⊢
      obtain ⟨d0, d1, _⟩ := two_facts hf3
      obtain ⟨g0, g1⟩ := HF2.out.below ba3
      have HB3 := Lib.hid (step_below HB2.out ba3)
      have HZ3 := Lib.hid (HZ2.out.keep ba3)
      have BA3 := Lib.hid ba3
      clear hbf hf3 ba3
      by_cases hl1 : L.length = 1
      · obtain ⟨l, rfl⟩ : ∃ l, L = [l] := by
          match L, hl1 with
          | [l], _ => exact ⟨l, rfl⟩
        obtain ⟨bl, off, rfl, hi⟩ := hr (by simp)
        obtain ⟨vx, c0, hf⟩ := hi 0 l rfl
        obtain ⟨A2, n2, k2, rfl⟩ : ∃ A n c, vx = .slice A n c := by obtain ⟨A, c, hv, _⟩ := hf; exact ⟨A, _, c, hv⟩
        rw [Nat.add_zero] at c0
        replace c0 := kept BA3.out c0
        have HONE := Lib.hid (arc_one HBIG.out HH.out HL.out)
        have hsz : ∀ f ∈ l, f.n.size ≤ 6000 ∧ f.v.size ≤ 6000 := fun f hf => by
          have := parseS_fits HL.out l (by simp) f hf
          omega
        have HFIT := Lib.hid (fun (p : Pv) (h : readP l = .ok p) => readP_fit (fun f hf => (hsz f hf).2) h)
        have CR := Lib.hid (refRead_calls _ l w3 (HE.out.below HB3.out) (hf.below BA3.out) hsz)
        clear hi hr hf hsz hl1 hL
        go_wp2_with fail
        refine CR.out.mono ?_
        rintro E w4 ⟨y, rfl, _, hb4, hfr⟩
        have HB4 := Lib.hid (step_below HB3.out hb4)
        have HZ4 := Lib.hid (HZ3.out.keep hb4)
        have hbl : b + 1 < w3.heap.size := HZ3.out.2.lt
        have HW34 := Lib.hid hb4.size
        clear hb4 HB2 HZ2 HB3 HZ3 CR c0 d0 d1 g0 g1 HF2 BA3
        obtain ⟨v1, v2, v3, v4, v5, v6, v7, v8, rfl, hr⟩ := hfr
        obtain ⟨A1, n1, c1, rfl⟩ := ask_slice hr.d.1
        obtain ⟨A2, n2, c2, rfl⟩ := ask_slice hr.a.1
        obtain ⟨A3, n3, c3, rfl⟩ := term_slice hr.g.1
        obtain ⟨A4, n4, c4, rfl⟩ := term_slice hr.b.1
        obtain ⟨A5, n5, c5, rfl⟩ := term_slice hr.r.1
        obtain ⟨A6, n6, c6, rfl⟩ := term_slice hr.p.1
        obtain ⟨A7, n7, c7, rfl⟩ := slc_sl hr.s.1
        obtain ⟨A8, n8, c8, rfl⟩ := slc_sl hr.l.1
        rcases rd_cases l with ⟨e, he, h1, h2, hne⟩ | ⟨p, hp, h1, h2⟩
        · rw [h2] at hr ⊢
          rw [h1]
          unfold cells13 pack0
          clear hr
          go_upto_region 11 with fail
          have HZ5 := Lib.hid (HZ4.out.keep (below_alloc w4 (.cells #[.string ⟨#[]⟩, .int .i64 0, .string ⟨#[]⟩, .string ⟨#[]⟩, .slice A1 n1 c1, .slice A2 n2 c2, .slice A3 n3 c3, .slice A4 n4 c4, .slice A5 n5 c5, .slice A6 n6 c6, .slice A7 n7 c7, .slice A8 n8 c8, .slice none 0 0] 29)))
          have HB5 := Lib.hid (step_below HB4.out (below_alloc w4 (.cells #[.string ⟨#[]⟩, .int .i64 0, .string ⟨#[]⟩, .string ⟨#[]⟩, .slice A1 n1 c1, .slice A2 n2 c2, .slice A3 n3 c3, .slice A4 n4 c4, .slice A5 n5 c5, .slice A6 n6 c6, .slice A7 n7 c7, .slice A8 n8 c8, .slice none 0 0] 29)))
          generalize w4.alloc (.cells #[.string ⟨#[]⟩, .int .i64 0, .string ⟨#[]⟩, .string ⟨#[]⟩, .slice A1 n1 c1, .slice A2 n2 c2, .slice A3 n3 c3, .slice A4 n4 c4, .slice A5 n5 c5, .slice A6 n6 c6, .slice A7 n7 c7, .slice A8 n8 c8, .slice none 0 0] 29) = w5 at HZ5 HB5 ⊢
          have HRR := Lib.hid (ar_error (by rw [HONE.out, he]))
          have HBE := Lib.hid HB5.out
          obtain ⟨z, y⟩ := id HZ5.out
          have fz := z.frozen
          have z0 := z.cell (i := 0) rfl; have z1 := z.cell (i := 1) rfl; have z2 := z.cell (i := 2) rfl; have z3 := z.cell (i := 3) rfl; have z4 := z.cell (i := 4) rfl; have z5 := z.cell (i := 5) rfl; have z6 := z.cell (i := 6) rfl; have z7 := z.cell (i := 7) rfl; have z8 := z.cell (i := 8) rfl; have z9 := z.cell (i := 9) rfl; have z10 := z.cell (i := 10) rfl; have z11 := z.cell (i := 11) rfl; have z12 := z.cell (i := 12) rfl
          obtain ⟨o0, o1, o2, o3, o4, o5, o6, o7, o8, o9, o10, o11, o12⟩ := zero_box y
          clear z y
          go_wp2_with fail
          refine bodyPost_ret (v := .tuple #[.agg zeros, .int .i64 e]) (by simp [results, zeros, pack0, Tryz.results46, go_sem, z0, z1, z2, z3, z4, z5, z6, z7, z8, z9, z10, z11, z12]) rfl ?_
          exact refArIs_err HRR.out (below_set13 HBE.out HBW.out _ _ _ _ _ _ _ _ _ _ _ _ _)
        · rw [h2] at hr ⊢
          rw [h1]
          have HR := Lib.hid hr
          obtain ⟨hft, hfi, he0, he1⟩ := HFIT.out p hp
          have HFT := Lib.hid hft
          have HEB := Lib.hid (show -9223372036854775808 ≤ p.e ∧ p.e ≤ 9223372036854775807 from ⟨he0, he1⟩)
          obtain ⟨rest, hrest⟩ : ∃ rest, s.extract (k + 2) s.size = rest := ⟨_, rfl⟩
          rw [hrest] at HONE HH
          have HONE2 := Lib.hid (show arcP s = match filesP rest with
            | none => .error 3
            | some fs => if archB (withFiles p fs) then .ok (withFiles p fs) else .error 1 by rw [HONE.out, hp]; cases filesP rest <;> rfl)
          have hrz : rest.size ≤ 4000 := by rw [← hrest]; simp; omega
          unfold cells13
          clear hr hp h1 h2 hft hfi HFIT HONE he0 he1
          go_upto_region 11 with fail
          have K5 := Lib.hid (pk_new w4 #[.string p.n, .int .i64 p.e, .string p.u, .string p.r, .slice A1 n1 c1, .slice A2 n2 c2, .slice A3 n3 c3, .slice A4 n4 c4, .slice A5 n5 c5, .slice A6 n6 c6, .slice A7 n7 c7, .slice A8 n8 c8, .slice none 0 0])
          have hb5 := below_alloc w4 (.cells #[.string p.n, .int .i64 p.e, .string p.u, .string p.r, .slice A1 n1 c1, .slice A2 n2 c2, .slice A3 n3 c3, .slice A4 n4 c4, .slice A5 n5 c5, .slice A6 n6 c6, .slice A7 n7 c7, .slice A8 n8 c8, .slice none 0 0] 29)
          have HC5 := Lib.hid hb5
          obtain ⟨m, hm⟩ : ∃ m, w4.heap.size = m := ⟨_, rfl⟩
          have HM := Lib.hid (Nat.le_of_eq hm)
          rw [hm] at K5
          (try rw [hm])
          generalize w4.alloc (.cells #[.string p.n, .int .i64 p.e, .string p.u, .string p.r, .slice A1 n1 c1, .slice A2 n2 c2, .slice A3 n3 c3, .slice A4 n4 c4, .slice A5 n5 c5, .slice A6 n6 c6, .slice A7 n7 c7, .slice A8 n8 c8, .slice none 0 0] 29) = w5 at K5 hb5 HC5 ⊢
          have HW35 := Lib.hid (Nat.le_trans HW34.out hb5.size)
          clear hb5 hm
          obtain ⟨i0, hi, hz0, hz1, hz2⟩ := info_parts info_file
          go_wp2_with fail
          (try rw [hrest])
          clear hrest
          go_loopw [0] (fun s0 wr => ∃ (rst : ByteArray) (fs : List Fv) (A9 : Option Addr) (n9 c9 : Nat), s0 = .string rst ∧ Hid (fs.length = n9) ∧ Hid (FilesAt rest fs rst) ∧ Hid (ArcSt w5.heap.size m #[.string p.n, .int .i64 p.e, .string p.u, .string p.r, .slice A1 n1 c1, .slice A2 n2 c2, .slice A3 n3 c3, .slice A4 n4 c4, .slice A5 n5 c5, .slice A6 n6 c6, .slice A7 n7 c7, .slice A8 n8 c8, .slice A9 n9 c9] (.slice A9 n9 c9) fs wr) ∧ Hid (w5.heap.size ≤ wr.heap.size) ∧ Below w4.heap.size w4 wr) (fun s0 _ => strLen s0)
          case atStart => exact ⟨rest, [], none, 0, 0, rfl, Lib.hid rfl, Lib.hid (FilesAt.start rest), Lib.hid ⟨K5.out, World.ownsRow_nil _ _ _ _⟩, Lib.hid (Nat.le_refl _), HC5.out⟩
          case round =>
            obtain ⟨rst, fs, A9, n9, c9, rfl, HN9, HFA, HST, HM5, hB⟩ := hrel
            have HBB := Lib.hid (step_below HB4.out hB)
            have HZB := Lib.hid (HZ4.out.keep hB)
            have hrz2 := HFA.out.le
            rw [HN9.out] at hrz2
            by_cases h0 : rst.size = 0
            · have hr0 : rst = ⟨#[]⟩ := eq_empty rst h0
              subst hr0
              have HFS := Lib.hid (HFA.out.done h0)
              clear h0
              have HRW := Lib.hid (HR.out.keep (FromAs.of_below hB))
              have hsl : FieldsAt wr (.slice A9 n9 c9) fs := slc_of_own HST.out.r rfl (own_max HST.out.r)
              have HSL := Lib.hid hsl
              have hfr9 : SlFr w3.heap.size (.slice A9 n9 c9) := slFr_own HST.out.r HW35.out
              have HFR9 := Lib.hid hfr9
              have hpa : PackAt wr (.agg #[.string p.n, .int .i64 p.e, .string p.u, .string p.r, .slice A1 n1 c1, .slice A2 n2 c2, .slice A3 n3 c3, .slice A4 n4 c4, .slice A5 n5 c5, .slice A6 n6 c6, .slice A7 n7 c7, .slice A8 n8 c8, .slice A9 n9 c9]) (withFiles p fs) := ⟨_, _, _, _, _, _, _, _, _, rfl, HRW.out.d.1, HRW.out.a.1, HRW.out.g.1, HRW.out.b.1, HRW.out.r.1, HRW.out.p.1, HRW.out.s.1, HRW.out.l.1, hsl, HEB.out.1, HEB.out.2⟩
              obtain ⟨bs, hbs⟩ : ∃ bs, archB (withFiles p fs) = bs := ⟨_, rfl⟩
              have CA := Lib.hid (refArc_calls _ (withFiles p fs) wr (HE.out.below HBB.out) hpa (HFT.out.withFiles fs) (fun f hf => by have := (HFA.out.sz f hf).1; omega))
              unfold BoolIs at CA
              rw [hbs] at CA
              have HBS := Lib.hid hbs
              have K := Lib.hid HST.out.k
              have k0 := K.out.cell (i := 0) rfl; have k1 := K.out.cell (i := 1) rfl; have k2 := K.out.cell (i := 2) rfl; have k3 := K.out.cell (i := 3) rfl; have k4 := K.out.cell (i := 4) rfl; have k5 := K.out.cell (i := 5) rfl; have k6 := K.out.cell (i := 6) rfl; have k7 := K.out.cell (i := 7) rfl; have k8 := K.out.cell (i := 8) rfl; have k9 := K.out.cell (i := 9) rfl; have k10 := K.out.cell (i := 10) rfl; have k11 := K.out.cell (i := 11) rfl; have k12 := K.out.cell (i := 12) rfl
              clear hsl hfr9 hpa hbs
              go_wp2_with fail
              refine CA.out.mono ?_
              rintro E wz ⟨rfl, hbz⟩
              have HBZ := Lib.hid (step_below HBB.out hbz)
              have HZZ := Lib.hid (HZB.out.keep hbz)
              have KZ := Lib.hid (K.out.keep hbz)
              have HRZ := Lib.hid (HRW.out.keep (FromAs.of_below hbz))
              have HSZ := Lib.hid (SlC.below HSL.out hbz)
              clear hbz CA k0 k1 k2 k3 k4 k5 k6 k7 k8 k9 k10 k11 k12
              cases bs with
              | false =>
                have HRR := Lib.hid (ar_error (by rw [HONE2.out, HFS.out]; exact if_neg (by rw [HBS.out]; simp)))
                have HBE := Lib.hid HBZ.out
                obtain ⟨z, y⟩ := id HZZ.out
                have fz := z.frozen
                have z0 := z.cell (i := 0) rfl; have z1 := z.cell (i := 1) rfl; have z2 := z.cell (i := 2) rfl; have z3 := z.cell (i := 3) rfl; have z4 := z.cell (i := 4) rfl; have z5 := z.cell (i := 5) rfl; have z6 := z.cell (i := 6) rfl; have z7 := z.cell (i := 7) rfl; have z8 := z.cell (i := 8) rfl; have z9 := z.cell (i := 9) rfl; have z10 := z.cell (i := 10) rfl; have z11 := z.cell (i := 11) rfl; have z12 := z.cell (i := 12) rfl
                obtain ⟨o0, o1, o2, o3, o4, o5, o6, o7, o8, o9, o10, o11, o12⟩ := zero_box y
                clear z y
                go_wp2_with fail
                refine bodyPost_ret (v := .tuple #[.agg zeros, .int .i64 1]) (by simp [results, zeros, pack0, Tryz.results46, go_sem, z0, z1, z2, z3, z4, z5, z6, z7, z8, z9, z10, z11, z12]) rfl ?_
                exact refArIs_err HRR.out (below_set13 HBE.out HBW.out _ _ _ _ _ _ _ _ _ _ _ _ _)
              | true =>
                have HRR := Lib.hid (ar_ok (s := s) (p := withFiles p fs) (by rw [HONE2.out, HFS.out]; exact if_pos HBS.out))
                have k0 := KZ.out.cell (i := 0) rfl; have k1 := KZ.out.cell (i := 1) rfl; have k2 := KZ.out.cell (i := 2) rfl; have k3 := KZ.out.cell (i := 3) rfl; have k4 := KZ.out.cell (i := 4) rfl; have k5 := KZ.out.cell (i := 5) rfl; have k6 := KZ.out.cell (i := 6) rfl; have k7 := KZ.out.cell (i := 7) rfl; have k8 := KZ.out.cell (i := 8) rfl; have k9 := KZ.out.cell (i := 9) rfl; have k10 := KZ.out.cell (i := 10) rfl; have k11 := KZ.out.cell (i := 11) rfl; have k12 := KZ.out.cell (i := 12) rfl
                have z := HZZ.out.1
                have fz := z.frozen
                have z0 := z.cell (i := 0) rfl; have z1 := z.cell (i := 1) rfl; have z2 := z.cell (i := 2) rfl; have z3 := z.cell (i := 3) rfl; have z4 := z.cell (i := 4) rfl; have z5 := z.cell (i := 5) rfl; have z6 := z.cell (i := 6) rfl; have z7 := z.cell (i := 7) rfl; have z8 := z.cell (i := 8) rfl; have z9 := z.cell (i := 9) rfl; have z10 := z.cell (i := 10) rfl; have z11 := z.cell (i := 11) rfl; have z12 := z.cell (i := 12) rfl
                clear z
                go_wp2_with fail
                refine bodyPost_ret (v := .tuple #[.agg #[.string p.n, .int .i64 p.e, .string p.u, .string p.r, .slice A1 n1 c1, .slice A2 n2 c2, .slice A3 n3 c3, .slice A4 n4 c4, .slice A5 n5 c5, .slice A6 n6 c6, .slice A7 n7 c7, .slice A8 n8 c8, .slice A9 n9 c9], .int .i64 0]) (by simp [results, Tryz.results46, go_sem, z0, z1, z2, z3, z4, z5, z6, z7, z8, z9, z10, z11, z12]) rfl ?_
                refine ⟨_, by rw [HRR.out.1], ?_, below_set13 HBZ.out HBW.out _ _ _ _ _ _ _ _ _ _ _ _ _⟩
                rw [HRR.out.2]
                have HRF := HRZ.out.keep (fromAs_set13 (show b < w3.heap.size by omega) (.string p.n) (.int .i64 p.e) (.string p.u) (.string p.r) (.slice A1 n1 c1) (.slice A2 n2 c2) (.slice A3 n3 c3) (.slice A4 n4 c4) (.slice A5 n5 c5) (.slice A6 n6 c6) (.slice A7 n7 c7) (.slice A8 n8 c8) (.slice A9 n9 c9))
                exact ⟨_, _, _, _, _, _, _, _, _, rfl, HRF.d.1, HRF.a.1, HRF.g.1, HRF.b.1, HRF.r.1, HRF.p.1, HRF.s.1, HRF.l.1, SlC.keepFrom HSZ.out HFR9.out (fromAs_set13 (show b < w3.heap.size by omega) (.string p.n) (.int .i64 p.e) (.string p.u) (.string p.r) (.slice A1 n1 c1) (.slice A2 n2 c2) (.slice A3 n3 c3) (.slice A4 n4 c4) (.slice A5 n5 c5) (.slice A6 n6 c6) (.slice A7 n7 c7) (.slice A8 n8 c8) (.slice A9 n9 c9)), HEB.out.1, HEB.out.2⟩
            · obtain ⟨e1, e2⟩ := text_ne2 h0
              have e3 : (rst.toList != []) = true := by rw [bne, e2]; rfl
              have e4 : (rst.toList != (⟨#[]⟩ : ByteArray).toList) = true := by rw [bne, e1]; rfl
              have H0 := Lib.hid h0
              clear h0
              obtain ⟨ia, hia⟩ : ∃ ia, Lib.indexByte rst.data.toList 32 = ia := ⟨_, rfl⟩
              obtain ⟨ib, hib⟩ : ∃ ib, Lib.indexByte rst.data.toList 10 = ib := ⟨_, rfl⟩
              have CA := Lib.hid (call_at rst 32 wr _ hia)
              have CB := Lib.hid (call_at rst 10 wr _ hib)
              have HREF := Lib.hid (ref_file rst)
              rw [hia, hib] at HREF
              clear hia hib
              go_wp2_with fail
              clear e1 e2 e3 e4
              refine CA.out.mono ?_
              rintro E w6 ⟨rfl, rfl⟩
              go_wp2_with fail
              refine CB.out.mono ?_
              rintro E w6 ⟨rfl, rfl⟩
              clear CA CB
              rcases HREF.out with ⟨hfp, hor⟩ | ⟨a, bq, rfl, rfl, hab, hbs, hfp⟩
              · have HNO := Lib.hid (HFA.out.none H0.out hfp)
                clear hfp
                rcases hor with hor | hor
                · skip
                  have HRR := Lib.hid (ar_error (by rw [HONE2.out, HNO.out]))
                  have HBE := Lib.hid HBB.out
                  obtain ⟨z, y⟩ := id HZB.out
                  have fz := z.frozen
                  have z0 := z.cell (i := 0) rfl; have z1 := z.cell (i := 1) rfl; have z2 := z.cell (i := 2) rfl; have z3 := z.cell (i := 3) rfl; have z4 := z.cell (i := 4) rfl; have z5 := z.cell (i := 5) rfl; have z6 := z.cell (i := 6) rfl; have z7 := z.cell (i := 7) rfl; have z8 := z.cell (i := 8) rfl; have z9 := z.cell (i := 9) rfl; have z10 := z.cell (i := 10) rfl; have z11 := z.cell (i := 11) rfl; have z12 := z.cell (i := 12) rfl
                  obtain ⟨o0, o1, o2, o3, o4, o5, o6, o7, o8, o9, o10, o11, o12⟩ := zero_box y
                  clear z y
                  go_wp2_with fail
                  refine bodyPost_ret (v := .tuple #[.agg zeros, .int .i64 3]) (by simp [results, zeros, pack0, Tryz.results46, go_sem, z0, z1, z2, z3, z4, z5, z6, z7, z8, z9, z10, z11, z12]) rfl ?_
                  exact refArIs_err HRR.out (below_set13 HBE.out HBW.out _ _ _ _ _ _ _ _ _ _ _ _ _)
                · by_cases hneg : ia < 0
                  · skip
                    have HRR := Lib.hid (ar_error (by rw [HONE2.out, HNO.out]))
                    have HBE := Lib.hid HBB.out
                    obtain ⟨z, y⟩ := id HZB.out
                    have fz := z.frozen
                    have z0 := z.cell (i := 0) rfl; have z1 := z.cell (i := 1) rfl; have z2 := z.cell (i := 2) rfl; have z3 := z.cell (i := 3) rfl; have z4 := z.cell (i := 4) rfl; have z5 := z.cell (i := 5) rfl; have z6 := z.cell (i := 6) rfl; have z7 := z.cell (i := 7) rfl; have z8 := z.cell (i := 8) rfl; have z9 := z.cell (i := 9) rfl; have z10 := z.cell (i := 10) rfl; have z11 := z.cell (i := 11) rfl; have z12 := z.cell (i := 12) rfl
                    obtain ⟨o0, o1, o2, o3, o4, o5, o6, o7, o8, o9, o10, o11, o12⟩ := zero_box y
                    clear z y
                    go_wp2_with fail
                    refine bodyPost_ret (v := .tuple #[.agg zeros, .int .i64 3]) (by simp [results, zeros, pack0, Tryz.results46, go_sem, z0, z1, z2, z3, z4, z5, z6, z7, z8, z9, z10, z11, z12]) rfl ?_
                    exact refArIs_err HRR.out (below_set13 HBE.out HBW.out _ _ _ _ _ _ _ _ _ _ _ _ _)
                  · skip
                    have HRR := Lib.hid (ar_error (by rw [HONE2.out, HNO.out]))
                    have HBE := Lib.hid HBB.out
                    obtain ⟨z, y⟩ := id HZB.out
                    have fz := z.frozen
                    have z0 := z.cell (i := 0) rfl; have z1 := z.cell (i := 1) rfl; have z2 := z.cell (i := 2) rfl; have z3 := z.cell (i := 3) rfl; have z4 := z.cell (i := 4) rfl; have z5 := z.cell (i := 5) rfl; have z6 := z.cell (i := 6) rfl; have z7 := z.cell (i := 7) rfl; have z8 := z.cell (i := 8) rfl; have z9 := z.cell (i := 9) rfl; have z10 := z.cell (i := 10) rfl; have z11 := z.cell (i := 11) rfl; have z12 := z.cell (i := 12) rfl
                    obtain ⟨o0, o1, o2, o3, o4, o5, o6, o7, o8, o9, o10, o11, o12⟩ := zero_box y
                    clear z y
                    go_wp2_with fail
                    refine bodyPost_ret (v := .tuple #[.agg zeros, .int .i64 3]) (by simp [results, zeros, pack0, Tryz.results46, go_sem, z0, z1, z2, z3, z4, z5, z6, z7, z8, z9, z10, z11, z12]) rfl ?_
                    exact refArIs_err HRR.out (below_set13 HBE.out HBW.out _ _ _ _ _ _ _ _ _ _ _ _ _)
              · have HFP := Lib.hid hfp
                clear hfp HREF
                have CN := Lib.hid (refNumber_calls 6 (by omega) (rst.extract (a + 1) bq) wr (by simp; omega))
                unfold NumberIs at CN
                cases hon : VP.number 6 (rst.extract (a + 1) bq).data.toList with
                | none =>
                  have CN2 := Lib.hid (show Calls Tryz.prog 118 #[.string (rst.extract (a + 1) bq), .int .i64 6] wr (fun E W' => E = .returned (.tuple #[.int .i64 0, .bool false]) ∧ wr = W') from CN.out.mono fun E W' ⟨he, hw⟩ => ⟨by rw [he, hon]; rfl, hw⟩)
                  have HNO := Lib.hid (HFA.out.none H0.out (ref_file_none HFP.out hon))
                  clear CN hon HFP
                  go_wp2_with fail
                  refine CN2.out.mono ?_
                  rintro E w6 ⟨rfl, rfl⟩
                  have HRR := Lib.hid (ar_error (by rw [HONE2.out, HNO.out]))
                  have HBE := Lib.hid HBB.out
                  obtain ⟨z, y⟩ := id HZB.out
                  have fz := z.frozen
                  have z0 := z.cell (i := 0) rfl; have z1 := z.cell (i := 1) rfl; have z2 := z.cell (i := 2) rfl; have z3 := z.cell (i := 3) rfl; have z4 := z.cell (i := 4) rfl; have z5 := z.cell (i := 5) rfl; have z6 := z.cell (i := 6) rfl; have z7 := z.cell (i := 7) rfl; have z8 := z.cell (i := 8) rfl; have z9 := z.cell (i := 9) rfl; have z10 := z.cell (i := 10) rfl; have z11 := z.cell (i := 11) rfl; have z12 := z.cell (i := 12) rfl
                  obtain ⟨o0, o1, o2, o3, o4, o5, o6, o7, o8, o9, o10, o11, o12⟩ := zero_box y
                  clear z y
                  go_wp2_with fail
                  refine bodyPost_ret (v := .tuple #[.agg zeros, .int .i64 3]) (by simp [results, zeros, pack0, Tryz.results46, go_sem, z0, z1, z2, z3, z4, z5, z6, z7, z8, z9, z10, z11, z12]) rfl ?_
                  exact refArIs_err HRR.out (below_set13 HBE.out HBW.out _ _ _ _ _ _ _ _ _ _ _ _ _)
                | some n =>
                  have CN2 := Lib.hid (show Calls Tryz.prog 118 #[.string (rst.extract (a + 1) bq), .int .i64 6] wr (fun E W' => E = .returned (.tuple #[.int .i64 (n : Int), .bool true]) ∧ wr = W') from CN.out.mono fun E W' ⟨he, hw⟩ => ⟨by rw [he, hon]; rfl, hw⟩)
                  have hnl := (VP.number_dec hon).2
                  have hif := ref_file_if HFP.out hon
                  clear CN hon HFP
                  go_wp2_with fail
                  refine CN2.out.mono ?_
                  rintro E w6 ⟨rfl, rfl⟩
                  clear CN2
                  obtain ⟨q, hq⟩ : ∃ q, bq + 1 + n = q := ⟨_, rfl⟩
                  have hqi : (bq : Int) + 1 + (n : Int) = (q : Int) := by omega
                  rw [hq] at hif
                  have HIF := Lib.hid hif
                  have hbq : bq + 1 ≤ q := by omega
                  clear hif hq
                  by_cases hlq : q < rst.size
                  · by_cases h10 : rst[q].toNat = 10
                    · have b1 := beqI 10 rfl h10
                      have b2 := bneI 10 rfl h10
                      have hbt : rst[q].toNat < 256 := rst[q].toNat_lt
                      have HS := Lib.hid (show fileP rst = some (⟨rst.extract 0 a, rst.extract (bq + 1) q⟩, rst.extract (q + 1) rst.size) by
                        rw [HIF.out, if_pos]
                        rw [List.getElem?_eq_getElem (by rw [← size_eq_length]; exact hlq)]
                        exact congrArg some (UInt8.toNat_inj.1 (show (rst.data.toList[q]'_).toNat = (10 : UInt8).toNat from h10)))
                      clear h10 HIF
                      go_upto_region 22 with fail
                      clear b1 b2 hbt
                      have HFA2 := Lib.hid (HFA.out.step H0.out HS.out)
                      have hlt := (fileP_sizes HS.out).1
                      have HSTD := Lib.hid (HST.out.below (below_drew wr))
                      have hBD := hB.drew
                      have kc := HST.out.k.cell (i := 12) rfl
                      have kfz := HST.out.k.frozen
                      have kc3 : ∀ o, (wr.alloc o).cell? ⟨m, 12, none⟩ = some (.slice A9 n9 c9) := fun o => kept (below_alloc _ o) kc
                      have kc2 : ∀ o, (wr.drew.alloc o).cell? ⟨m, 12, none⟩ = some (.slice A9 n9 c9) := fun o => kept (step_below (below_drew wr) (below_alloc _ o)) kc
                      have hrow := HSTD.out.r
                      rw [HN9.out] at hrow
                      have HROW := Lib.hid (fun o => own_below hrow (below_alloc wr.drew o))
                      have HBS := Lib.hid (fun o => (show w5.heap.size ≤ (wr.drew.alloc o).heap.size from Nat.le_trans HM5.out (Nat.le_trans (below_drew wr).size (below_alloc wr.drew o).size)))
                      have HGR := Lib.hid (fun (o : Obj) (W : World) (hg : (wr.drew.alloc o).grownBy W (Value.slice A9 n9 c9).ownBlock) => (show Below w4.heap.size w4 W ∧ w5.heap.size ≤ W.heap.size from ⟨(hBD.alloc hBD.size o).grown hg (by have := hBD.size; simp at this ⊢; omega) (fun g e => Nat.le_trans HC5.out.size ((hrow.lt g e).1)), Nat.le_trans (HBS.out o) hg.size⟩))
                      have s1 : IntKind.i64.wrap ((bq : Int) + 1) = (bq : Int) + 1 := IntWalk.i64_in _ (by omega)
                      have s2 : (0 : Int) ≤ (bq : Int) + 1 := by omega
                      have s3 : ((bq : Int) + 1).toNat = bq + 1 := by omega
                      have s4 : (bq : Int) + 1 ≤ (q : Int) := by omega
                      have s5 : (q : Int) ≤ (rst.size : Int) := by omega
                      have s6 : a ≤ rst.size := by omega
                      have s7 : (a : Int) ≤ (rst.size : Int) := by omega
                      have s8 : q ≤ rst.size := by omega
                      clear hrow hqi
                      go_region_law (refine step_append_src _ rfl _ _ 27 rfl w5.heap.size 81 i0 (.agg #[.string ⟨#[]⟩, .string ⟨#[]⟩]) 2 32 Tryz.underlying27 hi hz0 hz1 hz2 rfl (by decide) (.slice A9 n9 c9) n9 (fs.flatMap fldC) rfl (HROW.out _) _ 1 (fldC ⟨rst.extract 0 a, rst.extract (bq + 1) q⟩) rfl (src_pairF _ _ _) (pair_len _ _) (pair_one _ _) (by simp only [maxLen]; omega) (by omega) (HBS.out _) ?_; intro v' w8 hown hg; obtain ⟨g', cap', rfl⟩ := ownsRow_succ hown; obtain ⟨hst9, hk9⟩ := HSTD.out.push (cs' := #[.string p.n, .int .i64 p.e, .string p.u, .string p.r, .slice A1 n1 c1, .slice A2 n2 c2, .slice A3 n3 c3, .slice A4 n4 c4, .slice A5 n5 c5, .slice A6 n6 c6, .slice A7 n7 c7, .slice A8 n8 c8, .slice (some ⟨g', 0, none⟩) (n9 + 1) cap']) hg (by rw [HN9.out]; exact hown) rfl; have kc1 := hk9.cell (i := 12) rfl; have kf1 := hk9.frozen; have HST9 := Lib.hid hst9; obtain ⟨hB8, hz8⟩ := HGR.out _ _ hg; clear hst9 hk9)
                      all_goals
                        clear s1 s2 s3 s4 s5 s6 s7 kc kfz kc2 kc3 kc1 kf1
                        go_wp2_with fail
                        go_roundw
                        case rel => exact ⟨_, fs ++ [⟨rst.extract 0 a, rst.extract (bq + 1) q⟩], _, n9 + 1, cap', rfl, Lib.hid (by rw [List.length_append, HN9.out]; rfl), HFA2, HST9, Lib.hid (by simpa using hz8), hB8.setCell (p := ⟨m, 12, none⟩) HM.out _⟩
                        case measure => exact hlt
                    · have b1 := beqI_ne 10 rfl h10
                      have b2 := bneI_ne 10 rfl h10
                      have HNO := Lib.hid (HFA.out.none H0.out (show fileP rst = none by
                        rw [HIF.out, if_neg]
                        rw [List.getElem?_eq_getElem (by rw [← size_eq_length]; exact hlq)]
                        intro e
                        exact h10 (show (rst.data.toList[q]'_).toNat = 10 by rw [Option.some.inj e]; rfl)))
                      clear h10 HIF
                      have HRR := Lib.hid (ar_error (by rw [HONE2.out, HNO.out]))
                      have HBE := Lib.hid HBB.out
                      obtain ⟨z, y⟩ := id HZB.out
                      have fz := z.frozen
                      have z0 := z.cell (i := 0) rfl; have z1 := z.cell (i := 1) rfl; have z2 := z.cell (i := 2) rfl; have z3 := z.cell (i := 3) rfl; have z4 := z.cell (i := 4) rfl; have z5 := z.cell (i := 5) rfl; have z6 := z.cell (i := 6) rfl; have z7 := z.cell (i := 7) rfl; have z8 := z.cell (i := 8) rfl; have z9 := z.cell (i := 9) rfl; have z10 := z.cell (i := 10) rfl; have z11 := z.cell (i := 11) rfl; have z12 := z.cell (i := 12) rfl
                      obtain ⟨o0, o1, o2, o3, o4, o5, o6, o7, o8, o9, o10, o11, o12⟩ := zero_box y
                      clear z y
                      go_wp2_with fail
                      refine bodyPost_ret (v := .tuple #[.agg zeros, .int .i64 3]) (by simp [results, zeros, pack0, Tryz.results46, go_sem, z0, z1, z2, z3, z4, z5, z6, z7, z8, z9, z10, z11, z12]) rfl ?_
                      exact refArIs_err HRR.out (below_set13 HBE.out HBW.out _ _ _ _ _ _ _ _ _ _ _ _ _)
                  · have HNO := Lib.hid (HFA.out.none H0.out (show fileP rst = none by
                      rw [HIF.out, if_neg]
                      rw [List.getElem?_eq_none (by rw [← size_eq_length]; omega)]
                      simp))
                    clear HIF
                    have HRR := Lib.hid (ar_error (by rw [HONE2.out, HNO.out]))
                    have HBE := Lib.hid HBB.out
                    obtain ⟨z, y⟩ := id HZB.out
                    have fz := z.frozen
                    have z0 := z.cell (i := 0) rfl; have z1 := z.cell (i := 1) rfl; have z2 := z.cell (i := 2) rfl; have z3 := z.cell (i := 3) rfl; have z4 := z.cell (i := 4) rfl; have z5 := z.cell (i := 5) rfl; have z6 := z.cell (i := 6) rfl; have z7 := z.cell (i := 7) rfl; have z8 := z.cell (i := 8) rfl; have z9 := z.cell (i := 9) rfl; have z10 := z.cell (i := 10) rfl; have z11 := z.cell (i := 11) rfl; have z12 := z.cell (i := 12) rfl
                    obtain ⟨o0, o1, o2, o3, o4, o5, o6, o7, o8, o9, o10, o11, o12⟩ := zero_box y
                    clear z y
                    go_wp2_with fail
                    refine bodyPost_ret (v := .tuple #[.agg zeros, .int .i64 3]) (by simp [results, zeros, pack0, Tryz.results46, go_sem, z0, z1, z2, z3, z4, z5, z6, z7, z8, z9, z10, z11, z12]) rfl ?_
                    exact refArIs_err HRR.out (below_set13 HBE.out HBW.out _ _ _ _ _ _ _ _ _ _ _ _ _)
      · have HLN := Lib.hid (arc_many2 HBIG.out HH.out HL.out hl1)
        clear hr hL
        obtain ⟨ln, hln⟩ : ∃ ln, L.length = ln := ⟨_, rfl⟩
        rw [hln] at hl1 ⊢
        clear hln
        have HRR := Lib.hid (ar_error (HLN.out))
        have HBE := Lib.hid HB3.out
        obtain ⟨z, y⟩ := id HZ3.out
        have fz := z.frozen
        have z0 := z.cell (i := 0) rfl; have z1 := z.cell (i := 1) rfl; have z2 := z.cell (i := 2) rfl; have z3 := z.cell (i := 3) rfl; have z4 := z.cell (i := 4) rfl; have z5 := z.cell (i := 5) rfl; have z6 := z.cell (i := 6) rfl; have z7 := z.cell (i := 7) rfl; have z8 := z.cell (i := 8) rfl; have z9 := z.cell (i := 9) rfl; have z10 := z.cell (i := 10) rfl; have z11 := z.cell (i := 11) rfl; have z12 := z.cell (i := 12) rfl
        obtain ⟨o0, o1, o2, o3, o4, o5, o6, o7, o8, o9, o10, o11, o12⟩ := zero_box y
        clear z y
        go_wp2_with fail
        refine bodyPost_ret (v := .tuple #[.agg zeros, .int .i64 3]) (by simp [results, zeros, pack0, Tryz.results46, go_sem, z0, z1, z2, z3, z4, z5, z6, z7, z8, z9, z10, z11, z12]) rfl ?_
        exact refArIs_err HRR.out (below_set13 HBE.out HBW.out _ _ _ _ _ _ _ _ _ _ _ _ _)
    · have HNS := Lib.hid (arc_nostz HBIG.out HH.out hn)
      go_upto_region 8 with fail
      have ba3 := below_alloc w2 (.cells #[.int .i64 3, .int .i64 n] 96)
      have hf3 := heap_alloc_new w2 (.cells #[.int .i64 3, .int .i64 n] 96)
      obtain ⟨bf, hbf⟩ : ∃ bf, w2.heap.size = bf := ⟨_, rfl⟩
      rw [hbf] at hf3
      (try rw [hbf])
      generalize w2.alloc (.cells #[.int .i64 3, .int .i64 n] 96) = w3 at ba3 hf3 ⊢
      obtain ⟨d0, d1, _⟩ := two_facts hf3
      obtain ⟨g0, g1⟩ := HF2.out.below ba3
      have HB3 := Lib.hid (step_below HB2.out ba3)
      have HZ3 := Lib.hid (HZ2.out.keep ba3)
      clear hbf hf3 ba3
      have HRR := Lib.hid (ar_error (HNS.out))
      have HBE := Lib.hid HB3.out
      obtain ⟨z, y⟩ := id HZ3.out
      have fz := z.frozen
      have z0 := z.cell (i := 0) rfl; have z1 := z.cell (i := 1) rfl; have z2 := z.cell (i := 2) rfl; have z3 := z.cell (i := 3) rfl; have z4 := z.cell (i := 4) rfl; have z5 := z.cell (i := 5) rfl; have z6 := z.cell (i := 6) rfl; have z7 := z.cell (i := 7) rfl; have z8 := z.cell (i := 8) rfl; have z9 := z.cell (i := 9) rfl; have z10 := z.cell (i := 10) rfl; have z11 := z.cell (i := 11) rfl; have z12 := z.cell (i := 12) rfl
      obtain ⟨o0, o1, o2, o3, o4, o5, o6, o7, o8, o9, o10, o11, o12⟩ := zero_box y
      clear z y
      go_wp2_with fail
      refine bodyPost_ret (v := .tuple #[.agg zeros, .int .i64 3]) (by simp [results, zeros, pack0, Tryz.results46, go_sem, z0, z1, z2, z3, z4, z5, z6, z7, z8, z9, z10, z11, z12]) rfl ?_
      exact refArIs_err HRR.out (below_set13 HBE.out HBW.out _ _ _ _ _ _ _ _ _ _ _ _ _)
end Go.Proofs.YtodbbfgkclkpgaaGreatDoor

/- archive.Read: the walk. -/
import Derived.Test.YtodbbfgkclkpgaaGreatDoorABK29
import Derived.Test.YtodbbfgkclkpgaaGreatDoorABK31
import Derived.Test.YtodbbfgkclkpgaaGreatDoorABK33
import Derived.Test.YtodbbfgkclkpgaaGreatDoorABK18
namespace Go.Proofs.YtodbbfgkclkpgaaGreatDoor
open Go Go.RowKit

theorem call_cut2 (s : ByteArray) (w : World) (hE : Env w) (hs : s.size ≤ 1000000) : Calls Tryz.prog 121 #[.string s, .string ⟨#[10, 10]⟩] w fun E w' => Below w.heap.size w w' ∧
    ((∃ a b, E = .returned (.tuple #[.string a, .string b, .bool true]) ∧ headP s = some (a, b)) ∨ (∃ a b, E = .returned (.tuple #[.string a, .string b, .bool false]) ∧ headP s = none)) := by
  obtain ⟨⟨m, hm⟩, _⟩ := hE
  refine (Tryz.strings_Cut s ⟨#[10, 10]⟩ m w (by omega) hm).mono fun e w' ⟨he, n, hw⟩ => ⟨by rw [hw]; exact below_drewN _ _ _, ?_⟩
  have e1 : (⟨#[10, 10]⟩ : ByteArray).data.toList = [10, 10] := rfl
  rw [e1] at he
  cases hc : (Lib.cut s.data.toList [10, 10]).2.2 with
  | false =>
    rw [hc] at he
    exact .inr ⟨_, _, he, by unfold headP; rw [hc]; rfl⟩
  | true =>
    rw [hc] at he
    exact .inl ⟨_, _, he, by unfold headP; rw [hc]; rfl⟩
theorem arIs_err {s : ByteArray} {w W : World} {n : Int} (h : arE s = n ∧ arV s = pack0) (hb : Below w.heap.size w W) : ArcRIs s w (.returned (.tuple #[.agg zeros, errV n])) W :=
  ⟨_, by rw [h.1], by rw [h.2]; exact pack0_at W, hb⟩
theorem SlC.keepFrom {α : Type} {cs : α → List Value} {B : Nat} {W W' : World} {v : Value} {xs : List α} (h : SlC cs W v xs) (ht : SlFr B v) (k : FromAs B W W') : SlC cs W' v xs := by
  obtain ⟨A, c, rfl, hc, hm, hr⟩ := h
  refine ⟨A, c, rfl, hc, hm, fun hn => ?_⟩
  obtain ⟨b, off, rfl, hi⟩ := hr hn
  exact ⟨b, off, rfl, fun j u hj => k.cell (ht b off _ _ rfl) (hi j u hj)⟩
theorem readP_fit {l : List Fv} {p : Pv} (hs : ∀ f ∈ l, f.v.size ≤ 6000) (h : readP l = .ok p) : p.Fit ∧ p.fi = [] ∧ -9223372036854775808 ≤ p.e ∧ p.e ≤ 9223372036854775807 := by
  cases hm : (getB l nPackage).isSome && (getB l nVersion).isSome with
  | false => rw [readP_missing hm] at h; cases h
  | true =>
  cases hv : VP.parseP (sayF l nVersion).data.toList with
  | none => rw [readP_version hm hv] at h; cases h
  | some x =>
  obtain ⟨e, u, r⟩ := x
  have hv' : VP.parseP (sayF l nVersion).data.toList = some (e, (⟨u.toArray⟩ : ByteArray).data.toList, (⟨r.toArray⟩ : ByteArray).data.toList) := hv
  rw [readP_six hm hv'] at h
  cases h6 : rdTo l (rdP1 l e ⟨u.toArray⟩ ⟨r.toArray⟩) 6 with
  | error x => rw [h6] at h; cases h
  | ok q =>
    rw [h6] at h
    dsimp only at h
    obtain ⟨d, a, g, b, rr, o, _, _, _, _, _, _, hq⟩ := six_read h6
    have hL := (rightP_len (parseP_rt hv')).2
    have hfi : (rdEnd l q).fi = [] := by rw [hq]; rfl
    have he : (rdEnd l q).e = e := by rw [hq]; rfl
    split at h
    · split at h
      · injection h with h
        subst h
        exact ⟨rd_fit hs hv' h6, hfi, by rw [he]; omega, by rw [he]; omega⟩
      · cases h
    · cases h
theorem Pv.Fit.withFiles {p : Pv} (h : p.Fit) (fs : List Fv) : (withFiles p fs).Fit := by
  obtain ⟨a, b, c, d, e, f, g, i, j, k, l, m, n, o, q, r, s⟩ := h
  exact ⟨a, b, c, d, e, f, g, i, j, k, l, m, n, o, q, r, s⟩
def strLen (v : Value) : Nat := match v with
  | .string s => s.size
  | _ => 0
theorem info_file : (Tryz.prog.info? 81).map (fun i => (i.zero, i.size, i.bytes)) = some (some (.agg #[.string ⟨#[]⟩, .string ⟨#[]⟩]), 2, 32) := by kernel_rfl
theorem cells_newF (W : World) (n v : ByteArray) : ∀ j u, (fldC ⟨n, v⟩)[j]? = some u → (W.alloc (.cells #[.string n, .string v] 81)).cell? ((⟨W.heap.size, 0, none⟩ : Addr).add j) = some u := by
  intro j u hj
  rw [Go.WideShapes.add_plain, Nat.zero_add]
  rcases j with _ | _ | j
  · cases hj; go_cell
  · cases hj; go_cell
  · cases hj
/-- the package's box, its files in a row of the call's own -/
structure ArcSt (B m : Nat) (cs : Array Value) (v9 : Value) (fs : List Fv) (W : World) : Prop where
  k : PkBlk W m cs
  r : W.ownsRow B 81 2 v9 fs.length (fs.flatMap fldC)
theorem ArcSt.below {B m : Nat} {cs : Array Value} {v9 : Value} {fs : List Fv} {W W' : World} (h : ArcSt B m cs v9 fs W) (hb : Below W.heap.size W W') : ArcSt B m cs v9 fs W' := ⟨h.k.keep hb, own_below h.r hb⟩
/-- a file more -/
theorem ArcSt.push {B m : Nat} {cs cs' : Array Value} {v9 v' : Value} {fs : List Fv} {f : Fv} {W W1 : World} {tmp : Obj} (h : ArcSt B m cs v9 fs W) (hg : (W.alloc tmp).grownBy W1 v9.ownBlock) (ho : W1.ownsRow B 81 2 v' (fs.length + 1) (fs.flatMap fldC ++ fldC f)) (hc : cs.setIfInBounds 12 v' = cs') :
    ArcSt B m cs' v' (fs ++ [f]) (W1.setCell ⟨m, 12, none⟩ v') ∧ PkBlk W1 m cs := by
  have hk : PkBlk (W.alloc tmp) m cs := h.k.keep (below_alloc _ _)
  have hk1 : PkBlk W1 m cs := (hg.block m hk.lt (own_other (h.r.alloc tmp) hk (by decide))).trans hk
  refine ⟨⟨by have := hk1.set 12 v'; rwa [hc] at this, ?_⟩, hk1⟩
  rw [List.length_append, List.flatMap_append]
  exact ownsRow_setCell_other (show W1.ownsRow B 81 2 v' (fs.length + [f].length) (fs.flatMap fldC ++ [f].flatMap fldC) by simpa using ho) (a := ⟨m, 12, none⟩) (fun e => own_other ho hk1 (by decide) e.symm) v'
/-- f's box is written -/
theorem ArcSt.other {B m mf : Nat} {cs : Array Value} {v9 : Value} {fs : List Fv} {W : World} (h : ArcSt B m cs v9 fs W) (hne : mf ≠ m) (ho : v9.ownBlock ≠ some mf) (i : Nat) (u : Value) : ArcSt B m cs v9 fs (W.setCell ⟨mf, i, none⟩ u) :=
  ⟨h.k.other hne i u, ownsRow_setCell_other h.r (a := ⟨mf, i, none⟩) ho u⟩

set_option maxHeartbeats 4000000 in
set_option maxRecDepth 100000 in
theorem arcRead_big (s : ByteArray) (w : World) (h : 4000 < s.size) (hs : s.size ≤ 6000) : Calls Tryz.prog 47 #[.string s] w (ArcRIs s w) := by
  have HRR := Lib.hid (ar_error (arc_big h))
  go_enter Tryz.func47, Tryz.ntmps47
  go_wp2_with fail
  refine bodyPost_ret (v := .tuple #[.agg zeros, .iface 32 (.int .i64 4)]) (by simp [results, zeros, Tryz.results47, go_sem]) rfl ?_
  exact arIs_err (n := 4) HRR.out (by go_grown)

set_option maxHeartbeats 8000000 in
set_option maxRecDepth 100000 in
theorem arcRead_small (s : ByteArray) (w : World) (hE : Env w) (hS : EnvS w) (hA : EnvA w) (hbig : ¬ 4000 < s.size) : Calls Tryz.prog 47 #[.string s] w (ArcRIs s w) := by
  have hs : s.size ≤ 4000 := by omega
  have ba0 := below_alloc w (.cells #[.string ⟨#[]⟩, .int .i64 0, .string ⟨#[]⟩, .string ⟨#[]⟩, .slice none 0 0, .slice none 0 0, .slice none 0 0, .slice none 0 0, .slice none 0 0, .slice none 0 0, .slice none 0 0, .slice none 0 0, .slice none 0 0] 29)
  have hz0 : PkBlk (w.alloc (.cells #[.string ⟨#[]⟩, .int .i64 0, .string ⟨#[]⟩, .string ⟨#[]⟩, .slice none 0 0, .slice none 0 0, .slice none 0 0, .slice none 0 0, .slice none 0 0, .slice none 0 0, .slice none 0 0, .slice none 0 0, .slice none 0 0] 29)) w.heap.size zeros := pk_new w zeros
  obtain ⟨b, hb⟩ : ∃ b, w.heap.size = b := ⟨_, rfl⟩
  rw [hb] at hz0
  have HBW := Lib.hid (Nat.le_of_eq hb)
  have HE := Lib.hid hE
  have HS := Lib.hid hS
  have HA := Lib.hid hA
  have HBIG := Lib.hid hbig
  clear hE hS hA hbig
  go_enter Tryz.func47, Tryz.ntmps47
  go_wp2_with fail
  (try rw [hb])
  generalize w.alloc (.cells #[.string ⟨#[]⟩, .int .i64 0, .string ⟨#[]⟩, .string ⟨#[]⟩, .slice none 0 0, .slice none 0 0, .slice none 0 0, .slice none 0 0, .slice none 0 0, .slice none 0 0, .slice none 0 0, .slice none 0 0, .slice none 0 0] 29) = W0 at ba0 hz0 ⊢
  clear hb
  refine (call_cut2 s W0 (HE.out.below ba0) (by omega)).mono ?_
  rintro E w1 ⟨hb1, h⟩
  have HB1 := Lib.hid (step_below ba0 hb1)
  have HZ1 := Lib.hid (hz0.keep hb1)
  clear hb1 ba0 hz0
  rcases h with ⟨hd, rest, rfl, hh⟩ | ⟨a, c, rfl, hh⟩
  · have HH := Lib.hid hh
    obtain ⟨hdz, hrz⟩ := headP_sizes hh
    clear hh
    have CP := Lib.hid (stzParse_calls hd w1 (HE.out.below HB1.out) (by omega))
    go_wp2_with fail
    refine CP.out.mono ?_
    rintro E w2 ⟨hb2, h⟩
    have HB2 := Lib.hid (step_below HB1.out hb2)
    have HZ2 := Lib.hid (HZ1.out.keep hb2)
    clear hb2 HB1 HZ1 CP
    rcases h with ⟨L, v, rfl, hL, hv⟩ | ⟨n, pe, rfl, hn⟩
    · have HL := Lib.hid hL
      obtain ⟨A, c, rfl, _, hr⟩ := hv
      by_cases hl1 : L.length = 1
      · obtain ⟨l, rfl⟩ : ∃ l, L = [l] := by
          match L, hl1 with
          | [l], _ => exact ⟨l, rfl⟩
        obtain ⟨bl, off, rfl, hi⟩ := hr (by simp)
        obtain ⟨vx, c0, hf⟩ := hi 0 l rfl
        obtain ⟨A2, n2, k2, rfl⟩ : ∃ A n c, vx = .slice A n c := by obtain ⟨A, c, hv, _⟩ := hf; exact ⟨A, _, c, hv⟩
        rw [Nat.add_zero] at c0
        have HONE := Lib.hid (arc_one HBIG.out HH.out HL.out)
        have hsz : ∀ f ∈ l, f.n.size ≤ 6000 ∧ f.v.size ≤ 6000 := fun f hf => by
          have := parseS_fits HL.out l (by simp) f hf
          omega
        have HFIT := Lib.hid (fun (p : Pv) (h : readP l = .ok p) => readP_fit (fun f hf => (hsz f hf).2) h)
        have CR := Lib.hid (read_calls _ l w2 (HE.out.below HB2.out) (HS.out.below HB2.out) hf hsz)
        clear hi hr hf hsz hl1 hL
        go_wp2_with fail
        refine CR.out.mono ?_
        rintro E w3 ⟨y, rfl, _, hb3, hfr⟩
        have HB3 := Lib.hid (step_below HB2.out hb3)
        have HZ3 := Lib.hid (HZ2.out.keep hb3)
        have hbl : b < w2.heap.size := HZ2.out.lt
        have HW23 := Lib.hid hb3.size
        clear hb3 HB2 HZ2 CR c0
        obtain ⟨v1, v2, v3, v4, v5, v6, v7, v8, rfl, hr⟩ := hfr
        obtain ⟨A1, n1, c1, rfl⟩ := ask_slice hr.d.1
        obtain ⟨A2, n2, c2, rfl⟩ := ask_slice hr.a.1
        obtain ⟨A3, n3, c3, rfl⟩ := term_slice hr.g.1
        obtain ⟨A4, n4, c4, rfl⟩ := term_slice hr.b.1
        obtain ⟨A5, n5, c5, rfl⟩ := term_slice hr.r.1
        obtain ⟨A6, n6, c6, rfl⟩ := term_slice hr.p.1
        obtain ⟨A7, n7, c7, rfl⟩ := slc_sl hr.s.1
        obtain ⟨A8, n8, c8, rfl⟩ := slc_sl hr.l.1
        rcases rd_cases l with ⟨e, he, h1, h2, hne⟩ | ⟨p, hp, h1, h2⟩
        · rw [h2] at hr ⊢
          rw [h1, show errV e = .iface 32 (.int .i64 e) by unfold errV; rw [if_neg hne]]
          unfold cells13 pack0
          clear hr
          go_upto_region 10 with fail
          have HZ4 := Lib.hid (HZ3.out.keep (below_alloc w3 (.cells #[.string ⟨#[]⟩, .int .i64 0, .string ⟨#[]⟩, .string ⟨#[]⟩, .slice A1 n1 c1, .slice A2 n2 c2, .slice A3 n3 c3, .slice A4 n4 c4, .slice A5 n5 c5, .slice A6 n6 c6, .slice A7 n7 c7, .slice A8 n8 c8, .slice none 0 0] 29)))
          have HB4 := Lib.hid (step_below HB3.out (below_alloc w3 (.cells #[.string ⟨#[]⟩, .int .i64 0, .string ⟨#[]⟩, .string ⟨#[]⟩, .slice A1 n1 c1, .slice A2 n2 c2, .slice A3 n3 c3, .slice A4 n4 c4, .slice A5 n5 c5, .slice A6 n6 c6, .slice A7 n7 c7, .slice A8 n8 c8, .slice none 0 0] 29)))
          generalize w3.alloc (.cells #[.string ⟨#[]⟩, .int .i64 0, .string ⟨#[]⟩, .string ⟨#[]⟩, .slice A1 n1 c1, .slice A2 n2 c2, .slice A3 n3 c3, .slice A4 n4 c4, .slice A5 n5 c5, .slice A6 n6 c6, .slice A7 n7 c7, .slice A8 n8 c8, .slice none 0 0] 29) = w4 at HZ4 HB4 ⊢
          have hee : errV e = .iface 32 (.int .i64 e) := by unfold errV; rw [if_neg hne]
          have HEE := Lib.hid hee
          clear hee
          have HRR := Lib.hid (ar_error (by rw [HONE.out, he]))
          have HBE := Lib.hid HB4.out
          have z := HZ4.out
          have fz := z.frozen
          have z0 := z.cell (i := 0) rfl; have z1 := z.cell (i := 1) rfl; have z2 := z.cell (i := 2) rfl; have z3 := z.cell (i := 3) rfl; have z4 := z.cell (i := 4) rfl; have z5 := z.cell (i := 5) rfl; have z6 := z.cell (i := 6) rfl; have z7 := z.cell (i := 7) rfl; have z8 := z.cell (i := 8) rfl; have z9 := z.cell (i := 9) rfl; have z10 := z.cell (i := 10) rfl; have z11 := z.cell (i := 11) rfl; have z12 := z.cell (i := 12) rfl
          clear z
          go_wp2_with fail
          refine bodyPost_ret (v := .tuple #[.agg zeros, .iface 32 (.int .i64 e)]) (by simp [results, zeros, Tryz.results47, go_sem, z0, z1, z2, z3, z4, z5, z6, z7, z8, z9, z10, z11, z12]) rfl ?_
          rw [← HEE.out]
          exact arIs_err HRR.out (below_set13 HBE.out HBW.out _ _ _ _ _ _ _ _ _ _ _ _ _)
        · rw [h2] at hr ⊢
          rw [h1, show errV 0 = .nilIface from rfl]
          have HP := Lib.hid hp
          have HR := Lib.hid hr
          obtain ⟨hft, hfi, he0, he1⟩ := HFIT.out p hp
          have HFT := Lib.hid hft
          have HEB := Lib.hid (show -9223372036854775808 ≤ p.e ∧ p.e ≤ 9223372036854775807 from ⟨he0, he1⟩)
          have HONE2 := Lib.hid (show arcP s = match filesP rest with
            | none => .error 3
            | some fs => if archB (withFiles p fs) then .ok (withFiles p fs) else .error 1 by rw [HONE.out, hp]; cases filesP rest <;> rfl)
          unfold cells13
          clear hr hp h1 h2 hft hfi HFIT HONE he0 he1
          go_upto_region 10 with fail
          have K4 := Lib.hid (pk_new w3 #[.string p.n, .int .i64 p.e, .string p.u, .string p.r, .slice A1 n1 c1, .slice A2 n2 c2, .slice A3 n3 c3, .slice A4 n4 c4, .slice A5 n5 c5, .slice A6 n6 c6, .slice A7 n7 c7, .slice A8 n8 c8, .slice none 0 0])
          have hb4 := below_alloc w3 (.cells #[.string p.n, .int .i64 p.e, .string p.u, .string p.r, .slice A1 n1 c1, .slice A2 n2 c2, .slice A3 n3 c3, .slice A4 n4 c4, .slice A5 n5 c5, .slice A6 n6 c6, .slice A7 n7 c7, .slice A8 n8 c8, .slice none 0 0] 29)
          have HZ4 := Lib.hid (HZ3.out.keep hb4)
          have HC4 := Lib.hid hb4
          obtain ⟨m, hm⟩ : ∃ m, w3.heap.size = m := ⟨_, rfl⟩
          have HM := Lib.hid (Nat.le_of_eq hm)
          rw [hm] at K4
          (try rw [hm])
          generalize w3.alloc (.cells #[.string p.n, .int .i64 p.e, .string p.u, .string p.r, .slice A1 n1 c1, .slice A2 n2 c2, .slice A3 n3 c3, .slice A4 n4 c4, .slice A5 n5 c5, .slice A6 n6 c6, .slice A7 n7 c7, .slice A8 n8 c8, .slice none 0 0] 29) = w4 at K4 hb4 HZ4 HC4 ⊢
          have HW24 := Lib.hid (Nat.le_trans HW23.out hb4.size)
          clear hb4 hm HZ4
          obtain ⟨i0, hi, hz0, hz1, hz2⟩ := info_parts info_file
          go_wp2_with fail
          go_loopw [5] (fun s5 wr => ∃ (rst : ByteArray) (fs : List Fv) (A9 : Option Addr) (n9 c9 : Nat), s5 = .string rst ∧ Hid (fs.length = n9) ∧ Hid (FilesAt rest fs rst) ∧ Hid (ArcSt w4.heap.size m #[.string p.n, .int .i64 p.e, .string p.u, .string p.r, .slice A1 n1 c1, .slice A2 n2 c2, .slice A3 n3 c3, .slice A4 n4 c4, .slice A5 n5 c5, .slice A6 n6 c6, .slice A7 n7 c7, .slice A8 n8 c8, .slice A9 n9 c9] (.slice A9 n9 c9) fs wr) ∧ Hid (w4.heap.size ≤ wr.heap.size) ∧ Below w3.heap.size w3 wr) (fun s5 _ => strLen s5)
          case atStart => exact ⟨rest, [], none, 0, 0, rfl, Lib.hid rfl, Lib.hid (FilesAt.start rest), Lib.hid ⟨K4.out, World.ownsRow_nil _ _ _ _⟩, Lib.hid (Nat.le_refl _), HC4.out⟩
          case round =>
            obtain ⟨rst, fs, A9, n9, c9, rfl, HN9, HFA, HST, HM4, hB⟩ := hrel
            have HBB := Lib.hid (step_below HB3.out hB)
            have hrz2 := HFA.out.le
            rw [HN9.out] at hrz2
            by_cases h0 : rst.size = 0
            · have hr0 : rst = ⟨#[]⟩ := eq_empty rst h0
              subst hr0
              have HFS := Lib.hid (HFA.out.done h0)
              clear h0
              have HRW := Lib.hid (HR.out.keep (FromAs.of_below hB))
              have hsl : FieldsAt wr (.slice A9 n9 c9) fs := slc_of_own HST.out.r rfl (own_max HST.out.r)
              have HSL := Lib.hid hsl
              have hfr9 : SlFr w2.heap.size (.slice A9 n9 c9) := slFr_own HST.out.r HW24.out
              have HFR9 := Lib.hid hfr9
              have hpa : PackAt wr (.agg #[.string p.n, .int .i64 p.e, .string p.u, .string p.r, .slice A1 n1 c1, .slice A2 n2 c2, .slice A3 n3 c3, .slice A4 n4 c4, .slice A5 n5 c5, .slice A6 n6 c6, .slice A7 n7 c7, .slice A8 n8 c8, .slice A9 n9 c9]) (withFiles p fs) := ⟨_, _, _, _, _, _, _, _, _, rfl, HRW.out.d.1, HRW.out.a.1, HRW.out.g.1, HRW.out.b.1, HRW.out.r.1, HRW.out.p.1, HRW.out.s.1, HRW.out.l.1, hsl, HEB.out.1, HEB.out.2⟩
              obtain ⟨bs, hbs⟩ : ∃ bs, archB (withFiles p fs) = bs := ⟨_, rfl⟩
              have CA := Lib.hid (arcRight_calls _ (withFiles p fs) wr (HE.out.below HBB.out) hpa (HFT.out.withFiles fs) (fun f hf => by have := (HFA.out.sz f hf).1; omega))
              unfold BoolIs at CA
              rw [hbs] at CA
              have HBS := Lib.hid hbs
              have K := Lib.hid HST.out.k
              have k0 := K.out.cell (i := 0) rfl; have k1 := K.out.cell (i := 1) rfl; have k2 := K.out.cell (i := 2) rfl; have k3 := K.out.cell (i := 3) rfl; have k4 := K.out.cell (i := 4) rfl; have k5 := K.out.cell (i := 5) rfl; have k6 := K.out.cell (i := 6) rfl; have k7 := K.out.cell (i := 7) rfl; have k8 := K.out.cell (i := 8) rfl; have k9 := K.out.cell (i := 9) rfl; have k10 := K.out.cell (i := 10) rfl; have k11 := K.out.cell (i := 11) rfl; have k12 := K.out.cell (i := 12) rfl
              clear hsl hfr9 hpa hbs
              go_wp2_with fail
              refine CA.out.mono ?_
              rintro E wz ⟨rfl, hbz⟩
              have HBZ := Lib.hid (step_below HBB.out hbz)
              have HZZ := Lib.hid ((HZ3.out.keep hB).keep hbz)
              have KZ := Lib.hid (K.out.keep hbz)
              have HRZ := Lib.hid (HRW.out.keep (FromAs.of_below hbz))
              have HSZ := Lib.hid (SlC.below HSL.out hbz)
              clear hbz CA k0 k1 k2 k3 k4 k5 k6 k7 k8 k9 k10 k11 k12
              cases bs with
              | false =>
                have HRR := Lib.hid (ar_error (by rw [HONE2.out, HFS.out]; exact if_neg (by rw [HBS.out]; simp)))
                have HBE := Lib.hid HBZ.out
                have z := HZZ.out
                have fz := z.frozen
                have z0 := z.cell (i := 0) rfl; have z1 := z.cell (i := 1) rfl; have z2 := z.cell (i := 2) rfl; have z3 := z.cell (i := 3) rfl; have z4 := z.cell (i := 4) rfl; have z5 := z.cell (i := 5) rfl; have z6 := z.cell (i := 6) rfl; have z7 := z.cell (i := 7) rfl; have z8 := z.cell (i := 8) rfl; have z9 := z.cell (i := 9) rfl; have z10 := z.cell (i := 10) rfl; have z11 := z.cell (i := 11) rfl; have z12 := z.cell (i := 12) rfl
                clear z
                go_wp2_with fail
                refine bodyPost_ret (v := .tuple #[.agg zeros, .iface 32 (.int .i64 1)]) (by simp [results, zeros, Tryz.results47, go_sem, z0, z1, z2, z3, z4, z5, z6, z7, z8, z9, z10, z11, z12]) rfl ?_
                exact arIs_err (n := 1) HRR.out (below_set13 HBE.out HBW.out _ _ _ _ _ _ _ _ _ _ _ _ _)
              | true =>
                have HRR := Lib.hid (ar_ok (s := s) (p := withFiles p fs) (by rw [HONE2.out, HFS.out]; exact if_pos HBS.out))
                have k0 := KZ.out.cell (i := 0) rfl; have k1 := KZ.out.cell (i := 1) rfl; have k2 := KZ.out.cell (i := 2) rfl; have k3 := KZ.out.cell (i := 3) rfl; have k4 := KZ.out.cell (i := 4) rfl; have k5 := KZ.out.cell (i := 5) rfl; have k6 := KZ.out.cell (i := 6) rfl; have k7 := KZ.out.cell (i := 7) rfl; have k8 := KZ.out.cell (i := 8) rfl; have k9 := KZ.out.cell (i := 9) rfl; have k10 := KZ.out.cell (i := 10) rfl; have k11 := KZ.out.cell (i := 11) rfl; have k12 := KZ.out.cell (i := 12) rfl
                have z := HZZ.out
                have fz := z.frozen
                have z0 := z.cell (i := 0) rfl; have z1 := z.cell (i := 1) rfl; have z2 := z.cell (i := 2) rfl; have z3 := z.cell (i := 3) rfl; have z4 := z.cell (i := 4) rfl; have z5 := z.cell (i := 5) rfl; have z6 := z.cell (i := 6) rfl; have z7 := z.cell (i := 7) rfl; have z8 := z.cell (i := 8) rfl; have z9 := z.cell (i := 9) rfl; have z10 := z.cell (i := 10) rfl; have z11 := z.cell (i := 11) rfl; have z12 := z.cell (i := 12) rfl
                clear z
                go_wp2_with fail
                refine bodyPost_ret (v := .tuple #[.agg #[.string p.n, .int .i64 p.e, .string p.u, .string p.r, .slice A1 n1 c1, .slice A2 n2 c2, .slice A3 n3 c3, .slice A4 n4 c4, .slice A5 n5 c5, .slice A6 n6 c6, .slice A7 n7 c7, .slice A8 n8 c8, .slice A9 n9 c9], .nilIface]) (by simp [results, Tryz.results47, go_sem, z0, z1, z2, z3, z4, z5, z6, z7, z8, z9, z10, z11, z12]) rfl ?_
                refine ⟨_, by rw [HRR.out.1]; rfl, ?_, below_set13 HBZ.out HBW.out _ _ _ _ _ _ _ _ _ _ _ _ _⟩
                rw [HRR.out.2]
                have HRF := HRZ.out.keep (fromAs_set13 hbl (.string p.n) (.int .i64 p.e) (.string p.u) (.string p.r) (.slice A1 n1 c1) (.slice A2 n2 c2) (.slice A3 n3 c3) (.slice A4 n4 c4) (.slice A5 n5 c5) (.slice A6 n6 c6) (.slice A7 n7 c7) (.slice A8 n8 c8) (.slice A9 n9 c9))
                exact ⟨_, _, _, _, _, _, _, _, _, rfl, HRF.d.1, HRF.a.1, HRF.g.1, HRF.b.1, HRF.r.1, HRF.p.1, HRF.s.1, HRF.l.1, SlC.keepFrom HSZ.out HFR9.out (fromAs_set13 hbl (.string p.n) (.int .i64 p.e) (.string p.u) (.string p.r) (.slice A1 n1 c1) (.slice A2 n2 c2) (.slice A3 n3 c3) (.slice A4 n4 c4) (.slice A5 n5 c5) (.slice A6 n6 c6) (.slice A7 n7 c7) (.slice A8 n8 c8) (.slice A9 n9 c9)), HEB.out.1, HEB.out.2⟩
            · obtain ⟨e1, e2⟩ := text_ne2 h0
              have e3 : (rst.toList != []) = true := by rw [bne, e2]; rfl
              have e4 : (rst.toList != (⟨#[]⟩ : ByteArray).toList) = true := by rw [bne, e1]; rfl
              have H0 := Lib.hid h0
              clear h0
              go_wp2_with fail
              clear e1 e2 e3 e4
              have hb5 := below_alloc wr (.cells #[.string ⟨#[]⟩, .string ⟨#[]⟩] 81)
              have hf5 := heap_alloc_new wr (.cells #[.string ⟨#[]⟩, .string ⟨#[]⟩] 81)
              have HST5 := Lib.hid (HST.out.below hb5)
              have hB5 := step_below hB hb5
              obtain ⟨mf, hmf⟩ : ∃ mf, wr.heap.size = mf := ⟨_, rfl⟩
              have HMF := Lib.hid hmf
              rw [hmf] at hf5
              (try rw [hmf])
              generalize wr.alloc (.cells #[.string ⟨#[]⟩, .string ⟨#[]⟩] 81) = w5 at hb5 hf5 HST5 hB5 ⊢
              have hmm : m < mf := by rw [← hmf]; exact HST.out.k.lt
              have ho9 : (Value.slice A9 n9 c9).ownBlock ≠ some mf := fun e => by
                have := (HST.out.r.lt mf e).2
                omega
              have HO9 := Lib.hid ho9
              have h3r := hB.size
              have hm5 : w4.heap.size ≤ w5.heap.size := Nat.le_trans HM4.out hb5.size
              clear hb5 hmf ho9 hB
              have CF := Lib.hid (file_calls rst w5 (HE.out.below (step_below HB3.out hB5)) (HA.out.below (step_below HB3.out hB5)) (by omega))
              refine CF.out.mono ?_
              rintro E w6 ⟨hb6, hor⟩
              have hf6 := (hb6.block mf (Array.getElem?_eq_some_iff.1 hf5).1).trans hf5
              obtain ⟨g0, g1, gf⟩ := two_facts hf6
              have HST6 := Lib.hid (HST5.out.below hb6)
              have hB6 := step_below hB5 hb6
              have HZ6 := Lib.hid (HZ3.out.keep hB6)
              have HBB6 := Lib.hid (step_below HB3.out hB6)
              have hm6 := Nat.le_trans hm5 hb6.size
              have h3m : w3.heap.size ≤ mf := by rw [← HMF.out]; exact h3r
              clear hb6 HST5 hB5 hf5 CF HBB HST hm5 h3r
              rcases hor with ⟨f, r, rfl, hfp⟩ | ⟨rfl, hfp⟩
              · have HFP := Lib.hid (HFA.out.step H0.out hfp)
                have hlt := (fileP_sizes hfp).1
                clear hfp
                go_upto_region 15 with fail
                have hf7 : ((w6.setCell ⟨mf, 0, none⟩ (.string f.n)).setCell ⟨mf, 1, none⟩ (.string f.v)).heap[mf]? = some (.cells #[.string f.n, .string f.v] 81 (0, 0)) := by
                  unfold World.setCell
                  dsimp only
                  rw [Array.getElem?_modify, if_pos rfl, Array.getElem?_modify, if_pos rfl, hf6]
                  rfl
                have HST7 := Lib.hid ((HST6.out.other (mf := mf) (by omega) HO9.out 0 (.string f.n)).other (mf := mf) (by omega) HO9.out 1 (.string f.v))
                have hB7 := (hB6.setCell (p := ⟨mf, 0, none⟩) h3m (.string f.n)).setCell (p := ⟨mf, 1, none⟩) h3m (.string f.v)
                have hm7 : w4.heap.size ≤ ((w6.setCell ⟨mf, 0, none⟩ (.string f.n)).setCell ⟨mf, 1, none⟩ (.string f.v)).heap.size := by simpa using hm6
                generalize (w6.setCell ⟨mf, 0, none⟩ (.string f.n)).setCell ⟨mf, 1, none⟩ (.string f.v) = w7 at hf7 HST7 hB7 hm7 ⊢
                clear g0 g1 gf hf6 HST6 hB6 hm6
                obtain ⟨k0, k1, kf⟩ := two_facts hf7
                have kc := HST7.out.k.cell (i := 12) rfl
                have kfz := HST7.out.k.frozen
                have hrow := HST7.out.r
                rw [HN9.out] at hrow
                go_wp2_with (at_builtin; refine wpList_append_own _ rfl _ _ 27 rfl w4.heap.size 81 i0 (.agg #[.string ⟨#[]⟩, .string ⟨#[]⟩]) 2 32 Tryz.underlying27 hi hz0 hz1 hz2 rfl (by decide) _ _ _ rfl (hrow.alloc _) ⟨w7.heap.size, 0, none⟩ 1 1 (fldC f) rfl rfl (cells_newF _ _ _) (by simp [Value.oneCell', fldC]) (by simp only [maxLen]; omega) (by omega) (by simp; omega) ?_; intro v' w8 hown hgrow hnil; obtain ⟨g', cap', rfl⟩ := ownsRow_succ hown; obtain ⟨hst9, hk9⟩ := HST7.out.push (cs' := #[.string p.n, .int .i64 p.e, .string p.u, .string p.r, .slice A1 n1 c1, .slice A2 n2 c2, .slice A3 n3 c3, .slice A4 n4 c4, .slice A5 n5 c5, .slice A6 n6 c6, .slice A7 n7 c7, .slice A8 n8 c8, .slice (some ⟨g', 0, none⟩) (n9 + 1) cap']) hgrow (by rw [HN9.out]; exact hown) rfl; have kc1 := hk9.cell (i := 12) rfl; have kf1 := hk9.frozen; have HST9 := Lib.hid hst9; have hB8 := (hB7.alloc hB7.size (.cells #[.string f.n, .string f.v] 81)).grown hgrow (by have := hB7.size; simp; omega) (fun g e => Nat.le_trans HC4.out.size ((hrow.lt g e).1)); have hz8 := hgrow.size; clear hst9 hk9)
                clear k0 k1 kf kc kfz hf7
                go_roundw
                case rel => exact ⟨r, fs ++ [f], _, n9 + 1, cap', rfl, Lib.hid (by rw [List.length_append, HN9.out]; rfl), HFP, HST9, Lib.hid (by simp at hz8 ⊢; omega), hB8.setCell (p := ⟨m, 12, none⟩) HM.out _⟩
                case measure => exact hlt
              · have HNO := Lib.hid (HFA.out.none H0.out hfp)
                have hne : mf ≠ b := by have := HW23.out; omega
                have hwf : w.heap.size ≤ mf := by have := HB3.out.size; omega
                go_upto_region 15 with fail
                have HZ7 := Lib.hid ((HZ6.out.other hne 0 (.string ⟨#[]⟩)).other hne 1 (.string ⟨#[]⟩))
                have HBB7 := Lib.hid ((HBB6.out.setCell (p := ⟨mf, 0, none⟩) hwf (.string ⟨#[]⟩)).setCell (p := ⟨mf, 1, none⟩) hwf (.string ⟨#[]⟩))
                generalize (w6.setCell ⟨mf, 0, none⟩ (.string ⟨#[]⟩)).setCell ⟨mf, 1, none⟩ (.string ⟨#[]⟩) = w7 at HZ7 HBB7 ⊢
                clear g0 g1 gf
                have HRR := Lib.hid (ar_error (by rw [HONE2.out, HNO.out]))
                have HBE := Lib.hid HBB7.out
                have z := HZ7.out
                have fz := z.frozen
                have z0 := z.cell (i := 0) rfl; have z1 := z.cell (i := 1) rfl; have z2 := z.cell (i := 2) rfl; have z3 := z.cell (i := 3) rfl; have z4 := z.cell (i := 4) rfl; have z5 := z.cell (i := 5) rfl; have z6 := z.cell (i := 6) rfl; have z7 := z.cell (i := 7) rfl; have z8 := z.cell (i := 8) rfl; have z9 := z.cell (i := 9) rfl; have z10 := z.cell (i := 10) rfl; have z11 := z.cell (i := 11) rfl; have z12 := z.cell (i := 12) rfl
                clear z
                go_wp2_with fail
                refine bodyPost_ret (v := .tuple #[.agg zeros, .iface 32 (.int .i64 3)]) (by simp [results, zeros, Tryz.results47, go_sem, z0, z1, z2, z3, z4, z5, z6, z7, z8, z9, z10, z11, z12]) rfl ?_
                exact arIs_err (n := 3) HRR.out (below_set13 HBE.out HBW.out _ _ _ _ _ _ _ _ _ _ _ _ _)
      · have HLN := Lib.hid (arc_many2 HBIG.out HH.out HL.out hl1)
        clear hr hL
        obtain ⟨ln, hln⟩ : ∃ ln, L.length = ln := ⟨_, rfl⟩
        rw [hln] at hl1 ⊢
        clear hln
        have HRR := Lib.hid (ar_error (HLN.out))
        have HBE := Lib.hid HB2.out
        have z := HZ2.out
        have fz := z.frozen
        have z0 := z.cell (i := 0) rfl; have z1 := z.cell (i := 1) rfl; have z2 := z.cell (i := 2) rfl; have z3 := z.cell (i := 3) rfl; have z4 := z.cell (i := 4) rfl; have z5 := z.cell (i := 5) rfl; have z6 := z.cell (i := 6) rfl; have z7 := z.cell (i := 7) rfl; have z8 := z.cell (i := 8) rfl; have z9 := z.cell (i := 9) rfl; have z10 := z.cell (i := 10) rfl; have z11 := z.cell (i := 11) rfl; have z12 := z.cell (i := 12) rfl
        clear z
        go_wp2_with fail
        refine bodyPost_ret (v := .tuple #[.agg zeros, .iface 32 (.int .i64 3)]) (by simp [results, zeros, Tryz.results47, go_sem, z0, z1, z2, z3, z4, z5, z6, z7, z8, z9, z10, z11, z12]) rfl ?_
        exact arIs_err (n := 3) HRR.out (below_set13 HBE.out HBW.out _ _ _ _ _ _ _ _ _ _ _ _ _)
    · have HNS := Lib.hid (arc_nostz HBIG.out HH.out hn)
      have HRR := Lib.hid (ar_error (HNS.out))
      have HBE := Lib.hid HB2.out
      have z := HZ2.out
      have fz := z.frozen
      have z0 := z.cell (i := 0) rfl; have z1 := z.cell (i := 1) rfl; have z2 := z.cell (i := 2) rfl; have z3 := z.cell (i := 3) rfl; have z4 := z.cell (i := 4) rfl; have z5 := z.cell (i := 5) rfl; have z6 := z.cell (i := 6) rfl; have z7 := z.cell (i := 7) rfl; have z8 := z.cell (i := 8) rfl; have z9 := z.cell (i := 9) rfl; have z10 := z.cell (i := 10) rfl; have z11 := z.cell (i := 11) rfl; have z12 := z.cell (i := 12) rfl
      clear z
      go_wp2_with fail
      refine bodyPost_ret (v := .tuple #[.agg zeros, .iface 32 (.int .i64 3)]) (by simp [results, zeros, Tryz.results47, go_sem, z0, z1, z2, z3, z4, z5, z6, z7, z8, z9, z10, z11, z12]) rfl ?_
      exact arIs_err (n := 3) HRR.out (below_set13 HBE.out HBW.out _ _ _ _ _ _ _ _ _ _ _ _ _)
  · have HNH := Lib.hid (arc_nohead HBIG.out hh)
    have HRR := Lib.hid (ar_error (HNH.out))
    have HBE := Lib.hid HB1.out
    have z := HZ1.out
    have fz := z.frozen
    have z0 := z.cell (i := 0) rfl; have z1 := z.cell (i := 1) rfl; have z2 := z.cell (i := 2) rfl; have z3 := z.cell (i := 3) rfl; have z4 := z.cell (i := 4) rfl; have z5 := z.cell (i := 5) rfl; have z6 := z.cell (i := 6) rfl; have z7 := z.cell (i := 7) rfl; have z8 := z.cell (i := 8) rfl; have z9 := z.cell (i := 9) rfl; have z10 := z.cell (i := 10) rfl; have z11 := z.cell (i := 11) rfl; have z12 := z.cell (i := 12) rfl
    clear z
    go_wp2_with fail
    refine bodyPost_ret (v := .tuple #[.agg zeros, .iface 32 (.int .i64 3)]) (by simp [results, zeros, Tryz.results47, go_sem, z0, z1, z2, z3, z4, z5, z6, z7, z8, z9, z10, z11, z12]) rfl ?_
    exact arIs_err (n := 3) HRR.out (below_set13 HBE.out HBW.out _ _ _ _ _ _ _ _ _ _ _ _ _)
end Go.Proofs.YtodbbfgkclkpgaaGreatDoor

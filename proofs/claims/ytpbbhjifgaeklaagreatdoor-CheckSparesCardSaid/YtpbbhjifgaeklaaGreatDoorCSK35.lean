/- stevedorekeep.judged: the walk. · slices.Sort at a stretch of a row of numbers. -/
import Derived.Test.YtpbbhjifgaeklaaGreatDoorCSK34
import Derived.Test.YtpbbhjifgaeklaaGreatDoorCSK18
namespace Go.Proofs.YtpbbhjifgaeklaaGreatDoor
open Go Go.RowKit

theorem bb_asked {W : World} {x y : Nat} (h : TermAt W x 0 tbb) (hy : Blk 65 W y #[.slice (some ⟨x, 0, none⟩) 1 1]) : AskedAt W (.slice (some ⟨y, 0, none⟩) 1 1) [[tbb]] := by
  refine ⟨_, 1, rfl, Nat.le_refl _, by simp, fun _ => ⟨y, 0, rfl, fun i l hl => ?_⟩⟩
  cases i with
  | zero =>
    injection hl with hl
    subst hl
    refine ⟨_, hy.cell rfl, _, 1, rfl, Nat.le_refl _, by simp, fun _ => ⟨x, 0, rfl, fun i t ht => ?_⟩⟩
    cases i with
    | zero =>
      injection ht with ht
      subst ht
      exact ⟨h, small_bb.ok⟩
    | succ i => simp at ht
  | succ i => simp at hl
theorem pj_at {W : World} {y : Nat} {u r : ByteArray} (h : AskedAt W (.slice (some ⟨y, 0, none⟩) 1 1) [[tbb]]) : PackAt W (.agg #[.string ⟨#[97, 97]⟩, .int .i64 0, .string u, .string r, .slice none 0 0, .slice (some ⟨y, 0, none⟩) 1 1, .slice none 0 0, .slice none 0 0, .slice none 0 0, .slice none 0 0, .slice none 0 0, .slice none 0 0, .slice none 0 0]) (pJ 0 u r) :=
  ⟨_, _, _, _, _, _, _, _, _, rfl, ⟨none, 0, rfl, Nat.le_refl _, by simp [pJ], fun h => absurd rfl h⟩, h, ⟨none, 0, rfl, Nat.le_refl _, by simp [pJ], fun h => absurd rfl h⟩, ⟨none, 0, rfl, Nat.le_refl _, by simp [pJ], fun h => absurd rfl h⟩, ⟨none, 0, rfl, Nat.le_refl _, by simp [pJ], fun h => absurd rfl h⟩, ⟨none, 0, rfl, Nat.le_refl _, by simp [pJ], fun h => absurd rfl h⟩, SlC.nil _ _ _, SlC.nil _ _ _, SlC.nil _ _ _, by show (-9223372036854775808 : Int) ≤ 0; decide, by show (0 : Int) ≤ 9223372036854775807; decide⟩

set_option maxHeartbeats 8000000 in
set_option maxRecDepth 100000 in
theorem judged_calls (w : World) (hE : Env w) (hG : EnvE w) : Calls Tryz.prog 33 #[] w (BoolIs true w) := by
  have CR := Lib.hid (fun (s : ByteArray) (W : World) (hb : Below w.heap.size w W) => read_calls s W (hE.below hb))
  have HG := Lib.hid hG
  clear hE hG
  go_enter Tryz.func33, Tryz.ntmps33
  go_wp2_with fail
  refine (CR.out _ _ (Below.refl _ _)).mono ?_
  rintro E w1 ⟨hb1, e, u, r, hv, rfl⟩
  rw [show readP (⟨#[49]⟩ : ByteArray).data.toList = (0, [49], []) from read_one] at hv
  simp only [Prod.mk.injEq] at hv
  obtain ⟨rfl, hu, hr⟩ := hv
  have HU := Lib.hid (show u.size ≤ 1000 from by rw [ba_of hu]; decide)
  have HRR := Lib.hid (show r.size ≤ 1000 from by rw [ba_of hr]; decide)
  have HB1 := Lib.hid hb1
  clear hu hr hb1
  go_upto_region 2 with fail
  have hb2 := below_alloc w1 (.cells #[.string ⟨#[98, 98]⟩, .int .i64 0, .int .i64 0, .string ⟨#[]⟩, .string ⟨#[]⟩] 143)
  have ht2 := termAt_new w1 tbb
  obtain ⟨W2, hW2⟩ : ∃ W, w1.alloc (.cells #[.string ⟨#[98, 98]⟩, .int .i64 0, .int .i64 0, .string ⟨#[]⟩, .string ⟨#[]⟩] 143) = W := ⟨_, rfl⟩
  have hs2 : W2.heap.size = w1.heap.size + 1 := by rw [← hW2]; exact World.size_alloc _ _
  have ht2' : TermAt W2 w1.heap.size 0 tbb := hW2 ▸ ht2
  rw [hW2] at hb2 ⊢
  have hb3 := below_alloc W2 (.cells #[.slice (some ⟨w1.heap.size, 0, none⟩) 1 1] 65)
  have hx3 := blk_new 65 W2 #[.slice (some ⟨w1.heap.size, 0, none⟩) 1 1]
  obtain ⟨W3, hW3⟩ : ∃ W, W2.alloc (.cells #[.slice (some ⟨w1.heap.size, 0, none⟩) 1 1] 65) = W := ⟨_, rfl⟩
  have hs3 : W3.heap.size = w1.heap.size + 2 := by rw [← hW3, World.size_alloc, hs2]
  rw [hs2, hW3] at hx3
  rw [hW3] at hb3 ⊢
  have hb4 := below_alloc W3 (.cells #[.string ⟨#[97, 97]⟩, .int .i64 0, .string u, .string r, .slice none 0 0, .slice (some ⟨w1.heap.size + 1, 0, none⟩) 1 1, .slice none 0 0, .slice none 0 0, .slice none 0 0, .slice none 0 0, .slice none 0 0, .slice none 0 0, .slice none 0 0] 67)
  have hx4 := blk_new 67 W3 #[.string ⟨#[97, 97]⟩, .int .i64 0, .string u, .string r, .slice none 0 0, .slice (some ⟨w1.heap.size + 1, 0, none⟩) 1 1, .slice none 0 0, .slice none 0 0, .slice none 0 0, .slice none 0 0, .slice none 0 0, .slice none 0 0, .slice none 0 0]
  obtain ⟨W4, hW4⟩ : ∃ W, W3.alloc (.cells #[.string ⟨#[97, 97]⟩, .int .i64 0, .string u, .string r, .slice none 0 0, .slice (some ⟨w1.heap.size + 1, 0, none⟩) 1 1, .slice none 0 0, .slice none 0 0, .slice none 0 0, .slice none 0 0, .slice none 0 0, .slice none 0 0, .slice none 0 0] 67) = W := ⟨_, rfl⟩
  rw [hs3, hW4] at hx4
  rw [hW4] at hb4 ⊢
  have HAS := Lib.hid (show AskedAt W4 (.slice (some ⟨w1.heap.size + 1, 0, none⟩) 1 1) [[tbb]] from (bb_asked (h := ht2'.below hb3) hx3).below hb4)
  have HB4 := Lib.hid (((HB1.out.trans (hb2.mono HB1.out.size)).trans (hb3.mono (Nat.le_trans HB1.out.size hb2.size))).trans (hb4.mono (Nat.le_trans (Nat.le_trans HB1.out.size hb2.size) hb3.size)))
  obtain ⟨x4, hx4e⟩ : ∃ x, w1.heap.size + 1 + 1 = x := ⟨_, rfl⟩
  rw [hx4e]
  have HX4 := Lib.hid (show Blk 67 W4 x4 _ from by rw [← hx4e]; exact hx4)
  clear hx4e hb2 hs2 ht2' hb3 hx3 hW3 hs3 hb4 hx4 hW4 hW2 ht2 HB1
  go_wp2_with fail
  refine (CR.out _ _ HB4.out).mono ?_
  rintro E w5 ⟨hb5, e1, u1, r1, hv, rfl⟩
  rw [show readP (⟨#[50]⟩ : ByteArray).data.toList = (0, [50], []) from read_two] at hv
  simp only [Prod.mk.injEq] at hv
  obtain ⟨rfl, hu, hr⟩ := hv
  have HB5 := Lib.hid (HB4.out.trans (hb5.mono HB4.out.size))
  have HX5 := Lib.hid (HX4.out.keep hb5)
  have HAS5 := Lib.hid (HAS.out.below hb5)
  clear hu hr hb5 HB4 HX4 HAS
  go_wp2_with fail
  refine (CR.out _ _ HB5.out).mono ?_
  rintro E w6 ⟨hb6, e2, u2, r2, hv, rfl⟩
  rw [show readP (⟨#[50]⟩ : ByteArray).data.toList = (0, [50], []) from read_two] at hv
  simp only [Prod.mk.injEq] at hv
  obtain ⟨rfl, hu, hr⟩ := hv
  have HU2 := Lib.hid (show u2.size ≤ 1000 from by rw [ba_of hu]; decide)
  have HR2 := Lib.hid (show r2.size ≤ 1000 from by rw [ba_of hr]; decide)
  have HB6 := Lib.hid (HB5.out.trans (hb6.mono HB5.out.size))
  have HX6 := Lib.hid (HX5.out.keep hb6)
  have HAS6 := Lib.hid (HAS5.out.below hb6)
  clear hu hr hb6 HB5 HX5 HAS5 CR
  obtain ⟨qc, hqc⟩ : ∃ q : Array Value, #[.int .i64 7, .int .i64 0, .string u1, .string r1, .bool false, .slice none 0 0, .slice none 0 0, .string ⟨#[98, 98]⟩, .int .i64 0, .string u2, .string r2, .slice none 0 0, .slice none 0 0, .slice none 0 0, .slice none 0 0, .slice none 0 0, .slice none 0 0, .slice none 0 0, .slice none 0 0, .slice none 0 0] = q := ⟨_, rfl⟩
  have HBD := Lib.hid (show Tryz.prog.built 79 [(0, .agg #[.int .i64 7, .int .i64 0, .string u1, .string r1, .bool false, .slice none 0 0, .slice none 0 0]), (1, .agg #[.string ⟨#[98, 98]⟩, .int .i64 0, .string u2, .string r2, .slice none 0 0, .slice none 0 0, .slice none 0 0, .slice none 0 0, .slice none 0 0, .slice none 0 0, .slice none 0 0, .slice none 0 0, .slice none 0 0])] = some qc from by rw [← hqc]; exact built_known _ _ _ _ _ _ _ _ _ _ _ _ _ _ _ _ _ _ _ _)
  have HSZ := Lib.hid (show qc.size = 20 from by rw [← hqc]; rfl)
  have HONE := Lib.hid (show qc.all (·.oneCell') = true from by rw [← hqc]; simp [Value.oneCell'])
  have HSL := Lib.hid (show ∀ W : World, (Instr.buildSlice 73 1 #[(0, .agg qc)]).run Tryz.prog W = .ok (.slice (some ⟨W.heap.size, 0, none⟩) 1 1) (W.alloc (.cells qc 79)) from fun W => by rw [← hqc]; exact slice_known W _ _ _ _ _ _ _ _ _ _ _ _ _ _ _ _ _ _ _ _)
  have HKV := Lib.hid (show kvC (qJ 0 u1 r1 0 u2 r2) (.slice none 0 0) (.slice none 0 0) (.slice none 0 0) (.slice none 0 0) (.slice none 0 0) (.slice none 0 0) (.slice none 0 0) (.slice none 0 0) (.slice none 0 0) (.slice none 0 0) (.slice none 0 0) = qc from by rw [← hqc]; rfl)
  have HQE := Lib.hid hqc
  clear hqc
  go_upto_region 3 with (first | (refine wpList_build_is rfl 79 _ rfl [(0, .agg #[.int .i64 7, .int .i64 0, .string u1, .string r1, .bool false, .slice none 0 0, .slice none 0 0]), (1, .agg #[.string ⟨#[98, 98]⟩, .int .i64 0, .string u2, .string r2, .slice none 0 0, .slice none 0 0, .slice none 0 0, .slice none 0 0, .slice none 0 0, .slice none 0 0, .slice none 0 0, .slice none 0 0, .slice none 0 0])] (by first | (go_simp; done) | (simp [go_sem, Act.eval]; done) | rfl) qc HBD.out ?_) | (refine wpList_store_row rfl 79 _ _ rfl w6.heap.size qc rfl rfl 79 _ (heap_alloc_new w6 _) (by rw [HSZ.out]; kernel_rfl) (by rw [HSZ.out]; rfl) HONE.out ?_))
  have hnr0 := new_row w6 #[.int .i64 0, .int .i64 0, .string ⟨#[]⟩, .string ⟨#[]⟩, .bool false, .slice none 0 0, .slice none 0 0, .string ⟨#[]⟩, .int .i64 0, .string ⟨#[]⟩, .string ⟨#[]⟩, .slice none 0 0, .slice none 0 0, .slice none 0 0, .slice none 0 0, .slice none 0 0, .slice none 0 0, .slice none 0 0, .slice none 0 0, .slice none 0 0] qc 79
  obtain ⟨W7, hW7⟩ : ∃ W, (w6.alloc (.cells #[.int .i64 0, .int .i64 0, .string ⟨#[]⟩, .string ⟨#[]⟩, .bool false, .slice none 0 0, .slice none 0 0, .string ⟨#[]⟩, .int .i64 0, .string ⟨#[]⟩, .string ⟨#[]⟩, .slice none 0 0, .slice none 0 0, .slice none 0 0, .slice none 0 0, .slice none 0 0, .slice none 0 0, .slice none 0 0, .slice none 0 0, .slice none 0 0] 79)).setRow w6.heap.size qc = W := ⟨_, rfl⟩
  rw [hW7] at hnr0 ⊢
  have hnr := hnr0.1
  have hb7 := hnr0.2
  clear hnr0
  obtain ⟨x7, hx7⟩ : ∃ x, w6.heap.size = x := ⟨_, rfl⟩
  rw [hx7] at hnr
  simp only [hx7]
  have HQ7 := Lib.hid hnr
  have HB7 := Lib.hid (HB6.out.trans (hb7.mono HB6.out.size))
  have HAS7 := Lib.hid (HAS6.out.below hb7)
  obtain ⟨cj, hcj⟩ : ∃ l : List Value, [.string ⟨#[97, 97]⟩, .int .i64 0, .string u, .string r, .slice none 0 0, .slice (some ⟨w1.heap.size + 1, 0, none⟩) 1 1, .slice none 0 0, .slice none 0 0, .slice none 0 0, .slice none 0 0, .slice none 0 0, .slice none 0 0, .slice none 0 0] = l := ⟨_, rfl⟩
  have HJ := Lib.hid (show Blk 67 W7 x4 cj.toArray from by rw [← hcj]; exact HX6.out.keep hb7)
  have HLJ := Lib.hid (show cj.length = 13 from by rw [← hcj]; rfl)
  have HG7 := Lib.hid (HG.out.below HB7.out)
  have C1 := Lib.hid (show ∀ W : World, Below W7.heap.size W7 W → Calls Tryz.prog 96 #[.slice none 0 0, .agg cj.toArray] W (UnpIs [] (pJ 0 u r) W) from fun W hb => by
    rw [← hcj]
    exact unpack_calls _ [] (pJ 0 u r) none (some ⟨w1.heap.size + 1, 0, none⟩) none none none none none none none 0 1 0 0 0 0 0 0 0 0 1 0 0 0 0 0 0 0 W (knowns_nil W) (by simp) (pj_at (HAS7.out.below hb)) (free_none HU.out HRR.out))
  have C2 := Lib.hid (show ∀ (W : World) (b : Nat), Below W7.heap.size W7 W → Blk 79 W b qc → Calls Tryz.prog 96 #[.slice (some ⟨b, 0, none⟩) 1 1, .agg cj.toArray] W (UnpIs [qJ 0 u1 r1 0 u2 r2] (pJ 0 u r) W) from fun W b hb hk => by
    have hka : KnownAt W b 0 (qJ 0 u1 r1 0 u2 r2) := ⟨⟨none, none, none, none, none, none, none, none, none, none, none, 0, 0, 0, 0, 0, 0, 0, 0, 0, 0, 0, 0, 0, fun j u hj => by
      rw [Nat.zero_add]
      exact hk.cell (by rw [← HKV.out]; exact hj),
      ⟨_, _, _, _, _, _, _, _, _, rfl, ⟨none, 0, rfl, Nat.le_refl _, by simp [qJ], fun h => absurd rfl h⟩, ⟨none, 0, rfl, Nat.le_refl _, by simp [qJ], fun h => absurd rfl h⟩, ⟨none, 0, rfl, Nat.le_refl _, by simp [qJ], fun h => absurd rfl h⟩, ⟨none, 0, rfl, Nat.le_refl _, by simp [qJ], fun h => absurd rfl h⟩, ⟨none, 0, rfl, Nat.le_refl _, by simp [qJ], fun h => absurd rfl h⟩, ⟨none, 0, rfl, Nat.le_refl _, by simp [qJ], fun h => absurd rfl h⟩, SlC.nil _ _ _, SlC.nil _ _ _, SlC.nil _ _ _, by show (-9223372036854775808 : Int) ≤ 0; decide, by show (0 : Int) ≤ 9223372036854775807; decide⟩⟩⟩
    rw [← hcj]
    exact unpack_calls _ [qJ 0 u1 r1 0 u2 r2] (pJ 0 u r) none (some ⟨w1.heap.size + 1, 0, none⟩) none none none none none none none 0 1 0 0 0 0 0 0 0 0 1 0 0 0 0 0 0 0 W (knowns_one hka) (by simp) (pj_at (HAS7.out.below hb)) (free_q HU.out HRR.out HU2.out HR2.out))
  have MN := Lib.hid (show metB (pJ 0 u r).ahead (offersT [] (worksI []) 0) = false from met_none)
  have MQ := Lib.hid (show metB (pJ 0 u r).ahead (offersT [qJ 0 u1 r1 0 u2 r2] (worksI [qJ 0 u1 r1 0 u2 r2]) 1) = true from by rw [offers_q]; exact met_bb _ _ _)
  clear hcj HQE hnr hb7 hW7 hx7 HB6 HX6 HAS6 HAS7 HBD HKV
  go_wp2_with (refine wpList_load_mid rfl 67 _ rfl x4 0 rfl cj _ (range_blk HJ.out) Tryz.underlying67 rfl (by rw [HLJ.out]; kernel_rfl) ?_)
  refine (C1.out _ (Below.refl _ _)).mono ?_
  rintro E w8 ⟨hb8, h8⟩
  rw [if_neg (by have := MN.out; simp only [List.length_nil]; rw [this]; simp)] at h8
  obtain ⟨b8, i8, rfl, hc8, _⟩ := h8
  have HB8 := Lib.hid hb8
  have CT := Lib.hid (tell_at 7 b8 w8 (HG7.out.below hb8) hc8)
  clear hb8 hc8 C1
  go_wp2_with fail
  refine CT.out.mono ?_
  rintro E w9 ⟨rfl, hb9⟩
  have HB9 := Lib.hid (HB8.out.trans (hb9.mono HB8.out.size))
  clear hb9 CT HB8
  have HQ9 := Lib.hid (HQ7.out.keep HB9.out)
  have HJ9 := Lib.hid (HJ.out.keep HB9.out)
  have hbq := below_alloc w9 (.cells qc 79)
  have HX10 := Lib.hid (blk_new 79 w9 qc)
  have HB10 := Lib.hid (HB9.out.trans (hbq.mono HB9.out.size))
  have HJ10 := Lib.hid (HJ9.out.keep hbq)
  clear hbq
  go_wp2_with (first | (refine wpList_load_midW rfl 79 _ rfl x7 0 rfl qc.toList _ (range_blk (l := qc.toList) HQ9.out) Tryz.underlying79 rfl (by rw [Array.length_toList, HSZ.out]; kernel_rfl) ?_; rw [Array.toArray_toList]) | (refine wpList_buildSlice_is rfl 73 1 _ rfl #[(0, .agg qc)] (by first | (go_simp; done) | (simp [go_sem, Act.eval]; done) | rfl) _ _ (HSL.out _) ?_) | (refine wpList_load_midW rfl 67 _ rfl x4 0 rfl cj _ (range_blk HJ10.out) Tryz.underlying67 rfl (by rw [HLJ.out]; kernel_rfl) ?_))
  refine (C2.out _ _ HB10.out HX10.out).mono ?_
  rintro E w11 ⟨hb11, h11⟩
  rw [if_pos (show metB (pJ 0 u r).ahead (offersT [qJ 0 u1 r1 0 u2 r2] (worksI [qJ 0 u1 r1 0 u2 r2]) [qJ 0 u1 r1 0 u2 r2].length) = true from MQ.out)] at h11
  subst h11
  have HB11 := Lib.hid (HB7.out.trans ((HB10.out.trans (hb11.mono HB10.out.size)).mono HB7.out.size))
  clear hb11
  go_wp2_with fail
  go_ret
  exact ⟨rfl, HB11.out⟩
end Go.Proofs.YtpbbhjifgaeklaaGreatDoor

namespace Go.Proofs.YtpbbhjifgaeklaaGreatDoor
open Go Go.RowKit Go.Sort
open TJ (srt)

theorem heapO_sorted {w : World} {g n o : Nat} {os : Array Obj} {cur : Array Value} {e : TypeId} {fr : Nat × Nat} (d : Array Int) (hb : w.heap[g]? = some (.cells cur e fr)) :
    (grow (putRow (Value.int .i64) (Sort.ahead w n) g o d) os).heap[g]? = some (.cells (putCells (Value.int .i64) o d cur) e fr) := by
  have hg : g < w.heap.size := (Array.getElem?_eq_some_iff.1 hb).1
  rw [heap_grow_old _ _ (by simpa using hg)]
  simp [putRow, mapBlock, Sort.ahead, Array.getElem?_modify, hb, onCells]
theorem grownByO_sorted {w : World} {g n o : Nat} {os : Array Obj} (d : Array Int) : w.grownBy (grow (putRow (Value.int .i64) (Sort.ahead w n) g o d) os) (some g) := by
  refine ⟨rfl, rfl, rfl, by simp, fun k hk hne => ?_⟩
  rw [heap_grow_old _ _ (by simpa using hk)]
  have : g ≠ k := fun e => hne (by rw [e])
  simp [putRow, mapBlock, Sort.ahead, Array.getElem?_modify, this]
theorem sortO_calls (g o c : Nat) (l : List Nat) (w : World) (cur : Array Value) (e : TypeId) (hb : w.heap[g]? = some (.cells cur e (0, 0))) (ho : o + l.length ≤ cur.size) (hc : l.length ≤ c) (ht : ∀ (j x : Nat), l[j]? = some x → cur[o + j]? = some (.int .i64 x)) (hl : l.length ≤ 2000000) :
    Calls Tryz.prog 110 #[.slice (some ⟨g, o, none⟩) l.length c] w fun E W => E = .returned (.tuple #[]) ∧ NatsAt W (.slice (some ⟨g, o, none⟩) l.length c) (srt l) ∧ w.grownBy W (some g) := by
  have hlen : (l.map Int.ofNat).length = l.length := List.length_map _
  have hH : Holds (Value.int .i64) w g o (l.map Int.ofNat).toArray := by
    intro j hj
    have hj' : j < l.length := by simpa using hj
    refine ⟨?_, by simp [World.frozen?, hb]⟩
    have h1 := ht j l[j] (List.getElem?_eq_getElem hj')
    simp only [World.cell?, hb]
    simp only [Option.isSome_none, Bool.false_eq_true, if_false]
    rw [h1]
    simp [hj']
  refine ((hlen ▸ Tryz.slices_Sort_int g o c (l.map Int.ofNat) w hH (Array.getElem?_eq_some_iff.1 hb).1 (by rw [hlen]; omega))).mono ?_
  rintro E W ⟨he, n, os, hw⟩
  subst hw
  refine ⟨he, ?_, grownByO_sorted _⟩
  rw [TJ.srt_int]
  have hls : (srt l).length = l.length := (TJ.perm_srt l).length_eq
  have hheap := heapO_sorted (n := n) (os := os) (o := o) ((srt l).map Int.ofNat).toArray hb
  refine ⟨_, c, by rw [hls], by omega, by omega, fun _ => ⟨g, o, rfl, fun j u hj => ?_⟩⟩
  rw [flat_nats, List.getElem?_map] at hj
  obtain ⟨x, hx, rfl⟩ := Option.map_eq_some_iff.1 hj
  have hj' : j < (srt l).length := (List.getElem?_eq_some_iff.1 hx).1
  have hx' : (srt l)[j] = x := (List.getElem?_eq_some_iff.1 hx).2
  simp only [World.cell?, hheap]
  simp only [Option.isSome_none, Bool.false_eq_true, if_false]
  have hlt : o + j < cur.size := by omega
  unfold putCells
  rw [Array.getElem?_mapIdx, Array.getElem?_eq_getElem hlt, Option.map_some, if_pos ⟨Nat.le_add_right _ _, by simp; omega⟩, Nat.add_sub_cancel_left]
  simp [hj', hx']
end Go.Proofs.YtpbbhjifgaeklaaGreatDoor

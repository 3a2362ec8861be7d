/- check.meets: is one (not of this name) what is asked for. -/
import Derived.Test.YtpbbhjifgaeklaaGreatDoorCSK11
import Derived.Test.YtpbbhjifgaeklaaGreatDoorCSK16
namespace Go.Proofs.YtpbbhjifgaeklaaGreatDoor
open Go Go.RowKit

set_option maxHeartbeats 4000000 in
set_option maxRecDepth 100000 in
theorem cmeets1_calls (x1 : Nat) (o : Ov) (vp : Value) (t : Tv) (w : World) (hx : ∀ (j : Nat) (u : Value), (#[.string o.n, .int .i64 o.e, .string o.u, .string o.r, vp] : Array Value)[j]? = some u → w.cell? ⟨x1, j, none⟩ = some u) (hp : TermsAt w vp o.ps) (hos : o.small) (hts : t.vs) :
    Calls Tryz.prog 228 #[t.val, .pointer (some ⟨x1, 0, none⟩)] w (BoolIs (meetsB o t) w) := by
  obtain ⟨Ap, cp, rfl, _⟩ := id hp
  have hb0 := below_alloc w (.cells #[.string t.n, .int .i64 t.op, .int .i64 t.e, .string t.u, .string t.r] 143)
  have hbx := termAt_new w t
  have CM := Lib.hid (fun (W : World) (hb : Below w.heap.size w W) => meets_calls o _ t W (hp.below hb) hos hts)
  unfold Ov.val Tv.val at CM
  obtain ⟨W1, hW1⟩ : ∃ W, w.alloc (.cells #[.string t.n, .int .i64 t.op, .int .i64 t.e, .string t.u, .string t.r] 143) = W := ⟨_, rfl⟩
  rw [hW1] at hb0 hbx
  have c0 := kept hb0 (hx 0 _ rfl)
  have c1 := kept hb0 (hx 1 _ rfl)
  have c2 := kept hb0 (hx 2 _ rfl)
  have c3 := kept hb0 (hx 3 _ rfl)
  have c4 := kept hb0 (hx 4 _ rfl)
  have d0 := hbx.c0
  have d1 := hbx.c1
  have d2 := hbx.c2
  have d3 := hbx.c3
  have d4 := hbx.c4
  have HB0 := Lib.hid hb0
  clear hb0 hbx hx hp
  unfold Tv.val
  go_enter Tryz.func228, Tryz.ntmps228
  go_wp2_with fail
  refine (CM.out _ HB0.out).mono ?_
  rintro E w2 ⟨rfl, hb2⟩
  have HB2 := Lib.hid (HB0.out.trans (hb2.mono HB0.out.size))
  clear CM hb2 c0 c1 c2 c3 c4 d0 d1 d2 d3 d4
  go_wp2_with fail
  go_ret
  exact ⟨rfl, HB2.out⟩

set_option maxHeartbeats 1000000 in
set_option maxRecDepth 100000 in
theorem idxC_calls (v : Value) (ts : List Tv) (x1 : Nat) (p : Tv → Bool) (w : World) (h : TermsAt w v ts) (C : ∀ (W : World) (x : Tv), Below w.heap.size w W → x ∈ ts → Calls Tryz.prog 228 #[x.val, .pointer (some ⟨x1, 0, none⟩)] W (BoolIs (p x) W)) :
    Calls Tryz.prog 167 #[v, .func (.func 228) #[] #[.pointer (some ⟨x1, 0, none⟩)]] w (IdxIs (ts.any p) w) := by
  obtain ⟨A, c, rfl, hc, hm, hr⟩ := h
  obtain ⟨len, hlen⟩ : ∃ len, ts.length = len := ⟨_, rfl⟩
  have HL := Lib.hid hlen
  have HR := Lib.hid hr
  have HC := Lib.hid C
  rw [hlen] at hc hm ⊢
  clear hlen hr C
  go_enter Tryz.func167, Tryz.ntmps167
  go_wp2_with fail
  go_loopw [8] (fun i wr => ∃ k : Nat, k ≤ len ∧ i = .int .i64 k ∧ Hid ((ts.take k).any p = false) ∧ Below w.heap.size w wr) (fun i _ => len - (intOf i).toNat)
  case atStart => exact ⟨0, Nat.zero_le _, rfl, rfl, Below.refl _ _⟩
  case round =>
    obtain ⟨k, hk, rfl, hall, hB⟩ := hrel
    by_cases hlt : k < len
    · have hne : ts ≠ [] := by
        intro e
        have := HL.out
        rw [e] at this
        simp at this
        omega
      obtain ⟨t, ht⟩ : ∃ t, ts[k]? = some t := ⟨ts[k]'(by have := HL.out; omega), List.getElem?_eq_getElem _⟩
      obtain ⟨b', off, rfl, hi⟩ := HR.out hne
      obtain ⟨hT0, _⟩ := hi k t ht
      clear hi hne
      have hT := hT0.below hB
      obtain ⟨c0, c1, c2, c3, c4⟩ := hT
      have HT := Lib.hid ht
      have H := Lib.hid (HC.out wr t hB (List.mem_of_getElem? ht))
      unfold Tv.val at H
      obtain ⟨pb, hpb⟩ : ∃ pb, p t = pb := ⟨_, rfl⟩
      have HP := Lib.hid hpb
      rw [hpb] at H
      clear ht hT0 hpb
      go_wp2_with fail
      refine H.out.mono ?_
      rintro E w1 ⟨rfl, hb⟩
      have hB := step_below hB hb
      clear hb c0 c1 c2 c3 c4 H
      cases pb with
      | true =>
        go_wp2_with fail
        go_ret
        exact ⟨_, rfl, by rw [any_stop HT.out HP.out]; simp, hB⟩
      | false =>
        go_wp2_with fail
        go_roundw
        case rel => exact ⟨k + 1, by omega, by go_num, Lib.hid (any_take_succ hall.out HT.out HP.out), hB⟩
        case measure => simp [intOf]; omega
    · obtain rfl : k = len := by omega
      go_wp2_with fail
      go_ret
      exact ⟨_, rfl, by have := hall.out; rw [← HL.out] at this; rw [any_done this]; simp, hB⟩

set_option maxRecDepth 100000 in
theorem hasC_calls (v : Value) (ts : List Tv) (x1 : Nat) (p : Tv → Bool) (w : World) (h : TermsAt w v ts) (C : ∀ (W : World) (x : Tv), Below w.heap.size w W → x ∈ ts → Calls Tryz.prog 228 #[x.val, .pointer (some ⟨x1, 0, none⟩)] W (BoolIs (p x) W)) :
    Calls Tryz.prog 98 #[v, .func (.func 228) #[] #[.pointer (some ⟨x1, 0, none⟩)]] w (BoolIs (ts.any p) w) := by
  have H := Lib.hid (idxC_calls v ts x1 p w h C)
  clear h C
  go_enter Tryz.func98, Tryz.ntmps98
  go_wp2_with fail
  refine H.out.mono ?_
  rintro E w1 ⟨i, rfl, hi, hb⟩
  have HI := Lib.hid hi
  clear hi
  by_cases h0 : 0 ≤ i
  · go_wp2_with fail
    go_ret
    exact ⟨ret_bool (by rw [← HI.out]; simp [h0]), hb⟩
  · go_wp2_with fail
    go_ret
    exact ⟨ret_bool HI.out, hb⟩


/-- it is not of this name, and one of what is asked for -/
def cmB (o : Ov) (ts : List Tv) (but : ByteArray) : Bool := !(decide (o.n = but)) && ts.any (meetsB o)
set_option maxHeartbeats 4000000 in
set_option maxRecDepth 100000 in
theorem cmeets_calls (o : Ov) (vp v : Value) (ts : List Tv) (but : ByteArray) (w : World) (hp : TermsAt w vp o.ps) (h : TermsAt w v ts) (hos : o.small) (hts : ∀ t, t ∈ ts → t.vs) :
    Calls Tryz.prog 166 #[o.val vp, v, .string but] w (BoolIs (cmB o ts but) w) := by
  obtain ⟨Ap, cp, rfl, _⟩ := id hp
  obtain ⟨Av, cv, rfl, _⟩ := id h
  have hb0 := below_alloc w (.cells #[.string o.n, .int .i64 o.e, .string o.u, .string o.r, .slice Ap o.ps.length cp] 84)
  have hx0 := blk_new 84 w #[.string o.n, .int .i64 o.e, .string o.u, .string o.r, .slice Ap o.ps.length cp]
  obtain ⟨W1, hW1⟩ : ∃ W, w.alloc (.cells #[.string o.n, .int .i64 o.e, .string o.u, .string o.r, .slice Ap o.ps.length cp] 84) = W := ⟨_, rfl⟩
  rw [hW1] at hb0 hx0
  have CH := Lib.hid (fun (W : World) (hb : Below W1.heap.size W1 W) => hasC_calls _ ts w.heap.size (meetsB o) W ((h.below hb0).below hb) (fun W2 x hb2 hx => cmeets1_calls w.heap.size o _ x W2 (fun j u hj => ((hx0.keep hb).keep hb2).cell hj) (((hp.below hb0).below hb).below hb2) hos (hts x hx)))
  have c0 : W1.cell? ⟨w.heap.size, 0, none⟩ = some (.string o.n) := hx0.cell rfl
  obtain ⟨b3, hb3⟩ : ∃ b3, decide (o.n = but) = b3 := ⟨_, rfl⟩
  have hqf : (o.n.toList == but.toList) = b3 := by rw [← hb3]; exact name_eq o.n but
  have HC := Lib.hid (show cmB o ts but = (!b3 && ts.any (meetsB o)) from by unfold cmB; rw [hb3])
  obtain ⟨ab, hab⟩ : ∃ ab, ts.any (meetsB o) = ab := ⟨_, rfl⟩
  rw [hab] at CH HC
  have HB0 := Lib.hid hb0
  unfold Ov.val
  clear hb0 hx0 hp h hb3 hab
  cases b3 with
  | true =>
    have F := Lib.hid (show cmB o ts but = false from by rw [HC.out]; rfl)
    clear HC CH
    go_enter Tryz.func166, Tryz.ntmps166
    go_wp2_with fail
    go_ret
    exact ⟨ret_bool F.out.symm, HB0.out⟩
  | false =>
    have F := Lib.hid (show cmB o ts but = ab from by rw [HC.out]; rfl)
    clear HC
    go_enter Tryz.func166, Tryz.ntmps166
    go_wp2_with fail
    refine (CH.out _ (Below.refl _ _)).mono ?_
    rintro E w2 ⟨rfl, hb2⟩
    have HB2 := Lib.hid (HB0.out.trans (hb2.mono HB0.out.size))
    clear CH hb2 c0
    go_wp2_with fail
    go_ret
    exact ⟨ret_bool F.out.symm, HB2.out⟩
end Go.Proofs.YtpbbhjifgaeklaaGreatDoor

/- check.Line's innermost closure: does a package that is known meet what is asked for; slices.ContainsFunc over it. · Slices of packages that are there, put together. -/
import Derived.Test.YtpbbhjifgaeklaaGreatDoorCSK10
import Derived.Deep.RegionHeld
import Derived.Test.YtpbbhjifgaeklaaGreatDoorCSK5
import Derived.Test.YtpbbhjifgaeklaaGreatDoorCSK8
namespace Go.Proofs.YtpbbhjifgaeklaaGreatDoor
open Go Go.RowKit

/-- the cells of one that is known, as they are read -/
structure KCells (w : World) (b o : Nat) (k : Kv) (A1 A2 A3 A4 A5 A6 A7 A8 A9 : Option Addr) (m1 m2 m3 m4 m5 m6 m7 m8 m9 c1 c2 c3 c4 c5 c6 c7 c8 c9 : Nat) : Prop where
  p0 : w.cell? ⟨b, o + 7, none⟩ = some (.string k.p.n)
  p1 : w.cell? ⟨b, o + 7 + 1, none⟩ = some (.int .i64 k.p.e)
  p2 : w.cell? ⟨b, o + 7 + 2, none⟩ = some (.string k.p.u)
  p3 : w.cell? ⟨b, o + 7 + 3, none⟩ = some (.string k.p.r)
  p4 : w.cell? ⟨b, o + 7 + 4, none⟩ = some (.slice A1 m1 c1)
  p5 : w.cell? ⟨b, o + 7 + 5, none⟩ = some (.slice A2 m2 c2)
  p6 : w.cell? ⟨b, o + 7 + 6, none⟩ = some (.slice A3 m3 c3)
  p7 : w.cell? ⟨b, o + 7 + 7, none⟩ = some (.slice A4 m4 c4)
  p8 : w.cell? ⟨b, o + 7 + 8, none⟩ = some (.slice A5 m5 c5)
  p9 : w.cell? ⟨b, o + 7 + 9, none⟩ = some (.slice A6 m6 c6)
  p10 : w.cell? ⟨b, o + 7 + 10, none⟩ = some (.slice A7 m7 c7)
  p11 : w.cell? ⟨b, o + 7 + 11, none⟩ = some (.slice A8 m8 c8)
  p12 : w.cell? ⟨b, o + 7 + 12, none⟩ = some (.slice A9 m9 c9)
  d1 : AskedAt w (.slice A1 m1 c1) k.p.dep
  d2 : AskedAt w (.slice A2 m2 c2) k.p.ahead
  d6 : TermsAt w (.slice A6 m6 c6) k.p.pr
theorem KnownAt.open {w : World} {b off : Nat} {k : Kv} (h : KnownAt w b off k) : ∃ (A1 A2 A3 A4 A5 A6 A7 A8 A9 : Option Addr) (m1 m2 m3 m4 m5 m6 m7 m8 m9 c1 c2 c3 c4 c5 c6 c7 c8 c9 : Nat), KCells w b off k A1 A2 A3 A4 A5 A6 A7 A8 A9 m1 m2 m3 m4 m5 m6 m7 m8 m9 c1 c2 c3 c4 c5 c6 c7 c8 c9 := by
  obtain ⟨Aw, At, A1, A2, A3, A4, A5, A6, A7, A8, A9, nw, nt, cw, ct, c1, c2, c3, c4, c5, c6, c7, c8, c9, hc, hp⟩ := h.cells
  obtain ⟨v1, v2, v3, v4, v5, v6, v7, v8, v9, hv, h1, h2, h3, h4, h5, h6, h7, h8, h9, hlo, hhi⟩ := hp
  injection hv with hv
  injection hv with hv
  simp only [List.cons.injEq] at hv
  obtain ⟨_, _, _, _, rfl, rfl, rfl, rfl, rfl, rfl, rfl, rfl, rfl, _⟩ := hv
  exact ⟨A1, A2, A3, A4, A5, A6, A7, A8, A9, _, _, _, _, _, _, _, _, _, c1, c2, c3, c4, c5, c6, c7, c8, c9, hc 7 _ rfl, hc 8 _ rfl, hc 9 _ rfl, hc 10 _ rfl, hc 11 _ rfl, hc 12 _ rfl, hc 13 _ rfl, hc 14 _ rfl, hc 15 _ rfl, hc 16 _ rfl, hc 17 _ rfl, hc 18 _ rfl, hc 19 _ rfl, h1, h2, h6⟩

set_option maxHeartbeats 4000000 in
set_option maxRecDepth 100000 in
theorem lineM_calls (x1 x2 i b off len cl : Nat) (k : Kv) (t : Tv) (w : World) (h1 : w.cell? ⟨x1, 0, none⟩ = some (.slice (some ⟨b, off, none⟩) len cl)) (h2 : w.cell? ⟨x2, 0, none⟩ = some (.int .i64 i)) (hi : i < len) (hk : KnownAt w b (off + i * 20) k) (hos : k.offer.small) (hts : t.vs) :
    Calls Tryz.prog 99 #[t.val, .pointer (some ⟨x1, 0, none⟩), .pointer (some ⟨x2, 0, none⟩)] w (BoolIs (meetsB k.offer t) w) := by
  obtain ⟨A1, A2, A3, A4, A5, A6, A7, A8, A9, m1, m2, m3, m4, m5, m6, m7, m8, m9, c1, c2, c3, c4, c5, c6, c7, c8, c9, K⟩ := hk.open
  have hb0 := below_alloc w (.cells #[.string t.n, .int .i64 t.op, .int .i64 t.e, .string t.u, .string t.r] 143)
  have hbx := termAt_new w t
  have CO := Lib.hid (fun (W : World) => offer_calls k.p.n k.p.u k.p.r k.p.e A1 A2 A3 A4 A5 A6 A7 A8 A9 m1 m2 m3 m4 m5 m6 m7 m8 m9 c1 c2 c3 c4 c5 c6 c7 c8 c9 W)
  have CM := Lib.hid (fun (W : World) (hb : Below w.heap.size w W) => meets_calls k.offer (.slice A6 m6 c6) t W (K.d6.below hb) hos hts)
  unfold Ov.val Tv.val Kv.offer at CM
  simp only at CM
  have i1 : (i : Int) < len := by omega
  have i2 : (0 : Int) ≤ i := by omega
  obtain ⟨W1, hW1⟩ : ∃ W, w.alloc (.cells #[.string t.n, .int .i64 t.op, .int .i64 t.e, .string t.u, .string t.r] 143) = W := ⟨_, rfl⟩
  rw [hW1] at hb0 hbx
  have HS0 := Lib.hid (show (W1.cell? ⟨x1, 0, none⟩ = some (.slice (some ⟨b, off, none⟩) len cl) ∧ W1.cell? ⟨x2, 0, none⟩ = some (.int .i64 i) ∧ W1.cell? ⟨w.heap.size, 0, none⟩ = some (.string t.n) ∧ W1.cell? ⟨w.heap.size, 1, none⟩ = some (.int .i64 t.op) ∧ W1.cell? ⟨w.heap.size, 2, none⟩ = some (.int .i64 t.e) ∧ W1.cell? ⟨w.heap.size, 3, none⟩ = some (.string t.u) ∧ W1.cell? ⟨w.heap.size, 4, none⟩ = some (.string t.r) ∧ W1.cell? ⟨b, off + i * 20 + 7, none⟩ = some (.string k.p.n) ∧ W1.cell? ⟨b, off + i * 20 + 7 + 1, none⟩ = some (.int .i64 k.p.e) ∧ W1.cell? ⟨b, off + i * 20 + 7 + 2, none⟩ = some (.string k.p.u) ∧ W1.cell? ⟨b, off + i * 20 + 7 + 3, none⟩ = some (.string k.p.r) ∧ W1.cell? ⟨b, off + i * 20 + 7 + 4, none⟩ = some (.slice A1 m1 c1) ∧ W1.cell? ⟨b, off + i * 20 + 7 + 5, none⟩ = some (.slice A2 m2 c2) ∧ W1.cell? ⟨b, off + i * 20 + 7 + 6, none⟩ = some (.slice A3 m3 c3) ∧ W1.cell? ⟨b, off + i * 20 + 7 + 7, none⟩ = some (.slice A4 m4 c4) ∧ W1.cell? ⟨b, off + i * 20 + 7 + 8, none⟩ = some (.slice A5 m5 c5) ∧ W1.cell? ⟨b, off + i * 20 + 7 + 9, none⟩ = some (.slice A6 m6 c6) ∧ W1.cell? ⟨b, off + i * 20 + 7 + 10, none⟩ = some (.slice A7 m7 c7) ∧ W1.cell? ⟨b, off + i * 20 + 7 + 11, none⟩ = some (.slice A8 m8 c8) ∧ W1.cell? ⟨b, off + i * 20 + 7 + 12, none⟩ = some (.slice A9 m9 c9)) ∧ Below w.heap.size w W1 from ⟨⟨kept hb0 h1, kept hb0 h2, hbx.c0, hbx.c1, hbx.c2, hbx.c3, hbx.c4, kept hb0 K.p0, kept hb0 K.p1, kept hb0 K.p2, kept hb0 K.p3, kept hb0 K.p4, kept hb0 K.p5, kept hb0 K.p6, kept hb0 K.p7, kept hb0 K.p8, kept hb0 K.p9, kept hb0 K.p10, kept hb0 K.p11, kept hb0 K.p12⟩, hb0⟩)
  obtain ⟨pb, hpb⟩ : ∃ pb, meetsB k.offer t = pb := ⟨_, rfl⟩
  have HPB := Lib.hid hpb
  unfold Kv.offer at hpb
  rw [hpb] at CM
  clear h1 h2 hk K hb0 hbx hi hpb
  rw [HPB.out]
  unfold Tv.val
  go_enter Tryz.func99, Tryz.ntmps99
  go_upto_region 1 with fail
  refine wp_region_held_drew (S := (fun W => (W.cell? ⟨x1, 0, none⟩ = some (.slice (some ⟨b, off, none⟩) len cl) ∧ W.cell? ⟨x2, 0, none⟩ = some (.int .i64 i) ∧ W.cell? ⟨w.heap.size, 0, none⟩ = some (.string t.n) ∧ W.cell? ⟨w.heap.size, 1, none⟩ = some (.int .i64 t.op) ∧ W.cell? ⟨w.heap.size, 2, none⟩ = some (.int .i64 t.e) ∧ W.cell? ⟨w.heap.size, 3, none⟩ = some (.string t.u) ∧ W.cell? ⟨w.heap.size, 4, none⟩ = some (.string t.r) ∧ W.cell? ⟨b, off + i * 20 + 7, none⟩ = some (.string k.p.n) ∧ W.cell? ⟨b, off + i * 20 + 7 + 1, none⟩ = some (.int .i64 k.p.e) ∧ W.cell? ⟨b, off + i * 20 + 7 + 2, none⟩ = some (.string k.p.u) ∧ W.cell? ⟨b, off + i * 20 + 7 + 3, none⟩ = some (.string k.p.r) ∧ W.cell? ⟨b, off + i * 20 + 7 + 4, none⟩ = some (.slice A1 m1 c1) ∧ W.cell? ⟨b, off + i * 20 + 7 + 5, none⟩ = some (.slice A2 m2 c2) ∧ W.cell? ⟨b, off + i * 20 + 7 + 6, none⟩ = some (.slice A3 m3 c3) ∧ W.cell? ⟨b, off + i * 20 + 7 + 7, none⟩ = some (.slice A4 m4 c4) ∧ W.cell? ⟨b, off + i * 20 + 7 + 8, none⟩ = some (.slice A5 m5 c5) ∧ W.cell? ⟨b, off + i * 20 + 7 + 9, none⟩ = some (.slice A6 m6 c6) ∧ W.cell? ⟨b, off + i * 20 + 7 + 10, none⟩ = some (.slice A7 m7 c7) ∧ W.cell? ⟨b, off + i * 20 + 7 + 11, none⟩ = some (.slice A8 m8 c8) ∧ W.cell? ⟨b, off + i * 20 + 7 + 12, none⟩ = some (.slice A9 m9 c9)) ∧ Below w.heap.size w W)) (by kernel_rfl) ?_ (fun hHeld => ?_)
  · exact ⟨HS0.out.1, HS0.out.2.drew⟩
  refine wpAnyH_take (i := 0) (v := ?_) rfl (by kernel_rfl) (by kernel_rfl) (by kernel_rfl) (fun _ _ _ h => h) (Or.inl ⟨by rfl, ?_⟩) (by assumption) ?_
  rotate_left
  · (intro w hSw; (try dsimp only at hSw); go_simp; (try with_reducible rfl))
  (try simp only [List.getElem_toArray, List.getElem_cons_zero, Act.put, List.setIfInBounds_toArray, List.set_cons_zero, List.set_cons_succ])
  refine wpAnyH_take (i := 1) (v := ?_) rfl (by kernel_rfl) (by kernel_rfl) (by kernel_rfl) (fun _ _ _ h => h) (Or.inl ⟨by rfl, ?_⟩) (by assumption) ?_
  rotate_left
  · (intro w hSw; (try dsimp only at hSw); go_simp; (try with_reducible rfl))
  (try simp only [List.getElem_toArray, List.getElem_cons_succ, List.getElem_cons_zero, Act.put, List.setIfInBounds_toArray, List.set_cons_zero, List.set_cons_succ])
  refine wpAnyH_take (i := 2) (v := ?_) rfl (by kernel_rfl) (by kernel_rfl) (by kernel_rfl) (fun _ _ _ h => h) (Or.inl ⟨by rfl, ?_⟩) (by assumption) ?_
  rotate_left
  · (intro w hSw; (try dsimp only at hSw); go_simp; (try with_reducible rfl))
  (try simp only [List.getElem_toArray, List.getElem_cons_succ, List.getElem_cons_zero, Act.put, List.setIfInBounds_toArray, List.set_cons_zero, List.set_cons_succ])
  refine wpAnyH_take (i := 3) (v := ?_) rfl (by kernel_rfl) (by kernel_rfl) (by kernel_rfl) (fun _ _ _ h => h) (Or.inl ⟨by rfl, ?_⟩) (by assumption) ?_
  rotate_left
  · (intro w hSw; (try dsimp only at hSw); go_simp; (try with_reducible rfl))
  (try simp only [List.getElem_toArray, List.getElem_cons_succ, List.getElem_cons_zero, Act.put, List.setIfInBounds_toArray, List.set_cons_zero, List.set_cons_succ])
  refine wpAnyH_take (i := 4) (v := ?_) rfl (by kernel_rfl) (by kernel_rfl) (by kernel_rfl) (fun _ _ _ h => h) (Or.inl ⟨by rfl, ?_⟩) (by assumption) ?_
  rotate_left
  · (intro w hSw; (try dsimp only at hSw); go_simp; (try with_reducible rfl))
  (try simp only [List.getElem_toArray, List.getElem_cons_succ, List.getElem_cons_zero, Act.put, List.setIfInBounds_toArray, List.set_cons_zero, List.set_cons_succ])
  refine wpAnyH_take (i := 6) (v := ?_) rfl (by kernel_rfl) (by kernel_rfl) (by kernel_rfl) (fun _ _ _ h => h) (Or.inl ⟨by rfl, ?_⟩) (by assumption) ?_
  rotate_left
  · (intro w hSw; (try dsimp only at hSw); go_simp; (try with_reducible rfl))
  (try simp only [List.getElem_toArray, List.getElem_cons_succ, List.getElem_cons_zero, Act.put, List.setIfInBounds_toArray, List.set_cons_zero, List.set_cons_succ])
  refine wpAnyH_ready (rs := [5]) (by kernel_rfl) (by simp) ?_
  refine AllReadyH.cons rfl (fun K hK => ?_) AllReadyH.nil
  go_simp
  go_at_call 101
  refine Calls.mono (CO.out _) ?_
  rintro E y1 ⟨rfl, hby1⟩
  (try go_wp2_with fail)
  refine hK.out _ _ ?_ (fun hHeld2 => ?_)
  · exact ⟨⟨kept hby1 hHeld.1.1, kept hby1 hHeld.1.2.1, kept hby1 hHeld.1.2.2.1, kept hby1 hHeld.1.2.2.2.1, kept hby1 hHeld.1.2.2.2.2.1, kept hby1 hHeld.1.2.2.2.2.2.1, kept hby1 hHeld.1.2.2.2.2.2.2.1, kept hby1 hHeld.1.2.2.2.2.2.2.2.1, kept hby1 hHeld.1.2.2.2.2.2.2.2.2.1, kept hby1 hHeld.1.2.2.2.2.2.2.2.2.2.1, kept hby1 hHeld.1.2.2.2.2.2.2.2.2.2.2.1, kept hby1 hHeld.1.2.2.2.2.2.2.2.2.2.2.2.1, kept hby1 hHeld.1.2.2.2.2.2.2.2.2.2.2.2.2.1, kept hby1 hHeld.1.2.2.2.2.2.2.2.2.2.2.2.2.2.1, kept hby1 hHeld.1.2.2.2.2.2.2.2.2.2.2.2.2.2.2.1, kept hby1 hHeld.1.2.2.2.2.2.2.2.2.2.2.2.2.2.2.2.1, kept hby1 hHeld.1.2.2.2.2.2.2.2.2.2.2.2.2.2.2.2.2.1, kept hby1 hHeld.1.2.2.2.2.2.2.2.2.2.2.2.2.2.2.2.2.2.1, kept hby1 hHeld.1.2.2.2.2.2.2.2.2.2.2.2.2.2.2.2.2.2.2.1, kept hby1 hHeld.1.2.2.2.2.2.2.2.2.2.2.2.2.2.2.2.2.2.2.2⟩, hHeld.2.trans (hby1.mono hHeld.2.size)⟩
  clear hK K hHeld
  have hHeld := hHeld2
  clear hHeld2
  (try simp only [List.getElem_toArray, List.getElem_cons_succ, List.getElem_cons_zero, Act.put, List.setIfInBounds_toArray, List.set_cons_zero, List.set_cons_succ])
  refine wpAnyH_ready (rs := [7]) (by kernel_rfl) (by simp) ?_
  refine AllReadyH.cons rfl (fun K hK => ?_) AllReadyH.nil
  go_simp
  go_at_call 100
  refine Calls.mono (CM.out _ hHeld.2) ?_
  rintro E y2 ⟨rfl, hby2⟩
  (try go_wp2_with fail)
  refine hK.out _ _ ?_ (fun hHeld2 => ?_)
  · exact ⟨⟨kept hby2 hHeld.1.1, kept hby2 hHeld.1.2.1, kept hby2 hHeld.1.2.2.1, kept hby2 hHeld.1.2.2.2.1, kept hby2 hHeld.1.2.2.2.2.1, kept hby2 hHeld.1.2.2.2.2.2.1, kept hby2 hHeld.1.2.2.2.2.2.2.1, kept hby2 hHeld.1.2.2.2.2.2.2.2.1, kept hby2 hHeld.1.2.2.2.2.2.2.2.2.1, kept hby2 hHeld.1.2.2.2.2.2.2.2.2.2.1, kept hby2 hHeld.1.2.2.2.2.2.2.2.2.2.2.1, kept hby2 hHeld.1.2.2.2.2.2.2.2.2.2.2.2.1, kept hby2 hHeld.1.2.2.2.2.2.2.2.2.2.2.2.2.1, kept hby2 hHeld.1.2.2.2.2.2.2.2.2.2.2.2.2.2.1, kept hby2 hHeld.1.2.2.2.2.2.2.2.2.2.2.2.2.2.2.1, kept hby2 hHeld.1.2.2.2.2.2.2.2.2.2.2.2.2.2.2.2.1, kept hby2 hHeld.1.2.2.2.2.2.2.2.2.2.2.2.2.2.2.2.2.1, kept hby2 hHeld.1.2.2.2.2.2.2.2.2.2.2.2.2.2.2.2.2.2.1, kept hby2 hHeld.1.2.2.2.2.2.2.2.2.2.2.2.2.2.2.2.2.2.2.1, kept hby2 hHeld.1.2.2.2.2.2.2.2.2.2.2.2.2.2.2.2.2.2.2.2⟩, hHeld.2.trans (hby2.mono hHeld.2.size)⟩
  clear hK K hHeld
  have hHeld := hHeld2
  clear hHeld2
  (try simp only [List.getElem_toArray, List.getElem_cons_succ, List.getElem_cons_zero, Act.put, List.setIfInBounds_toArray, List.set_cons_zero, List.set_cons_succ])
  refine wpAnyH_take (i := 8) (v := ?_) rfl (by kernel_rfl) (by kernel_rfl) (by kernel_rfl) (fun _ _ _ h => h) (Or.inl ⟨by rfl, ?_⟩) (by assumption) ?_
  rotate_left
  · (intro w hSw; (try dsimp only at hSw); go_simp; (try with_reducible rfl))
  (try simp only [List.getElem_toArray, List.getElem_cons_succ, List.getElem_cons_zero, Act.put, List.setIfInBounds_toArray, List.set_cons_zero, List.set_cons_succ])
  refine wpAnyH_done (by kernel_rfl) ?_ _
  have HB := Lib.hid hHeld.2
  clear hHeld
  go_wp2_with fail
  go_ret
  exact ⟨rfl, HB.out⟩

set_option maxHeartbeats 1000000 in
set_option maxRecDepth 100000 in
theorem idxM_calls (v : Value) (ts : List Tv) (x1 x2 : Nat) (p : Tv → Bool) (w : World) (h : TermsAt w v ts) (C : ∀ (W : World) (x : Tv), Below w.heap.size w W → x ∈ ts → Calls Tryz.prog 99 #[x.val, .pointer (some ⟨x1, 0, none⟩), .pointer (some ⟨x2, 0, none⟩)] W (BoolIs (p x) W)) :
    Calls Tryz.prog 167 #[v, .func (.func 99) #[] #[.pointer (some ⟨x1, 0, none⟩), .pointer (some ⟨x2, 0, none⟩)]] w (IdxIs (ts.any p) w) := by
  obtain ⟨A, c, rfl, hc, hm, hr⟩ := h
  obtain ⟨len, hlen⟩ : ∃ len, ts.length = len := ⟨_, rfl⟩
  have HL := Lib.hid hlen
  have HR := Lib.hid hr
  have HC := Lib.hid C
  rw [hlen] at hc hm ⊢
  clear hlen hr C
  go_enter Tryz.func167, Tryz.ntmps167
  go_wp2_with fail
  go_loopw [8] (fun i wr => ∃ k : Nat, k ≤ len ∧ i = .int .i64 k ∧ Hid ((ts.take k).any p = false) ∧ Below w.heap.size w wr) (fun i _ => len - (intOf i).toNat)
  case atStart => exact ⟨0, Nat.zero_le _, rfl, rfl, Below.refl _ _⟩
  case round =>
    obtain ⟨k, hk, rfl, hall, hB⟩ := hrel
    by_cases hlt : k < len
    · have hne : ts ≠ [] := by
        intro e
        have := HL.out
        rw [e] at this
        simp at this
        omega
      obtain ⟨t, ht⟩ : ∃ t, ts[k]? = some t := ⟨ts[k]'(by have := HL.out; omega), List.getElem?_eq_getElem _⟩
      obtain ⟨b', off, rfl, hi⟩ := HR.out hne
      obtain ⟨hT0, _⟩ := hi k t ht
      clear hi hne
      have hT := hT0.below hB
      obtain ⟨c0, c1, c2, c3, c4⟩ := hT
      have HT := Lib.hid ht
      have H := Lib.hid (HC.out wr t hB (List.mem_of_getElem? ht))
      unfold Tv.val at H
      obtain ⟨pb, hpb⟩ : ∃ pb, p t = pb := ⟨_, rfl⟩
      have HP := Lib.hid hpb
      rw [hpb] at H
      clear ht hT0 hpb
      go_wp2_with fail
      refine H.out.mono ?_
      rintro E w1 ⟨rfl, hb⟩
      have hB := step_below hB hb
      clear hb c0 c1 c2 c3 c4 H
      cases pb with
      | true =>
        go_wp2_with fail
        go_ret
        exact ⟨_, rfl, by rw [any_stop HT.out HP.out]; simp, hB⟩
      | false =>
        go_wp2_with fail
        go_roundw
        case rel => exact ⟨k + 1, by omega, by go_num, Lib.hid (any_take_succ hall.out HT.out HP.out), hB⟩
        case measure => simp [intOf]; omega
    · obtain rfl : k = len := by omega
      go_wp2_with fail
      go_ret
      exact ⟨_, rfl, by have := hall.out; rw [← HL.out] at this; rw [any_done this]; simp, hB⟩

set_option maxRecDepth 100000 in
theorem hasM_calls (v : Value) (ts : List Tv) (x1 x2 : Nat) (p : Tv → Bool) (w : World) (h : TermsAt w v ts) (C : ∀ (W : World) (x : Tv), Below w.heap.size w W → x ∈ ts → Calls Tryz.prog 99 #[x.val, .pointer (some ⟨x1, 0, none⟩), .pointer (some ⟨x2, 0, none⟩)] W (BoolIs (p x) W)) :
    Calls Tryz.prog 98 #[v, .func (.func 99) #[] #[.pointer (some ⟨x1, 0, none⟩), .pointer (some ⟨x2, 0, none⟩)]] w (BoolIs (ts.any p) w) := by
  have H := Lib.hid (idxM_calls v ts x1 x2 p w h C)
  clear h C
  go_enter Tryz.func98, Tryz.ntmps98
  go_wp2_with fail
  refine H.out.mono ?_
  rintro E w1 ⟨i, rfl, hi, hb⟩
  have HI := Lib.hid hi
  clear hi
  by_cases h0 : 0 ≤ i
  · go_wp2_with fail
    go_ret
    exact ⟨ret_bool (by rw [← HI.out]; simp [h0]), hb⟩
  · go_wp2_with fail
    go_ret
    exact ⟨ret_bool HI.out, hb⟩

end Go.Proofs.YtpbbhjifgaeklaaGreatDoor

namespace Go.Proofs.YtpbbhjifgaeklaaGreatDoor
open Go Go.RowKit

/-- cells that read as packages that are there -/
def OffersRow (w : World) (os : List Ov) (xs : List Value) : Prop := xs.length = os.length * 5 ∧ ∀ (i : Nat) (o : Ov), os[i]? = some o →
  ∃ vp, xs[i * 5]? = some (.string o.n) ∧ xs[i * 5 + 1]? = some (.int .i64 o.e) ∧ xs[i * 5 + 2]? = some (.string o.u) ∧ xs[i * 5 + 3]? = some (.string o.r) ∧ xs[i * 5 + 4]? = some vp ∧ TermsAt w vp o.ps
theorem OffersRow.below {w w' : World} {os : List Ov} {xs : List Value} (h : OffersRow w os xs) (hb : Below w.heap.size w w') : OffersRow w' os xs :=
  ⟨h.1, fun i o ho => by
    obtain ⟨vp, h0, h1, h2, h3, h4, h5⟩ := h.2 i o ho
    exact ⟨vp, h0, h1, h2, h3, h4, h5.below hb⟩⟩
theorem OffersRow.append {w : World} {a b : List Ov} {xs ys : List Value} (h : OffersRow w a xs) (k : OffersRow w b ys) : OffersRow w (a ++ b) (xs ++ ys) := by
  refine ⟨by rw [List.length_append, List.length_append, h.1, k.1, Nat.add_mul], fun i o ho => ?_⟩
  by_cases hi : i < a.length
  · rw [List.getElem?_append_left hi] at ho
    obtain ⟨vp, h0, h1, h2, h3, h4, h5⟩ := h.2 i o ho
    have hlen := h.1
    refine ⟨vp, ?_, ?_, ?_, ?_, ?_, h5⟩ <;> (rw [List.getElem?_append_left (by omega)]; assumption)
  · rw [List.getElem?_append_right (by omega)] at ho
    obtain ⟨vp, h0, h1, h2, h3, h4, h5⟩ := k.2 _ o ho
    have hlen := h.1
    have e : (i - a.length) * 5 = i * 5 - xs.length := by rw [hlen, Nat.sub_mul]
    have hge : xs.length ≤ i * 5 := by omega
    refine ⟨vp, ?_, ?_, ?_, ?_, ?_, h5⟩
    · rw [List.getElem?_append_right (by omega), ← e]; exact h0
    · rw [List.getElem?_append_right (by omega), show i * 5 + 1 - xs.length = (i - a.length) * 5 + 1 by omega]; exact h1
    · rw [List.getElem?_append_right (by omega), show i * 5 + 2 - xs.length = (i - a.length) * 5 + 2 by omega]; exact h2
    · rw [List.getElem?_append_right (by omega), show i * 5 + 3 - xs.length = (i - a.length) * 5 + 3 by omega]; exact h3
    · rw [List.getElem?_append_right (by omega), show i * 5 + 4 - xs.length = (i - a.length) * 5 + 4 by omega]; exact h4

theorem OffersRow.one {w : World} {os : List Ov} {xs : List Value} (h : OffersRow w os xs) : ∀ u ∈ xs, u.oneCell' = true := by
  intro u hu
  obtain ⟨j, hj⟩ := List.mem_iff_getElem?.1 hu
  have hlt := (List.getElem?_eq_some_iff.1 hj).1
  rw [h.1] at hlt
  obtain ⟨vp, h0, h1, h2, h3, h4, A, c, hv, _⟩ := h.2 (j / 5) _ (List.getElem?_eq_getElem (by omega))
  obtain hr | hr | hr | hr | hr : j = j / 5 * 5 ∨ j = j / 5 * 5 + 1 ∨ j = j / 5 * 5 + 2 ∨ j = j / 5 * 5 + 3 ∨ j = j / 5 * 5 + 4 := by omega
  · rw [hr, h0] at hj; rw [← Option.some.inj hj]; rfl
  · rw [hr, h1] at hj; rw [← Option.some.inj hj]; rfl
  · rw [hr, h2] at hj; rw [← Option.some.inj hj]; rfl
  · rw [hr, h3] at hj; rw [← Option.some.inj hj]; rfl
  · rw [hr, h4] at hj; rw [← Option.some.inj hj, hv]; rfl

/-- what a slice of packages yields -/
theorem OffersAt.src {w : World} {v : Value} {os : List Ov} (h : OffersAt w v os) : ∃ xs, SrcIs w v os.length xs ∧ OffersRow w os xs := by
  obtain ⟨A, c, rfl, hc, hm, hr⟩ := h
  by_cases hn : os = []
  · subst hn
    exact ⟨[], ⟨A, c, rfl, fun h => absurd rfl h⟩, rfl, fun i o ho => by cases ho⟩
  · obtain ⟨b, off, rfl, hi⟩ := hr hn
    have at_ : ∀ i r, r < 5 → i < os.length → ∃ u, w.cell? ⟨b, off + (i * 5 + r), none⟩ = some u := by
      intro i r h5 hlt
      obtain ⟨vp, h0, h1, h2, h3, h4, _⟩ := hi i _ (List.getElem?_eq_getElem hlt)
      obtain rfl | rfl | rfl | rfl | rfl : r = 0 ∨ r = 1 ∨ r = 2 ∨ r = 3 ∨ r = 4 := by omega
      · exact ⟨_, h0⟩
      · exact ⟨_, by rw [← Nat.add_assoc]; exact h1⟩
      · exact ⟨_, by rw [← Nat.add_assoc]; exact h2⟩
      · exact ⟨_, by rw [← Nat.add_assoc]; exact h3⟩
      · exact ⟨_, by rw [← Nat.add_assoc]; exact h4⟩
    have get : ∀ j u, w.cell? ⟨b, off + j, none⟩ = some u → j < os.length * 5 → ((List.range (os.length * 5)).map fun j => (w.cell? ⟨b, off + j, none⟩).getD .nilIface)[j]? = some u := by
      intro j u hu hj
      rw [List.getElem?_map, List.getElem?_range hj, Option.map_some, hu]
      rfl
    refine ⟨(List.range (os.length * 5)).map fun j => (w.cell? ⟨b, off + j, none⟩).getD .nilIface, ⟨_, c, rfl, fun _ => ⟨b, off, rfl, fun j u hj => ?_⟩⟩, by simp, fun i o ho => ?_⟩
    · rw [List.getElem?_map] at hj
      by_cases hlt : j < os.length * 5
      · rw [List.getElem?_range hlt, Option.map_some] at hj
        have hj' := Option.some.inj hj
        obtain ⟨u', hu'⟩ := at_ (j / 5) (j % 5) (Nat.mod_lt _ (by omega)) (by omega)
        rw [show j / 5 * 5 + j % 5 = j by omega] at hu'
        rw [hu'] at hj'
        rw [hu', ← hj']
        rfl
      · rw [List.getElem?_eq_none (by rw [List.length_range]; omega)] at hj
        cases hj
    · obtain ⟨vp, h0, h1, h2, h3, h4, h5⟩ := hi i o ho
      have hlt : i < os.length := (List.getElem?_eq_some_iff.1 ho).1
      refine ⟨vp, get _ _ h0 (by omega), get _ _ (by rw [← Nat.add_assoc]; exact h1) (by omega), get _ _ (by rw [← Nat.add_assoc]; exact h2) (by omega), get _ _ (by rw [← Nat.add_assoc]; exact h3) (by omega), get _ _ (by rw [← Nat.add_assoc]; exact h4) (by omega), h5⟩

theorem offers_of_own {w : World} {base : Nat} {v : Value} {n : Nat} {xs : List Value} {os : List Ov} (h : w.ownsRow base 84 5 v n xs) (hn : n = os.length) (hb : n ≤ 9223372036854775807) (hr : OffersRow w os xs) : OffersAt w v os := by
  subst hn
  rcases h.2 with ⟨rfl, h0⟩ | ⟨g, cap, cur, rfl, hg, hk, hc, hm, hs, ht⟩
  · refine ⟨none, 0, by rw [h0], by omega, hb, fun hne => ?_⟩
    exact absurd (List.eq_nil_of_length_eq_zero h0) hne
  · refine ⟨some ⟨g, 0, none⟩, cap, rfl, hc, hb, fun _ => ⟨g, 0, rfl, fun i o ho => ?_⟩⟩
    obtain ⟨vp, h0, h1, h2, h3, h4, h5⟩ := hr.2 i o ho
    have cell : ∀ j u, xs[j]? = some u → w.cell? ⟨g, 0 + j, none⟩ = some u := fun j u hj => by
      have := h.cells (g := g) rfl j u hj
      rwa [Go.WideShapes.add_plain] at this
    refine ⟨vp, cell _ _ h0, ?_, ?_, ?_, ?_, h5⟩
    · rw [Nat.add_assoc]; exact cell _ _ h1
    · rw [Nat.add_assoc]; exact cell _ _ h2
    · rw [Nat.add_assoc]; exact cell _ _ h3
    · rw [Nat.add_assoc]; exact cell _ _ h4

/-- cells that read as lists of terms -/
def AskedRow (w : World) (L : List (List Tv)) (xs : List Value) : Prop := xs.length = L.length ∧ ∀ (i : Nat) (x : List Tv), L[i]? = some x → ∃ vx, xs[i]? = some vx ∧ TermsAt w vx x
theorem AskedRow.below {w w' : World} {L : List (List Tv)} {xs : List Value} (h : AskedRow w L xs) (hb : Below w.heap.size w w') : AskedRow w' L xs :=
  ⟨h.1, fun i x hx => by
    obtain ⟨vx, h0, h1⟩ := h.2 i x hx
    exact ⟨vx, h0, h1.below hb⟩⟩
theorem AskedRow.append {w : World} {L M : List (List Tv)} {xs ys : List Value} (h : AskedRow w L xs) (k : AskedRow w M ys) : AskedRow w (L ++ M) (xs ++ ys) := by
  refine ⟨by rw [List.length_append, List.length_append, h.1, k.1], fun i x hx => ?_⟩
  have hlen := h.1
  by_cases hi : i < L.length
  · rw [List.getElem?_append_left hi] at hx
    obtain ⟨vx, h0, h1⟩ := h.2 i x hx
    exact ⟨vx, by rw [List.getElem?_append_left (by omega)]; exact h0, h1⟩
  · rw [List.getElem?_append_right (by omega)] at hx
    obtain ⟨vx, h0, h1⟩ := k.2 _ x hx
    exact ⟨vx, by rw [List.getElem?_append_right (by omega), hlen]; exact h0, h1⟩
theorem AskedRow.one {w : World} {L : List (List Tv)} {xs : List Value} (h : AskedRow w L xs) : ∀ u ∈ xs, u.oneCell' = true := by
  intro u hu
  obtain ⟨j, hj⟩ := List.mem_iff_getElem?.1 hu
  have hlt := (List.getElem?_eq_some_iff.1 hj).1
  rw [h.1] at hlt
  obtain ⟨vx, h0, A, c, hv, _⟩ := h.2 j _ (List.getElem?_eq_getElem (by omega))
  rw [h0] at hj
  rw [← Option.some.inj hj, hv]; rfl
theorem AskedAt.src {w : World} {v : Value} {L : List (List Tv)} (h : AskedAt w v L) : ∃ xs, SrcIs w v L.length xs ∧ AskedRow w L xs := by
  obtain ⟨A, c, rfl, hc, hm, hr⟩ := h
  by_cases hn : L = []
  · subst hn
    exact ⟨[], ⟨A, c, rfl, fun h => absurd rfl h⟩, rfl, fun i o ho => by cases ho⟩
  · obtain ⟨b, off, rfl, hi⟩ := hr hn
    refine ⟨(List.range L.length).map fun j => (w.cell? ⟨b, off + j, none⟩).getD .nilIface, ⟨_, c, rfl, fun _ => ⟨b, off, rfl, fun j u hj => ?_⟩⟩, by simp, fun i x hx => ?_⟩
    · rw [List.getElem?_map] at hj
      by_cases hlt : j < L.length
      · rw [List.getElem?_range hlt, Option.map_some] at hj
        have hj' := Option.some.inj hj
        obtain ⟨u', hu', _⟩ := hi j _ (List.getElem?_eq_getElem hlt)
        rw [hu'] at hj'
        rw [hu', ← hj']
        rfl
      · rw [List.getElem?_eq_none (by rw [List.length_range]; omega)] at hj
        cases hj
    · obtain ⟨vx, h0, h1⟩ := hi i x hx
      have hlt : i < L.length := (List.getElem?_eq_some_iff.1 hx).1
      exact ⟨vx, by rw [List.getElem?_map, List.getElem?_range hlt, Option.map_some, h0]; rfl, h1⟩

theorem info_offer : (Tryz.prog.info? 84).map (fun i => (i.zero, i.size, i.bytes)) = some (some (.agg #[.string ⟨#[]⟩, .int .i64 0, .string ⟨#[]⟩, .string ⟨#[]⟩, .slice none 0 0]), 5, 80) := by kernel_rfl

/-! the plain law -/
theorem met_mono {L : List (List Tv)} {a b : List Ov} (hab : ∀ o ∈ a, o ∈ b) (h : metB L a = true) : metB L b = true := by
  unfold metB at h ⊢
  rw [List.all_eq_true] at h ⊢
  intro x hx
  have h1 := h x hx
  unfold metX at h1 ⊢
  rw [List.any_eq_true] at h1 ⊢
  obtain ⟨t, ht, h2⟩ := h1
  rw [List.any_eq_true] at h2
  obtain ⟨o, ho, h3⟩ := h2
  exact ⟨t, ht, List.any_eq_true.2 ⟨o, hab o ho, h3⟩⟩
end Go.Proofs.YtpbbhjifgaeklaaGreatDoor

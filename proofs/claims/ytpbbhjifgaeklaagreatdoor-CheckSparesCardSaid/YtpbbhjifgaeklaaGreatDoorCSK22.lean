/- order.settle: the walk. -/
import Derived.Test.YtpbbhjifgaeklaaGreatDoorCSK21
import Derived.Deep.OwnRows
import Derived.Test.YtpbbhjifgaeklaaGreatDoorCSK18
namespace Go.Proofs.YtpbbhjifgaeklaaGreatDoor
open Go Go.RowKit
open TJ (EdgeN hasN g0 arrT fillT ofT waitsT bestStep bestT settleT orderT EdgesOk headT Told)

theorem info_bool : (Tryz.prog.info? 4).map (fun i => (i.zero, i.size, i.bytes)) = some (some (.bool false), 1, 1) := by kernel_rfl
theorem made_nats (n : Nat) : madeCells #[.int .i64 0] n = natA (List.replicate n 0) := by
  apply Array.ext
  · simp [size_madeCells, natA]
  · intro i h1 h2
    simp [madeCells, natA, Nat.mod_one]
theorem made_bools (n : Nat) : madeCells #[.bool false] n = boolA (List.replicate n false) := by
  apply Array.ext
  · simp [size_madeCells, boolA]
  · intro i h1 h2
    simp [madeCells, boolA, Nat.mod_one]

/-- a slice of rows of numbers -/
def oneC (v : Value) : List Value := [v]
def SetsAt (W : World) (v : Value) (S : List (List Nat)) : Prop := ∃ vals : List Value, SlC oneC W v vals ∧ vals.length = S.length ∧ ∀ (i : Nat) (x : List Nat), S[i]? = some x → ∃ vi, vals[i]? = some vi ∧ NatsAt W vi x
theorem flat_one (l : List Value) : l.flatMap oneC = l := by
  induction l with
  | nil => rfl
  | cons a r ih => rw [List.flatMap_cons, ih]; rfl
theorem SetsAt.below {w w' : World} {v : Value} {S : List (List Nat)} (h : SetsAt w v S) (hb : Below w.heap.size w w') : SetsAt w' v S := by
  obtain ⟨vals, h1, h2, h3⟩ := h
  exact ⟨vals, h1.below hb, h2, fun i x hx => by
    obtain ⟨vi, hv, hn⟩ := h3 i x hx
    exact ⟨vi, hv, hn.below hb⟩⟩
/-- its cells, where no row is empty -/
def SetCell (W : World) (bs os : Nat) (S : List (List Nat)) : Prop := ∀ (j : Nat) (x : List Nat), S[j]? = some x → ∃ b o c, W.cell? ⟨bs, os + j, none⟩ = some (.slice (some ⟨b, o, none⟩) x.length c) ∧ x.length ≤ c ∧ x.length ≤ 9223372036854775807 ∧ (∀ (t u : Nat), x[t]? = some u → W.cell? ⟨b, o + t, none⟩ = some (.int .i64 u)) ∧ NatsAt W (.slice (some ⟨b, o, none⟩) x.length c) x
theorem SetsAt.open {W : World} {v : Value} {S : List (List Nat)} (h : SetsAt W v S) (hne : ∀ x, x ∈ S → x ≠ []) : ∃ A c, v = .slice A S.length c ∧ S.length ≤ c ∧ S.length ≤ 9223372036854775807 ∧ (S ≠ [] → ∃ bs os, A = some ⟨bs, os, none⟩ ∧ SetCell W bs os S) := by
  obtain ⟨vals, ⟨A, c, hv, hc, hm, hr⟩, hl, he⟩ := h
  rw [hl] at hv hc hm
  refine ⟨A, c, hv, hc, hm, fun hn => ?_⟩
  obtain ⟨bs, os, hA, hi⟩ := hr (fun e => hn (List.eq_nil_of_length_eq_zero (by rw [← hl, e]; rfl)))
  refine ⟨bs, os, hA, fun j x hx => ?_⟩
  obtain ⟨vi, hvi, hn⟩ := he j x hx
  have h1 := hi j vi (by rw [flat_one]; exact hvi)
  obtain ⟨A', c', rfl, hc', hm', hr'⟩ := hn.open
  obtain ⟨b, o, rfl, hi'⟩ := hr' (hne x (List.mem_of_getElem? hx))
  exact ⟨b, o, c', h1, hc', hm', hi', hn⟩

/-- what settle has made, as it stands -/
structure SetW (w : World) (n len : Nat) (arr : List Nat) (dn : List Bool) (W : World) : Prop where
  g : Blk 3 W w.heap.size (natA arr)
  x : Blk 40 W (w.heap.size + 1) #[.slice (some ⟨w.heap.size, 0, none⟩) n n]
  d : Blk 4 W (w.heap.size + 2) (boolA dn)
  y : Blk 69 W (w.heap.size + 3) #[.slice (some ⟨w.heap.size + 2, 0, none⟩) len len]
  b : Below w.heap.size w W
  s : w.heap.size + 4 ≤ W.heap.size
theorem SetW.below {w W W' : World} {n len : Nat} {arr : List Nat} {dn : List Bool} (h : SetW w n len arr dn W) (hb : Below W.heap.size W W') : SetW w n len arr dn W' :=
  ⟨h.g.keep hb, h.x.keep hb, h.d.keep hb, h.y.keep hb, h.b.trans (hb.mono (by have := h.s; omega)), Nat.le_trans h.s hb.size⟩
theorem SetW.set {w W : World} {n len i : Nat} {arr : List Nat} {dn : List Bool} (h : SetW w n len arr dn W) : SetW w n len arr (dn.set i true) (W.setCell ⟨w.heap.size + 2, i, none⟩ (.bool true)) := by
  have h3 := h.d.set i (.bool true)
  rw [boolA_set] at h3
  exact ⟨h.g.other (by omega) _ _, h.x.other (by omega) _ _, h3, h.y.other (by omega) _ _, h.b.setCell (by show w.heap.size ≤ w.heap.size + 2; omega) _, by have := h.s; simp [World.setCell]; omega⟩
theorem SetW.grown {w W W' : World} {n len : Nat} {arr : List Nat} {dn : List Bool} {o : Obj} {r : Option Nat} (h : SetW w n len arr dn W) (hg : (W.alloc o).grownBy W' r) (hr : ∀ k, r = some k → w.heap.size + 4 ≤ k) : SetW w n len arr dn W' := by
  have hb := below_alloc W o
  have hk : ∀ i, i < w.heap.size + 4 → W'.heap[i]? = W.heap[i]? := fun i hi => (hg.block i (by have := h.s; have := hb.size; omega) (fun e => by have := hr i e.symm; omega)).trans (hb.block i (by have := h.s; omega))
  exact ⟨(hk _ (by omega)).trans h.g, (hk _ (by omega)).trans h.x, (hk _ (by omega)).trans h.d, (hk _ (by omega)).trans h.y, ⟨hg.os.trans h.b.os, hg.tape.trans h.b.tape, hg.output.trans h.b.output, Nat.le_trans h.b.size (Nat.le_trans hb.size hg.size), fun i hi => (hk i (by omega)).trans (h.b.block i hi)⟩, by have := h.s; have := hb.size; have := hg.size; omega⟩
/-- the rows that are told so far: each lay there ahead -/
def RowsO (w : World) (vals : List Value) (S : List (List Nat)) : Prop := vals.length = S.length ∧ ∀ (i : Nat) (x : List Nat), S[i]? = some x → ∃ vi, vals[i]? = some vi ∧ NatsAt w vi x
theorem RowsO.snoc {w : World} {vals : List Value} {S : List (List Nat)} {v : Value} {x : List Nat} (h : RowsO w vals S) (hv : NatsAt w v x) : RowsO w (vals ++ [v]) (S ++ [x]) := by
  refine ⟨by rw [List.length_append, List.length_append, h.1]; rfl, fun i y hy => ?_⟩
  by_cases hi : i < S.length
  · rw [List.getElem?_append_left hi] at hy
    obtain ⟨vi, h1, h2⟩ := h.2 i y hy
    exact ⟨vi, by rw [List.getElem?_append_left (by rw [h.1]; exact hi)]; exact h1, h2⟩
  · have h1 := (List.getElem?_eq_some_iff.1 hy).1
    rw [List.length_append, List.length_singleton] at h1
    have h2 : i = S.length := by omega
    subst h2
    have h3 : x = y := by simpa using hy
    subst h3
    exact ⟨v, by rw [← h.1]; simp, hv⟩

def bestV : Option Nat → Int
  | none => -1
  | some k => k
def lenV : Value → Nat
  | .slice _ n _ => n
  | _ => 0
theorem waits_eq {S : List (List Nat)} {l : List EdgeN} {arr : List Nat} {dn : List Bool} {n i : Nat} (ha : ∀ v, v < n → g0 arr v = ofT S v) (hel : ∀ e, e ∈ l → e.1 < n ∧ e.2 < n) : (l.any fun e => waitB arr dn i e) = waitsT S l dn i := by
  unfold waitsT
  induction l with
  | nil => rfl
  | cons e l ih =>
    rw [List.any_cons, List.any_cons, ih fun x hx => hel x (List.mem_cons_of_mem _ hx)]
    have h := hel e List.mem_cons_self
    congr 1
    unfold waitB
    rw [ha _ h.1, ha _ h.2]

set_option maxHeartbeats 8000000 in
set_option maxRecDepth 100000 in
theorem settle_calls (n : Nat) (ve vs : Value) (l : List EdgeN) (S : List (List Nat)) (w : World) (hn : n ≤ 40) (hS1 : S.length ≤ n) (he : EdgesAt w ve l) (hv : SetsAt w vs S) (hnd : S.flatten.Nodup) (hlt : ∀ v, v ∈ S.flatten → v < n) (hne : ∀ x, x ∈ S → x ≠ []) (hel : ∀ e, e ∈ l → e.1 < n ∧ e.2 < n) (hall : ∀ v, v < n → ∃ x, x ∈ S ∧ v ∈ x) (hok : EdgesOk S l) :
    Calls Tryz.prog 231 #[.int .i64 n, ve, vs] w fun E w' => ∃ v', E = .returned v' ∧ SetsAt w' v' (orderT S l) ∧ Below w.heap.size w w' := by
  obtain ⟨A, c, rfl, hc, hm, hr⟩ := hv.open hne
  obtain ⟨len, hlen⟩ : ∃ len, S.length = len := ⟨_, rfl⟩
  have HL := Lib.hid hlen
  have HR := Lib.hid hr
  have HV := Lib.hid hv
  have HE := Lib.hid he
  have HND := Lib.hid hnd
  have HLT := Lib.hid hlt
  have HNE := Lib.hid hne
  have HEL := Lib.hid hel
  have HALL := Lib.hid hall
  have HOK := Lib.hid hok
  rw [hlen] at hc hm hS1 ⊢
  clear hlen hr hv he hnd hlt hne hel hall hok
  have hmk : ∀ W : World, (Instr.makeSlice 40 (.int .i64 n) (.int .i64 n)).run Tryz.prog W = .ok (.slice (some ⟨W.heap.size, 0, none⟩) n n) (W.alloc (.cells (natA (List.replicate n 0)) 3)) := fun W => by
    have := run_make_row' (P := Tryz.prog) 40 3 (.int .i64 0) 8 Tryz.underlying40 info_int rfl .i64 .i64 n (by omega) (by omega) W
    rwa [made_nats] at this
  have hmb : ∀ W : World, (Instr.makeSlice 69 (.int .i64 len) (.int .i64 len)).run Tryz.prog W = .ok (.slice (some ⟨W.heap.size, 0, none⟩) len len) (W.alloc (.cells (boolA (List.replicate len false)) 4)) := fun W => by
    have := run_make_row' (P := Tryz.prog) 69 4 (.bool false) 1 Tryz.underlying69 info_bool rfl .i64 .i64 len (by omega) (by omega) W
    rwa [made_bools] at this
  have hb1 := below_alloc w (.cells (natA (List.replicate n 0)) 3)
  have hg1 := blk_new 3 w (natA (List.replicate n 0))
  obtain ⟨W1, hW1⟩ : ∃ W, w.alloc (.cells (natA (List.replicate n 0)) 3) = W := ⟨_, rfl⟩
  have hs1 : W1.heap.size = w.heap.size + 1 := by rw [← hW1]; exact World.size_alloc _ _
  rw [hW1] at hb1 hg1
  have hb2 := hb1.trans ((below_alloc W1 (.cells #[.slice (some ⟨w.heap.size, 0, none⟩) n n] 40)).mono hb1.size)
  have hg2 := hg1.keep (below_alloc W1 (.cells #[.slice (some ⟨w.heap.size, 0, none⟩) n n] 40))
  have hx2 := blk_new 40 W1 #[.slice (some ⟨w.heap.size, 0, none⟩) n n]
  obtain ⟨W2, hW2⟩ : ∃ W, W1.alloc (.cells #[.slice (some ⟨w.heap.size, 0, none⟩) n n] 40) = W := ⟨_, rfl⟩
  rw [hW2] at hb2 hg2 hx2
  rw [hs1] at hx2
  have HB2 := Lib.hid hb2
  have HG2 := Lib.hid hg2
  have HX2 := Lib.hid hx2
  have HS2 := Lib.hid (show W2.heap.size = w.heap.size + 2 from by rw [← hW2]; rw [World.size_alloc, hs1])
  clear hb1 hg1 hb2 hg2 hx2
  go_enter Tryz.func231, Tryz.ntmps231
  go_wp2_with fail
  go_loopw [22] (fun i wr => ∃ (k : Nat) (arr : List Nat), k ≤ len ∧ i = .int .i64 k ∧ Hid (Blk 3 wr w.heap.size (natA arr)) ∧ Hid (arr.length = n) ∧ Hid (arrT (S.drop k) k arr = arrT S 0 (List.replicate n 0)) ∧ Hid (Blk 40 wr (w.heap.size + 1) #[.slice (some ⟨w.heap.size, 0, none⟩) n n]) ∧ Hid (Below w.heap.size w wr) ∧ Hid (wr.heap.size = w.heap.size + 2)) (fun i _ => len - (intOf i).toNat)
  case atStart => exact ⟨0, List.replicate n 0, Nat.zero_le _, rfl, HG2, Lib.hid (by simp), Lib.hid rfl, HX2, HB2, HS2⟩
  case round =>
    obtain ⟨k, arr, hk, rfl, hg, hla, har, hx, hB, hsz⟩ := hrel
    by_cases hlt : k < len
    · obtain ⟨x, hxk⟩ : ∃ x, S[k]? = some x := ⟨S[k]'(by have := HL.out; omega), List.getElem?_eq_getElem _⟩
      have hneS : S ≠ [] := fun e => by rw [e] at hxk; simp at hxk
      obtain ⟨bs, os, rfl, hsc⟩ := HR.out hneS
      obtain ⟨b, o, cx, hc1, hcx, hmx, hci, _⟩ := hsc k x hxk
      have hc1 := kept hB.out hc1
      obtain ⟨xl, hxl⟩ : ∃ xl, x.length = xl := ⟨_, rfl⟩
      have HXL := Lib.hid hxl
      have HCI := Lib.hid hci
      have HXK := Lib.hid hxk
      have hdk : S.drop k = x :: S.drop (k + 1) := by
        obtain ⟨h1, h2⟩ := List.getElem?_eq_some_iff.1 hxk
        rw [List.drop_eq_getElem_cons h1, h2]
      have HNX := Lib.hid (har.out.symm.trans (by rw [hdk]; rfl : arrT (S.drop k) k arr = arrT (S.drop (k + 1)) (k + 1) (fillT k arr x)))
      have HXT := Lib.hid (fun (v : Nat) (hv : v ∈ x) => HLT.out v (List.mem_flatten.2 ⟨x, List.mem_of_getElem? hxk, hv⟩))
      rw [hxl] at hc1 hcx hmx
      clear hxl hci hxk hneS hsc hdk
      go_wp2_with fail
      go_loopw [29] (fun i2 wq => ∃ (t : Nat) (a2 : List Nat), t ≤ xl ∧ i2 = .int .i64 t ∧ Hid (Blk 3 wq w.heap.size (natA a2)) ∧ Hid (a2.length = n) ∧ Hid (fillT k a2 (x.drop t) = fillT k arr x) ∧ Hid (Blk 40 wq (w.heap.size + 1) #[.slice (some ⟨w.heap.size, 0, none⟩) n n]) ∧ Hid (Below w.heap.size w wq) ∧ Hid (wq.heap.size = w.heap.size + 2)) (fun i _ => xl - (intOf i).toNat)
      case atStart => exact ⟨0, arr, Nat.zero_le _, rfl, hg, hla, Lib.hid rfl, hx, hB, hsz⟩
      case round =>
        obtain ⟨t, a2, ht, rfl, hg2, hla2, har2, hx2, hB2, hsz2⟩ := hrel
        by_cases hlt2 : t < xl
        · obtain ⟨v, hvt⟩ : ∃ v, x[t]? = some v := ⟨x[t]'(by have := HXL.out; omega), List.getElem?_eq_getElem _⟩
          have hvn : v < n := HXT.out v (List.mem_of_getElem? hvt)
          have hcv := kept hB2.out (HCI.out t v hvt)
          have hb7 : wr.cell? ⟨w.heap.size + 1, 0, none⟩ = some (.slice (some ⟨w.heap.size, 0, none⟩) n n) := hx2.out.cell rfl
          have hav := hg2.out.cell (natA_at (g0_at (l := a2) (i := v) (by have := hla2.out; omega)))
          have hfz := hg2.out.frozen
          have hdt : x.drop t = v :: x.drop (t + 1) := by
            obtain ⟨h1, h2⟩ := List.getElem?_eq_some_iff.1 hvt
            rw [List.drop_eq_getElem_cons h1, h2]
          have HN2 := Lib.hid (har2.out.symm.trans (by rw [hdt]; rfl : fillT k a2 (x.drop t) = fillT k (a2.set v k) (x.drop (t + 1))))
          have hv1 : (v : Int) < n := by omega
          have hv0 : (0 : Int) ≤ v := by omega
          have hset := hg2.out.set v (.int .i64 k)
          rw [natA_set] at hset
          have HSET := Lib.hid hset
          have HX3 := Lib.hid (hx2.out.other (c := w.heap.size) (by omega) v (.int .i64 k))
          have HB3 := Lib.hid (hB2.out.setCell (p := ⟨w.heap.size, v, none⟩) (Nat.le_refl _) (.int .i64 k))
          clear hvt hvn hdt hset
          go_wp2_with fail
          go_roundw
          case rel => exact ⟨t + 1, a2.set v k, by omega, by go_num, HSET, Lib.hid (by rw [List.length_set]; exact hla2.out), Lib.hid HN2.out.symm, HX3, HB3, Lib.hid (by simpa [World.setCell] using hsz2.out)⟩
          case measure => simp [intOf]; omega
        · obtain rfl : t = xl := by omega
          have hnil : x.drop t = [] := List.drop_eq_nil_iff.2 (by have := HXL.out; omega)
          have HN3 := Lib.hid (show fillT k arr x = a2 from by rw [← har2.out, hnil]; rfl)
          clear hnil hc1 hcx hmx
          go_wp2_with fail
          go_roundw
          case rel => exact ⟨k + 1, a2, by omega, by go_num, hg2, hla2, Lib.hid (by rw [← HN3.out]; exact HNX.out.symm), hx2, hB2, hsz2⟩
          case measure => simp [intOf]; omega
    · obtain rfl : k = len := by omega
      have hnil : S.drop k = [] := List.drop_eq_nil_iff.2 (by have := HL.out; omega)
      have hae : arr = arrT S 0 (List.replicate n 0) := by rw [← har.out, hnil]; rfl
      have HAR := Lib.hid (show ∀ v, v < n → g0 arr v = ofT S v from fun v hv => by rw [hae]; exact TJ.arr_of HND.out (HALL.out v hv) hv)
      have hb1 := below_alloc wr (.cells (boolA (List.replicate k false)) 4)
      have hg1 := blk_new 4 wr (boolA (List.replicate k false))
      have hp1 := hg.out.keep hb1
      have hq1 := hx.out.keep hb1
      obtain ⟨W3, hW3⟩ : ∃ W, wr.alloc (.cells (boolA (List.replicate k false)) 4) = W := ⟨_, rfl⟩
      have hs3 : W3.heap.size = w.heap.size + 3 := by rw [← hW3, World.size_alloc, hsz.out]
      rw [hW3] at hb1 hg1 hp1 hq1
      rw [hsz.out] at hg1
      have hb2 := below_alloc W3 (.cells #[.slice (some ⟨w.heap.size + 2, 0, none⟩) k k] 69)
      have hx2 := blk_new 69 W3 #[.slice (some ⟨w.heap.size + 2, 0, none⟩) k k]
      have HLA := Lib.hid hla.out
      have HW4 := Lib.hid (show SetW w n k arr (List.replicate k false) (W3.alloc (.cells #[.slice (some ⟨w.heap.size + 2, 0, none⟩) k k] 69)) from
        ⟨hp1.keep hb2, hq1.keep hb2, hg1.keep hb2, by rw [hs3] at hx2; exact hx2, hB.out.trans ((hb1.mono (by have := hsz.out; omega)).trans (hb2.mono (by omega))), by rw [World.size_alloc, hs3]; omega⟩)
      obtain ⟨W4, hW4⟩ : ∃ W, W3.alloc (.cells #[.slice (some ⟨w.heap.size + 2, 0, none⟩) k k] 69) = W := ⟨_, rfl⟩
      rw [hW4] at HW4
      have hsz2 : wr.heap.size = w.heap.size + 2 := hsz.out
      have HTold := Lib.hid (show TJ.Told S (List.replicate k false) [] [] from by have := TJ.told_start S; rwa [HL.out] at this)
      have HOrd := Lib.hid (show settleT S l k (List.replicate k false) [] = orderT S l from by unfold orderT; rw [HL.out])
      clear hnil hae hb1 hg1 hp1 hq1 hb2 hx2 hg hla har hx hB hsz hlt hW1 hW2 hs1 HG2 HX2 HB2 HS2
      go_wp2_with fail
      go_loopw [12] (fun v wq => ∃ (f c' : Nat) (A' : Option Addr) (dn : List Bool) (p : List Nat) (outl : List (List Nat)) (vals : List Value), v = .slice A' p.length c' ∧ Hid (p.length + f = k) ∧ Hid (TJ.Told S dn outl p) ∧ Hid (settleT S l f dn outl = orderT S l) ∧ Hid (wq.ownsRow (w.heap.size + 4) 40 1 (.slice A' p.length c') p.length vals) ∧ Hid (RowsO w vals outl) ∧ Hid (SetW w n k arr dn wq)) (fun v _ => k - lenV v)
      case atStart => exact ⟨k, 0, none, List.replicate k false, [], [], [], rfl, Lib.hid (by simp), HTold, HOrd, Lib.hid (World.ownsRow_nil _ _ _ _), Lib.hid ⟨rfl, fun i x hx => by simp at hx⟩, HW4⟩
      case round =>
        obtain ⟨f, c', A', dn, p, outl, vals, rfl, hf, htold, hord, hrow, hros, hsw⟩ := hrel
        obtain ⟨pl, hpl⟩ : ∃ pl, p.length = pl := ⟨_, rfl⟩
        have HPL := Lib.hid hpl
        rw [hpl] at hf hrow ⊢
        clear hpl
        cases f with
        | zero =>
          have hf2 : pl = k := by have := hf.out; omega
          subst hf2
          have HR2 := Lib.hid hord.out
          go_wp2_with fail
          go_ret
          refine ⟨_, rfl, ⟨vals, ?_, ?_, fun i x hx => ?_⟩, hsw.out.b⟩
          · refine slc_of_own (by rw [flat_one]; exact hrow.out) ?_ (by omega)
            have := hrow.out.1
            omega
          · have h1 := hros.out.1
            rw [← hord.out]
            exact h1
          · rw [← hord.out] at hx
            obtain ⟨vi, h1, h2⟩ := hros.out.2 i x hx
            exact ⟨vi, h1, h2.below hsw.out.b⟩
        | succ f =>
          have hpk : pl < k := by have := hf.out; omega
          go_wp2_with fail
          go_loopw [14, 49] (fun vb i wq => ∃ (j : Nat) (b : Option Nat), j ≤ k ∧ i = .int .i64 j ∧ vb = .int .i64 (bestV b) ∧ Hid ((List.range j).foldl (bestStep S l dn) none = b) ∧ Hid (wq.ownsRow (w.heap.size + 4) 40 1 (.slice A' pl c') pl vals) ∧ Hid (SetW w n k arr dn wq)) (fun _ i _ => k - (intOf i).toNat)
          case atStart => exact ⟨0, none, Nat.zero_le _, rfl, rfl, Lib.hid rfl, hrow, hsw⟩
          case round =>
            obtain ⟨j, b, hj, rfl, rfl, hbe, hrow2, hsw2⟩ := hrel
            by_cases hlt : j < k
            · obtain ⟨x, hxk⟩ : ∃ x, S[j]? = some x := ⟨S[j]'(by have := HL.out; omega), List.getElem?_eq_getElem _⟩
              have hneS : S ≠ [] := fun e => by rw [e] at hxk; simp at hxk
              obtain ⟨bs, os, rfl, hsc⟩ := HR.out hneS
              obtain ⟨bx, ox, cx, hc1, hcx, hmx, hci, _⟩ := hsc j x hxk
              have hxne := HNE.out x (List.mem_of_getElem? hxk)
              have hh : headT S j = x.headD 0 := by unfold TJ.headT; rw [List.getD_eq_getElem?_getD, hxk]; rfl
              have hx0 : x[0]? = some (headT S j) := by
                rw [hh]
                cases x with
                | nil => exact absurd rfl hxne
                | cons a x => rfl
              have hc2 := hci 0 _ hx0
              have hcs1 := kept hsw2.out.b hc1
              have hcs2 := kept hsw2.out.b hc2
              rw [Nat.add_zero] at hcs2
              have hxl0 : (0 : Int) < x.length := by
                cases x with
                | nil => exact absurd rfl hxne
                | cons a x => simp
              obtain ⟨xl, hxl⟩ : ∃ xl, x.length = xl := ⟨_, rfl⟩
              obtain ⟨H, hH⟩ : ∃ H, headT S j = H := ⟨_, rfl⟩
              rw [hxl] at hcs1 hcx hmx hxl0
              rw [hH] at hcs2
              have hb5 := below_alloc wr (.cells #[.int .i64 j] 3)
              have hx5 := blk_new 3 wr #[.int .i64 j]
              have hsw5 := hsw2.out.below hb5
              have CE := hasES_calls ve l (w.heap.size + 1) wr.heap.size (w.heap.size + 3) (waitB arr dn j) (wr.alloc (.cells #[.int .i64 j] 3)) ((HE.out.below hsw2.out.b).below hb5) fun W y hW hy =>
                setF_calls (w.heap.size + 1) wr.heap.size (w.heap.size + 3) w.heap.size (w.heap.size + 2) j n k arr dn y W ((hsw5.below hW).x.cell rfl) ((hx5.keep hW).cell rfl) ((hsw5.below hW).y.cell rfl) (hsw5.below hW).g (hsw5.below hW).d HLA.out (by rw [htold.out.len]; exact HL.out) (HEL.out y hy).1 (HEL.out y hy).2 (by rw [HAR.out _ (HEL.out y hy).1, ← HL.out]; exact (HOK.out y hy).2)
              rw [waits_eq HAR.out HEL.out] at CE
              obtain ⟨WT, hWT⟩ : ∃ WT, waitsT S l dn j = WT := ⟨_, rfl⟩
              obtain ⟨D, hD⟩ : ∃ D, dn.getD j false = D := ⟨_, rfl⟩
              rw [hWT] at CE
              have CE := Lib.hid CE
              have HWT := Lib.hid hWT
              have HD := Lib.hid hD
              have HH := Lib.hid hH
              have HSW5 := Lib.hid hsw5
              have HX5 := Lib.hid hx5
              have HB5 := Lib.hid hb5
              have HBE := Lib.hid hbe.out
              have HSC := Lib.hid hsc
              have hbk : ∀ q, b = some q → q < k := fun q e => by
                have := (TJ.best_inv (S := S) (l := l) (dn := dn) (List.range j) none (fun k hk => by cases hk) (fun i hi => by have := List.mem_range.1 hi; have := HL.out; omega)).1 q (by rw [HBE.out, e])
                have h2 := HL.out
                omega
              have HBK := Lib.hid hbk
              clear hxk hneS hsc hc1 hci hxne hh hx0 hc2 hxl hH hb5 hx5 hsw5 hWT hD hbk
              go_wp2_with fail
              refine CE.out.mono ?_
              rintro E w6 ⟨rfl, hb6⟩
              have hbb := HB5.out.trans (hb6.mono HB5.out.size)
              have HSW6 := Lib.hid (HSW5.out.below hb6)
              have ROW6 := Lib.hid (row_keep hrow2.out fun g e => hbb.block g (row_lt hrow2.out e).2)
              have g1 : w6.cell? ⟨w.heap.size + 3, 0, none⟩ = some (.slice (some ⟨w.heap.size + 2, 0, none⟩) k k) := HSW6.out.y.cell rfl
              have g2 : w6.cell? ⟨wr.heap.size, 0, none⟩ = some (.int .i64 j) := (HX5.out.keep hb6).cell rfl
              have g3 := HSW6.out.d.cell (boolA_at (l := dn) (i := j) (by rw [htold.out.len, HL.out]; exact hlt))
              rw [HD.out] at g3
              have g4 := kept hbb hcs2
              have g5 : (j : Int) < k := by omega
              have g6 : (0 : Int) ≤ j := by omega
              clear hcs1 hcs2 hbb hb6 CE
              cases D with
              | true =>
                have F := Lib.hid (show bestStep S l dn b j = b from by unfold TJ.bestStep; rw [HD.out]; rfl)
                go_upto_region 19 with fail
                go_quiet (fail)
                clear g1 g3 g4 g5 g6
                go_wp2_with fail
                go_roundw
                case rel => exact ⟨j + 1, b, by omega, by go_num, rfl, Lib.hid (by rw [TJ.range_best, HBE.out]; exact F.out), ROW6, Lib.hid (HSW6.out.below (below_drewN _ _ _))⟩
                case measure => simp [intOf]; omega
              | false =>
                cases WT with
                | true =>
                  have F := Lib.hid (show bestStep S l dn b j = b from by unfold TJ.bestStep; rw [HD.out, HWT.out]; rfl)
                  go_upto_region 19 with fail
                  go_quiet (fail)
                  clear g1 g3 g4 g5 g6
                  go_wp2_with fail
                  go_roundw
                  case rel => exact ⟨j + 1, b, by omega, by go_num, rfl, Lib.hid (by rw [TJ.range_best, HBE.out]; exact F.out), ROW6, Lib.hid (HSW6.out.below (below_drewN _ _ _))⟩
                  case measure => simp [intOf]; omega
                | false =>
                  cases b with
                  | none =>
                    have F := Lib.hid (show bestStep S l dn none j = some j from by unfold TJ.bestStep; rw [HD.out, HWT.out]; rfl)
                    rw [show bestV none = -1 from rfl]
                    go_upto_region 19 with fail
                    go_quiet (fail)
                    clear g1 g3 g4 g5 g6
                    go_wp2_with fail
                    go_roundw
                    case rel => exact ⟨j + 1, some j, by omega, by go_num, rfl, Lib.hid (by rw [TJ.range_best, HBE.out]; exact F.out), ROW6, Lib.hid (HSW6.out.below (below_drewN _ _ _))⟩
                    case measure => simp [intOf]; omega
                  | some q =>
                    have hqk := HBK.out q rfl
                    obtain ⟨y, hy⟩ : ∃ y, S[q]? = some y := ⟨S[q]'(by have := HL.out; omega), List.getElem?_eq_getElem _⟩
                    obtain ⟨by', oy, cy, hd1, hdy, hmy, hdi, _⟩ := HSC.out q y hy
                    have hyne := HNE.out y (List.mem_of_getElem? hy)
                    have hyh : headT S q = y.headD 0 := by unfold TJ.headT; rw [List.getD_eq_getElem?_getD, hy]; rfl
                    have hy0 : y[0]? = some (headT S q) := by
                      rw [hyh]
                      cases y with
                      | nil => exact absurd rfl hyne
                      | cons a y => rfl
                    have hd2 := hdi 0 _ hy0
                    have g7 := kept HSW6.out.b hd1
                    have g8 := kept HSW6.out.b hd2
                    rw [Nat.add_zero] at g8
                    have g9 : (0 : Int) < y.length := by
                      cases y with
                      | nil => exact absurd rfl hyne
                      | cons a y => simp
                    obtain ⟨yl, hyl⟩ : ∃ yl, y.length = yl := ⟨_, rfl⟩
                    obtain ⟨Hq, hHq⟩ : ∃ Hq, headT S q = Hq := ⟨_, rfl⟩
                    rw [hyl] at g7 g9 hdy hmy
                    rw [hHq] at g8
                    have g10 : (q : Int) < k := by omega
                    have g11 : decide ((q : Int) < 0) = false := by simp
                    have g12 : (0 : Int) ≤ q := by omega
                    have HHq := Lib.hid hHq
                    rw [show bestV (some q) = (q : Int) from rfl]
                    clear hd1 hdi hyne hyh hy0 hd2 hyl hHq hy
                    by_cases hless : H < Hq
                    · have g13 : (H : Int) < Hq := by omega
                      have F := Lib.hid (show bestStep S l dn (some q) j = some j from by unfold TJ.bestStep; rw [HD.out, HWT.out, show TJ.lessB S (some q) j = decide (headT S j < headT S q) from rfl, HH.out, HHq.out]; simp [hless])
                      go_upto_region 19 with fail
                      go_quiet (fail)
                      clear g7 g8 g9 g10 g11 g12 g13 hless
                      clear g1 g3 g4 g5 g6
                      go_wp2_with fail
                      go_roundw
                      case rel => exact ⟨j + 1, some j, by omega, by go_num, rfl, Lib.hid (by rw [TJ.range_best, HBE.out]; exact F.out), ROW6, Lib.hid (HSW6.out.below (below_drewN _ _ _))⟩
                      case measure => simp [intOf]; omega
                    · have g13 : decide ((H : Int) < Hq) = false := by simp; omega
                      have F := Lib.hid (show bestStep S l dn (some q) j = some q from by unfold TJ.bestStep; rw [HD.out, HWT.out, show TJ.lessB S (some q) j = decide (headT S j < headT S q) from rfl, HH.out, HHq.out]; simp [hless])
                      go_upto_region 19 with fail
                      go_quiet (fail)
                      clear g7 g8 g9 g10 g11 g12 g13 hless
                      clear g1 g3 g4 g5 g6
                      go_wp2_with fail
                      go_roundw
                      case rel => exact ⟨j + 1, some q, by omega, by go_num, rfl, Lib.hid (by rw [TJ.range_best, HBE.out]; exact F.out), ROW6, Lib.hid (HSW6.out.below (below_drewN _ _ _))⟩
                      case measure => simp [intOf]; omega
            · obtain rfl : j = k := by omega
              obtain ⟨q, hb1, hb2, hb3⟩ := TJ.best_some HOK.out (TJ.told_free htold.out (by rw [HPL.out, HL.out]; exact hpk))
              have hbq : b = some q := hbe.out.symm.trans (by unfold TJ.bestT at hb1; rw [HL.out] at hb1; exact hb1)
              subst hbq
              rw [HL.out] at hb2
              obtain ⟨y, hy⟩ : ∃ y, S[q]? = some y := ⟨S[q]'(by have := HL.out; omega), List.getElem?_eq_getElem _⟩
              have hneS : S ≠ [] := fun e => by rw [e] at hy; simp at hy
              obtain ⟨bs, os, rfl, hsc⟩ := HR.out hneS
              obtain ⟨by', oy, cy, hd1, hdy, hmy, _, hdn⟩ := hsc q y hy
              have hgy : S.getD q [] = y := by rw [List.getD_eq_getElem?_getD, hy]; rfl
              have hT2 := TJ.told_next htold.out (by rw [HL.out]; exact hb2) hb3
              have hO2 : settleT S l f (dn.set q true) (outl ++ [S.getD q []]) = orderT S l := by
                rw [← hord.out]
                show _ = (match TJ.bestT S l dn with | none => outl | some b => settleT S l f (dn.set b true) (outl ++ [S.getD b []]))
                rw [hb1]
              have g4 := kept hsw2.out.b hd1
              obtain ⟨yl, hyl⟩ : ∃ yl, y.length = yl := ⟨_, rfl⟩
              rw [hyl] at g4 hdn hdy hmy
              have hR2 := hros.out.snoc hdn
              rw [← hgy] at hR2
              have hsw7 := hsw2.out.set (i := q)
              have hrow7 : (wr.setCell ⟨w.heap.size + 2, q, none⟩ (.bool true)).ownsRow (w.heap.size + 4) 40 1 (.slice A' pl c') pl vals := row_keep hrow2.out fun g e => by
                have := (row_lt hrow2.out e).1
                unfold World.setCell
                rw [Array.getElem?_modify, if_neg (by show ¬ w.heap.size + 2 = g; omega)]
              obtain ⟨W7, hW7⟩ : ∃ W, wr.setCell ⟨w.heap.size + 2, q, none⟩ (.bool true) = W := ⟨_, rfl⟩
              rw [hW7] at hsw7 hrow7
              have g1 : wr.cell? ⟨w.heap.size + 3, 0, none⟩ = some (.slice (some ⟨w.heap.size + 2, 0, none⟩) j j) := hsw2.out.y.cell rfl
              have g2 := hsw2.out.d.cell (boolA_at (l := dn) (i := q) (by rw [htold.out.len, HL.out]; exact hb2))
              have g3 := hsw2.out.d.frozen
              have g7 : W7.cell? ⟨bs, os + q, none⟩ = some (.slice (some ⟨by', oy, none⟩) yl cy) := by rw [← hyl]; exact kept hsw7.b hd1
              have g5 : (q : Int) < j := by omega
              have g6 : (0 : Int) ≤ q := by omega
              rw [show bestV (some q) = (q : Int) from rfl]
              have HT2 := Lib.hid hT2
              have HO2 := Lib.hid hO2
              have HR2 := Lib.hid hR2
              have HSW7 := Lib.hid hsw7
              have HROW7 := Lib.hid hrow7
              have hs7 := hsw7.s
              clear hb1 hb3 hy hneS hsc hd1 hdn hgy hT2 hO2 hR2 hsw7 hrow7 hyl hord
              go_wp2_with (at_builtin; obtain ⟨i0, hi, hz0, hz1, hz2⟩ := info_parts info_ints; refine wpList_append_own_at _ rfl _ _ 208 rfl (w.heap.size + 4) 40 i0 (.slice none 0 0) 1 24 Tryz.underlying208 hi hz0 hz1 hz2 rfl (by decide) _ _ _ rfl (HROW7.out.alloc _) ⟨W7.heap.size, 0, none⟩ 1 1 [.slice (some ⟨by', oy, none⟩) yl cy] rfl rfl (cell_one_new _ _ _) (by simp [Value.oneCell']) (by simp only [maxLen]; omega) (by omega) (by simp; omega) ?_; clear hi hz0 hz1 hz2; intro v10 w10 hown10 hgrow10 hnil10 hloc10; obtain ⟨A10, c10, rfl, _, _⟩ := own_sl hown10)
              have HSW10 := Lib.hid (HSW7.out.grown hgrow10 fun g e => (row_lt HROW7.out e).1)
              have HOWN10 := Lib.hid hown10
              clear hown10 hgrow10 hnil10 hloc10 g1 g2 g3 g4 g7
              go_roundw
              case rel => exact ⟨f, c10, A10, dn.set q true, p ++ [q], _, _, by rw [List.length_append, HPL.out]; rfl, Lib.hid (by rw [List.length_append, HPL.out, List.length_singleton]; have := hf.out; omega), HT2, HO2, by rw [List.length_append, HPL.out]; exact HOWN10, HR2, HSW10⟩
              case measure => simp [lenV]; omega
end Go.Proofs.YtpbbhjifgaeklaaGreatDoor

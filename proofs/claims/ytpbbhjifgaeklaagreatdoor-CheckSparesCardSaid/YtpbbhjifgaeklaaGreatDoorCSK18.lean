/- slices.Sort at a row of numbers of the call's own. · Rows of numbers: slices.Index, slices.Clone; the walker where only new memory was made. · What the program knows of the types int and []int. · check.offers: those that work, as they are offered. · check.Needs' closure: does one stand alone still (not gone, and works). · Plain: the edges of those that are known. -/
import Derived.Test.YtpbbhjifgaeklaaGreatDoorCSK12
import Derived.Test.YtpbbhjifgaeklaaGreatDoorCSK17
import Derived.Sort.OwnSorted
import Derived.Test.YtpbbhjifgaeklaaGreatDoorCSK11
import Derived.Test.YtpbbhjifgaeklaaGreatDoorCSK15
import Derived.Deep.RegionHeld
namespace Go.Proofs.YtpbbhjifgaeklaaGreatDoor
open Go Go.RowKit Go.Sort
open TJ (srt)

theorem holdsI_of_block {w : World} {g : Nat} {cur : Array Value} {e : TypeId} {zs : List Int} (hb : w.heap[g]? = some (.cells cur e (0, 0))) (ht : cur.toList.take zs.length = zs.map (Value.int .i64)) : Holds (Value.int .i64) w g 0 zs.toArray := by
  intro j hj
  have hj' : j < zs.length := by simpa using hj
  refine ⟨?_, by simp [World.frozen?, hb]⟩
  have h1 : (cur.toList.take zs.length)[j]? = (zs.map (Value.int .i64))[j]? := by rw [ht]
  rw [List.getElem?_take_of_lt hj'] at h1
  simp only [World.cell?, hb, Nat.zero_add]
  simp only [Option.isSome_none, Bool.false_eq_true, if_false]
  rw [← Array.getElem?_toList, h1]
  simp [hj']
theorem heapI_sorted {w : World} {g n : Nat} {os : Array Obj} {cur : Array Value} {e : TypeId} {fr : Nat × Nat} (d : Array Int) (hb : w.heap[g]? = some (.cells cur e fr)) :
    (grow (putRow (Value.int .i64) (Sort.ahead w n) g 0 d) os).heap[g]? = some (.cells (putCells (Value.int .i64) 0 d cur) e fr) := by
  have hg : g < w.heap.size := (Array.getElem?_eq_some_iff.1 hb).1
  rw [heap_grow_old _ _ (by simpa using hg)]
  simp [putRow, mapBlock, Sort.ahead, Array.getElem?_modify, hb, onCells]
theorem grownByI_sorted {w : World} {g n : Nat} {os : Array Obj} (d : Array Int) : w.grownBy (grow (putRow (Value.int .i64) (Sort.ahead w n) g 0 d) os) (some g) := by
  refine ⟨rfl, rfl, rfl, by simp, fun k hk hne => ?_⟩
  rw [heap_grow_old _ _ (by simpa using hk)]
  have : g ≠ k := fun e => hne (by rw [e])
  simp [putRow, mapBlock, Sort.ahead, Array.getElem?_modify, this]
theorem takeI_putCells (cur : Array Value) (ts : List Int) (h : ts.length ≤ cur.size) : (putCells (Value.int .i64) 0 ts.toArray cur).toList.take ts.length = ts.map (Value.int .i64) := by
  apply List.ext_getElem?
  intro j
  by_cases hj : j < ts.length
  · rw [List.getElem?_take_of_lt hj, Array.getElem?_toList]
    simp [putCells, hj, show j < cur.size by omega]
  · rw [List.getElem?_take_eq_none (by omega), List.getElem?_eq_none (by simp; omega)]
theorem ints_nats (l : List Nat) : (l.map Int.ofNat).map (Value.int .i64) = l.flatMap natC := by
  rw [flat_nats, List.map_map]
  rfl

theorem sortN_calls (B g c : Nat) (l : List Nat) (w : World) (h : w.ownsRow B 3 1 (.slice (some ⟨g, 0, none⟩) l.length c) l.length (l.flatMap natC)) (hl : l.length ≤ 2000000) :
    Calls Tryz.prog 110 #[.slice (some ⟨g, 0, none⟩) l.length c] w fun E W => E = .returned (.tuple #[]) ∧ W.ownsRow B 3 1 (.slice (some ⟨g, 0, none⟩) l.length c) l.length ((srt l).flatMap natC) ∧ w.grownBy W (some g) := by
  rcases h.2 with ⟨h', _⟩ | ⟨g', cap, cur, hv, hB, hb, h1, h2, h3, h4⟩
  · injection h' with h' _ _
    cases h'
  · injection hv with e1 _ e3
    injection e1 with e1
    injection e1 with e1 _ _
    subst e1 e3
    have hlen : (l.map Int.ofNat).length = l.length := List.length_map _
    have hH := holdsI_of_block (zs := l.map Int.ofNat) hb (by rw [ints_nats, hlen]; simpa using h4)
    refine ((hlen ▸ Tryz.slices_Sort_int g 0 c (l.map Int.ofNat) w hH (Array.getElem?_eq_some_iff.1 hb).1 (by rw [hlen]; omega))).mono ?_
    rintro E W ⟨he, n, os, hw⟩
    subst hw
    refine ⟨he, ?_, grownByI_sorted _⟩
    rw [TJ.srt_int]
    have hls : (srt l).length = l.length := (TJ.perm_srt l).length_eq
    refine ⟨by rw [flat_nats, List.length_map, hls]; omega, .inr ⟨g, c, _, rfl, hB, heapI_sorted _ hb, h1, h2, by simp [putCells, h3], ?_⟩⟩
    have := takeI_putCells cur ((srt l).map Int.ofNat) (by rw [List.length_map, hls, h3]; omega)
    rw [List.length_map, hls, ints_nats] at this
    rw [Nat.mul_one]
    exact this
end Go.Proofs.YtpbbhjifgaeklaaGreatDoor

namespace Go.Proofs.YtpbbhjifgaeklaaGreatDoor
open Go Go.RowKit
open TJ (EdgeN hasN Tj Inv g0 visitT zeros srt endT ixN lowT)

theorem own_sl {W : World} {B size n : Nat} {e : TypeId} {v : Value} {xs : List Value} (h : W.ownsRow B e size v n xs) : ∃ A c, v = .slice A n c ∧ n ≤ c ∧ (n ≠ 0 → ∃ g, A = some ⟨g, 0, none⟩) := by
  rcases h.2 with ⟨rfl, h0⟩ | ⟨g, cap, cur, rfl, _, _, h1, _⟩
  · exact ⟨none, 0, by rw [h0], by omega, fun hn => absurd h0 hn⟩
  · exact ⟨_, cap, rfl, h1, fun _ => ⟨g, rfl⟩⟩
theorem idx_nat {v : Nat} : ∀ (l : List Nat) (i : Nat), v ∈ l → Lib.idxFrom (l.map Int.ofNat) (v : Int) i = ((i + ixN v l : Nat) : Int)
  | [], _, h => by cases h
  | a :: l, i, h => by
    rw [List.map_cons, Lib.idxFrom]
    unfold ixN
    by_cases e : a = v
    · rw [if_pos e, if_pos (by rw [e]; rfl)]
      simp
    · have e2 : ¬ Int.ofNat a = (v : Int) := fun k => e (Int.ofNat.inj k)
      rw [if_neg e, if_neg e2, idx_nat l (i + 1) ((List.mem_cons.1 h).resolve_left (Ne.symm e))]
      congr 1
      omega
theorem indexN_calls (v : Value) (l : List Nat) (x : Nat) (w : World) (h : NatsAt w v l) (hx : x ∈ l) : Calls Tryz.prog 179 #[v, .int .i64 x] w fun E w' => E = .returned (.int .i64 (ixN x l : Nat)) ∧ w = w' := by
  obtain ⟨A, c, rfl, hc, hm, hr⟩ := h.open
  obtain ⟨b, off, rfl, hi⟩ := hr (fun e => by rw [e] at hx; cases hx)
  refine (Tryz.slices_Index_int b off l.length c (l.map Int.ofNat) x w (by simp) hm (nat_cell hi)).mono fun E w' ⟨he, hw⟩ => ⟨?_, hw.symm⟩
  rw [he, List.take_of_length_le (by simp)]
  unfold Lib.idxOf
  rw [idx_nat l 0 hx, Nat.zero_add]
theorem cloneN_calls (v : Value) (l : List Nat) (w : World) (h : NatsAt w v l) (hn : l ≠ []) (hl : l.length ≤ 100000) : Calls Tryz.prog 173 #[v] w fun E w' => ∃ g c, E = .returned (.slice (some ⟨g, 0, none⟩) l.length c) ∧ w'.ownsRow w.heap.size 3 1 (.slice (some ⟨g, 0, none⟩) l.length c) l.length (l.flatMap natC) ∧ Below w.heap.size w w' := by
  obtain ⟨A, c, rfl, hc, hm, hr⟩ := h.open
  obtain ⟨b, off, rfl, hi⟩ := hr hn
  refine (Tryz.slices_Clone_int b off l.length c (l.map Int.ofNat) w (by simp) (by omega) (nat_cell hi)).mono ?_
  rintro E w' ⟨v', he, ho, _, hb⟩
  rw [List.take_of_length_le (by simp), ints_nats] at ho
  obtain ⟨A', c', rfl, _, hg⟩ := own_sl ho
  obtain ⟨g, rfl⟩ := hg (fun e => hn (List.eq_nil_of_length_eq_zero e))
  exact ⟨g, c', he, ho, hb⟩
theorem nats_drop {w : World} {g n c k : Nat} {l : List Nat} (h : NatsAt w (.slice (some ⟨g, 0, none⟩) n c) l) (hk : k < l.length) : NatsAt w (.slice (some ⟨g, k, none⟩) (n - k) (c - k)) (l.drop k) := by
  obtain ⟨A, c', hv, hc, hm, hr⟩ := h
  injection hv with e1 e2 e3
  subst e1 e2 e3
  refine ⟨_, c - k, by rw [List.length_drop], by rw [List.length_drop]; omega, by rw [List.length_drop]; omega, fun _ => ⟨g, k, rfl, fun j u hj => ?_⟩⟩
  obtain ⟨b, off, hA, hi⟩ := hr (fun e => by rw [e] at hk; simp at hk)
  injection hA with hA
  injection hA with hb ho _
  subst hb
  have := hi (k + j) u (by
    rw [flat_nats] at hj ⊢
    rw [List.getElem?_map] at hj ⊢
    rw [List.getElem?_drop] at hj
    exact hj)
  rw [← ho, Nat.zero_add] at this
  exact this

theorem Wk.grow {B wb ba bl bo n : Nat} {W W' : World} {vop vs : Value} {vals : List Value} {st : Tj} (h : Wk B wb ba bl bo n W vop vs vals st) (k : ∀ i, i < W.heap.size → W'.heap[i]? = W.heap[i]?) : Wk B wb ba bl bo n W' vop vs vals st := by
  refine ⟨(k _ h.wk.lt).trans h.wk, (k _ h.nu.lt).trans h.nu, (k _ h.lo.lt).trans h.lo, row_keep h.op fun g e => k g (row_lt h.op e).2, row_keep h.se fun g e => k g (row_lt h.se e).2, fun i x hx => ?_, h.ap⟩
  obtain ⟨g, c, hv, hg, n1, n2, hn⟩ := h.va i x hx
  exact ⟨g, c, hv, ⟨hg.1, lt_same hg.2 (k g hg.2)⟩, n1, n2, nats_block hn (k g hg.2)⟩
theorem wkKeep_drewN {B wb ba bl : Nat} {W : World} (k : Nat) : WkKeep B wb ba bl W (W.drewN k) := ⟨rfl, rfl, rfl, Nat.le_refl _, fun _ _ _ _ _ => rfl⟩
theorem inv_len {n : Nat} {out : Nat → List Nat} {s : Tj} (h : Inv n out s) : s.opn.length + s.sets.length ≤ n := by
  have h1 := TJ.nodup_le h.nd h.lt
  rw [List.length_append] at h1
  have h2 : s.sets.length ≤ s.sets.flatten.length := by
    have : ∀ l : List (List Nat), (∀ x, x ∈ l → x ≠ []) → l.length ≤ l.flatten.length := by
      intro l
      induction l with
      | nil => intro _; exact Nat.le_refl _
      | cons a l ih =>
        intro hx
        have h3 := ih fun x hx' => hx x (List.mem_cons_of_mem _ hx')
        have h4 : a.length ≠ 0 := fun e => hx a List.mem_cons_self (List.eq_nil_of_length_eq_zero e)
        rw [List.flatten_cons, List.length_append, List.length_cons]
        omega
    exact this _ h.ne
  omega
end Go.Proofs.YtpbbhjifgaeklaaGreatDoor

namespace Go.Proofs.YtpbbhjifgaeklaaGreatDoor
open Go Go.RowKit
theorem info_int : (Tryz.prog.info? 3).map (fun i => (i.zero, i.size, i.bytes)) = some (some (.int .i64 0), 1, 8) := by kernel_rfl
theorem info_ints : (Tryz.prog.info? 40).map (fun i => (i.zero, i.size, i.bytes)) = some (some (.slice none 0 0), 1, 24) := by kernel_rfl
end Go.Proofs.YtpbbhjifgaeklaaGreatDoor

namespace Go.Proofs.YtpbbhjifgaeklaaGreatDoor
open Go Go.RowKit

theorem cells_newL (w : World) (l : List Value) (t : TypeId) : ∀ j u, l[j]? = some u → (w.alloc (.cells l.toArray t)).cell? ((⟨w.heap.size, 0, none⟩ : Addr).add j) = some u := by
  intro j u hj
  have h := blk_new t w l.toArray
  rw [Go.WideShapes.add_plain, Nat.zero_add]
  exact h.cell (by rw [List.getElem?_toArray]; exact hj)

def worksI (ks : List Kv) (i : Nat) : Bool := match ks[i]? with
  | some k => worksB k.st
  | none => false
/-- those of the first j that are chosen, as they are offered -/
def offersT (ks : List Kv) (sel : Nat → Bool) (j : Nat) : List Ov := (List.range j).filterMap fun i => if sel i then ks[i]?.map Kv.offer else none
theorem offers_succ {ks : List Kv} {j : Nat} {k : Kv} (sel : Nat → Bool) (h : ks[j]? = some k) : offersT ks sel (j + 1) = offersT ks sel j ++ (if sel j then [k.offer] else []) := by
  unfold offersT
  rw [List.range_succ, List.filterMap_append]
  congr 1
  by_cases hs : sel j = true
  · simp [hs, h]
  · simp [hs]
theorem offers_len (ks : List Kv) (sel : Nat → Bool) (j : Nat) : (offersT ks sel j).length ≤ j := by
  unfold offersT
  have := List.length_filterMap_le (fun i => if sel i then ks[i]?.map Kv.offer else none) (List.range j)
  rwa [List.length_range] at this
theorem offers_mem {ks : List Kv} {sel : Nat → Bool} {j : Nat} {o : Ov} (h : o ∈ offersT ks sel j) : ∃ k, k ∈ ks ∧ o = k.offer := by
  unfold offersT at h
  obtain ⟨i, _, hi⟩ := List.mem_filterMap.1 h
  split at hi
  · obtain ⟨k, hk, rfl⟩ := Option.map_eq_some_iff.1 hi
    exact ⟨k, List.mem_of_getElem? hk, rfl⟩
  · cases hi
theorem offersRow_one {w : World} {o : Ov} {vp : Value} (h : TermsAt w vp o.ps) : OffersRow w [o] [.string o.n, .int .i64 o.e, .string o.u, .string o.r, vp] := by
  refine ⟨rfl, fun i o' ho => ?_⟩
  cases i with
  | zero =>
    injection ho with ho
    subst ho
    exact ⟨vp, rfl, rfl, rfl, rfl, rfl, h⟩
  | succ i => simp at ho

set_option maxHeartbeats 8000000 in
set_option maxRecDepth 100000 in
theorem offers_calls (v : Value) (ks : List Kv) (w : World) (h : KnownsAt w v ks) (hl : ks.length ≤ 40) :
    Calls Tryz.prog 109 #[v, .func (.func 107) #[] #[]] w fun E w' => ∃ v', E = .returned v' ∧ OffersAt w' v' (offersT ks (worksI ks) ks.length) ∧ Below w.heap.size w w' := by
  obtain ⟨A, c, rfl, hc, hm, hr⟩ := h
  obtain ⟨kl, hkl⟩ : ∃ kl, ks.length = kl := ⟨_, rfl⟩
  have HKL := Lib.hid hkl
  have HR := Lib.hid hr
  rw [hkl] at hc hm hl ⊢
  clear hkl hr
  go_enter Tryz.func109, Tryz.ntmps109
  go_wp2_with fail
  go_loopw [5, 10] (fun v i wr => ∃ (k1 n' c' : Nat) (A' : Option Addr) (xs : List Value), k1 ≤ kl ∧ i = .int .i64 k1 ∧ v = .slice A' n' c' ∧ Hid ((offersT ks (worksI ks) k1).length = n') ∧ Hid (wr.ownsRow w.heap.size 84 5 (.slice A' n' c') n' xs) ∧ Hid (OffersRow w (offersT ks (worksI ks) k1) xs) ∧ Hid (Below w.heap.size w wr)) (fun _ i _ => kl - (intOf i).toNat)
  case atStart => exact ⟨0, 0, 0, none, [], Nat.zero_le _, rfl, rfl, Lib.hid rfl, Lib.hid (World.ownsRow_nil _ _ _ _), Lib.hid ⟨rfl, fun i o ho => by simp [offersT] at ho⟩, Lib.hid (Below.refl _ _)⟩
  case round =>
    obtain ⟨k1, n', c', A', xs, hk1, rfl, rfl, hn, hrow, hxr, hB⟩ := hrel
    by_cases hlt : k1 < kl
    · obtain ⟨kv, hkv⟩ : ∃ kv, ks[k1]? = some kv := ⟨ks[k1]'(by have := HKL.out; omega), List.getElem?_eq_getElem _⟩
      have hneK : ks ≠ [] := fun e => by rw [e] at hkv; simp at hkv
      obtain ⟨bk, ok, rfl, hki⟩ := HR.out hneK
      obtain ⟨Aw, At, A1, A2, A3, A4, A5, A6, A7, A8, A9, nw, nt, cw, ct, c1, c2, c3, c4, c5, c6, c7, c8, c9, hcs, hpk⟩ := (hki k1 kv hkv).cells
      have hws := offers_succ (worksI ks) hkv
      have hwI : worksI ks k1 = worksB kv.st := by unfold worksI; rw [hkv]
      rw [hwI] at hws
      have HWS := Lib.hid hws
      obtain ⟨cs, hcsd⟩ : ∃ cs : List Value, (kvC kv (.slice Aw nw cw) (.slice At nt ct) (.slice A1 kv.p.dep.length c1) (.slice A2 kv.p.ahead.length c2) (.slice A3 kv.p.ag.length c3) (.slice A4 kv.p.br.length c4) (.slice A5 kv.p.re.length c5) (.slice A6 kv.p.pr.length c6) (.slice A7 kv.p.se.length c7) (.slice A8 kv.p.li.length c8) (.slice A9 kv.p.fi.length c9)).toList = cs := ⟨_, rfl⟩
      have HRANGE := Lib.hid (show wr.rangeAt bk (ok + k1 * 20) cs from fun j u hj => kept hB.out (hcs j u (by rw [← Array.getElem?_toList, hcsd]; exact hj)))
      have HLEN := Lib.hid (show cs.length = 20 from by rw [← hcsd]; rfl)
      have HONE := Lib.hid (show cs.toArray.all (·.oneCell') = true from by rw [← hcsd]; simp [kvC, Value.oneCell'])
      have HC0 := Lib.hid (show cs.toArray[0]? = some (.int .i64 kv.st) from by rw [← hcsd]; rfl)
      have HC7 := Lib.hid (show cs.toArray[7]? = some (.string kv.p.n) from by rw [← hcsd]; rfl)
      have HC8 := Lib.hid (show cs.toArray[8]? = some (.int .i64 kv.p.e) from by rw [← hcsd]; rfl)
      have HC9 := Lib.hid (show cs.toArray[9]? = some (.string kv.p.u) from by rw [← hcsd]; rfl)
      have HC10 := Lib.hid (show cs.toArray[10]? = some (.string kv.p.r) from by rw [← hcsd]; rfl)
      have HC16 := Lib.hid (show cs.toArray[16]? = some (.slice A6 kv.p.pr.length c6) from by rw [← hcsd]; rfl)
      have HTP := Lib.hid (show TermsAt w (.slice A6 kv.p.pr.length c6) kv.p.pr from by
        obtain ⟨v1, v2, v3, v4, v5, v6, v7, v8, v9, hv, h1, h2, h3, h4, h5, h6, h7, h8, h9, hlo, hhi⟩ := hpk
        injection hv with hv
        injection hv with hv
        simp only [List.cons.injEq] at hv
        obtain ⟨_, _, _, _, rfl, rfl, rfl, rfl, rfl, rfl, rfl, rfl, rfl, _⟩ := hv
        exact h6)
      obtain ⟨sb, hsb⟩ : ∃ sb, worksB kv.st = sb := ⟨_, rfl⟩
      have CW := Lib.hid (fun (W : World) => works_calls kv.st W)
      rw [hsb] at HWS CW
      have hnb : n' ≤ 40 := by have := offers_len ks (worksI ks) k1; have := hn.out; omega
      clear hkv hneK hki hcs hws hwI hsb hcsd hpk
      go_upto_region 5 with (first | (refine wpList_load_mid rfl 79 _ rfl bk (ok + k1 * 20) rfl cs _ HRANGE.out Tryz.underlying79 rfl (by rw [HLEN.out]; kernel_rfl) ?_) | (refine wpList_store_row rfl 79 _ _ rfl wr.heap.size cs.toArray rfl rfl 79 _ (heap_alloc_new wr _) (by rw [List.size_toArray, HLEN.out]; kernel_rfl) HLEN.out.symm HONE.out ?_))
      have hnr := new_row wr #[.int .i64 0, .int .i64 0, .string ⟨#[]⟩, .string ⟨#[]⟩, .bool false, .slice none 0 0, .slice none 0 0, .string ⟨#[]⟩, .int .i64 0, .string ⟨#[]⟩, .string ⟨#[]⟩, .slice none 0 0, .slice none 0 0, .slice none 0 0, .slice none 0 0, .slice none 0 0, .slice none 0 0, .slice none 0 0, .slice none 0 0, .slice none 0 0] cs.toArray 79
      obtain ⟨W5, hW5⟩ : ∃ W, (wr.alloc (.cells #[.int .i64 0, .int .i64 0, .string ⟨#[]⟩, .string ⟨#[]⟩, .bool false, .slice none 0 0, .slice none 0 0, .string ⟨#[]⟩, .int .i64 0, .string ⟨#[]⟩, .string ⟨#[]⟩, .slice none 0 0, .slice none 0 0, .slice none 0 0, .slice none 0 0, .slice none 0 0, .slice none 0 0, .slice none 0 0, .slice none 0 0, .slice none 0 0] 79)).setRow wr.heap.size cs.toArray = W := ⟨_, rfl⟩
      rw [hW5] at hnr ⊢
      have hc0 : W5.cell? ⟨wr.heap.size, 0, none⟩ = some (.int .i64 kv.st) := hnr.1.cell HC0.out
      have hc7 : W5.cell? ⟨wr.heap.size, 7, none⟩ = some (.string kv.p.n) := hnr.1.cell HC7.out
      have hc8 : W5.cell? ⟨wr.heap.size, 8, none⟩ = some (.int .i64 kv.p.e) := hnr.1.cell HC8.out
      have hc9 : W5.cell? ⟨wr.heap.size, 9, none⟩ = some (.string kv.p.u) := hnr.1.cell HC9.out
      have hc10 : W5.cell? ⟨wr.heap.size, 10, none⟩ = some (.string kv.p.r) := hnr.1.cell HC10.out
      have hc16 : W5.cell? ⟨wr.heap.size, 16, none⟩ = some (.slice A6 kv.p.pr.length c6) := hnr.1.cell HC16.out
      have hb5 := hnr.2
      have HB5 := Lib.hid (hB.out.trans (hb5.mono hB.out.size))
      have HROW5 := Lib.hid (row_keep hrow.out fun g e => hb5.block g (row_lt hrow.out e).2)
      clear hW5 hnr hb5 hrow hB
      go_wp2_with fail
      refine (CW.out _).mono ?_
      rintro E w6 ⟨rfl, rfl⟩
      clear CW hc0
      cases sb with
      | false =>
        have HWE := Lib.hid (show offersT ks (worksI ks) (k1 + 1) = offersT ks (worksI ks) k1 from by rw [HWS.out]; simp)
        clear hc7 hc8 hc9 hc10 hc16
        go_wp2_with fail
        go_roundw
        case rel => exact ⟨k1 + 1, n', c', A', xs, by omega, by go_num, rfl, by rw [HWE.out]; exact hn, HROW5, by rw [HWE.out]; exact hxr, HB5⟩
        case measure => simp [intOf]; omega
      | true =>
        have HWE := Lib.hid (show offersT ks (worksI ks) (k1 + 1) = offersT ks (worksI ks) k1 ++ [kv.offer] from by rw [HWS.out]; simp)
        have HX2 := Lib.hid (hxr.out.append (offersRow_one (o := kv.offer) HTP.out))
        have hsz5 := HB5.out.size
        go_wp2_with (at_builtin; obtain ⟨i0, hi, hz0, hz1, hz2⟩ := info_parts info_offer; refine wpList_append_own_at _ rfl _ _ 82 rfl w.heap.size 84 i0 (.agg #[.string ⟨#[]⟩, .int .i64 0, .string ⟨#[]⟩, .string ⟨#[]⟩, .slice none 0 0]) 5 80 Tryz.underlying82 hi hz0 hz1 hz2 rfl (by decide) _ _ _ rfl (HROW5.out.alloc _) ⟨W5.heap.size, 0, none⟩ 1 1 [.string kv.p.n, .int .i64 kv.p.e, .string kv.p.u, .string kv.p.r, .slice A6 kv.p.pr.length c6] rfl rfl (cells_newL _ _ _) (by simp [Value.oneCell']) (by simp only [maxLen]; omega) (by omega) (by simp; omega) ?_; clear hi hz0 hz1 hz2; intro v10 w10 hown10 hgrow10 hnil10 hloc10; obtain ⟨A10, c10, rfl, _, _⟩ := own_sl hown10)
        have HB10 := Lib.hid ((HB5.out.trans ((below_alloc W5 _).mono HB5.out.size)).grown hgrow10 (Nat.le_trans HB5.out.size (below_alloc W5 _).size) fun g e => (row_lt HROW5.out e).1)
        have HO10 := Lib.hid hown10
        clear hown10 hgrow10 hnil10 hloc10 hc7 hc8 hc9 hc10 hc16
        go_roundw
        case rel => exact ⟨k1 + 1, n' + 1, c10, A10, _, by omega, by go_num, rfl, Lib.hid (by rw [HWE.out, List.length_append, hn.out]; rfl), HO10, by rw [HWE.out]; exact HX2, HB10⟩
        case measure => simp [intOf]; omega
    · obtain rfl : k1 = kl := by omega
      have HAT := Lib.hid (show OffersAt wr (.slice A' n' c') (offersT ks (worksI ks) k1) from offers_of_own hrow.out hn.out.symm (by have := offers_len ks (worksI ks) k1; have := hn.out; omega) (hxr.out.below hB.out))
      go_wp2_with fail
      go_ret
      exact ⟨_, rfl, HAT.out, hB.out⟩
end Go.Proofs.YtpbbhjifgaeklaaGreatDoor

namespace Go.Proofs.YtpbbhjifgaeklaaGreatDoor
open Go Go.RowKit
open TJ (hasN)

set_option maxHeartbeats 4000000 in
set_option maxRecDepth 100000 in
theorem needs1_calls (x5 x2 i b off len cl : Nat) (gv : Value) (gone : List Nat) (k : Kv) (w : World) (h5 : w.cell? ⟨x5, 0, none⟩ = some gv) (h2 : w.cell? ⟨x2, 0, none⟩ = some (.slice (some ⟨b, off, none⟩) len cl)) (hg : NatsAt w gv gone) (hi : i < len) (hk : KnownAt w b (off + i * 20) k) :
    Calls Tryz.prog 105 #[.int .i64 i, .pointer (some ⟨x5, 0, none⟩), .pointer (some ⟨x2, 0, none⟩)] w (BoolIs (!(hasN gone i) && worksB k.st) w) := by
  obtain ⟨Aw, At, A1, A2, A3, A4, A5, A6, A7, A8, A9, nw, nt, cw, ct, c1, c2, c3, c4, c5, c6, c7, c8, c9, hcs, _⟩ := hk.cells
  have hst : w.cell? ⟨b, off + i * 20, none⟩ = some (.int .i64 k.st) := by have := hcs 0 _ rfl; rwa [Nat.add_zero] at this
  have CH := Lib.hid (fun (W : World) (hb : Below w.heap.size w W) => natHas_calls gv gone i W (hg.below hb))
  have CW := Lib.hid (fun (W : World) => works_calls k.st W)
  obtain ⟨A', c', rfl, _⟩ := hg
  obtain ⟨gl, hgl⟩ : ∃ gl, gone.length = gl := ⟨_, rfl⟩
  rw [hgl] at CH h5
  have i1 : (i : Int) < len := by omega
  have i2 : (0 : Int) ≤ i := by omega
  obtain ⟨hb, hhb⟩ : ∃ hb, hasN gone i = hb := ⟨_, rfl⟩
  obtain ⟨wb, hwb⟩ : ∃ wb, worksB k.st = wb := ⟨_, rfl⟩
  rw [hhb] at CH ⊢
  rw [hwb] at CW ⊢
  clear hi hk hcs hgl hhb hwb
  cases hb with
  | true =>
    go_enter Tryz.func105, Tryz.ntmps105
    go_wp2_with fail
    refine (CH.out _ (Below.refl _ _)).mono ?_
    rintro E w1 ⟨rfl, rfl⟩
    clear CH CW
    go_wp2_with fail
    go_ret
    exact ⟨rfl, Below.refl _ _⟩
  | false =>
    go_enter Tryz.func105, Tryz.ntmps105
    go_wp2_with fail
    refine (CH.out _ (Below.refl _ _)).mono ?_
    rintro E w1 ⟨rfl, rfl⟩
    clear CH
    go_wp2_with fail
    refine (CW.out _).mono ?_
    rintro E w2 ⟨rfl, rfl⟩
    clear CW
    go_wp2_with fail
    go_ret
    exact ⟨rfl, Below.refl _ _⟩
end Go.Proofs.YtpbbhjifgaeklaaGreatDoor

namespace Go.Proofs.YtpbbhjifgaeklaaGreatDoor
open Go Go.RowKit
open TJ (EdgeN)

def hitB (ks : List Kv) (x : List Tv) (k : Nat) : Bool := match ks[k]? with
  | some kv => x.any (meetsB kv.offer)
  | none => false
def selK (ks : List Kv) (sel : Kv → List (List Tv)) (i : Nat) : List (List Tv) := match ks[i]? with
  | some kv => sel kv
  | none => []
def eA (ks : List Kv) (x : List Tv) (b : Nat) : List Nat → Nat → List EdgeN
  | [], _ => []
  | k :: w, a => (if hitB ks x k then [(a, b)] else []) ++ eA ks x b w (a + 1)
def eX (ks : List Kv) (which : List Nat) (b : Nat) (xs : List (List Tv)) : List EdgeN := xs.flatMap fun x => eA ks x b which 0
def eB (ks : List Kv) (which : List Nat) (sel : Kv → List (List Tv)) : List Nat → Nat → List EdgeN
  | [], _ => []
  | i :: w, b => eX ks which b (selK ks sel i) ++ eB ks which sel w (b + 1)
/-- all edges: First comes ahead of Then -/
def edgesK (ks : List Kv) (which : List Nat) (sel : Kv → List (List Tv)) : List EdgeN := eB ks which sel which 0

theorem eA_lt (ks : List Kv) (x : List Tv) {b n : Nat} (hb : b < n) : ∀ (w : List Nat) (a : Nat), a + w.length ≤ n → ∀ e, e ∈ eA ks x b w a → e.1 < n ∧ e.2 < n
  | [], _, _, e, he => by cases he
  | k :: w, a, ha, e, he => by
    unfold eA at he
    rw [List.length_cons] at ha
    rcases List.mem_append.1 he with he | he
    · split at he
      · rw [List.mem_singleton] at he
        subst he
        exact ⟨by show a < n; omega, hb⟩
      · cases he
    · exact eA_lt ks x hb w (a + 1) (by omega) e he
theorem eB_lt (ks : List Kv) (which : List Nat) (sel : Kv → List (List Tv)) : ∀ (w : List Nat) (b : Nat), b + w.length ≤ which.length → ∀ e, e ∈ eB ks which sel w b → e.1 < which.length ∧ e.2 < which.length
  | [], _, _, e, he => by cases he
  | i :: w, b, hb, e, he => by
    unfold eB at he
    rw [List.length_cons] at hb
    rcases List.mem_append.1 he with he | he
    · unfold eX at he
      obtain ⟨x, _, hx⟩ := List.mem_flatMap.1 he
      exact eA_lt ks x (by omega) which 0 (by omega) e hx
    · exact eB_lt ks which sel w (b + 1) (by omega) e he
theorem edgesK_lt (ks : List Kv) (which : List Nat) (sel : Kv → List (List Tv)) : ∀ e, e ∈ edgesK ks which sel → e.1 < which.length ∧ e.2 < which.length := eB_lt ks which sel which 0 (by omega)
theorem eA_len (ks : List Kv) (x : List Tv) (b : Nat) : ∀ (w : List Nat) (a : Nat), (eA ks x b w a).length ≤ w.length
  | [], _ => Nat.le_refl _
  | k :: w, a => by
    unfold eA
    have := eA_len ks x b w (a + 1)
    rw [List.length_append, List.length_cons]
    split <;> simp <;> omega
theorem eX_len (ks : List Kv) (which : List Nat) (b : Nat) : ∀ xs : List (List Tv), (eX ks which b xs).length ≤ xs.length * which.length
  | [] => by simp [eX]
  | x :: xs => by
    have h1 := eX_len ks which b xs
    have h2 := eA_len ks x b which 0
    unfold eX at h1 ⊢
    rw [List.flatMap_cons, List.length_append, List.length_cons, Nat.succ_mul]
    omega
theorem eB_len (ks : List Kv) (which : List Nat) (sel : Kv → List (List Tv)) {m : Nat} (hm : ∀ i, (selK ks sel i).length ≤ m) : ∀ (w : List Nat) (b : Nat), (eB ks which sel w b).length ≤ w.length * (m * which.length)
  | [], _ => by simp [eB]
  | i :: w, b => by
    have h1 := eB_len ks which sel hm w (b + 1)
    have h2 := eX_len ks which b (selK ks sel i)
    have h3 := Nat.mul_le_mul_right which.length (hm i)
    unfold eB
    rw [List.length_append, List.length_cons, Nat.succ_mul]
    omega
theorem edgesK_len (ks : List Kv) (which : List Nat) (sel : Kv → List (List Tv)) (hm : ∀ i, (selK ks sel i).length ≤ 40) (hw : which.length ≤ 40) : (edgesK ks which sel).length ≤ 64000 := by
  have h := eB_len ks which sel hm which 0
  have h1 : 40 * which.length ≤ 1600 := by omega
  have h2 := Nat.mul_le_mul hw h1
  unfold edgesK
  omega
end Go.Proofs.YtpbbhjifgaeklaaGreatDoor

/- The contracts of slices.Sorted(maps.Keys(m)) and slices.Sort at texts, laid at this dump in plain words (printed by the kit's tools). · The disk's List: all files' names, in order. · record.paths, the reference's paths: which lists of paths may be. -/
import Derived.Shelf.SlIter.Nil
import Derived.Shelf.SortM.Plain
import Derived.Shelf.SortM.SortNone
import Derived.Ground.GgzProg
import Derived.Ground.SlgmProg
import Derived.Test.YtpbbhjifgaeklaaGreatDoorProg
import Derived.Test.YtpbbhjifgaeklaaGreatDoorSOK11
import Derived.Test.YtpbbhjifgaeklaaGreatDoorSOK7
namespace Go.Proofs
open Go.Shelf
def Tryz.keys246_ren : Go.Shelf.Ren := ⟨fun | 7 => 246 | 10 => 295 | n => n, fun | 23 => 56 | 26 => 9 | 3 => 9 | 28 => 280 | 0 => 0 | 27 => 279 | 33 => 59 | 4 => 4 | n => n, fun | n => n⟩
theorem Tryz.keys246 : Go.Proofs.SlLaysZ.n7 Tryz.prog Tryz.keys246_ren := {
  mixed := by kernel_rfl
  f7 := ⟨Tryz.f246.name, by decide, Tryz.func246.trans (congrArg some (by kernel_rfl))⟩
  f10 := ⟨Tryz.f295.name, by decide, Tryz.func295.trans (congrArg some (by kernel_rfl))⟩
  t0 := Tryz.underlying0
  a0 := Tryz.isAgg0
  z0 := Tryz.sizeOf0
  v0 := Tryz.zeroValue0
  t4 := Tryz.underlying4
  a4 := Tryz.isAgg4
  z4 := Tryz.sizeOf4
  v4 := Tryz.zeroValue4
  t23 := Tryz.underlying56
  a23 := Tryz.isAgg56
  z23 := Tryz.sizeOf56
  v23 := Tryz.zeroValue56
  t26 := Tryz.underlying9
  a26 := Tryz.isAgg9
  z26 := Tryz.sizeOf9
  v26 := Tryz.zeroValue9
  t27 := Tryz.underlying279
  a27 := Tryz.isAgg279
  z27 := Tryz.sizeOf279
  v27 := Tryz.zeroValue279
  t28 := Tryz.underlying280
  a28 := Tryz.isAgg280
  z28 := Tryz.sizeOf280
  v28 := Tryz.zeroValue280
  t33 := Tryz.underlying59
  a33 := Tryz.isAgg59
  z33 := Tryz.sizeOf59
  v33 := Tryz.zeroValue59 }
def Tryz.sorted245_ren : Go.Shelf.Ren := ⟨fun | 6 => 245 | 8 => 294 | 9 => 159 | 11 => 313 | 13 => 182 | 12 => 221 | 23 => 243 | 24 => 244 | 14 => 273 | 15 => 274 | 16 => 275 | 17 => 276 | 18 => 277 | 19 => 278 | 20 => 143 | 21 => 279 | 22 => 280 | 25 => 306 | 26 => 289 | 27 => 290 | 28 => 307 | 29 => 308 | 30 => 212 | 31 => 317 | n => n, fun | 26 => 9 | 28 => 280 | 24 => 24 | 0 => 0 | 3 => 3 | 37 => 123 | 48 => 275 | 50 => 277 | 4 => 4 | 40 => 269 | 39 => 268 | 45 => 38 | 5 => 5 | 9 => 9 | 51 => 316 | 55 => 320 | 57 => 334 | 58 => 335 | 33 => 59 | n => n, fun | n => n⟩
theorem Tryz.sorted245 : Go.Proofs.SlLaysZ.n6 Tryz.prog Tryz.sorted245_ren := {
  mixed := by kernel_rfl
  f6 := ⟨Tryz.f245.name, by decide, Tryz.func245.trans (congrArg some (by kernel_rfl))⟩
  f8 := ⟨Tryz.f294.name, by decide, Tryz.func294.trans (congrArg some (by kernel_rfl))⟩
  f11 := ⟨Tryz.f313.name, by decide, Tryz.func313.trans (congrArg some (by kernel_rfl))⟩
  t0 := Tryz.underlying0
  a0 := Tryz.isAgg0
  z0 := Tryz.sizeOf0
  v0 := Tryz.zeroValue0
  t24 := Tryz.underlying24
  a24 := Tryz.isAgg24
  z24 := Tryz.sizeOf24
  v24 := Tryz.zeroValue24
  t26 := Tryz.underlying9
  a26 := Tryz.isAgg9
  z26 := Tryz.sizeOf9
  v26 := Tryz.zeroValue9
  t28 := Tryz.underlying280
  a28 := Tryz.isAgg280
  z28 := Tryz.sizeOf280
  v28 := Tryz.zeroValue280
  i26 := by kernel_rfl }
def Tryz.sort159_ren : Go.Shelf.Ren := ⟨fun | 6 => 159 | 8 => 182 | 9 => 221 | 19 => 243 | 20 => 244 | 21 => 273 | 22 => 274 | 23 => 275 | 24 => 276 | 25 => 277 | 26 => 278 | 27 => 143 | 28 => 279 | 29 => 280 | 36 => 306 | 31 => 289 | 32 => 290 | 37 => 307 | 38 => 308 | 39 => 212 | 41 => 317 | n => n, fun | 27 => 24 | 29 => 9 | 3 => 3 | 32 => 123 | 26 => 24 | 0 => 0 | 44 => 275 | 46 => 277 | 4 => 4 | 36 => 269 | 35 => 268 | 41 => 38 | 5 => 5 | 9 => 9 | 53 => 316 | 57 => 320 | 63 => 334 | 64 => 335 | n => n, fun | n => n⟩
theorem Tryz.sort159 : Go.Proofs.SlLaysM.n6 Tryz.prog Tryz.sort159_ren := {
  mixed := by kernel_rfl
  f6 := ⟨Tryz.f159.name, by decide, Tryz.func159.trans (congrArg some (by kernel_rfl))⟩
  f8 := Tryz.func182.trans (congrArg some (by kernel_rfl))
  f9 := ⟨Tryz.f221.name, by decide, Tryz.func221.trans (congrArg some (by kernel_rfl))⟩
  f19 := Tryz.func243.trans (congrArg some (by kernel_rfl))
  f20 := Tryz.func244.trans (congrArg some (by kernel_rfl))
  f21 := ⟨Tryz.f273.name, by decide, Tryz.func273.trans (congrArg some (by kernel_rfl))⟩
  f22 := ⟨Tryz.f274.name, by decide, Tryz.func274.trans (congrArg some (by kernel_rfl))⟩
  f23 := ⟨Tryz.f275.name, by decide, Tryz.func275.trans (congrArg some (by kernel_rfl))⟩
  f24 := ⟨Tryz.f276.name, by decide, Tryz.func276.trans (congrArg some (by kernel_rfl))⟩
  f25 := ⟨Tryz.f277.name, by decide, Tryz.func277.trans (congrArg some (by kernel_rfl))⟩
  f26 := ⟨Tryz.f278.name, by decide, Tryz.func278.trans (congrArg some (by kernel_rfl))⟩
  f27 := ⟨Tryz.f143.name, by decide, Tryz.func143.trans (congrArg some (by kernel_rfl))⟩
  f28 := ⟨Tryz.f279.name, by decide, Tryz.func279.trans (congrArg some (by kernel_rfl))⟩
  f29 := ⟨Tryz.f280.name, by decide, Tryz.func280.trans (congrArg some (by kernel_rfl))⟩
  f31 := Tryz.func289.trans (congrArg some (by kernel_rfl))
  f32 := Tryz.func290.trans (congrArg some (by kernel_rfl))
  f36 := ⟨Tryz.f306.name, by decide, Tryz.func306.trans (congrArg some (by kernel_rfl))⟩
  f37 := ⟨Tryz.f307.name, by decide, Tryz.func307.trans (congrArg some (by kernel_rfl))⟩
  f38 := ⟨Tryz.f308.name, by decide, Tryz.func308.trans (congrArg some (by kernel_rfl))⟩
  f39 := ⟨Tryz.f212.name, by decide, Tryz.func212.trans (congrArg some (by kernel_rfl))⟩
  f41 := ⟨Tryz.f317.name, by decide, Tryz.func317.trans (congrArg some (by kernel_rfl))⟩
  t0 := Tryz.underlying0
  a0 := Tryz.isAgg0
  z0 := Tryz.sizeOf0
  v0 := Tryz.zeroValue0
  t3 := Tryz.underlying3
  a3 := Tryz.isAgg3
  z3 := Tryz.sizeOf3
  v3 := Tryz.zeroValue3
  t4 := Tryz.underlying4
  a4 := Tryz.isAgg4
  z4 := Tryz.sizeOf4
  v4 := Tryz.zeroValue4
  t5 := Tryz.underlying5
  a5 := Tryz.isAgg5
  z5 := Tryz.sizeOf5
  v5 := Tryz.zeroValue5
  t9 := Tryz.underlying9
  a9 := Tryz.isAgg9
  z9 := Tryz.sizeOf9
  v9 := Tryz.zeroValue9
  t26 := Tryz.underlying24
  a26 := Tryz.isAgg24
  z26 := Tryz.sizeOf24
  v26 := Tryz.zeroValue24
  t27 := Tryz.underlying24
  a27 := Tryz.isAgg24
  z27 := Tryz.sizeOf24
  v27 := Tryz.zeroValue24
  t29 := Tryz.underlying9
  a29 := Tryz.isAgg9
  z29 := Tryz.sizeOf9
  v29 := Tryz.zeroValue9
  t32 := Tryz.underlying123
  a32 := Tryz.isAgg123
  z32 := Tryz.sizeOf123
  v32 := Tryz.zeroValue123
  t35 := Tryz.underlying268
  a35 := Tryz.isAgg268
  z35 := Tryz.sizeOf268
  v35 := Tryz.zeroValue268
  t36 := Tryz.underlying269
  a36 := Tryz.isAgg269
  z36 := Tryz.sizeOf269
  v36 := Tryz.zeroValue269
  t41 := Tryz.underlying38
  a41 := Tryz.isAgg38
  z41 := Tryz.sizeOf38
  v41 := Tryz.zeroValue38
  t44 := Tryz.underlying275
  a44 := Tryz.isAgg275
  z44 := Tryz.sizeOf275
  v44 := Tryz.zeroValue275
  t46 := Tryz.underlying277
  a46 := Tryz.isAgg277
  z46 := Tryz.sizeOf277
  v46 := Tryz.zeroValue277
  t53 := Tryz.underlying316
  a53 := Tryz.isAgg316
  z53 := Tryz.sizeOf316
  v53 := Tryz.zeroValue316
  t57 := Tryz.underlying320
  a57 := Tryz.isAgg320
  z57 := Tryz.sizeOf320
  v57 := Tryz.zeroValue320
  t63 := Tryz.underlying334
  a63 := Tryz.isAgg334
  z63 := Tryz.sizeOf334
  v63 := Tryz.zeroValue334
  t64 := Tryz.underlying335
  a64 := Tryz.isAgg335
  z64 := Tryz.sizeOf335
  v64 := Tryz.zeroValue335 }
open Go.RowKit Go.Maps Go.Sort

/-- slices.Sort's two contracts at this dump, at the fence that asks nothing. -/
theorem Tryz.sorts245 (m : Nat) : AnyZ.SortsIn Tryz.prog Tryz.sorted245_ren Fence.wide m :=
  ⟨fun blk off cap ss W hH hblk hsz => callsIn_wide.2 (AnyM.slices_Sort_string Tryz.sort159 blk off cap ss W hH hblk hsz),
   fun p cap W => callsIn_wide.2 (AnyM.slices_Sort_string_none Tryz.sort159 p cap W)⟩

/-- **maps.Keys[map[string]string,string,string], at whatever map, the nil one too:** a function value over ONE NEW BLOCK, which holds the map. -/
theorem Tryz.maps_Keys_246 (mb : Option Nat) (W : World) : CallsIn Fence.wide 5 Tryz.prog 246 #[.map mb] W fun e w' => e = .returned (.func (.func 295) #[] #[.pointer (some ⟨W.heap.size, 0, none⟩)]) ∧ w' = W.alloc (.cells #[.map mb] 56) :=
  AnyZ.keys_in Tryz.keys246 Fence.wide 5 trivial rfl mb W

set_option maxHeartbeats 1000000 in
/-- **slices.Sorted[string] AT WHAT maps.Keys[map[string]string,string,string] HANDED BACK FOR A MAP THAT IS NOT nil** ('w': the world AHEAD of maps.Keys' call): A NEW SLICE THAT HOLDS THE MAP's KEYS, SORTED; nil just where it has none; nothing that lay before has turned. -/
theorem Tryz.slices_Sorted_keys_245_246 {H : Type} (b nn : Nat) (D0 : DataW H) (R : Value → Option (DataW H × List MemPlace)) (w : World) (hown : w.ownsMap Tryz.prog 9 R b nn D0) (hmax : Maps.size D0 ≤ maxLen) (hbytes : Maps.size D0 * 16 ≤ 140737488355328) :
    CallsIn Fence.wide 5 Tryz.prog 245 #[.func (.func 295) #[] #[.pointer (some ⟨w.heap.size, 0, none⟩)]] (w.alloc (.cells #[.map (some b)] 56)) fun e w' => ∃ (v : Value) (ss : List (List UInt8)), e = .returned v ∧ ss.Perm (strKeys D0) ∧
      w'.ownsRow (w.alloc (.cells #[.map (some b)] 56)).heap.size 9 1 v ss.length ((ss.mergeSort (fun x y => decide (x ≤ y))).map encStr) ∧ (v = .slice none 0 0 ↔ ss = []) ∧ Below (w.alloc (.cells #[.map (some b)] 56)).heap.size (w.alloc (.cells #[.map (some b)] 56)) w' := by
  have hbl := hown.lt
  have hseq : SeqGives Fence.wide 2 Tryz.prog 295 #[.pointer (some ⟨w.heap.size, 0, none⟩)] encStr (fun ss => ss.Perm (strKeys D0)) (Maps.size D0) (w.alloc (.cells #[.map (some b)] 56)) :=
    AnyZ.keys_gives (ρ := Tryz.keys246_ren) { Tryz.keys246 with } Fence.wide _ trivial rfl (by omega) w.heap.size b nn D0 _ (by simp) (by simp) (by
      obtain ⟨es, clock, hb, Ft, hs, hD⟩ := hown
      exact ⟨es, clock, (Below.heap_alloc _ _ b hbl).trans hb, Ft, hs, hD⟩)
  exact AnyZ.sorted_in Tryz.sorted245 Fence.wide 5 trivial trivial trivial trivial rfl (by omega) (Tryz.sorts245 _) (enters_of Tryz.func159 (by kernel_rfl) rfl) 295 #[.pointer (some ⟨w.heap.size, 0, none⟩)] trivial (enters_of Tryz.func295 (by kernel_rfl) rfl) _ _ hmax hbytes _ hseq

set_option maxHeartbeats 1000000 in
/-- **.. AND FOR THE nil MAP: nil.** -/
theorem Tryz.slices_Sorted_keys_nil_245_246 (w : World) :
    CallsIn Fence.wide 5 Tryz.prog 245 #[.func (.func 295) #[] #[.pointer (some ⟨w.heap.size, 0, none⟩)]] (w.alloc (.cells #[.map none] 56)) fun e w' => ∃ (v : Value) (ss : List (List UInt8)), e = .returned v ∧ ss = [] ∧
      w'.ownsRow (w.alloc (.cells #[.map none] 56)).heap.size 9 1 v ss.length ((ss.mergeSort (fun x y => decide (x ≤ y))).map encStr) ∧ (v = .slice none 0 0 ↔ ss = []) ∧ Below (w.alloc (.cells #[.map none] 56)).heap.size (w.alloc (.cells #[.map none] 56)) w' := by
  have hseq : SeqGives Fence.wide 2 Tryz.prog 295 #[.pointer (some ⟨w.heap.size, 0, none⟩)] encStr (fun ss : List (List UInt8) => ss = []) 0 (w.alloc (.cells #[.map none] 56)) :=
    AnyZ.keys_gives_nil (ρ := Tryz.keys246_ren) { Tryz.keys246 with } Fence.wide _ trivial rfl w.heap.size _ (by simp) (by simp)
  exact AnyZ.sorted_in Tryz.sorted245 Fence.wide 5 trivial trivial trivial trivial rfl (by omega) (Tryz.sorts245 _) (enters_of Tryz.func159 (by kernel_rfl) rfl) 295 #[.pointer (some ⟨w.heap.size, 0, none⟩)] trivial (enters_of Tryz.func295 (by kernel_rfl) rfl) _ 0 (Nat.zero_le _) (by omega) _ hseq

open Go.Sort Go.RowKit in
theorem Tryz.slices_Sort_string (blk off cap : Nat) (ss : List (List UInt8)) (w : World) (hH : Holds encStr w blk off ss.toArray) (hblk : blk < w.heap.size) (hsz : ss.length < 4611686018427387904) :
    Calls Tryz.prog 159 #[.slice (some ⟨blk, off, none⟩) ss.length cap] w fun e w' =>
      e = .returned (.tuple #[]) ∧ ∃ n os, w' = grow (putRow encStr (Sort.ahead w n) blk off (ss.mergeSort fun x y => decide (x ≤ y)).toArray) os := AnyM.slices_Sort_string Tryz.sort159 blk off cap ss w hH hblk hsz
open Go.RowKit Go.Sort in
/-- .. and plain. (LAID AT THE INSTANCE 'slices.Sort[[]string,string]': no walk: one application.) -/
theorem Tryz.slices_Sort_string_none (p : Option Addr) (cap : Nat) (w : World) :
    Calls Tryz.prog 159 #[.slice p 0 cap] w fun e w' => e = .returned (.tuple #[]) ∧ w' = w := AnyM.slices_Sort_string_none Tryz.sort159 p cap w
end Go.Proofs

namespace Go.Proofs.YtpbbhjifgaeklaaGreatDoor
open Go Go.RowKit Go.Maps Go.Sort

theorem strKeys_dat (M : Fm) : strKeys (datF M) = (keysF M).map (·.data.toList) := by
  show (M.map entF).map (fun p => strOf p.1) = (M.map (·.1)).map (·.data.toList)
  rw [List.map_map, List.map_map]
  rfl
theorem sort_keys {M : Fm} (h : RisF M) {ss : List (List UInt8)} (hp : ss.Perm (strKeys (datF M))) : ss.mergeSort leB = (keysF M).map (·.data.toList) := by
  rw [mergeSort_of_perm hp, strKeys_dat]
  refine List.mergeSort_of_pairwise ?_
  refine List.pairwise_map.2 ((keys_ris h).imp fun {a b} hab => ?_)
  simp only [decide_eq_true_eq]
  exact List.le_of_lt ((befB_iff a b).1 hab)
theorem encStr_keys (L : List ByteArray) : (L.map (·.data.toList)).map encStr = L.flatMap strC := by
  rw [flat_strs, List.map_map]
  exact List.map_congr_left fun s _ => by show Value.string ⟨s.data.toList.toArray⟩ = .string s; rw [Lib.mk_data]
/-- a slice of texts in a row of its own -/
theorem strsUp_own {W : World} {base : Nat} {e : TypeId} {v : Value} {n : Nat} {L : List ByteArray} (h : W.ownsRow base e 1 v n (L.flatMap strC)) (hn : n = L.length) (hm : n ≤ 9223372036854775807) : StrsUp base W v L := by
  refine ⟨slc_of_own h hn hm, fun b off k c hv => ?_⟩
  rcases h.2 with ⟨rfl, _⟩ | ⟨g, cap, cur, rfl, hg, _⟩
  · cases hv
  · injection hv with hv _ _
    injection hv with hv
    injection hv with hb _ _
    omega

set_option maxHeartbeats 1000000 in
set_option maxRecDepth 100000 in
theorem dlist_calls (d : Nat) (D : Dk) (w : World) (hD : DiskAt w d D) (hk : DkOk D) : Calls Tryz.prog 186 #[.pointer (some ⟨d, 0, none⟩)] w fun E w' => ∃ v, E = .returned v ∧ StrsUp w.heap.size w' v (keysF D.now) ∧ Below w.heap.size w w' := by
  obtain ⟨m0, m1, hb, hm⟩ := hD
  have HLen := Lib.hid hk.len
  have HRis := Lib.hid hk.ris
  have c0 := hb.cell (i := 0) rfl
  rcases hm with ⟨rfl, rfl, e0, _⟩ | ⟨b0, b1, rfl, rfl, _, h0, _⟩
  · have hb1 := below_alloc w (.cells #[.map none] 56)
    have CK := Lib.hid (callsIn_wide.1 (Tryz.maps_Keys_246 none w))
    have CS := Lib.hid (callsIn_wide.1 (Tryz.slices_Sorted_keys_nil_245_246 w))
    have H0 := Lib.hid e0
    have HB := Lib.hid hb1
    clear hk hb e0 hb1
    go_enter Tryz.func186, Tryz.ntmps186
    go_wp2_with fail
    refine CK.out.mono ?_
    rintro E w1 ⟨rfl, rfl⟩
    go_wp2_with fail
    refine CS.out.mono ?_
    rintro E w2 ⟨v, ss, rfl, hs, hown, _, hb2⟩
    subst hs
    rw [show (([] : List (List UInt8)).mergeSort (fun x y => decide (x ≤ y))).map encStr = ([] : List ByteArray).flatMap strC from by simp] at hown
    have HO := Lib.hid hown
    have HB2 := Lib.hid (step_below HB.out hb2)
    have HZ := Lib.hid HB.out.size
    clear hown hb2
    go_wp2_with fail
    go_ret
    refine ⟨v, rfl, ?_, HB2.out⟩
    rw [H0.out]
    exact (strsUp_own (L := []) HO.out rfl (by simp)).low HZ.out
  · have hb1 := below_alloc w (.cells #[.map (some b0)] 56)
    have CK := Lib.hid (callsIn_wide.1 (Tryz.maps_Keys_246 (some b0) w))
    have hmx : Maps.size (datF D.now) ≤ 5000 := by rw [datF_size]; exact hk.len
    have CS := Lib.hid (callsIn_wide.1 (Tryz.slices_Sorted_keys_245_246 b0 D.now.length (datF D.now) (plainElem Tryz.prog 9) w h0.1 (by unfold maxLen; omega) (by omega)))
    have HB := Lib.hid hb1
    clear hk hb h0 hb1 hmx
    go_enter Tryz.func186, Tryz.ntmps186
    go_wp2_with fail
    refine CK.out.mono ?_
    rintro E w1 ⟨rfl, rfl⟩
    go_wp2_with fail
    refine CS.out.mono ?_
    rintro E w2 ⟨v, ss, rfl, hs, hown, _, hb2⟩
    rw [show ss.mergeSort (fun x y => decide (x ≤ y)) = _ from sort_keys HRis.out hs, encStr_keys] at hown
    have hn : ss.length = (keysF D.now).length := by rw [hs.length_eq, strKeys_dat, List.length_map]
    have HN := Lib.hid hn
    have HO := Lib.hid hown
    have HB2 := Lib.hid (step_below HB.out hb2)
    have HZ := Lib.hid HB.out.size
    clear hown hb2 hs hn
    go_wp2_with fail
    go_ret
    have hl : (keysF D.now).length = D.now.length := List.length_map _
    exact ⟨v, rfl, (strsUp_own HO.out HN.out (by have := HLen.out; have := HN.out; omega)).low HZ.out, HB2.out⟩
end Go.Proofs.YtpbbhjifgaeklaaGreatDoor

namespace Go.Proofs.YtpbbhjifgaeklaaGreatDoor
open Go Go.RowKit

/-- is it one of them -/
def hasB (ss : List ByteArray) (x : ByteArray) : Bool := ss.any fun t => decide (t = x)
theorem hasB_iff {ss : List ByteArray} {x : ByteArray} : hasB ss x = true ↔ x ∈ ss := by
  unfold hasB
  rw [List.any_eq_true]
  constructor
  · rintro ⟨t, ht, h⟩
    rwa [of_decide_eq_true h] at ht
  · intro h; exact ⟨x, h, decide_eq_true rfl⟩

theorem hasStr_calls (v : Value) (ss : List ByteArray) (x : ByteArray) (w : World) (h : StrsAt w v ss) :
    Calls Tryz.prog 86 #[v, .string x] w fun e w' => e = .returned (.bool (hasB ss x)) ∧ w = w' := by
  obtain ⟨A, c, rfl, hc, hm, hr⟩ := h.open
  by_cases hn : ss = []
  · subst hn
    refine (Tryz.slices_Contains_string_empty A c x w).mono fun e w' ⟨he, hw⟩ => ⟨by rw [he]; rfl, hw.symm⟩
  · obtain ⟨b, off, rfl, hi⟩ := hr hn
    refine (Tryz.slices_Contains_string b off ss.length c ss x w (Nat.le_refl _) hm (fun j hj => ?_)).mono fun e w' ⟨he, hw⟩ => ⟨?_, hw.symm⟩
    · have e : ss[j]? = some ss[j] := List.getElem?_eq_getElem hj
      rw [hi j _ e, List.getD_eq_getElem?_getD, e]
      rfl
    · rw [he, List.take_length]
      congr 2
      rw [Bool.eq_iff_iff, Lib.containsS_iff, hasB_iff]

theorem mem_take_data (ss : List ByteArray) (k : Nat) (x : ByteArray) : hasB (ss.take k) x = (((ss.map (·.data.toList)).take k).any fun t => decide (t = x.data.toList)) := by
  rw [← List.map_take, List.any_map]
  unfold hasB
  congr 1
  funext t
  show decide _ = decide (t.data.toList = x.data.toList)
  congr 1
  exact propext ⟨fun h => by rw [h], fun h => data_inj h⟩
theorem pathOk_at {ss : List ByteArray} {k : Nat} {s : ByteArray} (h : ss[k]? = some s) : VP.pathOk (ss.map (·.data.toList)) k = (VP.pathP s.data.toList && !hasB (ss.take k) s) := by
  unfold VP.pathOk
  rw [List.getElem?_map, h, mem_take_data]
  rfl
def pathsB (ss : List ByteArray) : Bool := VP.pathsP (ss.map (·.data.toList))
theorem pathsB_false {ss : List ByteArray} {k : Nat} {s : ByteArray} (h : ss[k]? = some s) (hb : (VP.pathP s.data.toList && !hasB (ss.take k) s) = false) : pathsB ss = false := by
  unfold pathsB VP.pathsP
  rw [VP.allAt_false (i := k) (by rw [List.length_map]; exact (List.getElem?_eq_some_iff.1 h).1) ((pathOk_at h).trans hb)]
  rfl
/-- so far all is well -/
def PathsTo (ss : List ByteArray) (k : Nat) : Prop := ∀ i, i < k → VP.pathOk (ss.map (·.data.toList)) i = true
theorem PathsTo.zero (ss : List ByteArray) : PathsTo ss 0 := fun _ h => absurd h (Nat.not_lt_zero _)
theorem PathsTo.succ {ss : List ByteArray} {k : Nat} {s : ByteArray} (h : PathsTo ss k) (hs : ss[k]? = some s) (hb : (VP.pathP s.data.toList && !hasB (ss.take k) s) = true) : PathsTo ss (k + 1) := fun i hi => by
  rcases Nat.lt_or_ge i k with h' | h'
  · exact h i h'
  · obtain rfl : i = k := by omega
    exact (pathOk_at hs).trans hb
theorem PathsTo.done {ss : List ByteArray} (h : PathsTo ss ss.length) : pathsB ss = decide (ss.length ≤ 20) := by
  unfold pathsB VP.pathsP
  rw [VP.allAt_true (by rw [List.length_map]; exact h), List.length_map]
  rfl

set_option maxHeartbeats 2000000 in
set_option maxRecDepth 100000 in
theorem paths_calls (v : Value) (ss : List ByteArray) (w : World) (hE : Env w) (h : StrsAt w v ss) (hs : ∀ s ∈ ss, s.size ≤ 1000000) : Calls Tryz.prog 217 #[v] w (BoolIs (pathsB ss) w) := by
  obtain ⟨A, c, hv, hc, hm, hr⟩ := h.open
  have HH := Lib.hid h
  subst hv
  obtain ⟨len, hlen⟩ : ∃ len, ss.length = len := ⟨_, rfl⟩
  have HL := Lib.hid hlen
  have HR := Lib.hid hr
  have HS := Lib.hid hs
  have HE := Lib.hid hE
  rw [hlen] at hc hm HH ⊢
  clear hlen hr hs h hE
  go_enter Tryz.func217, Tryz.ntmps217
  go_wp2_with fail
  go_loopw [7] (fun i wr => ∃ k : Nat, k ≤ len ∧ i = .int .i64 k ∧ Hid (PathsTo ss k) ∧ Below w.heap.size w wr) (fun i _ => len - (intOf i).toNat)
  case atStart => exact ⟨0, Nat.zero_le _, rfl, PathsTo.zero ss, Below.refl _ _⟩
  case round =>
    obtain ⟨k, hk, rfl, hall, hB⟩ := hrel
    by_cases hlt : k < len
    · have hne : ss ≠ [] := by
        intro e
        have := HL.out
        rw [e] at this
        simp at this
        omega
      obtain ⟨s, ht⟩ : ∃ s, ss[k]? = some s := ⟨ss[k]'(by have := HL.out; omega), List.getElem?_eq_getElem _⟩
      obtain ⟨b, off, rfl, hi⟩ := HR.out hne
      have c0 := kept hB (hi k s ht)
      have P1 := Lib.hid (path_calls s wr (HE.out.below hB) (HS.out s (List.mem_of_getElem? ht)))
      have HT := Lib.hid ht
      obtain ⟨bp, hbp⟩ : ∃ b, VP.pathP s.data.toList = b := ⟨_, rfl⟩
      rw [hbp] at P1
      have HP := Lib.hid hbp
      have hck : k ≤ c := by omega
      clear hi hne ht hbp
      go_wp2_with fail
      refine P1.out.mono ?_
      rintro E w1 ⟨rfl, hb⟩
      have hB1 := step_below hB hb
      clear hb c0 P1
      cases bp with
      | false =>
        go_wp2_with fail
        go_ret
        exact ⟨ret_bool (by rw [pathsB_false HT.out (by rw [HP.out]; rfl)]), hB1⟩
      | true =>
      have P2 := Lib.hid (hasStr_calls (.slice (some ⟨b, off, none⟩) k c) (ss.take k) s w1 ((HH.out.below hB1).take (by have := HL.out; omega)))
      obtain ⟨bm, hbm⟩ : ∃ x, hasB (ss.take k) s = x := ⟨_, rfl⟩
      rw [hbm] at P2
      have HM := Lib.hid hbm
      clear hbm
      go_wp2_with fail
      refine P2.out.mono ?_
      rintro E w2 ⟨rfl, rfl⟩
      clear P2
      cases bm with
      | true =>
        go_wp2_with fail
        go_ret
        exact ⟨ret_bool (by rw [pathsB_false HT.out (by rw [HP.out, HM.out]; rfl)]), hB1⟩
      | false =>
        go_wp2_with fail
        go_roundw
        case rel => exact ⟨k + 1, by omega, by go_num, Lib.hid (hall.out.succ HT.out (by rw [HP.out, HM.out]; rfl)), hB1⟩
        case measure => simp [intOf]; omega
    · obtain rfl : len = k := by omega
      have HF := Lib.hid (show pathsB ss = decide (len ≤ 20) by have := hall.out; rw [← HL.out] at this; rw [this.done, HL.out])
      by_cases h20 : len ≤ 20
      · go_wp2_with fail
        go_ret
        exact ⟨ret_bool (by rw [HF.out] <;> simp <;> omega), hB⟩
      · go_wp2_with fail
        go_ret
        exact ⟨ret_bool (by rw [HF.out] <;> simp <;> omega), hB⟩

end Go.Proofs.YtpbbhjifgaeklaaGreatDoor

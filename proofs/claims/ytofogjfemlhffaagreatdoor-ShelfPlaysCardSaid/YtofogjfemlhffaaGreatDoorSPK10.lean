/- The contracts of slices.Sorted(maps.Keys(m)) and slices.Sort at texts, laid at this dump in plain words (printed by the kit's tools). · The disk's List: all files' names, in order. · record.paths, the reference's paths: which lists of paths may be. -/
import Derived.Shelf.SlIter.Nil
import Derived.Shelf.SortM.Plain
import Derived.Shelf.SortM.SortNone
import Derived.Ground.GgzProg
import Derived.Ground.SlgmProg
import Derived.Test.YtofogjfemlhffaaGreatDoorProg
import Derived.Test.YtofogjfemlhffaaGreatDoorSPK9
import Derived.Test.YtofogjfemlhffaaGreatDoorSPK4
import Derived.Test.YtofogjfemlhffaaGreatDoorSPK5
namespace Go.Proofs
open Go.Shelf
def Tryz.keys103_ren : Go.Shelf.Ren := ⟨fun | 7 => 103 | 10 => 136 | n => n, fun | 23 => 29 | 26 => 9 | 3 => 9 | 28 => 135 | 0 => 0 | 27 => 134 | 33 => 48 | 4 => 4 | n => n, fun | n => n⟩
theorem Tryz.keys103 : Go.Proofs.SlLaysZ.n7 Tryz.prog Tryz.keys103_ren := {
  mixed := by kernel_rfl
  f7 := ⟨Tryz.f103.name, by decide, Tryz.func103.trans (congrArg some (by kernel_rfl))⟩
  f10 := ⟨Tryz.f136.name, by decide, Tryz.func136.trans (congrArg some (by kernel_rfl))⟩
  t0 := Tryz.underlying0
  a0 := Tryz.isAgg0
  z0 := Tryz.sizeOf0
  v0 := Tryz.zeroValue0
  t4 := Tryz.underlying4
  a4 := Tryz.isAgg4
  z4 := Tryz.sizeOf4
  v4 := Tryz.zeroValue4
  t23 := Tryz.underlying29
  a23 := Tryz.isAgg29
  z23 := Tryz.sizeOf29
  v23 := Tryz.zeroValue29
  t26 := Tryz.underlying9
  a26 := Tryz.isAgg9
  z26 := Tryz.sizeOf9
  v26 := Tryz.zeroValue9
  t27 := Tryz.underlying134
  a27 := Tryz.isAgg134
  z27 := Tryz.sizeOf134
  v27 := Tryz.zeroValue134
  t28 := Tryz.underlying135
  a28 := Tryz.isAgg135
  z28 := Tryz.sizeOf135
  v28 := Tryz.zeroValue135
  t33 := Tryz.underlying48
  a33 := Tryz.isAgg48
  z33 := Tryz.sizeOf48
  v33 := Tryz.zeroValue48 }
def Tryz.sorted102_ren : Go.Shelf.Ren := ⟨fun | 6 => 102 | 8 => 135 | 9 => 67 | 11 => 162 | 13 => 89 | 12 => 88 | 23 => 129 | 24 => 130 | 14 => 120 | 15 => 121 | 16 => 122 | 17 => 123 | 18 => 124 | 19 => 125 | 20 => 126 | 21 => 127 | 22 => 128 | 25 => 154 | 26 => 155 | 27 => 156 | 28 => 157 | 29 => 158 | 30 => 159 | 31 => 172 | n => n, fun | 26 => 9 | 28 => 135 | 24 => 40 | 0 => 0 | 3 => 3 | 37 => 120 | 48 => 165 | 50 => 167 | 4 => 4 | 40 => 158 | 39 => 157 | 45 => 162 | 5 => 5 | 9 => 9 | 51 => 193 | 55 => 197 | 57 => 204 | 58 => 205 | 33 => 48 | n => n, fun | n => n⟩
theorem Tryz.sorted102 : Go.Proofs.SlLaysZ.n6 Tryz.prog Tryz.sorted102_ren := {
  mixed := by kernel_rfl
  f6 := ⟨Tryz.f102.name, by decide, Tryz.func102.trans (congrArg some (by kernel_rfl))⟩
  f8 := ⟨Tryz.f135.name, by decide, Tryz.func135.trans (congrArg some (by kernel_rfl))⟩
  f11 := ⟨Tryz.f162.name, by decide, Tryz.func162.trans (congrArg some (by kernel_rfl))⟩
  t0 := Tryz.underlying0
  a0 := Tryz.isAgg0
  z0 := Tryz.sizeOf0
  v0 := Tryz.zeroValue0
  t24 := Tryz.underlying40
  a24 := Tryz.isAgg40
  z24 := Tryz.sizeOf40
  v24 := Tryz.zeroValue40
  t26 := Tryz.underlying9
  a26 := Tryz.isAgg9
  z26 := Tryz.sizeOf9
  v26 := Tryz.zeroValue9
  t28 := Tryz.underlying135
  a28 := Tryz.isAgg135
  z28 := Tryz.sizeOf135
  v28 := Tryz.zeroValue135
  i26 := by kernel_rfl }
def Tryz.sort67_ren : Go.Shelf.Ren := ⟨fun | 6 => 67 | 8 => 89 | 9 => 88 | 19 => 129 | 20 => 130 | 21 => 120 | 22 => 121 | 23 => 122 | 24 => 123 | 25 => 124 | 26 => 125 | 27 => 126 | 28 => 127 | 29 => 128 | 36 => 154 | 31 => 155 | 32 => 156 | 37 => 157 | 38 => 158 | 39 => 159 | 41 => 172 | n => n, fun | 27 => 40 | 29 => 9 | 3 => 3 | 32 => 120 | 26 => 40 | 0 => 0 | 44 => 165 | 46 => 167 | 4 => 4 | 36 => 158 | 35 => 157 | 41 => 162 | 5 => 5 | 9 => 9 | 53 => 193 | 57 => 197 | 63 => 204 | 64 => 205 | n => n, fun | n => n⟩
theorem Tryz.sort67 : Go.Proofs.SlLaysM.n6 Tryz.prog Tryz.sort67_ren := {
  mixed := by kernel_rfl
  f6 := ⟨Tryz.f67.name, by decide, Tryz.func67.trans (congrArg some (by kernel_rfl))⟩
  f8 := Tryz.func89.trans (congrArg some (by kernel_rfl))
  f9 := ⟨Tryz.f88.name, by decide, Tryz.func88.trans (congrArg some (by kernel_rfl))⟩
  f19 := Tryz.func129.trans (congrArg some (by kernel_rfl))
  f20 := Tryz.func130.trans (congrArg some (by kernel_rfl))
  f21 := ⟨Tryz.f120.name, by decide, Tryz.func120.trans (congrArg some (by kernel_rfl))⟩
  f22 := ⟨Tryz.f121.name, by decide, Tryz.func121.trans (congrArg some (by kernel_rfl))⟩
  f23 := ⟨Tryz.f122.name, by decide, Tryz.func122.trans (congrArg some (by kernel_rfl))⟩
  f24 := ⟨Tryz.f123.name, by decide, Tryz.func123.trans (congrArg some (by kernel_rfl))⟩
  f25 := ⟨Tryz.f124.name, by decide, Tryz.func124.trans (congrArg some (by kernel_rfl))⟩
  f26 := ⟨Tryz.f125.name, by decide, Tryz.func125.trans (congrArg some (by kernel_rfl))⟩
  f27 := ⟨Tryz.f126.name, by decide, Tryz.func126.trans (congrArg some (by kernel_rfl))⟩
  f28 := ⟨Tryz.f127.name, by decide, Tryz.func127.trans (congrArg some (by kernel_rfl))⟩
  f29 := ⟨Tryz.f128.name, by decide, Tryz.func128.trans (congrArg some (by kernel_rfl))⟩
  f31 := Tryz.func155.trans (congrArg some (by kernel_rfl))
  f32 := Tryz.func156.trans (congrArg some (by kernel_rfl))
  f36 := ⟨Tryz.f154.name, by decide, Tryz.func154.trans (congrArg some (by kernel_rfl))⟩
  f37 := ⟨Tryz.f157.name, by decide, Tryz.func157.trans (congrArg some (by kernel_rfl))⟩
  f38 := ⟨Tryz.f158.name, by decide, Tryz.func158.trans (congrArg some (by kernel_rfl))⟩
  f39 := ⟨Tryz.f159.name, by decide, Tryz.func159.trans (congrArg some (by kernel_rfl))⟩
  f41 := ⟨Tryz.f172.name, by decide, Tryz.func172.trans (congrArg some (by kernel_rfl))⟩
  t0 := Tryz.underlying0
  a0 := Tryz.isAgg0
  z0 := Tryz.sizeOf0
  v0 := Tryz.zeroValue0
  t3 := Tryz.underlying3
  a3 := Tryz.isAgg3
  z3 := Tryz.sizeOf3
  v3 := Tryz.zeroValue3
  t4 := Tryz.underlying4
  a4 := Tryz.isAgg4
  z4 := Tryz.sizeOf4
  v4 := Tryz.zeroValue4
  t5 := Tryz.underlying5
  a5 := Tryz.isAgg5
  z5 := Tryz.sizeOf5
  v5 := Tryz.zeroValue5
  t9 := Tryz.underlying9
  a9 := Tryz.isAgg9
  z9 := Tryz.sizeOf9
  v9 := Tryz.zeroValue9
  t26 := Tryz.underlying40
  a26 := Tryz.isAgg40
  z26 := Tryz.sizeOf40
  v26 := Tryz.zeroValue40
  t27 := Tryz.underlying40
  a27 := Tryz.isAgg40
  z27 := Tryz.sizeOf40
  v27 := Tryz.zeroValue40
  t29 := Tryz.underlying9
  a29 := Tryz.isAgg9
  z29 := Tryz.sizeOf9
  v29 := Tryz.zeroValue9
  t32 := Tryz.underlying120
  a32 := Tryz.isAgg120
  z32 := Tryz.sizeOf120
  v32 := Tryz.zeroValue120
  t35 := Tryz.underlying157
  a35 := Tryz.isAgg157
  z35 := Tryz.sizeOf157
  v35 := Tryz.zeroValue157
  t36 := Tryz.underlying158
  a36 := Tryz.isAgg158
  z36 := Tryz.sizeOf158
  v36 := Tryz.zeroValue158
  t41 := Tryz.underlying162
  a41 := Tryz.isAgg162
  z41 := Tryz.sizeOf162
  v41 := Tryz.zeroValue162
  t44 := Tryz.underlying165
  a44 := Tryz.isAgg165
  z44 := Tryz.sizeOf165
  v44 := Tryz.zeroValue165
  t46 := Tryz.underlying167
  a46 := Tryz.isAgg167
  z46 := Tryz.sizeOf167
  v46 := Tryz.zeroValue167
  t53 := Tryz.underlying193
  a53 := Tryz.isAgg193
  z53 := Tryz.sizeOf193
  v53 := Tryz.zeroValue193
  t57 := Tryz.underlying197
  a57 := Tryz.isAgg197
  z57 := Tryz.sizeOf197
  v57 := Tryz.zeroValue197
  t63 := Tryz.underlying204
  a63 := Tryz.isAgg204
  z63 := Tryz.sizeOf204
  v63 := Tryz.zeroValue204
  t64 := Tryz.underlying205
  a64 := Tryz.isAgg205
  z64 := Tryz.sizeOf205
  v64 := Tryz.zeroValue205 }
open Go.RowKit Go.Maps Go.Sort

/-- slices.Sort's two contracts at this dump, at the fence that asks nothing. -/
theorem Tryz.sorts102 (m : Nat) : AnyZ.SortsIn Tryz.prog Tryz.sorted102_ren Fence.wide m :=
  ⟨fun blk off cap ss W hH hblk hsz => callsIn_wide.2 (AnyM.slices_Sort_string Tryz.sort67 blk off cap ss W hH hblk hsz),
   fun p cap W => callsIn_wide.2 (AnyM.slices_Sort_string_none Tryz.sort67 p cap W)⟩

/-- **maps.Keys[map[string]string,string,string], at whatever map, the nil one too:** a function value over ONE NEW BLOCK, which holds the map. -/
theorem Tryz.maps_Keys_103 (mb : Option Nat) (W : World) : CallsIn Fence.wide 5 Tryz.prog 103 #[.map mb] W fun e w' => e = .returned (.func (.func 136) #[] #[.pointer (some ⟨W.heap.size, 0, none⟩)]) ∧ w' = W.alloc (.cells #[.map mb] 29) :=
  AnyZ.keys_in Tryz.keys103 Fence.wide 5 trivial rfl mb W

set_option maxHeartbeats 1000000 in
/-- **slices.Sorted[string] AT WHAT maps.Keys[map[string]string,string,string] HANDED BACK FOR A MAP THAT IS NOT nil** ('w': the world AHEAD of maps.Keys' call): A NEW SLICE THAT HOLDS THE MAP's KEYS, SORTED; nil just where it has none; nothing that lay before has turned. -/
theorem Tryz.slices_Sorted_keys_102_103 {H : Type} (b nn : Nat) (D0 : DataW H) (R : Value → Option (DataW H × List MemPlace)) (w : World) (hown : w.ownsMap Tryz.prog 9 R b nn D0) (hmax : Maps.size D0 ≤ maxLen) (hbytes : Maps.size D0 * 16 ≤ 140737488355328) :
    CallsIn Fence.wide 5 Tryz.prog 102 #[.func (.func 136) #[] #[.pointer (some ⟨w.heap.size, 0, none⟩)]] (w.alloc (.cells #[.map (some b)] 29)) fun e w' => ∃ (v : Value) (ss : List (List UInt8)), e = .returned v ∧ ss.Perm (strKeys D0) ∧
      w'.ownsRow (w.alloc (.cells #[.map (some b)] 29)).heap.size 9 1 v ss.length ((ss.mergeSort (fun x y => decide (x ≤ y))).map encStr) ∧ (v = .slice none 0 0 ↔ ss = []) ∧ Below (w.alloc (.cells #[.map (some b)] 29)).heap.size (w.alloc (.cells #[.map (some b)] 29)) w' := by
  have hbl := hown.lt
  have hseq : SeqGives Fence.wide 2 Tryz.prog 136 #[.pointer (some ⟨w.heap.size, 0, none⟩)] encStr (fun ss => ss.Perm (strKeys D0)) (Maps.size D0) (w.alloc (.cells #[.map (some b)] 29)) :=
    AnyZ.keys_gives (ρ := Tryz.keys103_ren) { Tryz.keys103 with } Fence.wide _ trivial rfl (by omega) w.heap.size b nn D0 _ (by simp) (by simp) (by
      obtain ⟨es, clock, hb, Ft, hs, hD⟩ := hown
      exact ⟨es, clock, (Below.heap_alloc _ _ b hbl).trans hb, Ft, hs, hD⟩)
  exact AnyZ.sorted_in Tryz.sorted102 Fence.wide 5 trivial trivial trivial trivial rfl (by omega) (Tryz.sorts102 _) (enters_of Tryz.func67 (by kernel_rfl) rfl) 136 #[.pointer (some ⟨w.heap.size, 0, none⟩)] trivial (enters_of Tryz.func136 (by kernel_rfl) rfl) _ _ hmax hbytes _ hseq

set_option maxHeartbeats 1000000 in
/-- **.. AND FOR THE nil MAP: nil.** -/
theorem Tryz.slices_Sorted_keys_nil_102_103 (w : World) :
    CallsIn Fence.wide 5 Tryz.prog 102 #[.func (.func 136) #[] #[.pointer (some ⟨w.heap.size, 0, none⟩)]] (w.alloc (.cells #[.map none] 29)) fun e w' => ∃ (v : Value) (ss : List (List UInt8)), e = .returned v ∧ ss = [] ∧
      w'.ownsRow (w.alloc (.cells #[.map none] 29)).heap.size 9 1 v ss.length ((ss.mergeSort (fun x y => decide (x ≤ y))).map encStr) ∧ (v = .slice none 0 0 ↔ ss = []) ∧ Below (w.alloc (.cells #[.map none] 29)).heap.size (w.alloc (.cells #[.map none] 29)) w' := by
  have hseq : SeqGives Fence.wide 2 Tryz.prog 136 #[.pointer (some ⟨w.heap.size, 0, none⟩)] encStr (fun ss : List (List UInt8) => ss = []) 0 (w.alloc (.cells #[.map none] 29)) :=
    AnyZ.keys_gives_nil (ρ := Tryz.keys103_ren) { Tryz.keys103 with } Fence.wide _ trivial rfl w.heap.size _ (by simp) (by simp)
  exact AnyZ.sorted_in Tryz.sorted102 Fence.wide 5 trivial trivial trivial trivial rfl (by omega) (Tryz.sorts102 _) (enters_of Tryz.func67 (by kernel_rfl) rfl) 136 #[.pointer (some ⟨w.heap.size, 0, none⟩)] trivial (enters_of Tryz.func136 (by kernel_rfl) rfl) _ 0 (Nat.zero_le _) (by omega) _ hseq

open Go.Sort Go.RowKit in
theorem Tryz.slices_Sort_string (blk off cap : Nat) (ss : List (List UInt8)) (w : World) (hH : Holds encStr w blk off ss.toArray) (hblk : blk < w.heap.size) (hsz : ss.length < 4611686018427387904) :
    Calls Tryz.prog 67 #[.slice (some ⟨blk, off, none⟩) ss.length cap] w fun e w' =>
      e = .returned (.tuple #[]) ∧ ∃ n os, w' = grow (putRow encStr (Sort.ahead w n) blk off (ss.mergeSort fun x y => decide (x ≤ y)).toArray) os := AnyM.slices_Sort_string Tryz.sort67 blk off cap ss w hH hblk hsz
open Go.RowKit Go.Sort in
/-- .. and plain. (LAID: no walk: one application.) -/
theorem Tryz.slices_Sort_string_none (p : Option Addr) (cap : Nat) (w : World) :
    Calls Tryz.prog 67 #[.slice p 0 cap] w fun e w' => e = .returned (.tuple #[]) ∧ w' = w := AnyM.slices_Sort_string_none Tryz.sort67 p cap w
end Go.Proofs

namespace Go.Proofs.YtofogjfemlhffaaGreatDoor
open Go Go.RowKit Go.Maps Go.Sort

theorem strKeys_dat (M : Fm) : strKeys (datF M) = (keysF M).map (·.data.toList) := by
  show (M.map entF).map (fun p => strOf p.1) = (M.map (·.1)).map (·.data.toList)
  rw [List.map_map, List.map_map]
  rfl
theorem sort_keys {M : Fm} (h : RisF M) {ss : List (List UInt8)} (hp : ss.Perm (strKeys (datF M))) : ss.mergeSort leB = (keysF M).map (·.data.toList) := by
  rw [mergeSort_of_perm hp, strKeys_dat]
  refine List.mergeSort_of_pairwise ?_
  refine List.pairwise_map.2 ((keys_ris h).imp fun {a b} hab => ?_)
  simp only [decide_eq_true_eq]
  exact List.le_of_lt ((befB_iff a b).1 hab)
theorem encStr_keys (L : List ByteArray) : (L.map (·.data.toList)).map encStr = L.flatMap strC := by
  rw [flat_strs, List.map_map]
  exact List.map_congr_left fun s _ => by show Value.string ⟨s.data.toList.toArray⟩ = .string s; rw [Lib.mk_data]
/-- a slice of texts in a row of its own -/
theorem strsUp_own {W : World} {base : Nat} {e : TypeId} {v : Value} {n : Nat} {L : List ByteArray} (h : W.ownsRow base e 1 v n (L.flatMap strC)) (hn : n = L.length) (hm : n ≤ 9223372036854775807) : StrsUp base W v L := by
  refine ⟨slc_of_own h hn hm, fun b off k c hv => ?_⟩
  rcases h.2 with ⟨rfl, _⟩ | ⟨g, cap, cur, rfl, hg, _⟩
  · cases hv
  · injection hv with hv _ _
    injection hv with hv
    injection hv with hb _ _
    omega

set_option maxHeartbeats 1000000 in
set_option maxRecDepth 100000 in
theorem dlist_calls (d : Nat) (D : Dk) (w : World) (hD : DiskAt w d D) (hk : DkOk D) : Calls Tryz.prog 74 #[.pointer (some ⟨d, 0, none⟩)] w fun E w' => ∃ v, E = .returned v ∧ StrsUp w.heap.size w' v (keysF D.now) ∧ Below w.heap.size w w' := by
  obtain ⟨m0, m1, hb, hm⟩ := hD
  have HLen := Lib.hid hk.len
  have HRis := Lib.hid hk.ris
  have c0 := hb.cell (i := 0) rfl
  rcases hm with ⟨rfl, rfl, e0, _⟩ | ⟨b0, b1, rfl, rfl, _, h0, _⟩
  · have hb1 := below_alloc w (.cells #[.map none] 29)
    have CK := Lib.hid (callsIn_wide.1 (Tryz.maps_Keys_103 none w))
    have CS := Lib.hid (callsIn_wide.1 (Tryz.slices_Sorted_keys_nil_102_103 w))
    have H0 := Lib.hid e0
    have HB := Lib.hid hb1
    clear hk hb e0 hb1
    go_enter Tryz.func74, Tryz.ntmps74
    go_wp2_with fail
    refine CK.out.mono ?_
    rintro E w1 ⟨rfl, rfl⟩
    go_wp2_with fail
    refine CS.out.mono ?_
    rintro E w2 ⟨v, ss, rfl, hs, hown, _, hb2⟩
    subst hs
    rw [show (([] : List (List UInt8)).mergeSort (fun x y => decide (x ≤ y))).map encStr = ([] : List ByteArray).flatMap strC from by simp] at hown
    have HO := Lib.hid hown
    have HB2 := Lib.hid (step_below HB.out hb2)
    have HZ := Lib.hid HB.out.size
    clear hown hb2
    go_wp2_with fail
    go_ret
    refine ⟨v, rfl, ?_, HB2.out⟩
    rw [H0.out]
    exact (strsUp_own (L := []) HO.out rfl (by simp)).low HZ.out
  · have hb1 := below_alloc w (.cells #[.map (some b0)] 29)
    have CK := Lib.hid (callsIn_wide.1 (Tryz.maps_Keys_103 (some b0) w))
    have hmx : Maps.size (datF D.now) ≤ 5000 := by rw [datF_size]; exact hk.len
    have CS := Lib.hid (callsIn_wide.1 (Tryz.slices_Sorted_keys_102_103 b0 D.now.length (datF D.now) (plainElem Tryz.prog 9) w h0.1 (by unfold maxLen; omega) (by omega)))
    have HB := Lib.hid hb1
    clear hk hb h0 hb1 hmx
    go_enter Tryz.func74, Tryz.ntmps74
    go_wp2_with fail
    refine CK.out.mono ?_
    rintro E w1 ⟨rfl, rfl⟩
    go_wp2_with fail
    refine CS.out.mono ?_
    rintro E w2 ⟨v, ss, rfl, hs, hown, _, hb2⟩
    rw [show ss.mergeSort (fun x y => decide (x ≤ y)) = _ from sort_keys HRis.out hs, encStr_keys] at hown
    have hn : ss.length = (keysF D.now).length := by rw [hs.length_eq, strKeys_dat, List.length_map]
    have HN := Lib.hid hn
    have HO := Lib.hid hown
    have HB2 := Lib.hid (step_below HB.out hb2)
    have HZ := Lib.hid HB.out.size
    clear hown hb2 hs hn
    go_wp2_with fail
    go_ret
    have hl : (keysF D.now).length = D.now.length := List.length_map _
    exact ⟨v, rfl, (strsUp_own HO.out HN.out (by have := HLen.out; have := HN.out; omega)).low HZ.out, HB2.out⟩
end Go.Proofs.YtofogjfemlhffaaGreatDoor

namespace Go.Proofs.YtofogjfemlhffaaGreatDoor
open Go Go.RowKit

theorem toList_ne2 {a b : ByteArray} (h : ¬ a = b) : ¬ a.toList = b.toList := fun e => h (data_inj (by rwa [Lib.toList_data, Lib.toList_data] at e))
/-- is it one of them -/
def hasB (ss : List ByteArray) (x : ByteArray) : Bool := ss.any fun t => decide (t = x)
theorem hasB_iff {ss : List ByteArray} {x : ByteArray} : hasB ss x = true ↔ x ∈ ss := by
  unfold hasB
  rw [List.any_eq_true]
  constructor
  · rintro ⟨t, ht, h⟩
    rwa [of_decide_eq_true h] at ht
  · intro h; exact ⟨x, h, decide_eq_true rfl⟩

theorem hasStr_calls (v : Value) (ss : List ByteArray) (x : ByteArray) (w : World) (h : StrsAt w v ss) :
    Calls Tryz.prog 31 #[v, .string x] w fun e w' => e = .returned (.bool (hasB ss x)) ∧ w = w' := by
  obtain ⟨A, c, rfl, hc, hm, hr⟩ := h.open
  by_cases hn : ss = []
  · subst hn
    refine (Tryz.slices_Contains_string_empty A c x w).mono fun e w' ⟨he, hw⟩ => ⟨by rw [he]; rfl, hw.symm⟩
  · obtain ⟨b, off, rfl, hi⟩ := hr hn
    refine (Tryz.slices_Contains_string b off ss.length c ss x w (Nat.le_refl _) hm (fun j hj => ?_)).mono fun e w' ⟨he, hw⟩ => ⟨?_, hw.symm⟩
    · have e : ss[j]? = some ss[j] := List.getElem?_eq_getElem hj
      rw [hi j _ e, List.getD_eq_getElem?_getD, e]
      rfl
    · rw [he, List.take_length]
      congr 2
      rw [Bool.eq_iff_iff, Lib.containsS_iff, hasB_iff]

theorem mem_take_data (ss : List ByteArray) (k : Nat) (x : ByteArray) : hasB (ss.take k) x = (((ss.map (·.data.toList)).take k).any fun t => decide (t = x.data.toList)) := by
  rw [← List.map_take, List.any_map]
  unfold hasB
  congr 1
  funext t
  show decide _ = decide (t.data.toList = x.data.toList)
  congr 1
  exact propext ⟨fun h => by rw [h], fun h => data_inj h⟩
theorem pathOk_at {ss : List ByteArray} {k : Nat} {s : ByteArray} (h : ss[k]? = some s) : VP.pathOk (ss.map (·.data.toList)) k = (VP.pathP s.data.toList && !hasB (ss.take k) s) := by
  unfold VP.pathOk
  rw [List.getElem?_map, h, mem_take_data]
  rfl
def pathsB (ss : List ByteArray) : Bool := VP.pathsP (ss.map (·.data.toList))
theorem pathsB_false {ss : List ByteArray} {k : Nat} {s : ByteArray} (h : ss[k]? = some s) (hb : (VP.pathP s.data.toList && !hasB (ss.take k) s) = false) : pathsB ss = false := by
  unfold pathsB VP.pathsP
  rw [VP.allAt_false (i := k) (by rw [List.length_map]; exact (List.getElem?_eq_some_iff.1 h).1) ((pathOk_at h).trans hb)]
  rfl
/-- so far all is well -/
def PathsTo (ss : List ByteArray) (k : Nat) : Prop := ∀ i, i < k → VP.pathOk (ss.map (·.data.toList)) i = true
theorem PathsTo.zero (ss : List ByteArray) : PathsTo ss 0 := fun _ h => absurd h (Nat.not_lt_zero _)
theorem PathsTo.succ {ss : List ByteArray} {k : Nat} {s : ByteArray} (h : PathsTo ss k) (hs : ss[k]? = some s) (hb : (VP.pathP s.data.toList && !hasB (ss.take k) s) = true) : PathsTo ss (k + 1) := fun i hi => by
  rcases Nat.lt_or_ge i k with h' | h'
  · exact h i h'
  · obtain rfl : i = k := by omega
    exact (pathOk_at hs).trans hb
theorem PathsTo.done {ss : List ByteArray} (h : PathsTo ss ss.length) : pathsB ss = decide (ss.length ≤ 20) := by
  unfold pathsB VP.pathsP
  rw [VP.allAt_true (by rw [List.length_map]; exact h), List.length_map]
  rfl

set_option maxHeartbeats 2000000 in
set_option maxRecDepth 100000 in
theorem paths_calls (v : Value) (ss : List ByteArray) (w : World) (hE : Env w) (h : StrsAt w v ss) (hs : ∀ s ∈ ss, s.size ≤ 1000000) : Calls Tryz.prog 82 #[v] w (BoolIs (pathsB ss) w) := by
  obtain ⟨A, c, hv, hc, hm, hr⟩ := h.open
  have HH := Lib.hid h
  subst hv
  obtain ⟨len, hlen⟩ : ∃ len, ss.length = len := ⟨_, rfl⟩
  have HL := Lib.hid hlen
  have HR := Lib.hid hr
  have HS := Lib.hid hs
  have HE := Lib.hid hE
  rw [hlen] at hc hm HH ⊢
  clear hlen hr hs h hE
  go_enter Tryz.func82, Tryz.ntmps82
  go_wp2_with fail
  go_loopw [7] (fun i wr => ∃ k : Nat, k ≤ len ∧ i = .int .i64 k ∧ Hid (PathsTo ss k) ∧ Below w.heap.size w wr) (fun i _ => len - (intOf i).toNat)
  case atStart => exact ⟨0, Nat.zero_le _, rfl, PathsTo.zero ss, Below.refl _ _⟩
  case round =>
    obtain ⟨k, hk, rfl, hall, hB⟩ := hrel
    by_cases hlt : k < len
    · have hne : ss ≠ [] := by
        intro e
        have := HL.out
        rw [e] at this
        simp at this
        omega
      obtain ⟨s, ht⟩ : ∃ s, ss[k]? = some s := ⟨ss[k]'(by have := HL.out; omega), List.getElem?_eq_getElem _⟩
      obtain ⟨b, off, rfl, hi⟩ := HR.out hne
      have c0 := kept hB (hi k s ht)
      have P1 := Lib.hid (path_calls s wr (HE.out.below hB) (HS.out s (List.mem_of_getElem? ht)))
      have HT := Lib.hid ht
      obtain ⟨bp, hbp⟩ : ∃ b, VP.pathP s.data.toList = b := ⟨_, rfl⟩
      rw [hbp] at P1
      have HP := Lib.hid hbp
      have hck : k ≤ c := by omega
      clear hi hne ht hbp
      go_wp2_with fail
      refine P1.out.mono ?_
      rintro E w1 ⟨rfl, hb⟩
      have hB1 := step_below hB hb
      clear hb c0 P1
      cases bp with
      | false =>
        go_wp2_with fail
        go_ret
        exact ⟨ret_bool (by rw [pathsB_false HT.out (by rw [HP.out]; rfl)]), hB1⟩
      | true =>
      have P2 := Lib.hid (hasStr_calls (.slice (some ⟨b, off, none⟩) k c) (ss.take k) s w1 ((HH.out.below hB1).take (by have := HL.out; omega)))
      obtain ⟨bm, hbm⟩ : ∃ x, hasB (ss.take k) s = x := ⟨_, rfl⟩
      rw [hbm] at P2
      have HM := Lib.hid hbm
      clear hbm
      go_wp2_with fail
      refine P2.out.mono ?_
      rintro E w2 ⟨rfl, rfl⟩
      clear P2
      cases bm with
      | true =>
        go_wp2_with fail
        go_ret
        exact ⟨ret_bool (by rw [pathsB_false HT.out (by rw [HP.out, HM.out]; rfl)]), hB1⟩
      | false =>
        go_wp2_with fail
        go_roundw
        case rel => exact ⟨k + 1, by omega, by go_num, Lib.hid (hall.out.succ HT.out (by rw [HP.out, HM.out]; rfl)), hB1⟩
        case measure => simp [intOf]; omega
    · obtain rfl : len = k := by omega
      have HF := Lib.hid (show pathsB ss = decide (len ≤ 20) by have := hall.out; rw [← HL.out] at this; rw [this.done, HL.out])
      by_cases h20 : len ≤ 20
      · go_wp2_with fail
        go_ret
        exact ⟨ret_bool (by rw [HF.out] <;> simp <;> omega), hB⟩
      · go_wp2_with fail
        go_ret
        exact ⟨ret_bool (by rw [HF.out] <;> simp <;> omega), hB⟩

set_option maxHeartbeats 2000000 in
set_option maxRecDepth 100000 in
theorem refPaths_calls (v : Value) (ss : List ByteArray) (w : World) (h : StrsAt w v ss) (hs : ∀ s ∈ ss, s.size ≤ 1000000) : Calls Tryz.prog 93 #[v] w (BoolIs (pathsB ss) w) := by
  obtain ⟨A, c, hv, hc, hm, hr⟩ := h.open
  subst hv
  obtain ⟨len, hlen⟩ : ∃ len, ss.length = len := ⟨_, rfl⟩
  have HL := Lib.hid hlen
  have HR := Lib.hid hr
  have HS := Lib.hid hs
  rw [hlen] at hc hm ⊢
  clear hlen hr hs h
  go_enter Tryz.func93, Tryz.ntmps93
  go_wp2_with fail
  go_loopw [9] (fun i wr => ∃ k : Nat, k ≤ len ∧ i = .int .i64 k ∧ Hid (PathsTo ss k) ∧ Below w.heap.size w wr) (fun i _ => len - (intOf i).toNat)
  case atStart => exact ⟨0, Nat.zero_le _, rfl, PathsTo.zero ss, Below.refl _ _⟩
  case round =>
    obtain ⟨k, hk, rfl, hall, hB⟩ := hrel
    by_cases hlt : k < len
    · have hne : ss ≠ [] := by
        intro e
        have := HL.out
        rw [e] at this
        simp at this
        omega
      obtain ⟨s, ht⟩ : ∃ s, ss[k]? = some s := ⟨ss[k]'(by have := HL.out; omega), List.getElem?_eq_getElem _⟩
      obtain ⟨b, off, rfl, hi⟩ := HR.out hne
      have c0 := kept hB (hi k s ht)
      have HI := Lib.hid (fun (j : Nat) (t : ByteArray) (hj : ss[j]? = some t) => kept hB (hi j t hj))
      have P1 := Lib.hid (fun (W : World) => refPath_calls s W (HS.out s (List.mem_of_getElem? ht)))
      have HT := Lib.hid ht
      obtain ⟨bp, hbp⟩ : ∃ b, VP.pathP s.data.toList = b := ⟨_, rfl⟩
      rw [hbp] at P1
      have HP := Lib.hid hbp
      have hck : k ≤ c := by omega
      clear hi hne ht hbp
      go_wp2_with fail
      obtain ⟨wo, rfl⟩ : ∃ x, x = wr := ⟨wr, rfl⟩
      go_loopw [18] (fun i wx => ∃ j : Nat, j ≤ k ∧ i = .int .i64 j ∧ Hid ((ss.take j).all (fun t => decide (¬ t = s)) = true) ∧ Below wo.heap.size wo wx) (fun i _ => k - (intOf i).toNat)
      case atStart => exact ⟨0, Nat.zero_le _, rfl, rfl, Below.refl _ _⟩
      case round =>
        obtain ⟨j, hj, rfl, hno, hz⟩ := hrel
        replace hB := step_below hB hz
        by_cases hjt : j < k
        · obtain ⟨t, ht⟩ : ∃ t, ss[j]? = some t := ⟨ss[j]'(by have := HL.out; omega), List.getElem?_eq_getElem _⟩
          have d0 := kept hz (HI.out j t ht)
          have HTJ := Lib.hid ht
          clear ht
          by_cases hts : s = t
          · have HF := Lib.hid (show pathsB ss = false from pathsB_false HT.out (by
              have hm : s ∈ ss.take k := by
                rw [hts]
                exact List.mem_of_getElem? (i := j) (by rw [List.getElem?_take, if_pos hjt]; exact HTJ.out)
              rw [hasB_iff.2 hm, Bool.not_true, Bool.and_false]))
            have hbe : (s.toList == t.toList) = true := by rw [hts]; simp
            clear HTJ
            subst hts
            go_wp2_with fail
            go_ret
            exact ⟨ret_bool HF.out.symm, hB⟩
          · have hne : (s.toList == t.toList) = false := beq_eq_false_iff_ne.2 (toList_ne2 hts)
            have HNE := Lib.hid (fun e => hts e.symm : ¬ t = s)
            clear hts
            go_wp2_with fail
            go_roundw
            case rel => exact ⟨j + 1, by omega, by go_num, Lib.hid (all_take_succ hno.out HTJ.out (decide_eq_true HNE.out)), hz⟩
            case measure => simp [intOf]; omega
        · obtain rfl : k = j := by omega
          have HNO := Lib.hid (show hasB (ss.take k) s = false from Bool.eq_false_iff.2 (fun hm => by
            have := List.all_eq_true.1 hno.out s (hasB_iff.1 hm)
            simp at this))
          clear hno
          go_wp2_with fail
          refine (P1.out _).mono ?_
          rintro E w1 ⟨rfl, hb⟩
          have hB1 := step_below hB hb
          clear hb P1
          cases bp with
          | false =>
            go_wp2_with fail
            go_ret
            exact ⟨ret_bool (by rw [pathsB_false HT.out (by rw [HP.out]; rfl)]), hB1⟩
          | true =>
            go_wp2_with fail
            go_roundw
            case rel => exact ⟨k + 1, by omega, by go_num, Lib.hid (hall.out.succ HT.out (by rw [HP.out, HNO.out]; rfl)), hB1⟩
            case measure => simp [intOf]; omega
    · obtain rfl : len = k := by omega
      have HF := Lib.hid (show pathsB ss = decide (len ≤ 20) by have := hall.out; rw [← HL.out] at this; rw [this.done, HL.out])
      by_cases h20 : len ≤ 20
      · go_wp2_with fail
        go_ret
        exact ⟨ret_bool (by rw [HF.out] <;> simp <;> omega), hB⟩
      · go_wp2_with fail
        go_ret
        exact ⟨ret_bool (by rw [HF.out] <;> simp <;> omega), hB⟩
end Go.Proofs.YtofogjfemlhffaaGreatDoor

/- stanza.Small, the reference's Small: a name in small letters. · strings.Builder: written on, and read. -/
import Derived.Test.YtodbbfgkclkpgaaGreatDoorAW29
import Derived.Lib.ConvBytes
import Derived.Laws.IdiomStrings
import Derived.OwnWalk
import Derived.Test.YtodbbfgkclkpgaaGreatDoorAW2
import Derived.Shelf.Strings.BuilderF
namespace Go.Proofs.YtodbbfgkclkpgaaGreatDoor
open Go Go.RowKit

/-- a row of n bytes of the call's own -/
structure ByteRow (w0 w : World) (b : Nat) (n : Nat) (f : Nat → UInt8) : Prop where
  cells : ∀ j, j < n → w.cell? ⟨b, j, none⟩ = some (.int .u8 ((f j).toNat : Int))
  free : ∀ j, j < n → w.frozen? ⟨b, j, none⟩ = false
  below : Below w0.heap.size w0 w
  high : w0.heap.size ≤ b

theorem ByteRow.store {w0 w : World} {b n k : Nat} {f g : Nat → UInt8} (h : ByteRow w0 w b n f) (hk : k < n) (hg : ∀ j, j ≠ k → g j = f j) {z : Int} (hz : z = ((g k).toNat : Int)) : ByteRow w0 (w.setCell ⟨b, k, none⟩ (.int .u8 z)) b n g where
  cells := fun j hj => by
    by_cases e : j = k
    · subst e
      rw [World.cell?_setCell_same (v := .int .u8 z) (h := h.cells j hj), hz]
    · have hne : (⟨b, k, none⟩ : Addr) ≠ ⟨b, j, none⟩ := fun e' => e (by injection e' with _ h2 _; exact h2.symm)
      rw [World.cell?_setCell_other (h := hne), h.cells j hj, hg j e]
  free := fun j hj => by rw [World.frozen?_setCell]; exact h.free j hj
  below := h.below.setCell h.high _
  high := h.high
theorem ByteRow.same {w0 w : World} {b n : Nat} {f g : Nat → UInt8} (h : ByteRow w0 w b n f) (hg : ∀ j, j < n → g j = f j) : ByteRow w0 w b n g := ⟨fun j hj => by rw [hg j hj]; exact h.cells j hj, h.free, h.below, h.high⟩

def nthB (s : ByteArray) (j : Nat) : UInt8 := s.data.toList.getD j 0
theorem nthB_at {s : ByteArray} {k : Nat} (h : k < s.size) : nthB s k = s[k] := by
  unfold nthB
  rw [List.getD_eq_getElem?_getD, List.getElem?_eq_getElem (by rw [← size_eq_length]; exact h)]
  rfl
theorem bytes_row (w : World) (s : ByteArray) : ByteRow w (Lib.bytesWorld w 5 s) w.heap.size s.size (nthB s) where
  cells := fun j hj => Lib.bytesWorld_cell w 5 s j hj
  free := fun j hj => by
    unfold World.frozen?
    rw [Lib.bytesWorld_at_new]
    have hsz : s.size ≤ (Lib.bytesCells w 5 s).size := by
      unfold Lib.bytesCells
      rw [Array.size_append, Array.size_map]
      exact Nat.le_add_right _ _
    simp
    omega
  below := by
    refine ⟨rfl, rfl, rfl, by rw [Lib.bytesWorld_size]; omega, fun i hi => Lib.bytesWorld_at_old w 5 s i hi⟩
  high := Nat.le_refl _

theorem row_string {w0 w : World} {b : Nat} {s : ByteArray} (h : ByteRow w0 w b s.size (fun j => VP.lowC (nthB s j))) (cap : Nat) :
    (convert 106 9 (.slice (some ⟨b, 0, none⟩) s.size cap)).run Tryz.prog w = .ok (.string ⟨(VP.smallP s.data.toList).toArray⟩) w := by
  have hl : (VP.smallP s.data.toList).length = s.size := by unfold VP.smallP; rw [List.length_map, ← size_eq_length]
  have := run_convert_bytes_back (P := Tryz.prog) w 106 9 5 ⟨b, 0, none⟩ cap (VP.smallP s.data.toList) Tryz.underlying106 Tryz.underlying5 Tryz.underlying9 (fun j hj => by
    rw [hl] at hj
    have e : (VP.smallP s.data.toList)[j]'(by rw [hl]; exact hj) = VP.lowC (nthB s j) := by
      unfold VP.smallP
      rw [List.getElem_map, nthB_at hj]
      rfl
    rw [Go.WideShapes.add_plain, Nat.zero_add, h.cells j hj, e])
  rwa [hl] at this

theorem low_up {c : UInt8} (h : 65 ≤ c.toNat ∧ c.toNat ≤ 90) : ((VP.lowC c).toNat : Int) = (c.toNat : Int) + 32 := by
  unfold VP.lowC
  rw [if_pos h, UInt8.toNat_add]
  have : (c.toNat + (32 : UInt8).toNat) % 2 ^ 8 = c.toNat + 32 := by
    show (c.toNat + 32) % 256 = _
    omega
  rw [this]
  omega
theorem low_not {c : UInt8} (h : ¬ (65 ≤ c.toNat ∧ c.toNat ≤ 90)) : VP.lowC c = c := if_neg h

def SmallIs (s : ByteArray) (w : World) (E : Ending) (w' : World) : Prop := E = .returned (.string ⟨(VP.smallP s.data.toList).toArray⟩) ∧ Below w.heap.size w w'

set_option maxHeartbeats 2000000 in
set_option maxRecDepth 100000 in
theorem small_calls (s : ByteArray) (w : World) (hs : s.size ≤ 1000000) : Calls Tryz.prog 132 #[.string s] w (SmallIs s w) := by
  have hcv := Lib.run_convert_string_bytes (P := Tryz.prog) w 9 106 5 s (u := .string) Tryz.underlying9 Tryz.underlying106 Tryz.underlying5
  have hS := bytes_row w s
  have hcap := grownCap_ge w s.size 0 5
  obtain ⟨cap, hcp⟩ : ∃ c, grownCap w s.size 0 5 = c := ⟨_, rfl⟩
  rw [hcp] at hcv hcap
  obtain ⟨b, hb⟩ : ∃ b, w.heap.size = b := ⟨_, rfl⟩
  obtain ⟨W1, hW1⟩ : ∃ W1, W1 = Lib.bytesWorld w 5 s := ⟨_, rfl⟩
  rw [← hW1] at hcv hS
  have HS := Lib.hid hS
  rw [hb] at hcv HS
  have HB := Lib.hid hb
  clear hW1 hcp hb hS
  go_enter Tryz.func132, Tryz.ntmps132
  go_wp2_with fail
  go_loopw [10] (fun i wr => ∃ k : Nat, k ≤ s.size ∧ i = .int .i64 k ∧ Hid (ByteRow w wr b s.size (fun j => if j < k then VP.lowC (nthB s j) else nthB s j))) (fun i _ => s.size - (intOf i).toNat)
  case atStart => exact ⟨0, Nat.zero_le _, rfl, HS.out.same (fun j _ => if_neg (Nat.not_lt_zero j))⟩
  case round =>
    obtain ⟨k, hk, rfl, hall⟩ := hrel
    by_cases hlt : k < s.size
    · have hbt : s[k].toNat < 256 := s[k].toNat_lt
      have hc := hall.out.cells k hlt
      have hf := hall.out.free k hlt
      rw [if_neg (Nat.lt_irrefl k), nthB_at hlt] at hc
      by_cases hu : 65 ≤ s[k].toNat ∧ s[k].toNat ≤ 90
      · have HU := Lib.hid hu
        obtain ⟨h1, h2⟩ := hu
        go_wp2_with fail
        go_roundw
        case rel => exact ⟨k + 1, by omega, by go_num, Lib.hid (hall.out.store hlt (g := fun j => if j < k + 1 then VP.lowC (nthB s j) else nthB s j) (fun j hj => by
            by_cases h : j < k
            · rw [if_pos h, if_pos (by omega)]
            · rw [if_neg h, if_neg (by omega)]) (by rw [if_pos (Nat.lt_succ_self k), nthB_at hlt, low_up HU.out]; omega))⟩
        case measure => simp [intOf]; omega
      · have HU := Lib.hid (show VP.lowC (nthB s k) = nthB s k by rw [nthB_at hlt]; exact low_not hu)
        have HG := Lib.hid (hall.out.same (g := fun j => if j < k + 1 then VP.lowC (nthB s j) else nthB s j) (fun j _ => by
            by_cases h : j < k
            · rw [if_pos h, if_pos (by omega)]
            · by_cases h' : j = k
              · subst h'; rw [if_neg h, if_pos (Nat.lt_succ_self j), HU.out]
              · rw [if_neg h, if_neg (by omega)]))
        have hu' : s[k].toNat < 65 ∨ 90 < s[k].toNat := by omega
        clear hu hall HU
        rcases hu' with h1 | h1
        · go_wp2_with fail
          go_roundw
          case rel => exact ⟨k + 1, by omega, by go_num, HG⟩
          case measure => simp [intOf]; omega
        · go_wp2_with fail
          go_roundw
          case rel => exact ⟨k + 1, by omega, by go_num, HG⟩
          case measure => simp [intOf]; omega
    · obtain rfl : k = s.size := by omega
      have hR := hall.out.same (g := fun j => VP.lowC (nthB s j)) (fun j hj => by rw [if_pos hj])
      have hcv2 := row_string hR cap
      have HR := Lib.hid hR.below
      clear hR hall HS hcv
      go_wp2_with fail
      go_ret
      exact ⟨rfl, HR.out⟩

theorem info_u8 : (Tryz.prog.info? 5).map (fun i => (i.zero, i.size, i.bytes)) = some (some (.int .u8 0), 1, 1) := by kernel_rfl
theorem made_row {w0 w1 : World} {b n : Nat} (ho : w1.ownsRow w0.heap.size 5 1 (.slice (some ⟨b, 0, none⟩) n n) n (madeCells (Value.int .u8 0).cells (n * 1)).toList) (hg : w0.grownBy w1 none) (hb : w0.heap.size ≤ b) : ByteRow w0 w1 b n (fun _ => 0) where
  cells := fun j hj => by
    have := ho.cells (g := b) rfl j (.int .u8 0) (by
      rw [Array.getElem?_toList]
      simp [madeCells, hj]
      have h1 : (Value.int IntKind.u8 0).cells = #[.int .u8 0] := rfl
      rw [h1, show (#[Value.int IntKind.u8 0] : Array Value).size = 1 from rfl, Nat.mod_one]
      rfl)
    rw [Go.WideShapes.add_plain, Nat.zero_add] at this
    rw [this]
    rfl
  free := fun j hj => by
    rcases ho.2 with ⟨h, _⟩ | ⟨g, cap, cur, hv, _, hk, _⟩
    · cases h
    · injection hv with h1 _ _
      injection h1 with h1
      injection h1 with h1 _ _
      subst h1
      unfold World.frozen?
      rw [hk]
      simp
  below := ⟨hg.os, hg.tape, hg.output, hg.size, fun i hi => hg.block i hi (by simp)⟩
  high := hb

set_option maxHeartbeats 2000000 in
set_option maxRecDepth 100000 in
theorem refSmall_calls (s : ByteArray) (w : World) (hs : s.size ≤ 1000000) : Calls Tryz.prog 125 #[.string s] w (SmallIs s w) := by
  obtain ⟨i0, hi, hz0, hz1, hz2⟩ := info_parts info_u8
  go_enter Tryz.func125, Tryz.ntmps125
  go_wp2_with (at_make; refine wpList_make_full _ rfl _ _ 106 rfl w.heap.size 5 i0 (.int .u8 0) 1 Tryz.underlying106 hi hz0 hz1 .i64 .i64 _ _ s.size rfl rfl rfl rfl (by rw [hz2]; omega) (by simp only [maxLen]; omega) (Nat.le_refl _) ?_; intro w1 own1 g1)
  have hS := made_row own1 g1 (Nat.le_refl _)
  obtain ⟨b, hb⟩ : ∃ b, w.heap.size = b := ⟨_, rfl⟩
  have HS := Lib.hid hS
  rw [hb] at HS ⊢
  clear hS own1 g1 hi hz0 hz1 hz2 hb
  go_loopw [11] (fun i wr => ∃ k : Nat, k ≤ s.size ∧ i = .int .i64 k ∧ Hid (ByteRow w wr b s.size (fun j => if j < k then VP.lowC (nthB s j) else 0))) (fun i _ => s.size - (intOf i).toNat)
  case atStart => exact ⟨0, Nat.zero_le _, rfl, HS.out.same (fun j _ => if_neg (Nat.not_lt_zero j))⟩
  case round =>
    obtain ⟨k, hk, rfl, hall⟩ := hrel
    by_cases hlt : k < s.size
    · have hbt : s[k].toNat < 256 := s[k].toNat_lt
      have hc := hall.out.cells k hlt
      have hf := hall.out.free k hlt
      rw [if_neg (Nat.lt_irrefl k)] at hc
      have HN := Lib.hid (fun (z : Int) (hz : z = ((VP.lowC s[k]).toNat : Int)) => hall.out.store hlt (g := fun j => if j < k + 1 then VP.lowC (nthB s j) else 0) (fun j hj => by
            by_cases h : j < k
            · rw [if_pos h, if_pos (by omega)]
            · rw [if_neg h, if_neg (by omega)]) (z := z) (by rw [if_pos (Nat.lt_succ_self k), nthB_at hlt, hz]))
      by_cases hu : 65 ≤ s[k].toNat ∧ s[k].toNat ≤ 90
      · have HU := Lib.hid (low_up hu)
        obtain ⟨h1, h2⟩ := hu
        go_wp2_with fail
        go_roundw
        case rel => exact ⟨k + 1, by omega, by go_num, Lib.hid (HN.out _ (by rw [HU.out]))⟩
        case measure => simp [intOf]; omega
      · have HU := Lib.hid (low_not hu)
        have hu' : s[k].toNat < 65 ∨ 90 < s[k].toNat := by omega
        clear hu
        rcases hu' with h1 | h1
        · go_wp2_with fail
          go_roundw
          case rel => exact ⟨k + 1, by omega, by go_num, Lib.hid (HN.out _ (by rw [HU.out]))⟩
          case measure => simp [intOf]; omega
        · go_wp2_with fail
          go_roundw
          case rel => exact ⟨k + 1, by omega, by go_num, Lib.hid (HN.out _ (by rw [HU.out]))⟩
          case measure => simp [intOf]; omega
    · obtain rfl : k = s.size := by omega
      have hR := hall.out.same (g := fun j => VP.lowC (nthB s j)) (fun j hj => by rw [if_pos hj])
      have hcv2 := row_string hR s.size
      have HR := Lib.hid hR.below
      clear hR hall HS
      go_wp2_with fail
      go_ret
      exact ⟨rfl, HR.out⟩
end Go.Proofs.YtodbbfgkclkpgaaGreatDoor

namespace Go.Proofs.YtodbbfgkclkpgaaGreatDoor
open Go Go.RowKit

/-- the builder at b (of the call's own, from B on) holds these bytes -/
def BldAt (B b : Nat) (l : List UInt8) (w : World) : Prop := Lib.IsBuilderF 108 5 B b (Lib.byteCells l) w
theorem bld_fresh (w : World) : BldAt w.heap.size w.heap.size [] (w.alloc (.cells #[.pointer none, .slice none 0 0] 108)) := Lib.IsBuilderF.of (Lib.fresh_isBuilder 108 5 w)
theorem BldAt.alloc {B b : Nat} {l : List UInt8} {w : World} (h : BldAt B b l w) (o : Obj) : BldAt B b l (w.alloc o) := Lib.IsBuilderF.alloc h o
theorem BldAt.drewN {B b : Nat} {l : List UInt8} {w : World} (h : BldAt B b l w) (n : Nat) : BldAt B b l (w.drewN n) := h
theorem bld_write (B b : Nat) (l : List UInt8) (s : ByteArray) (w : World) (h : BldAt B b l w) (hlen : l.length + s.size ≤ 140737488355328) (hBw : B ≤ w.heap.size) :
    Calls Tryz.prog 81 #[.pointer (some ⟨b, 0, none⟩), .string s] w fun e w' => e = .returned (.tuple #[.int .i64 s.size, .nilIface]) ∧ BldAt B b (l ++ s.data.toList) w' ∧ Below B w w' :=
  (Any.Builder_WriteString_f { Tryz.lays156 with } Tryz.Builder_Extra_156 B b (Lib.byteCells l) s w h (by rw [Lib.byteCells_length]; exact hlen) hBw).mono fun e w' ⟨he, hb, hB⟩ => by
    refine ⟨he, ?_, hB⟩
    unfold BldAt
    rw [Lib.byteCells_append, ← Lib.strCells_eq]
    exact Or.inr hb
theorem bld_string (B b : Nat) (l : List UInt8) (w : World) (h : BldAt B b l w) (hBw : B ≤ w.heap.size) :
    Calls Tryz.prog 83 #[.pointer (some ⟨b, 0, none⟩)] w fun e w' => e = .returned (.string ⟨l.toArray⟩) ∧ BldAt B b l w' ∧ Below B w w' :=
  (Tryz.Builder_String_any_f B b l w h hBw).mono fun _ _ h => h
end Go.Proofs.YtodbbfgkclkpgaaGreatDoor

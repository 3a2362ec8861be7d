/- stanza.line, the reference's isLine, Trim, blank: what a line may be. · stanza.Small, the reference's Small: a name in small letters. · strings.Builder: written on, and read. -/
import Derived.Test.YtodbbfgkclkpgaaGreatDoorABK11
import Derived.Test.YtodbbfgkclkpgaaGreatDoorABK7
import Derived.Test.YtodbbfgkclkpgaaGreatDoorABK2
import Derived.Test.YtodbbfgkclkpgaaGreatDoorABK12
import Derived.Lib.ConvBytes
import Derived.Laws.IdiomStrings
import Derived.OwnWalk
import Derived.Test.YtodbbfgkclkpgaaGreatDoorABK3
import Derived.Shelf.Strings.BuilderF
namespace Go.Proofs.YtodbbfgkclkpgaaGreatDoor.VP

def rtrim (p : UInt8 → Bool) (l : List UInt8) : List UInt8 := (l.reverse.dropWhile p).reverse
theorem rtrim_snoc {p : UInt8 → Bool} (l : List UInt8) (c : UInt8) : rtrim p (l ++ [c]) = if p c then rtrim p l else l ++ [c] := by
  unfold rtrim
  rw [List.reverse_append, List.reverse_singleton, List.singleton_append, List.dropWhile_cons]
  split
  · rfl
  · rw [List.reverse_cons, List.reverse_reverse]
theorem rtrim_nil {p : UInt8 → Bool} : rtrim p [] = [] := rfl
theorem rtrim_cons {p : UInt8 → Bool} (c : UInt8) (l : List UInt8) : rtrim p (c :: l) = if p c ∧ rtrim p l = [] then [] else c :: rtrim p l := by
  induction l using rev_ind with
  | nil =>
    rw [show [c] = [] ++ [c] from rfl, rtrim_snoc, rtrim_nil]
    by_cases h : p c = true <;> simp [h]
  | append_singleton l d ih =>
    rw [show c :: (l ++ [d]) = (c :: l) ++ [d] from rfl, rtrim_snoc, rtrim_snoc]
    by_cases hd : p d = true
    · rw [if_pos hd, if_pos hd, ih]
    · rw [if_neg hd, if_neg hd, if_neg (by simp)]
      rfl
end Go.Proofs.YtodbbfgkclkpgaaGreatDoor.VP
namespace Go.Proofs.YtodbbfgkclkpgaaGreatDoor
open Go.RowKit

/-! the program's Trim, cut of blanks and tabs -/
theorem bl_contains_fin : ∀ i : Fin 256, ([32, 9] : List UInt8).contains (UInt8.ofNat i.val) = VP.bl (UInt8.ofNat i.val) := by decide +kernel
theorem bl_contains (c : UInt8) : ([32, 9] : List UInt8).contains c = VP.bl c := by
  have := bl_contains_fin ⟨c.toNat, c.toNat_lt⟩
  simpa using this
theorem bl_fun : (fun c => ([32, 9] : List UInt8).contains c) = VP.bl := funext bl_contains
theorem bls_ascii : ∀ (j : Nat) (b : UInt8), (⟨#[32, 9]⟩ : ByteArray).data.toList[j]? = some b → b.toNat < 128 := fun j b h => by
  have hm : b ∈ ([32, 9] : List UInt8) := List.mem_of_getElem? h
  have hall : (([32, 9] : List UInt8).all fun b => decide (b.toNat < 128)) = true := by decide
  simpa using List.all_eq_true.1 hall b hm
theorem call_trim2 (s : ByteArray) (w : World) (hs : s.size ≤ 1000000) : Calls Tryz.prog 137 #[.string s, .string ⟨#[32, 9]⟩] w fun e w' => ∃ t : ByteArray, e = .returned (.string t) ∧ t.data.toList = VP.cutBoth VP.bl s.data.toList ∧ Below w.heap.size w w' :=
  (Any.strings_Trim_laid Tryz.lays160 info_set s ⟨#[32, 9]⟩ w (by omega) (by decide) bls_ascii).mono fun e w' ⟨he, hb⟩ => by
    refine ⟨_, he, ?_, hb⟩
    show Lib.trimS s.data.toList [32, 9] = VP.cutBoth VP.bl s.data.toList
    unfold Lib.trimS Lib.trimLeftS Lib.trimRightS VP.cutBoth
    rw [bl_fun]

theorem okL_at (c : UInt8) : VP.okL c = ((decide (32 ≤ c.toNat) || decide (c.toNat = 9)) && !decide (c.toNat = 127)) := by
  unfold VP.okL
  rw [show (c == 9) = decide (c.toNat = 9) from u8_beq c 9 (by omega), show (c == 127) = decide (c.toNat = 127) from u8_beq c 127 (by omega)]
theorem line_bad {s : ByteArray} {k : Nat} (hlt : k < s.size) (h : VP.okL s[k] = false) : VP.flineP s.data.toList = false := by
  have : s.data.toList.all VP.okL = false := by
    rw [← List.take_append_drop k s.data.toList, drop_cons s k hlt, List.all_append, List.all_cons, h]
    simp
  unfold VP.flineP
  rw [this]
  rfl
theorem line_cut {s t : ByteArray} (h : s.data.toList.all VP.okL = true) (ht : t.data.toList = VP.cutBoth VP.bl s.data.toList) : VP.flineP s.data.toList = decide (t = s) := by
  unfold VP.flineP
  rw [h, ← ht, Bool.true_and]
  congr 1
  exact propext ⟨fun e => data_inj e, fun e => by rw [e]⟩
theorem byte_line (c : UInt8) : (VP.okL c = true ∧ 32 ≤ c.toNat ∧ c.toNat ≠ 127 ∧ c.toNat ≠ 9) ∨ (VP.okL c = true ∧ c.toNat < 32 ∧ c.toNat = 9) ∨ (VP.okL c = false ∧ c.toNat < 32 ∧ c.toNat ≠ 9) ∨ (VP.okL c = false ∧ 32 ≤ c.toNat ∧ c.toNat = 127) := by
  rw [okL_at]
  by_cases h1 : 32 ≤ c.toNat
  · by_cases h2 : c.toNat = 127
    · exact .inr (.inr (.inr ⟨by rw [decide_eq_true h2]; simp, h1, h2⟩))
    · exact .inl ⟨by rw [decide_eq_true h1, decide_eq_false h2]; rfl, h1, h2, by omega⟩
  · by_cases h2 : c.toNat = 9
    · exact .inr (.inl ⟨by rw [decide_eq_true h2, decide_eq_false (by omega : ¬ c.toNat = 127)]; simp, by omega, h2⟩)
    · exact .inr (.inr (.inl ⟨by rw [decide_eq_false h1, decide_eq_false h2]; rfl, by omega, h2⟩))

set_option maxHeartbeats 2000000 in
set_option maxRecDepth 100000 in
theorem line_calls (s : ByteArray) (w : World) (hs : s.size ≤ 1000000) : Calls Tryz.prog 133 #[.string s] w (BoolIs (VP.flineP s.data.toList) w) := by
  have HL := Lib.hid (size_eq_length s)
  go_enter Tryz.func133, Tryz.ntmps133
  go_wp2_with fail
  go_loop [6] (fun i => ∃ k : Nat, k ≤ s.size ∧ i = .int .i64 k ∧ Hid ((s.data.toList.take k).all VP.okL = true)) (fun i => s.size - (intOf i).toNat)
  case atStart => exact ⟨0, Nat.zero_le _, rfl, rfl⟩
  case round =>
    obtain ⟨k, hk, rfl, hall⟩ := hrel
    by_cases hlt : k < s.size
    · have hbt : s[k].toNat < 256 := s[k].toNat_lt
      have hts := Lib.hid (take_snoc s k hlt)
      rcases byte_line s[k] with ⟨hok, h1, h2, h3⟩ | ⟨hok, h1, h2⟩ | ⟨hok, h1, h2⟩ | ⟨hok, h1, h2⟩
      · have HK := Lib.hid (show (s.data.toList.take (k + 1)).all VP.okL = true by rw [hts.out, List.all_append, hall.out]; simp [hok])
        have e1 := beqI_ne 127 rfl h2
        clear hok hts hall h2 h3
        go_wp2_with fail
        go_round
        case rel => exact ⟨k + 1, by omega, by go_num, HK⟩
        case measure => simp [intOf]; omega
      · have HK := Lib.hid (show (s.data.toList.take (k + 1)).all VP.okL = true by rw [hts.out, List.all_append, hall.out]; simp [hok])
        have e1 := bneI 9 rfl h2
        have e2 := beqI_ne (k := 127) 127 rfl (by omega : s[k].toNat ≠ 127)
        clear hok hts hall h2
        go_wp2_with fail
        go_round
        case rel => exact ⟨k + 1, by omega, by go_num, HK⟩
        case measure => simp [intOf]; omega
      · have HF := Lib.hid (line_bad hlt hok)
        have e1 := bneI_ne 9 rfl h2
        clear hok hts hall h2 HL
        go_wp2_with fail
        go_ret
        exact ⟨ret_bool HF.out.symm, Below.refl _ _⟩
      · have HF := Lib.hid (line_bad hlt hok)
        have e1 := beqI 127 rfl h2
        clear hok hts hall h2 HL
        go_wp2_with fail
        go_ret
        exact ⟨ret_bool HF.out.symm, Below.refl _ _⟩
    · have ha : s.data.toList.all VP.okL = true := by
        have hl := HL.out
        have := hall.out
        rwa [List.take_of_length_le (by omega)] at this
      have HA := Lib.hid ha
      clear ha hall HL
      go_wp2_with fail
      refine (call_trim2 s _ hs).mono ?_
      rintro E w1 ⟨t, rfl, ht, hb⟩
      have HF := Lib.hid (line_cut HA.out ht)
      clear HA ht
      by_cases he : t = s
      · have hb' : (t.toList == s.toList) = true := by rw [he]; simp
        have HB := Lib.hid (show VP.flineP s.data.toList = true by rw [HF.out, decide_eq_true he])
        clear HF he
        go_wp2_with fail
        go_ret
        exact ⟨ret_bool HB.out.symm, hb⟩
      · have hb' : (t.toList == s.toList) = false := beq_eq_false_iff_ne.2 (fun e => he (data_inj (by rwa [Lib.toList_data, Lib.toList_data] at e)))
        have HB := Lib.hid (show VP.flineP s.data.toList = false by rw [HF.out, decide_eq_false he])
        clear HF he
        go_wp2_with fail
        go_ret
        exact ⟨ret_bool HB.out.symm, hb⟩

end Go.Proofs.YtodbbfgkclkpgaaGreatDoor

namespace Go.Proofs.YtodbbfgkclkpgaaGreatDoor
open Go Go.RowKit

/-- a row of n bytes of the call's own -/
structure ByteRow (w0 w : World) (b : Nat) (n : Nat) (f : Nat → UInt8) : Prop where
  cells : ∀ j, j < n → w.cell? ⟨b, j, none⟩ = some (.int .u8 ((f j).toNat : Int))
  free : ∀ j, j < n → w.frozen? ⟨b, j, none⟩ = false
  below : Below w0.heap.size w0 w
  high : w0.heap.size ≤ b

theorem ByteRow.store {w0 w : World} {b n k : Nat} {f g : Nat → UInt8} (h : ByteRow w0 w b n f) (hk : k < n) (hg : ∀ j, j ≠ k → g j = f j) {z : Int} (hz : z = ((g k).toNat : Int)) : ByteRow w0 (w.setCell ⟨b, k, none⟩ (.int .u8 z)) b n g where
  cells := fun j hj => by
    by_cases e : j = k
    · subst e
      rw [World.cell?_setCell_same (v := .int .u8 z) (h := h.cells j hj), hz]
    · have hne : (⟨b, k, none⟩ : Addr) ≠ ⟨b, j, none⟩ := fun e' => e (by injection e' with _ h2 _; exact h2.symm)
      rw [World.cell?_setCell_other (h := hne), h.cells j hj, hg j e]
  free := fun j hj => by rw [World.frozen?_setCell]; exact h.free j hj
  below := h.below.setCell h.high _
  high := h.high
theorem ByteRow.same {w0 w : World} {b n : Nat} {f g : Nat → UInt8} (h : ByteRow w0 w b n f) (hg : ∀ j, j < n → g j = f j) : ByteRow w0 w b n g := ⟨fun j hj => by rw [hg j hj]; exact h.cells j hj, h.free, h.below, h.high⟩

def nthB (s : ByteArray) (j : Nat) : UInt8 := s.data.toList.getD j 0
theorem nthB_at {s : ByteArray} {k : Nat} (h : k < s.size) : nthB s k = s[k] := by
  unfold nthB
  rw [List.getD_eq_getElem?_getD, List.getElem?_eq_getElem (by rw [← size_eq_length]; exact h)]
  rfl
theorem bytes_row (w : World) (s : ByteArray) : ByteRow w (Lib.bytesWorld w 5 s) w.heap.size s.size (nthB s) where
  cells := fun j hj => Lib.bytesWorld_cell w 5 s j hj
  free := fun j hj => by
    unfold World.frozen?
    rw [Lib.bytesWorld_at_new]
    have hsz : s.size ≤ (Lib.bytesCells w 5 s).size := by
      unfold Lib.bytesCells
      rw [Array.size_append, Array.size_map]
      exact Nat.le_add_right _ _
    simp
    omega
  below := by
    refine ⟨rfl, rfl, rfl, by rw [Lib.bytesWorld_size]; omega, fun i hi => Lib.bytesWorld_at_old w 5 s i hi⟩
  high := Nat.le_refl _

theorem row_string {w0 w : World} {b : Nat} {s : ByteArray} (h : ByteRow w0 w b s.size (fun j => VP.lowC (nthB s j))) (cap : Nat) :
    (convert 106 9 (.slice (some ⟨b, 0, none⟩) s.size cap)).run Tryz.prog w = .ok (.string ⟨(VP.smallP s.data.toList).toArray⟩) w := by
  have hl : (VP.smallP s.data.toList).length = s.size := by unfold VP.smallP; rw [List.length_map, ← size_eq_length]
  have := run_convert_bytes_back (P := Tryz.prog) w 106 9 5 ⟨b, 0, none⟩ cap (VP.smallP s.data.toList) Tryz.underlying106 Tryz.underlying5 Tryz.underlying9 (fun j hj => by
    rw [hl] at hj
    have e : (VP.smallP s.data.toList)[j]'(by rw [hl]; exact hj) = VP.lowC (nthB s j) := by
      unfold VP.smallP
      rw [List.getElem_map, nthB_at hj]
      rfl
    rw [Go.WideShapes.add_plain, Nat.zero_add, h.cells j hj, e])
  rwa [hl] at this

theorem low_up {c : UInt8} (h : 65 ≤ c.toNat ∧ c.toNat ≤ 90) : ((VP.lowC c).toNat : Int) = (c.toNat : Int) + 32 := by
  unfold VP.lowC
  rw [if_pos h, UInt8.toNat_add]
  have : (c.toNat + (32 : UInt8).toNat) % 2 ^ 8 = c.toNat + 32 := by
    show (c.toNat + 32) % 256 = _
    omega
  rw [this]
  omega
theorem low_not {c : UInt8} (h : ¬ (65 ≤ c.toNat ∧ c.toNat ≤ 90)) : VP.lowC c = c := if_neg h

def SmallIs (s : ByteArray) (w : World) (E : Ending) (w' : World) : Prop := E = .returned (.string ⟨(VP.smallP s.data.toList).toArray⟩) ∧ Below w.heap.size w w'

set_option maxHeartbeats 2000000 in
set_option maxRecDepth 100000 in
theorem small_calls (s : ByteArray) (w : World) (hs : s.size ≤ 1000000) : Calls Tryz.prog 132 #[.string s] w (SmallIs s w) := by
  have hcv := Lib.run_convert_string_bytes (P := Tryz.prog) w 9 106 5 s (u := .string) Tryz.underlying9 Tryz.underlying106 Tryz.underlying5
  have hS := bytes_row w s
  have hcap := grownCap_ge w s.size 0 5
  obtain ⟨cap, hcp⟩ : ∃ c, grownCap w s.size 0 5 = c := ⟨_, rfl⟩
  rw [hcp] at hcv hcap
  obtain ⟨b, hb⟩ : ∃ b, w.heap.size = b := ⟨_, rfl⟩
  obtain ⟨W1, hW1⟩ : ∃ W1, W1 = Lib.bytesWorld w 5 s := ⟨_, rfl⟩
  rw [← hW1] at hcv hS
  have HS := Lib.hid hS
  rw [hb] at hcv HS
  have HB := Lib.hid hb
  clear hW1 hcp hb hS
  go_enter Tryz.func132, Tryz.ntmps132
  go_wp2_with fail
  go_loopw [10] (fun i wr => ∃ k : Nat, k ≤ s.size ∧ i = .int .i64 k ∧ Hid (ByteRow w wr b s.size (fun j => if j < k then VP.lowC (nthB s j) else nthB s j))) (fun i _ => s.size - (intOf i).toNat)
  case atStart => exact ⟨0, Nat.zero_le _, rfl, HS.out.same (fun j _ => if_neg (Nat.not_lt_zero j))⟩
  case round =>
    obtain ⟨k, hk, rfl, hall⟩ := hrel
    by_cases hlt : k < s.size
    · have hbt : s[k].toNat < 256 := s[k].toNat_lt
      have hc := hall.out.cells k hlt
      have hf := hall.out.free k hlt
      rw [if_neg (Nat.lt_irrefl k), nthB_at hlt] at hc
      by_cases hu : 65 ≤ s[k].toNat ∧ s[k].toNat ≤ 90
      · have HU := Lib.hid hu
        obtain ⟨h1, h2⟩ := hu
        go_wp2_with fail
        go_roundw
        case rel => exact ⟨k + 1, by omega, by go_num, Lib.hid (hall.out.store hlt (g := fun j => if j < k + 1 then VP.lowC (nthB s j) else nthB s j) (fun j hj => by
            by_cases h : j < k
            · rw [if_pos h, if_pos (by omega)]
            · rw [if_neg h, if_neg (by omega)]) (by rw [if_pos (Nat.lt_succ_self k), nthB_at hlt, low_up HU.out]; omega))⟩
        case measure => simp [intOf]; omega
      · have HU := Lib.hid (show VP.lowC (nthB s k) = nthB s k by rw [nthB_at hlt]; exact low_not hu)
        have HG := Lib.hid (hall.out.same (g := fun j => if j < k + 1 then VP.lowC (nthB s j) else nthB s j) (fun j _ => by
            by_cases h : j < k
            · rw [if_pos h, if_pos (by omega)]
            · by_cases h' : j = k
              · subst h'; rw [if_neg h, if_pos (Nat.lt_succ_self j), HU.out]
              · rw [if_neg h, if_neg (by omega)]))
        have hu' : s[k].toNat < 65 ∨ 90 < s[k].toNat := by omega
        clear hu hall HU
        rcases hu' with h1 | h1
        · go_wp2_with fail
          go_roundw
          case rel => exact ⟨k + 1, by omega, by go_num, HG⟩
          case measure => simp [intOf]; omega
        · go_wp2_with fail
          go_roundw
          case rel => exact ⟨k + 1, by omega, by go_num, HG⟩
          case measure => simp [intOf]; omega
    · obtain rfl : k = s.size := by omega
      have hR := hall.out.same (g := fun j => VP.lowC (nthB s j)) (fun j hj => by rw [if_pos hj])
      have hcv2 := row_string hR cap
      have HR := Lib.hid hR.below
      clear hR hall HS hcv
      go_wp2_with fail
      go_ret
      exact ⟨rfl, HR.out⟩

end Go.Proofs.YtodbbfgkclkpgaaGreatDoor

namespace Go.Proofs.YtodbbfgkclkpgaaGreatDoor
open Go Go.RowKit

/-- the builder at b (of the call's own, from B on) holds these bytes -/
def BldAt (B b : Nat) (l : List UInt8) (w : World) : Prop := Lib.IsBuilderF 108 5 B b (Lib.byteCells l) w
theorem bld_fresh (w : World) : BldAt w.heap.size w.heap.size [] (w.alloc (.cells #[.pointer none, .slice none 0 0] 108)) := Lib.IsBuilderF.of (Lib.fresh_isBuilder 108 5 w)
theorem BldAt.alloc {B b : Nat} {l : List UInt8} {w : World} (h : BldAt B b l w) (o : Obj) : BldAt B b l (w.alloc o) := Lib.IsBuilderF.alloc h o
theorem BldAt.drewN {B b : Nat} {l : List UInt8} {w : World} (h : BldAt B b l w) (n : Nat) : BldAt B b l (w.drewN n) := h
theorem bld_write (B b : Nat) (l : List UInt8) (s : ByteArray) (w : World) (h : BldAt B b l w) (hlen : l.length + s.size ≤ 140737488355328) (hBw : B ≤ w.heap.size) :
    Calls Tryz.prog 81 #[.pointer (some ⟨b, 0, none⟩), .string s] w fun e w' => e = .returned (.tuple #[.int .i64 s.size, .nilIface]) ∧ BldAt B b (l ++ s.data.toList) w' ∧ Below B w w' :=
  (Any.Builder_WriteString_f { Tryz.lays156 with } Tryz.Builder_Extra_156 B b (Lib.byteCells l) s w h (by rw [Lib.byteCells_length]; exact hlen) hBw).mono fun e w' ⟨he, hb, hB⟩ => by
    refine ⟨he, ?_, hB⟩
    unfold BldAt
    rw [Lib.byteCells_append, ← Lib.strCells_eq]
    exact Or.inr hb
theorem bld_string (B b : Nat) (l : List UInt8) (w : World) (h : BldAt B b l w) (hBw : B ≤ w.heap.size) :
    Calls Tryz.prog 83 #[.pointer (some ⟨b, 0, none⟩)] w fun e w' => e = .returned (.string ⟨l.toArray⟩) ∧ BldAt B b l w' ∧ Below B w w' :=
  (Tryz.Builder_String_any_f B b l w h hBw).mono fun _ _ h => h
end Go.Proofs.YtodbbfgkclkpgaaGreatDoor

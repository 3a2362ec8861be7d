/- depend.signs: the table of signs, as it lies. · depend.one: how a term is written. -/
import Derived.Test.YtodbbfgkclkpgaaGreatDoorAW17
import Derived.Deep.RegionHeld3
import Derived.Deep.DeepCutAuto
namespace Go.Proofs.YtodbbfgkclkpgaaGreatDoor
open Go.RowKit

/-- the signs of what is asked of versions, as they lie -/
def signS (k : Nat) : ByteArray := ⟨(VP.signP (k : Int)).toArray⟩
def EnvS (w : World) : Prop := ∀ k, k < 6 → w.cell? ⟨3, k, none⟩ = some (.string (signS k))
theorem EnvS.below {w w' : World} (h : EnvS w) (hb : Below w.heap.size w w') : EnvS w' := fun k hk => kept hb (h k hk)

theorem arrLen : Tryz.prog.arrayLen 199 = 6 := by kernel_rfl
theorem arrSize (W : World) : (sizeOf (Tryz.prog.elem 199)).run Tryz.prog W = .ok 1 W := by kernel_rfl
theorem signs_at (W : World) (k : Nat) (h6 : k < 6) : (Instr.indexAt 199 (.pointer (some ⟨3, 0, none⟩)) (.int .i64 (k : Int))).run Tryz.prog W = .ok (.pointer (some ⟨3, k, none⟩)) W := by
  have h := run_indexAt_array (P := Tryz.prog) (w := W) 199 ⟨3, 0, none⟩ .i64 (k : Int) (by kernel_rfl)
  rw [arrLen, if_pos ⟨by omega, by omega⟩, arrSize] at h
  refine h.trans ?_
  show Result.ok (Value.pointer (some ((⟨3, 0, none⟩ : Addr).add (((k : Nat) : Int).toNat * 1)))) W = _
  rw [Int.toNat_natCast, Nat.mul_one, Go.WideShapes.add_plain, Nat.zero_add]

theorem signS_size (k : Nat) : (signS k).size ≤ 2 := by
  rw [size_eq_length]
  show (VP.signP (k : Int)).length ≤ 2
  unfold VP.signP
  (repeat' split) <;> simp
end Go.Proofs.YtodbbfgkclkpgaaGreatDoor

namespace Go.Proofs.YtodbbfgkclkpgaaGreatDoor
open Go.RowKit

def oneS (t : Tv) : ByteArray := ⟨(VP.oneP t.tm).toArray⟩
def OneIs (t : Tv) (w : World) (E : Ending) (w' : World) : Prop := E = .returned (.string (oneS t)) ∧ Below w.heap.size w w'

set_option maxRecDepth 100000 in
theorem one0_calls (t : Tv) (w : World) (h0 : t.op = 0) : Calls Tryz.prog 127 #[t.val] w (OneIs t w) := by
  obtain ⟨n, op, e, u, r⟩ := t
  obtain rfl : op = 0 := h0
  have F := Lib.hid (show oneS ⟨n, 0, e, u, r⟩ = n by unfold oneS VP.oneP Tv.tm; rw [if_pos rfl, mk_data])
  unfold Tv.val
  dsimp only
  have hb0 := below_alloc w (.cells #[.string n, .int .i64 0, .int .i64 e, .string u, .string r] 99)
  go_enter Tryz.func127, Tryz.ntmps127
  go_wp2_with fail
  go_ret
  exact ⟨by rw [F.out]; rfl, hb0⟩

/-- the term's cells, its sign's, and what lay before -/
def Six (w : World) (b : Nat) (n : ByteArray) (op e : Int) (u r : ByteArray) (k : Nat) (sg : ByteArray) (W : World) : Prop :=
  W.cell? ⟨b, 0, none⟩ = some (.string n) ∧ W.cell? ⟨b, 1, none⟩ = some (.int .i64 op) ∧ W.cell? ⟨b, 2, none⟩ = some (.int .i64 e) ∧ W.cell? ⟨b, 3, none⟩ = some (.string u) ∧ W.cell? ⟨b, 4, none⟩ = some (.string r) ∧
  W.cell? ⟨3, k, none⟩ = some (.string sg) ∧ Below w.heap.size w W
theorem six_go {w W W' : World} {b : Nat} {n : ByteArray} {op e : Int} {u r : ByteArray} {k : Nat} {sg : ByteArray} (h : Six w b n op e u r k sg W) (hb : Below W.heap.size W W') : Six w b n op e u r k sg W' := by
  obtain ⟨h1, h2, h3, h4, h5, h6, h7⟩ := h
  exact ⟨kept hb h1, kept hb h2, kept hb h3, kept hb h4, kept hb h5, kept hb h6, step_below h7 hb⟩
theorem six_below {w W : World} {b : Nat} {n : ByteArray} {op e : Int} {u r : ByteArray} {k : Nat} {sg : ByteArray} (h : Six w b n op e u r k sg W) : Below w.heap.size w W := h.2.2.2.2.2.2

set_option maxHeartbeats 1000000 in
set_option maxRecDepth 100000 in
theorem one1_calls (n : ByteArray) (k : Nat) (e : Int) (u r : ByteArray) (w : World) (sg T : ByteArray) (h1 : 1 ≤ k) (h6 : k < 6) (hn : n.size ≤ 1000) (hsg : sg.size ≤ 2) (hT : T.size ≤ 40)
    (hc : w.cell? ⟨3, k, none⟩ = some (.string sg)) (hp : Gives w 56 #[.agg #[.int .i64 e, .string u, .string r]] (.string T)) :
    Calls Tryz.prog 127 #[.agg #[.string n, .int .i64 (k : Int), .int .i64 e, .string u, .string r]] w fun E w' => E = .returned (.string (((((n ++ ⟨#[32, 40]⟩) ++ sg) ++ ⟨#[32]⟩) ++ T) ++ ⟨#[41]⟩)) ∧ Below w.heap.size w w' := by
  have hN : Six w w.heap.size n k e u r k sg (w.alloc (.cells #[.string n, .int .i64 (k : Int), .int .i64 e, .string u, .string r] 99)) :=
    ⟨by go_cell, by go_cell, by go_cell, by go_cell, by go_cell, kept (below_alloc _ _) hc, below_alloc _ _⟩
  have hk0 : ((k : Int) == 0) = false := by rw [beq_eq_false_iff_ne]; omega
  have z1 : (n ++ ⟨#[32, 40]⟩ : ByteArray).size = n.size + 2 := by rw [ByteArray.size_append]; rfl
  have z2 : ((n ++ ⟨#[32, 40]⟩) ++ sg : ByteArray).size = n.size + 2 + sg.size := by rw [ByteArray.size_append, z1]
  have z3 : (((n ++ ⟨#[32, 40]⟩) ++ sg) ++ ⟨#[32]⟩ : ByteArray).size = n.size + 2 + sg.size + 1 := by rw [ByteArray.size_append, z2]; rfl
  have z4 : ((((n ++ ⟨#[32, 40]⟩) ++ sg) ++ ⟨#[32]⟩) ++ T : ByteArray).size = n.size + 2 + sg.size + 1 + T.size := by rw [ByteArray.size_append, z3]
  have a1 : ∀ W : World, (Op.stringOp .add n (⟨#[32, 40]⟩ : ByteArray)).run Tryz.prog W = .ok (.string (n ++ ⟨#[32, 40]⟩)) W := fun W => run_string_add_sum W n ⟨#[32, 40]⟩ (by show n.size + 2 ≤ _; omega)
  have a2 : ∀ W : World, (Op.stringOp .add (n ++ ⟨#[32, 40]⟩) sg).run Tryz.prog W = .ok (.string ((n ++ ⟨#[32, 40]⟩) ++ sg)) W := fun W => run_string_add_sum W _ _ (by rw [z1]; omega)
  have a3 : ∀ W : World, (Op.stringOp .add ((n ++ ⟨#[32, 40]⟩) ++ sg) (⟨#[32]⟩ : ByteArray)).run Tryz.prog W = .ok (.string (((n ++ ⟨#[32, 40]⟩) ++ sg) ++ ⟨#[32]⟩)) W := fun W => run_string_add_sum W _ _ (by rw [z2]; show _ + 1 ≤ _; omega)
  have a4 : ∀ W : World, (Op.stringOp .add (((n ++ ⟨#[32, 40]⟩) ++ sg) ++ ⟨#[32]⟩) T).run Tryz.prog W = .ok (.string ((((n ++ ⟨#[32, 40]⟩) ++ sg) ++ ⟨#[32]⟩) ++ T)) W := fun W => run_string_add_sum W _ _ (by rw [z3]; omega)
  have a5 : ∀ W : World, (Op.stringOp .add ((((n ++ ⟨#[32, 40]⟩) ++ sg) ++ ⟨#[32]⟩) ++ T) (⟨#[41]⟩ : ByteArray)).run Tryz.prog W = .ok (.string (((((n ++ ⟨#[32, 40]⟩) ++ sg) ++ ⟨#[32]⟩) ++ T) ++ ⟨#[41]⟩)) W := fun W => run_string_add_sum W _ _ (by rw [z4]; show _ + 1 ≤ _; omega)
  have ix : ∀ W : World, (Instr.indexAt 199 (.pointer (some ⟨3, 0, none⟩)) (.int .i64 (k : Int))).run Tryz.prog W = .ok (.pointer (some ⟨3, k, none⟩)) W := fun W => signs_at W k h6
  clear z1 z2 z3 z4 hc
  go_enter Tryz.func127, Tryz.ntmps127
  go_wp2_with fail
  go_region_held3 (fun W => W.cell? ⟨w.heap.size, 0, none⟩ = some (.string n) ∧ W.cell? ⟨w.heap.size, 1, none⟩ = some (.int .i64 (k : Int)) ∧ W.cell? ⟨w.heap.size, 2, none⟩ = some (.int .i64 e) ∧ W.cell? ⟨w.heap.size, 3, none⟩ = some (.string u) ∧ W.cell? ⟨w.heap.size, 4, none⟩ = some (.string r) ∧ W.cell? ⟨3, k, none⟩ = some (.string sg) ∧ Below w.heap.size w W)
    ((first | assumption | exact six_go (by assumption) hb | exact six_go hN (below_drew _) | exact six_go (by assumption) (below_drew _)))
    (first | (go_at_call 56; (with_reducible refine (Gives.at hp _ ?_).mono ?_); (exact six_below (by assumption)); rintro E w' ⟨rfl, hb⟩))
  all_goals
    go_wp2_with fail
    go_ret
    exact ⟨rfl, six_below (by assumption)⟩

theorem oneTerm_calls (t : Tv) (w : World) (hE : Env w) (hS : EnvS w) (hs : t.small) (hr : VP.RightT t.tm) : Calls Tryz.prog 127 #[t.val] w (OneIs t w) := by
  rcases hr.k with ⟨h0, _⟩ | ⟨hop, hv⟩
  · exact one0_calls t w h0
  · obtain ⟨n, op, e, u, r⟩ := t
    have hop' : op = 1 ∨ op = 2 ∨ op = 3 ∨ op = 4 ∨ op = 5 := hop
    obtain ⟨k, rfl⟩ : ∃ k : Nat, op = (k : Int) := ⟨op.toNat, by omega⟩
    have hk1 : 1 ≤ k := by omega
    have hk6 : k < 6 := by omega
    have hsz := hs.ok
    have hsu := hs.u
    have hsr := hs.r
    have hv' : VP.RightP e u.data.toList r.data.toList := hv
    have hlen := hv'.len
    refine (one1_calls n k e u r w (signS k) ⟨(VP.printP e u.data.toList r.data.toList).toArray⟩ hk1 hk6 hs.n (signS_size k) (by rw [size_eq_length]; exact hlen) (hS k hk6)
      (fun W hb => (print_calls e u r W (hE.below hb) hsz.1 hsz.2.1 (Nat.le_trans hsu (by omega)) (Nat.le_trans hsr (by omega))).mono fun E W' ⟨t', he, ht, hb'⟩ => ⟨by rw [he, ← ht, mk_data], hb'⟩)).mono ?_
    rintro E w1 ⟨rfl, hb⟩
    refine ⟨?_, hb⟩
    congr 2
    apply data_inj
    rw [append_data, append_data, append_data, append_data, append_data]
    show _ = VP.oneP _
    unfold VP.oneP
    rw [if_neg (show ¬ (Tv.tm ⟨n, (k : Int), e, u, r⟩).op = 0 by show ¬ (k : Int) = 0; omega)]
    simp [Tv.tm, signS]
end Go.Proofs.YtodbbfgkclkpgaaGreatDoor

/- status.Parse: the status that a text is. -/
import Derived.Test.YtpbbhjifgaeklaaGreatDoorSTK23
import Derived.Test.YtpbbhjifgaeklaaGreatDoorSTK25
import Derived.Test.YtpbbhjifgaeklaaGreatDoorSTK18
import Derived.Deep.RegionHeld3
import Derived.Deep.DeepCutAuto
namespace Go.Proofs.YtpbbhjifgaeklaaGreatDoor
open Go Go.RowKit

theorem listOf_dash {s : ByteArray} (h : s.toList = [45]) : listOf s = [] := by
  have e : s = dashB := by rw [← Lib.mk_data s, ← Lib.toList_data, h]; rfl
  unfold listOf; rw [if_pos e]
theorem listOf_no {s : ByteArray} (h : ¬ s.toList = [45]) : listOf s = piecesB 44 s := by
  unfold listOf; rw [if_neg fun e => h (by rw [e, Lib.toList_data]; rfl)]

set_option maxRecDepth 100000 in
theorem statList_calls (s : ByteArray) (w : World) (hE : Env w) (hs : s.size ≤ 1000000) : Calls Tryz.prog 62 #[.string s] w fun E w' => ∃ A n c, E = .returned (.slice A n c) ∧ StrsUp w.heap.size w' (.slice A n c) (listOf s) ∧ Below w.heap.size w w' := by
  have hp := pieces_many 44 s hs
  have C := Lib.hid (call_split s 44 w hE hs)
  by_cases h : s.toList = [45]
  · have F := Lib.hid (listOf_dash h)
    have hq : (s.toList == [45]) = true := beq_iff_eq.2 h
    clear C
    go_enter Tryz.func62, Tryz.ntmps62
    go_wp2_with fail
    go_ret
    exact ⟨none, 0, 0, rfl, by rw [F.out]; exact strsUp_nil _ _ _, Below.refl _ _⟩
  · have F := Lib.hid (listOf_no h)
    have hq : (s.toList == [45]) = false := beq_eq_false_iff_ne.2 h
    go_enter Tryz.func62, Tryz.ntmps62
    go_wp2_with fail
    refine C.out.mono ?_
    rintro E w1 ⟨n, rfl, hn, hb, hc⟩
    have HC := Lib.hid hc
    have HN := Lib.hid hn
    clear hc hn C
    go_wp2_with fail
    go_ret
    exact ⟨_, _, _, rfl, by rw [F.out, HN.out]; exact strsUp_cells (by omega) HC.out, hb⟩

def st0 : St := ⟨0, 0, ⟨#[]⟩, ⟨#[]⟩, false, [], []⟩
def cells7 (z : St) (v1 v2 : Value) : Array Value := #[.int .i64 z.n, .int .i64 z.e, .string z.u, .string z.r, .bool z.h, v1, v2]
def zero7 : Array Value := #[.int .i64 0, .int .i64 0, .string ⟨#[]⟩, .string ⟨#[]⟩, .bool false, .slice none 0 0, .slice none 0 0]
/-- what status.Parse gives -/
def ParseStIs (o : Option St) (w : World) (E : Ending) (w' : World) : Prop := ∃ v1 v2, E = .returned (.tuple #[stV (o.getD st0) v1 v2, errV (if o.isSome then 0 else 3)]) ∧ StAt w' v1 v2 (o.getD st0) ∧ Below w.heap.size w w'
theorem parseSt_err {o : Option St} {w W : World} (h : o = none) (hb : Below w.heap.size w W) : ParseStIs o w (.returned (.tuple #[.agg zero7, .iface 43 (.int .i64 3)])) W := by
  subst h
  exact ⟨.slice none 0 0, .slice none 0 0, rfl, ⟨SlC.nil _ _ _, SlC.nil _ _ _⟩, hb⟩
theorem parseSt_ok {o : Option St} {z : St} {w W : World} {v1 v2 : Value} (h : o = some z) (hA : StAt W v1 v2 z) (hb : Below w.heap.size w W) : ParseStIs o w (.returned (.tuple #[.agg (cells7 z v1 v2), .nilIface])) W := by
  subst h
  exact ⟨v1, v2, rfl, hA, hb⟩
theorem below_set7 {n : Nat} {w0 W : World} {b : Nat} (hb : Below n w0 W) (h : n ≤ b) (v0 v1 v2 v3 v4 v5 v6 : Value) :
    Below n w0 (((((((W.setCell ⟨b, 0, none⟩ v0).setCell ⟨b, 1, none⟩ v1).setCell ⟨b, 2, none⟩ v2).setCell ⟨b, 3, none⟩ v3).setCell ⟨b, 4, none⟩ v4).setCell ⟨b, 5, none⟩ v5).setCell ⟨b, 6, none⟩ v6) :=
  ((((((hb.setCell (p := ⟨b, 0, none⟩) h v0).setCell (p := ⟨b, 1, none⟩) h v1).setCell (p := ⟨b, 2, none⟩) h v2).setCell (p := ⟨b, 3, none⟩) h v3).setCell (p := ⟨b, 4, none⟩) h v4).setCell (p := ⟨b, 5, none⟩) h v5).setCell (p := ⟨b, 6, none⟩) h v6
theorem blk_set7 {T : TypeId} {b : Nat} {c0 c1 c2 c3 c4 c5 c6 : Value} {W : World} (h : Blk T W b #[c0, c1, c2, c3, c4, c5, c6]) (v0 v1 v2 v3 v4 v5 v6 : Value) :
    Blk T (((((((W.setCell ⟨b, 0, none⟩ v0).setCell ⟨b, 1, none⟩ v1).setCell ⟨b, 2, none⟩ v2).setCell ⟨b, 3, none⟩ v3).setCell ⟨b, 4, none⟩ v4).setCell ⟨b, 5, none⟩ v5).setCell ⟨b, 6, none⟩ v6) b #[v0, v1, v2, v3, v4, v5, v6] := by
  have h1 := h.set 0 v0
  simp only [List.setIfInBounds_toArray, List.set_cons_zero] at h1
  have h2 := h1.set 1 v1
  simp only [List.setIfInBounds_toArray, List.set_cons_zero, List.set_cons_succ] at h2
  have h3 := h2.set 2 v2
  simp only [List.setIfInBounds_toArray, List.set_cons_zero, List.set_cons_succ] at h3
  have h4 := h3.set 3 v3
  simp only [List.setIfInBounds_toArray, List.set_cons_zero, List.set_cons_succ] at h4
  have h5 := h4.set 4 v4
  simp only [List.setIfInBounds_toArray, List.set_cons_zero, List.set_cons_succ] at h5
  have h6 := h5.set 5 v5
  simp only [List.setIfInBounds_toArray, List.set_cons_zero, List.set_cons_succ] at h6
  have h7 := h6.set 6 v6
  simp only [List.setIfInBounds_toArray, List.set_cons_zero, List.set_cons_succ] at h7
  exact h7
theorem blk_other7 {T : TypeId} {b c : Nat} {cs : Array Value} {W : World} (h : Blk T W b cs) (hne : c ≠ b) (v0 v1 v2 v3 v4 v5 v6 : Value) :
    Blk T (((((((W.setCell ⟨c, 0, none⟩ v0).setCell ⟨c, 1, none⟩ v1).setCell ⟨c, 2, none⟩ v2).setCell ⟨c, 3, none⟩ v3).setCell ⟨c, 4, none⟩ v4).setCell ⟨c, 5, none⟩ v5).setCell ⟨c, 6, none⟩ v6) b cs :=
  ((((((h.other hne 0 v0).other hne 1 v1).other hne 2 v2).other hne 3 v3).other hne 4 v4).other hne 5 v5).other hne 6 v6

theorem five_of {α : Type} {l : List α} (h : l.length = 5) : ∃ a b c d e, l = [a, b, c, d, e] := by
  match l, h with
  | [a, b, c, d, e], _ => exact ⟨a, b, c, d, e, rfl⟩
theorem piece_size {c : UInt8} {v s : ByteArray} (h : s ∈ piecesB c v) : s.size ≤ v.size := by
  have h1 := VP.pieces_count c v.data.toList
  unfold piecesB at h
  obtain ⟨l, hl, rfl⟩ := List.mem_map.1 h
  have h2 : l.length ≤ ((VP.pieces c v.data.toList).flatMap id).length := by
    clear h1
    generalize VP.pieces c v.data.toList = ps at hl ⊢
    induction ps with
    | nil => cases hl
    | cons a r ih =>
      rw [List.flatMap_cons, List.length_append]
      rcases List.mem_cons.1 hl with rfl | h
      · simp
      · have := ih h; omega
  have h3 : 1 ≤ (VP.pieces c v.data.toList).length := by
    rcases hp : VP.pieces c v.data.toList with _ | ⟨a, r⟩
    · exact absurd hp (VP.pieces_ne _ _)
    · simp
  rw [size_eq_length v, size_eq_length]
  show l.length ≤ _
  omega
theorem parse_few (num : ByteArray → Option Int) (ver : ByteArray → Option (Int × List UInt8 × List UInt8)) {s : ByteArray} (h : ¬ (piecesB 32 s).length = 5) : parseS num ver s = none := by
  unfold parseS
  split
  · rename_i a b c d e hp
    rw [hp] at h
    exact absurd rfl h
  · rfl
theorem parse_five (num : ByteArray → Option Int) (ver : ByteArray → Option (Int × List UInt8 × List UInt8)) {s a b c d e : ByteArray} (h : piecesB 32 s = [a, b, c, d, e]) : parseS num ver s = readS num ver s a b c d e := by
  unfold parseS
  rw [h]

set_option maxHeartbeats 1000000 in
set_option maxRecDepth 100000 in
theorem statParse_few (s : ByteArray) (w : World) (hE : Env w) (hs : s.size ≤ 10000) (h5 : ¬ (piecesB 32 s).length = 5) : Calls Tryz.prog 13 #[.string s] w (ParseStIs (parseS atoiO verOf s) w) := by
  have hb0 := below_alloc w (.cells zero7 26)
  have R0 := blk_new 26 w zero7
  have C := Lib.hid (call_split s 32 _ (hE.below hb0) (by omega))
  have HP := Lib.hid (parse_few atoiO verOf h5)
  have H5 := Lib.hid h5
  clear hE hs h5
  go_enter Tryz.func13, Tryz.ntmps13
  go_wp2_with fail
  refine C.out.mono ?_
  rintro E w1 ⟨np, rfl, hnp, hb, hcell⟩
  have R1 := R0.keep hb
  have HB1 := Lib.hid (step_below hb0 hb)
  have hn5 : ¬ np = 5 := fun e => H5.out (by rw [← hnp, e])
  have fz := R1.frozen
  have z0 := R1.cell (i := 0) rfl; have z1 := R1.cell (i := 1) rfl; have z2 := R1.cell (i := 2) rfl; have z3 := R1.cell (i := 3) rfl; have z4 := R1.cell (i := 4) rfl; have z5 := R1.cell (i := 5) rfl; have z6 := R1.cell (i := 6) rfl
  clear C hcell hb hnp R0 R1 hb0 H5
  obtain ⟨m, hm⟩ : ∃ m, w.heap.size = m := ⟨_, rfl⟩
  have HM := Lib.hid hm
  rw [hm] at z0 z1 z2 z3 z4 z5 z6 fz
  (try rw [hm])
  clear hm
  go_wp2_with fail
  refine bodyPost_ret (v := .tuple #[.agg zero7, .iface 43 (.int .i64 3)]) (by simp [results, zero7, Tryz.results13, go_sem, z0, z1, z2, z3, z4, z5, z6]) rfl ?_
  exact parseSt_err HP.out (below_set7 HB1.out (Nat.le_of_eq HM.out) _ _ _ _ _ _ _)

theorem blk7 {W : World} {T : TypeId} {b : Nat} {c0 c1 c2 c3 c4 c5 c6 : Value} (h : Blk T W b #[c0, c1, c2, c3, c4, c5, c6]) : (∀ i, W.frozen? ⟨b, i, none⟩ = false) ∧ W.cell? ⟨b, 0, none⟩ = some c0 ∧ W.cell? ⟨b, 1, none⟩ = some c1 ∧ W.cell? ⟨b, 2, none⟩ = some c2 ∧ W.cell? ⟨b, 3, none⟩ = some c3 ∧ W.cell? ⟨b, 4, none⟩ = some c4 ∧ W.cell? ⟨b, 5, none⟩ = some c5 ∧ W.cell? ⟨b, 6, none⟩ = some c6 :=
  ⟨h.frozen, h.cell rfl, h.cell rfl, h.cell rfl, h.cell rfl, h.cell rfl, h.cell rfl, h.cell rfl⟩
/-- the state behind the struct: the result's box m, the status in box q -/
structure PSt (w : World) (m q : Nat) (z : St) (v1 v2 : Value) (W : World) : Prop where
  r : Blk 26 W m zero7
  x : Blk 26 W q (cells7 z v1 v2)
  a : StrsOff m q W v1 z.ws
  b : StrsOff m q W v2 z.ts
  lt : m < q
  low : w.heap.size ≤ m
  w : Below w.heap.size w W
theorem PSt.go {w W W' : World} {m q : Nat} {z : St} {v1 v2 : Value} (h : PSt w m q z v1 v2 W) (hb : Below W.heap.size W W') : PSt w m q z v1 v2 W' :=
  ⟨h.r.keep hb, h.x.keep hb, h.a.below hb, h.b.below hb, h.lt, h.low, step_below h.w hb⟩
theorem pst_made {w W : World} {m q : Nat} (z : St) {v1 v2 : Value} (hr : Blk 26 W m zero7) (hx : Blk 26 W q zero7) (ha : StrsOff m q W v1 z.ws) (hb : StrsOff m q W v2 z.ts) (hlt : m < q) (low : w.heap.size ≤ m) (hB : Below w.heap.size w W) :
    PSt w m q z v1 v2 (((((((W.setCell ⟨q, 0, none⟩ (.int .i64 z.n)).setCell ⟨q, 1, none⟩ (.int .i64 z.e)).setCell ⟨q, 2, none⟩ (.string z.u)).setCell ⟨q, 3, none⟩ (.string z.r)).setCell ⟨q, 4, none⟩ (.bool z.h)).setCell ⟨q, 5, none⟩ v1).setCell ⟨q, 6, none⟩ v2) :=
  ⟨blk_other7 hr (by omega) _ _ _ _ _ _ _, blk_set7 hx _ _ _ _ _ _ _, ((((((ha.set (.inr rfl)).set (.inr rfl)).set (.inr rfl)).set (.inr rfl)).set (.inr rfl)).set (.inr rfl)).set (.inr rfl), ((((((hb.set (.inr rfl)).set (.inr rfl)).set (.inr rfl)).set (.inr rfl)).set (.inr rfl)).set (.inr rfl)).set (.inr rfl), hlt, low, below_set7 hB (by omega) _ _ _ _ _ _ _⟩
/-- ahead of it: the words' cells, and the result's box -/
def Pre5 (w : World) (m g : Nat) (a b c d e : ByteArray) (W : World) : Prop :=
  W.cell? ⟨g, 0, none⟩ = some (.string a) ∧ W.cell? ⟨g, 1, none⟩ = some (.string b) ∧ W.cell? ⟨g, 2, none⟩ = some (.string c) ∧ W.cell? ⟨g, 3, none⟩ = some (.string d) ∧ W.cell? ⟨g, 4, none⟩ = some (.string e) ∧ Blk 26 W m zero7 ∧ Below w.heap.size w W
theorem Pre5.s {w W : World} {m g : Nat} {a b c d e : ByteArray} (h : Pre5 w m g a b c d e W) : W.cell? ⟨g, 2, none⟩ = some (.string c) ∧ W.cell? ⟨g, 3, none⟩ = some (.string d) ∧ W.cell? ⟨g, 4, none⟩ = some (.string e) := ⟨h.2.2.1, h.2.2.2.1, h.2.2.2.2.1⟩
theorem s_set7 {W : World} {g q : Nat} {x2 x3 x4 : Value} (h : W.cell? ⟨g, 2, none⟩ = some x2 ∧ W.cell? ⟨g, 3, none⟩ = some x3 ∧ W.cell? ⟨g, 4, none⟩ = some x4) (hne : g ≠ q) (v0 v1 v2 v3 v4 v5 v6 : Value) :
    (((((((W.setCell ⟨q, 0, none⟩ v0).setCell ⟨q, 1, none⟩ v1).setCell ⟨q, 2, none⟩ v2).setCell ⟨q, 3, none⟩ v3).setCell ⟨q, 4, none⟩ v4).setCell ⟨q, 5, none⟩ v5).setCell ⟨q, 6, none⟩ v6).cell? ⟨g, 2, none⟩ = some x2 ∧
    (((((((W.setCell ⟨q, 0, none⟩ v0).setCell ⟨q, 1, none⟩ v1).setCell ⟨q, 2, none⟩ v2).setCell ⟨q, 3, none⟩ v3).setCell ⟨q, 4, none⟩ v4).setCell ⟨q, 5, none⟩ v5).setCell ⟨q, 6, none⟩ v6).cell? ⟨g, 3, none⟩ = some x3 ∧
    (((((((W.setCell ⟨q, 0, none⟩ v0).setCell ⟨q, 1, none⟩ v1).setCell ⟨q, 2, none⟩ v2).setCell ⟨q, 3, none⟩ v3).setCell ⟨q, 4, none⟩ v4).setCell ⟨q, 5, none⟩ v5).setCell ⟨q, 6, none⟩ v6).cell? ⟨g, 4, none⟩ = some x4 :=
  ⟨cell_off hne (cell_off hne (cell_off hne (cell_off hne (cell_off hne (cell_off hne (cell_off hne h.1)))))), cell_off hne (cell_off hne (cell_off hne (cell_off hne (cell_off hne (cell_off hne (cell_off hne h.2.1)))))), cell_off hne (cell_off hne (cell_off hne (cell_off hne (cell_off hne (cell_off hne (cell_off hne h.2.2))))))⟩
theorem Pre5.w {w W : World} {m g : Nat} {a b c d e : ByteArray} (h : Pre5 w m g a b c d e W) : Below w.heap.size w W := h.2.2.2.2.2.2
theorem Pre5.r {w W : World} {m g : Nat} {a b c d e : ByteArray} (h : Pre5 w m g a b c d e W) : Blk 26 W m zero7 := h.2.2.2.2.2.1
theorem Pre5.go {w W W' : World} {m g : Nat} {a b c d e : ByteArray} (h : Pre5 w m g a b c d e W) (hb : Below W.heap.size W W') : Pre5 w m g a b c d e W' :=
  ⟨kept hb h.1, kept hb h.2.1, kept hb h.2.2.1, kept hb h.2.2.2.1, kept hb h.2.2.2.2.1, h.2.2.2.2.2.1.keep hb, step_below h.2.2.2.2.2.2 hb⟩

end Go.Proofs.YtpbbhjifgaeklaaGreatDoor

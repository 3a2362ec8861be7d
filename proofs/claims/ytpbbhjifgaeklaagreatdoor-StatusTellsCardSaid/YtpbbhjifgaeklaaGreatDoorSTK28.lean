/- The reference's ParseStatus: the status that a text is. -/
import Derived.Test.YtpbbhjifgaeklaaGreatDoorSTK24
import Derived.Test.YtpbbhjifgaeklaaGreatDoorSTK27
import Derived.Test.YtpbbhjifgaeklaaGreatDoorSTK7
import Derived.Test.YtpbbhjifgaeklaaGreatDoorSTK9
namespace Go.Proofs.YtpbbhjifgaeklaaGreatDoor
open Go Go.RowKit

/-- what the reference's ParseStatus gives -/
def RefParseStIs (o : Option St) (w : World) (E : Ending) (w' : World) : Prop := ∃ v1 v2, E = .returned (.tuple #[stV (o.getD st0) v1 v2, .int .i64 (if o.isSome then 0 else 3)]) ∧ StAt w' v1 v2 (o.getD st0) ∧ Below w.heap.size w w'
theorem refParseSt_err {o : Option St} {w W : World} (h : o = none) (hb : Below w.heap.size w W) : RefParseStIs o w (.returned (.tuple #[.agg zero7, .int .i64 3])) W := by
  subst h
  exact ⟨.slice none 0 0, .slice none 0 0, rfl, ⟨SlC.nil _ _ _, SlC.nil _ _ _⟩, hb⟩
theorem refParseSt_ok {o : Option St} {z : St} {w W : World} {v1 v2 : Value} (h : o = some z) (hA : StAt W v1 v2 z) (hb : Below w.heap.size w W) : RefParseStIs o w (.returned (.tuple #[.agg (cells7 z v1 v2), .int .i64 0])) W := by
  subst h
  exact ⟨v1, v2, rfl, hA, hb⟩

/-- the result's box m, the status in box q, the words' cells in block g -/
structure RSt (w : World) (m q g : Nat) (a b c d e : ByteArray) (z : St) (v1 v2 : Value) (W : World) : Prop where
  r : Blk 42 W m zero7
  x : Blk 42 W q (cells7 z v1 v2)
  sa : StrsOff m q W v1 z.ws
  sb : StrsOff m q W v2 z.ts
  k0 : W.cell? ⟨g, 0, none⟩ = some (.string a)
  k1 : W.cell? ⟨g, 1, none⟩ = some (.string b)
  k2 : W.cell? ⟨g, 2, none⟩ = some (.string c)
  k3 : W.cell? ⟨g, 3, none⟩ = some (.string d)
  k4 : W.cell? ⟨g, 4, none⟩ = some (.string e)
  ne : g ≠ q
  lt : m < q
  low : w.heap.size ≤ m
  w : Below w.heap.size w W
section
variable {w W W' : World} {m q g : Nat} {a b c d e : ByteArray} {n e0 : Int} {u0 r0 : ByteArray} {hh : Bool} {ws ts : List ByteArray} {v1 v2 : Value} {z : St}
theorem RSt.go (h : RSt w m q g a b c d e z v1 v2 W) (hb : Below W.heap.size W W') : RSt w m q g a b c d e z v1 v2 W' :=
  ⟨h.r.keep hb, h.x.keep hb, h.sa.below hb, h.sb.below hb, kept hb h.k0, kept hb h.k1, kept hb h.k2, kept hb h.k3, kept hb h.k4, h.ne, h.lt, h.low, step_below h.w hb⟩
theorem RSt.set (h : RSt w m q g a b c d e z v1 v2 W) (i : Nat) (v : Value) (z' : St) (v1' v2' : Value) (hx : (cells7 z v1 v2).setIfInBounds i v = cells7 z' v1' v2') (ha : StrsOff m q W v1' z'.ws) (hb : StrsOff m q W v2' z'.ts) : RSt w m q g a b c d e z' v1' v2' (W.setCell ⟨q, i, none⟩ v) := by
  have hne : q ≠ m := by have := h.lt; omega
  have hq : w.heap.size ≤ q := by have := h.lt; have := h.low; omega
  exact ⟨h.r.other hne _ _, hx ▸ h.x.set i v, ha.set (.inr rfl), hb.set (.inr rfl), cell_off h.ne h.k0, cell_off h.ne h.k1, cell_off h.ne h.k2, cell_off h.ne h.k3, cell_off h.ne h.k4, h.ne, h.lt, h.low, h.w.setCell (p := ⟨q, i, none⟩) hq _⟩
theorem RSt.num (h : RSt w m q g a b c d e ⟨n, e0, u0, r0, hh, ws, ts⟩ v1 v2 W) (x : Int) : RSt w m q g a b c d e ⟨x, e0, u0, r0, hh, ws, ts⟩ v1 v2 (W.setCell ⟨q, 0, none⟩ (.int .i64 x)) :=
  h.set 0 _ ⟨x, e0, u0, r0, hh, ws, ts⟩ v1 v2 rfl h.sa h.sb
theorem RSt.hld (h : RSt w m q g a b c d e ⟨n, e0, u0, r0, hh, ws, ts⟩ v1 v2 W) (x : Bool) : RSt w m q g a b c d e ⟨n, e0, u0, r0, x, ws, ts⟩ v1 v2 (W.setCell ⟨q, 4, none⟩ (.bool x)) :=
  h.set 4 _ ⟨n, e0, u0, r0, x, ws, ts⟩ v1 v2 rfl h.sa h.sb
theorem RSt.ver (h : RSt w m q g a b c d e ⟨n, e0, u0, r0, hh, ws, ts⟩ v1 v2 W) (x : Int) (u r : ByteArray) : RSt w m q g a b c d e ⟨n, x, u, r, hh, ws, ts⟩ v1 v2 (((W.setCell ⟨q, 1, none⟩ (.int .i64 x)).setCell ⟨q, 2, none⟩ (.string u)).setCell ⟨q, 3, none⟩ (.string r)) := by
  have h1 := h.set 1 (.int .i64 x) ⟨n, x, u0, r0, hh, ws, ts⟩ v1 v2 rfl h.sa h.sb
  have h2 := h1.set 2 (.string u) ⟨n, x, u, r0, hh, ws, ts⟩ v1 v2 rfl h1.sa h1.sb
  exact h2.set 3 (.string r) ⟨n, x, u, r, hh, ws, ts⟩ v1 v2 rfl h2.sa h2.sb
theorem RSt.wss (h : RSt w m q g a b c d e ⟨n, e0, u0, r0, hh, ws, ts⟩ v1 v2 W) (v : Value) (l : List ByteArray) (ha : StrsOff m q W v l) : RSt w m q g a b c d e ⟨n, e0, u0, r0, hh, l, ts⟩ v v2 (W.setCell ⟨q, 5, none⟩ v) :=
  h.set 5 _ ⟨n, e0, u0, r0, hh, l, ts⟩ v v2 rfl ha h.sb
theorem RSt.tss (h : RSt w m q g a b c d e ⟨n, e0, u0, r0, hh, ws, ts⟩ v1 v2 W) (v : Value) (l : List ByteArray) (hb : StrsOff m q W v l) : RSt w m q g a b c d e ⟨n, e0, u0, r0, hh, ws, l⟩ v1 v (W.setCell ⟨q, 6, none⟩ v) :=
  h.set 6 _ ⟨n, e0, u0, r0, hh, ws, l⟩ v1 v rfl h.sa hb
end

/-- strings.Split's pieces, from a world that lies above -/
theorem split_off (s : ByteArray) (W : World) (hE : Env W) (hs : s.size ≤ 1000000) (m q : Nat) (hm : m < W.heap.size) (hq : q < W.heap.size) : Calls Tryz.prog 61 #[.string s, .string ⟨#[44]⟩] W fun E w' => ∃ g n, E = .returned (.slice (some ⟨g, 0, none⟩) n n) ∧ StrsOff m q w' (.slice (some ⟨g, 0, none⟩) n n) (piecesB 44 s) ∧ Below W.heap.size W w' := by
  have hp := pieces_many 44 s hs
  refine (call_split s 44 W hE hs).mono ?_
  rintro E w1 ⟨n, rfl, hn, hb, hc⟩
  refine ⟨_, n, rfl, ?_, hb⟩
  rw [hn]
  exact strsOff_of (strsUp_cells (by omega) hc) hm (.inl hq)

theorem way_noR {s a b c d e : ByteArray} (HP : parseS numO verR s = readS numO verR s a b c d e) (h : numO a = none) : parseS numO verR s = none := by
  rw [HP]; unfold readS; rw [h]
theorem way_okR {s a b c d e u r : ByteArray} {n x : Int} {hh : Bool} (HP : parseS numO verR s = readS numO verR s a b c d e) (hn : numO a = some n) (hv : verR b = some (x, u.data.toList, r.data.toList)) (hd : decide (c = heldB) = hh) :
    parseS numO verR s = if okS ⟨n, x, u, r, hh, listOf d, listOf e⟩ s then some ⟨n, x, u, r, hh, listOf d, listOf e⟩ else none := by
  rw [HP]
  unfold readS
  rw [hn, hv]
  subst hd
  show (if okS ⟨n, x, ⟨u.data.toList.toArray⟩, ⟨r.data.toList.toArray⟩, decide (c = heldB), listOf d, listOf e⟩ s = true then some (⟨n, x, ⟨u.data.toList.toArray⟩, ⟨r.data.toList.toArray⟩, decide (c = heldB), listOf d, listOf e⟩ : St) else none) = _
  rw [Lib.mk_data, Lib.mk_data]
theorem refPrintV_no {z : St} (h : rightS z = false) : refPrintV z = .tuple #[.string ⟨#[]⟩, .int .i64 1] := by unfold refPrintV; rw [h]; rfl
theorem refPrintV_yes {z : St} (h : rightS z = true) : refPrintV z = .tuple #[.string (printB z), .int .i64 0] := by unfold refPrintV; rw [h]; rfl
theorem verR_dash {b : ByteArray} (h : b.toList = [45]) : verR b = some (0, [], []) := by
  have e : b = dashB := by rw [← Lib.mk_data b, ← Lib.toList_data, h]; rfl
  unfold verR verOf; rw [if_pos e]; rfl
theorem verR_none {b : ByteArray} (h : ¬ b.toList = [45]) (hv : VP.parseP b.data.toList = none) : verR b = some (0, [], []) := by
  unfold verR verOf; rw [if_neg fun e => h (by rw [e, Lib.toList_data]; rfl), hv]; rfl
theorem verR_some {b : ByteArray} (h : ¬ b.toList = [45]) {v : Int × List UInt8 × List UInt8} (hv : VP.parseP b.data.toList = some v) : verR b = some v := by
  unfold verR verOf; rw [if_neg fun e => h (by rw [e, Lib.toList_data]; rfl), hv]; rfl

theorem verR_small {b : ByteArray} {x : Int} {u r : ByteArray} (h : verR b = some (x, u.data.toList, r.data.toList)) : -9223372036854775808 ≤ x ∧ x ≤ 9223372036854775807 ∧ u.size ≤ 10000 ∧ r.size ≤ 10000 := by
  have zero : some ((0 : Int), ([] : List UInt8), ([] : List UInt8)) = some (x, u.data.toList, r.data.toList) → -9223372036854775808 ≤ x ∧ x ≤ 9223372036854775807 ∧ u.size ≤ 10000 ∧ r.size ≤ 10000 := fun h => by
    injection h with h
    injection h with h0 h
    injection h with h1 h2
    rw [size_eq_length, size_eq_length, ← h1, ← h2, ← h0]
    exact ⟨by decide, by decide, by decide, by decide⟩
  by_cases hd : b = dashB
  · rw [show verR b = some (0, [], []) by unfold verR verOf; rw [if_pos hd]; rfl] at h
    exact zero h
  · cases hv : VP.parseP b.data.toList with
    | none =>
      rw [show verR b = some (0, [], []) by unfold verR verOf; rw [if_neg hd, hv]; rfl] at h
      exact zero h
    | some v =>
      rw [show verR b = some v by unfold verR verOf; rw [if_neg hd, hv]; rfl] at h
      rw [h] at hv
      have hs := ver_small hv
      have H := VP.parseP_right hv
      have l := H.lo
      have u := H.hi
      omega

set_option maxHeartbeats 1000000 in
set_option maxRecDepth 100000 in
theorem refParse_few (s : ByteArray) (w : World) (hE : Env w) (hs : s.size ≤ 10000) (h5 : ¬ (piecesB 32 s).length = 5) : Calls Tryz.prog 22 #[.string s] w (RefParseStIs (parseS numO verR s) w) := by
  have hb0 := below_alloc w (.cells zero7 42)
  have R0 := blk_new 42 w zero7
  have C := Lib.hid (call_split s 32 _ (hE.below hb0) (by omega))
  have HP := Lib.hid (parse_few numO verR h5)
  have H5 := Lib.hid h5
  clear hE hs h5
  go_enter Tryz.func22, Tryz.ntmps22
  go_wp2_with fail
  refine C.out.mono ?_
  rintro E w1 ⟨np, rfl, hnp, hb, hcell⟩
  have R1 := R0.keep hb
  have HB1 := Lib.hid (step_below hb0 hb)
  have hn5 : ¬ np = 5 := fun e => H5.out (by rw [← hnp, e])
  have fz := R1.frozen
  have z0 := R1.cell (i := 0) rfl; have z1 := R1.cell (i := 1) rfl; have z2 := R1.cell (i := 2) rfl; have z3 := R1.cell (i := 3) rfl; have z4 := R1.cell (i := 4) rfl; have z5 := R1.cell (i := 5) rfl; have z6 := R1.cell (i := 6) rfl
  clear C hcell hb hnp R0 R1 hb0 H5
  obtain ⟨m, hm⟩ : ∃ m, w.heap.size = m := ⟨_, rfl⟩
  have HM := Lib.hid hm
  rw [hm] at z0 z1 z2 z3 z4 z5 z6 fz
  (try rw [hm])
  clear hm
  go_wp2_with fail
  refine bodyPost_ret (v := .tuple #[.agg zero7, .int .i64 3]) (by simp [results, zero7, Tryz.results22, go_sem, z0, z1, z2, z3, z4, z5, z6]) rfl ?_
  exact refParseSt_err HP.out (below_set7 HB1.out (Nat.le_of_eq HM.out) _ _ _ _ _ _ _)

set_option maxHeartbeats 4000000 in
set_option maxRecDepth 100000 in
theorem refParse_five (s a b c d e : ByteArray) (w : World) (hE : Env w) (hs : s.size ≤ 9000) (h5 : piecesB 32 s = [a, b, c, d, e]) : Calls Tryz.prog 22 #[.string s] w (RefParseStIs (parseS numO verR s) w) := by
  have hz : ∀ x ∈ [a, b, c, d, e], x.size ≤ 9000 := fun x hx => Nat.le_trans (piece_size (h5 ▸ hx)) hs
  have hb0 := below_alloc w (.cells zero7 42)
  have R0 := blk_new 42 w zero7
  have C := Lib.hid (call_split s 32 _ (hE.below hb0) (by omega))
  have HP0 := Lib.hid (parse_five numO verR h5)
  have H5 := Lib.hid h5
  have CA := Lib.hid (fun (W : World) => refNumber_calls 1 (by omega) a W (by have := hz a (by simp); omega))
  have CV := Lib.hid (fun (W : World) (hb : Below w.heap.size w W) => refParse_calls b W (hE.below hb))
  have CD := Lib.hid (fun (W : World) (hb : Below w.heap.size w W) (m q : Nat) (hm : m < W.heap.size) (hq : q < W.heap.size) => split_off d W (hE.below hb) (by have := hz d (by simp); omega) m q hm hq)
  have CE := Lib.hid (fun (W : World) (hb : Below w.heap.size w W) (m q : Nat) (hm : m < W.heap.size) (hq : q < W.heap.size) => split_off e W (hE.below hb) (by have := hz e (by simp); omega) m q hm hq)
  have HZ := Lib.hid hz
  have HEE := Lib.hid hE
  clear hE hs h5 hz
  go_enter Tryz.func22, Tryz.ntmps22
  go_wp2_with fail
  refine C.out.mono ?_
  rintro E w1 ⟨np, rfl, hnp, hb, hcell⟩
  obtain rfl : np = 5 := by rw [hnp, H5.out]; rfl
  rw [H5.out] at hcell
  have hgm : (w.alloc (.cells zero7 42)).heap.size = w.heap.size + 1 := World.size_alloc _ _
  have hg : w.heap.size + 1 < w1.heap.size := by have h : (w.alloc (.cells zero7 42)).heap.size < w1.heap.size := cell_lt (hcell 0 a rfl); rwa [hgm] at h
  have hb1 := below_alloc w1 (.cells zero7 42)
  have P1 : RSt w w.heap.size w1.heap.size (w.alloc (.cells zero7 42)).heap.size a b c d e st0 (.slice none 0 0) (.slice none 0 0) (w1.alloc (.cells zero7 42)) :=
    ⟨(R0.keep hb).keep hb1, blk_new _ w1 _, ⟨SlC.nil _ _ _, fun h => absurd rfl h⟩, ⟨SlC.nil _ _ _, fun h => absurd rfl h⟩, kept hb1 (hcell 0 a rfl), kept hb1 (hcell 1 b rfl), kept hb1 (hcell 2 c rfl), kept hb1 (hcell 3 d rfl), kept hb1 (hcell 4 e rfl), by rw [hgm]; omega, by omega, Nat.le_refl _, step_below (step_below hb0 hb) hb1⟩
  clear C hcell hb hnp R0 hb0 H5 hb1
  rw [hgm] at P1
  obtain ⟨m, hm⟩ : ∃ m, w.heap.size = m := ⟨_, rfl⟩
  obtain ⟨q, hq⟩ : ∃ q, w1.heap.size = q := ⟨_, rfl⟩
  obtain ⟨g, hgg⟩ : ∃ g, m + 1 = g := ⟨_, rfl⟩
  rw [hm, hq, hgg] at P1
  rw [hm, hgg, hq] at hg
  have k0 : (w1.alloc (.cells #[.int .i64 0, .int .i64 0, .string ⟨#[]⟩, .string ⟨#[]⟩, .bool false, .slice none 0 0, .slice none 0 0] 42)).cell? ⟨g, 0, none⟩ = some (.string a) := P1.k0
  (try rw [hgm])
  (try rw [hm])
  (try rw [hgg])
  clear hgm
  go_wp2_with fail
  (try rw [hgg])
  (try rw [hq])
  obtain ⟨W1, hW1⟩ : ∃ W, w1.alloc (.cells #[.int .i64 0, .int .i64 0, .string ⟨#[]⟩, .string ⟨#[]⟩, .bool false, .slice none 0 0, .slice none 0 0] 42) = W := ⟨_, rfl⟩
  have P1 : RSt w m q g a b c d e st0 (.slice none 0 0) (.slice none 0 0) W1 := hW1 ▸ P1
  (try rw [hW1])
  clear hm hq hW1 hg k0
  (try clear hgg)
  refine (CA.out _).mono ?_
  rintro E w2 ⟨hE2, rfl⟩
  obtain ⟨n, ok, hE2', HN⟩ : ∃ (n : Int) (ok : Bool), E = .returned (.tuple #[.int .i64 n, .bool ok]) ∧ Hid ((ok = true ∧ numO a = some n) ∨ (ok = false ∧ numO a = none)) := by
    unfold numO
    cases hN : VP.number 1 a.data.toList with
    | none => exact ⟨0, false, by rw [hE2, hN]; rfl, Lib.hid (.inr ⟨rfl, rfl⟩)⟩
    | some x => exact ⟨(x : Int), true, by rw [hE2, hN]; rfl, Lib.hid (.inl ⟨rfl, rfl⟩)⟩
  subst hE2'
  clear hE2 CA
  have HP1 := Lib.hid P1
  clear P1
  obtain ⟨hh, hhh⟩ : ∃ y, (c.toList == [104, 101, 108, 100]) = y := ⟨_, rfl⟩
  have HDec := Lib.hid (show decide (c = heldB) = hh by rw [held_eq, hhh])
  have k2 : W1.cell? ⟨g, 2, none⟩ = some (.string c) := HP1.out.k2
  go_upto_region 6 with fail
  clear k2
  go_cut [28] (fun _ wx => RSt w m q g a b c d e ⟨n, 0, ⟨#[]⟩, ⟨#[]⟩, hh, [], []⟩ (.slice none 0 0) (.slice none 0 0) wx)
  case first =>
    have Q := Lib.hid (HP1.out.go (below_drew W1))
    obtain ⟨fx, x0, x1, x2, x3, x4, x5, x6⟩ := blk7 (show Blk 42 W1 q #[.int .i64 0, .int .i64 0, .string ⟨#[]⟩, .string ⟨#[]⟩, .bool false, .slice none 0 0, .slice none 0 0] from HP1.out.x)
    have k2 : W1.cell? ⟨g, 2, none⟩ = some (.string c) := HP1.out.k2
    have hne := HP1.out.ne
    go_region
    all_goals
      go_wp2_with fail
      go_meet
      first | exact (Q.out.num n).hld hh | exact (Q.out.hld hh).num n
  case rest =>
  have HP2 := Lib.hid hcut
  clear hcut HP1
  have k1 := HP2.out.k1
  obtain ⟨t33, ht33⟩ : ∃ y, (b.toList == [45]) = y := ⟨_, rfl⟩
  go_upto_if 33 with fail
  clear k1
  go_cut [34] (fun _ wx => ∃ (x : Int) (u r : ByteArray), Hid (verR b = some (x, u.data.toList, r.data.toList)) ∧ RSt w m q g a b c d e ⟨n, x, u, r, hh, [], []⟩ (.slice none 0 0) (.slice none 0 0) wx)
  case first =>
    have k1 := HP2.out.k1
    cases t33 with
    | true =>
      have HV := Lib.hid (verR_dash (beq_iff_eq.1 ht33))
      clear ht33
      go_wp2_with fail
      go_meet
      exact ⟨0, ⟨#[]⟩, ⟨#[]⟩, HV, HP2.out⟩
    | false =>
      have HB := Lib.hid (beq_eq_false_iff_ne.1 ht33)
      clear ht33
      go_wp2_with fail
      refine (CV.out _ HP2.out.w).mono ?_
      rintro E w5 ⟨hb5, H⟩
      have HP5 := Lib.hid (HP2.out.go hb5)
      clear k1 hb5
      obtain ⟨fx, x0, x1, x2, x3, x4, x5, x6⟩ := blk7 (show Blk 42 w5 q #[.int .i64 n, .int .i64 0, .string ⟨#[]⟩, .string ⟨#[]⟩, .bool hh, .slice none 0 0, .slice none 0 0] from HP5.out.x)
      rcases H with ⟨hv, rfl⟩ | ⟨x, u, r, hv, rfl⟩
      · have HV := Lib.hid (verR_none HB.out hv)
        rw [show noVersionR = .tuple #[.agg #[.int .i64 0, .string ⟨#[]⟩, .string ⟨#[]⟩], .int .i64 3] from rfl]
        clear hv
        go_wp2_with fail
        go_meet
        exact ⟨0, ⟨#[]⟩, ⟨#[]⟩, HV, HP5.out.ver 0 ⟨#[]⟩ ⟨#[]⟩⟩
      · have HV := Lib.hid (verR_some HB.out hv)
        clear hv
        go_wp2_with fail
        go_meet
        exact ⟨x, u, r, HV, HP5.out.ver x u r⟩
  case rest =>
  obtain ⟨x, u, r, HV, hP⟩ := hcut
  have HS := Lib.hid (verR_small HV.out)
  have HP3 := Lib.hid hP
  clear hP HP2 CV
  have k3 := HP3.out.k3
  obtain ⟨t45, ht45⟩ : ∃ y, (d.toList == [45]) = y := ⟨_, rfl⟩
  go_upto_if 45 with fail
  clear k3
  go_cut [49] (fun _ wx => ∃ v1, RSt w m q g a b c d e ⟨n, x, u, r, hh, listOf d, []⟩ v1 (.slice none 0 0) wx)
  case first =>
    have k3 := HP3.out.k3
    cases t45 with
    | true =>
      have HL := Lib.hid (listOf_dash (beq_iff_eq.1 ht45))
      clear ht45
      go_wp2_with fail
      go_meet
      exact ⟨.slice none 0 0, by rw [HL.out]; exact HP3.out⟩
    | false =>
      have HL := Lib.hid (listOf_no (beq_eq_false_iff_ne.1 ht45))
      clear ht45
      go_wp2_with fail
      refine (CD.out _ HP3.out.w m q HP3.out.r.lt HP3.out.x.lt).mono ?_
      rintro E w5 ⟨g5, n5, rfl, h5, hb5⟩
      have HP5 := Lib.hid (HP3.out.go hb5)
      have H5 := Lib.hid h5
      clear k3 hb5 h5
      obtain ⟨fx, x0, x1, x2, x3, x4, x5, x6⟩ := blk7 (show Blk 42 w5 q #[.int .i64 n, .int .i64 x, .string u, .string r, .bool hh, .slice none 0 0, .slice none 0 0] from HP5.out.x)
      go_wp2_with fail
      go_meet
      exact ⟨_, by rw [HL.out]; exact HP5.out.wss _ _ H5.out⟩
  case rest =>
  obtain ⟨v1, hP⟩ := hcut
  obtain ⟨A1, i1, j1, rfl⟩ := strs_slice hP.sa.1
  have HP4 := Lib.hid hP
  clear hP HP3 CD
  have k4 := HP4.out.k4
  obtain ⟨t54, ht54⟩ : ∃ y, (e.toList == [45]) = y := ⟨_, rfl⟩
  go_upto_if 54 with fail
  clear k4
  go_cut [58] (fun _ wx => ∃ v2, RSt w m q g a b c d e ⟨n, x, u, r, hh, listOf d, listOf e⟩ (.slice A1 i1 j1) v2 wx)
  case first =>
    have k4 := HP4.out.k4
    cases t54 with
    | true =>
      have HL := Lib.hid (listOf_dash (beq_iff_eq.1 ht54))
      clear ht54
      go_wp2_with fail
      go_meet
      exact ⟨.slice none 0 0, by rw [HL.out]; exact HP4.out⟩
    | false =>
      have HL := Lib.hid (listOf_no (beq_eq_false_iff_ne.1 ht54))
      clear ht54
      go_wp2_with fail
      refine (CE.out _ HP4.out.w m q HP4.out.r.lt HP4.out.x.lt).mono ?_
      rintro E w5 ⟨g5, n5, rfl, h5, hb5⟩
      have HP5 := Lib.hid (HP4.out.go hb5)
      have H5 := Lib.hid h5
      clear k4 hb5 h5
      obtain ⟨fx, x0, x1, x2, x3, x4, x5, x6⟩ := blk7 (show Blk 42 w5 q #[.int .i64 n, .int .i64 x, .string u, .string r, .bool hh, .slice A1 i1 j1, .slice none 0 0] from HP5.out.x)
      go_wp2_with fail
      go_meet
      exact ⟨_, by rw [HL.out]; exact HP5.out.tss _ _ H5.out⟩
  case rest =>
  obtain ⟨v2, hP⟩ := hcut
  obtain ⟨A2, i2, j2, rfl⟩ := strs_slice hP.sb.1
  have HP := Lib.hid hP
  clear hP HP4 CE
  have HFit := Lib.hid (fit5 (n := n) (x := x) (u := u) (r := r) (hh := hh) (d := d) (e := e) (by have := HS.out; omega) (by have := HS.out; omega) (HZ.out d (by simp)) (HZ.out e (by simp)))
  have CP := Lib.hid (refPrintSt_calls ⟨n, x, u, r, hh, listOf d, listOf e⟩ (.slice A1 i1 j1) (.slice A2 i2 j2) wc (HEE.out.below HP.out.w) ⟨HP.out.sa.1, HP.out.sb.1⟩ HFit.out (by have := HS.out; show _ ≤ x; omega) (by have := HS.out; show x ≤ _; omega))
  unfold RefPrintStIs stV at CP
  obtain ⟨fx, x0, x1, x2, x3, x4, x5, x6⟩ := blk7 (show Blk 42 wc q #[.int .i64 n, .int .i64 x, .string u, .string r, .bool hh, .slice A1 i1 j1, .slice A2 i2 j2] from HP.out.x)
  cases ok with
  | false =>
    have HNo := Lib.hid (way_noR HP0.out (by rcases HN.out with ⟨h, _⟩ | ⟨_, h⟩; exact absurd h (by decide); exact h))
    cases hr : rightS ⟨n, x, u, r, hh, listOf d, listOf e⟩ with
    | false =>
      rw [refPrintV_no hr] at CP
      go_wp2_with fail
      refine CP.out.mono ?_
      rintro E w7 ⟨rfl, hb7⟩
      have HP7 := Lib.hid (HP.out.go hb7)
      clear fx x0 x1 x2 x3 x4 x5 x6 CP hb7 HP
      obtain ⟨fz, z0, z1, z2, z3, z4, z5, z6⟩ := blk7 (show Blk 42 w7 m #[.int .i64 0, .int .i64 0, .string ⟨#[]⟩, .string ⟨#[]⟩, .bool false, .slice none 0 0, .slice none 0 0] from HP7.out.r)
      go_wp2_with fail
      refine bodyPost_ret (v := .tuple #[.agg zero7, .int .i64 3]) (by simp [results, zero7, Tryz.results22, go_sem, z0, z1, z2, z3, z4, z5, z6]) rfl ?_
      exact refParseSt_err HNo.out (below_set7 HP7.out.w HP7.out.low _ _ _ _ _ _ _)
    | true =>
      rw [refPrintV_yes hr] at CP
      go_wp2_with fail
      refine CP.out.mono ?_
      rintro E w7 ⟨rfl, hb7⟩
      have HP7 := Lib.hid (HP.out.go hb7)
      clear fx x0 x1 x2 x3 x4 x5 x6 CP hb7 HP
      obtain ⟨fz, z0, z1, z2, z3, z4, z5, z6⟩ := blk7 (show Blk 42 w7 m #[.int .i64 0, .int .i64 0, .string ⟨#[]⟩, .string ⟨#[]⟩, .bool false, .slice none 0 0, .slice none 0 0] from HP7.out.r)
      go_wp2_with fail
      refine bodyPost_ret (v := .tuple #[.agg zero7, .int .i64 3]) (by simp [results, zero7, Tryz.results22, go_sem, z0, z1, z2, z3, z4, z5, z6]) rfl ?_
      exact refParseSt_err HNo.out (below_set7 HP7.out.w HP7.out.low _ _ _ _ _ _ _)
  | true =>
    have HO := Lib.hid (way_okR HP0.out (by rcases HN.out with ⟨_, h⟩ | ⟨h, _⟩; exact h; exact absurd h (by decide)) HV.out HDec.out)
    cases hr : rightS ⟨n, x, u, r, hh, listOf d, listOf e⟩ with
    | false =>
      have HNo := Lib.hid (HO.out.trans (if_neg (by rw [okS_no hr]; decide)))
      rw [refPrintV_no hr] at CP
      go_wp2_with fail
      refine CP.out.mono ?_
      rintro E w7 ⟨rfl, hb7⟩
      have HP7 := Lib.hid (HP.out.go hb7)
      clear fx x0 x1 x2 x3 x4 x5 x6 CP hb7 HP
      obtain ⟨fz, z0, z1, z2, z3, z4, z5, z6⟩ := blk7 (show Blk 42 w7 m #[.int .i64 0, .int .i64 0, .string ⟨#[]⟩, .string ⟨#[]⟩, .bool false, .slice none 0 0, .slice none 0 0] from HP7.out.r)
      go_wp2_with fail
      refine bodyPost_ret (v := .tuple #[.agg zero7, .int .i64 3]) (by simp [results, zero7, Tryz.results22, go_sem, z0, z1, z2, z3, z4, z5, z6]) rfl ?_
      exact refParseSt_err HNo.out (below_set7 HP7.out.w HP7.out.low _ _ _ _ _ _ _)
    | true =>
      rw [refPrintV_yes hr] at CP
      have HOk := Lib.hid (okS_yes hr s)
      obtain ⟨sP, hsP⟩ : ∃ y, printB ⟨n, x, u, r, hh, listOf d, listOf e⟩ = y := ⟨_, rfl⟩
      rw [hsP] at CP HOk
      clear hsP
      by_cases he : sP.toList = s.toList
      · have hq1 : (sP.toList == s.toList) = true := beq_iff_eq.2 he
        have hq2 : (sP.toList != s.toList) = false := by rw [bne, hq1]; rfl
        have HYes := Lib.hid (HO.out.trans (if_pos (HOk.out.trans hq1)))
        clear he HO HOk
        go_wp2_with fail
        refine CP.out.mono ?_
        rintro E w7 ⟨rfl, hb7⟩
        have HP7 := Lib.hid (HP.out.go hb7)
        clear fx x0 x1 x2 x3 x4 x5 x6 CP hb7 HP
        obtain ⟨fz, z0, z1, z2, z3, z4, z5, z6⟩ := blk7 (show Blk 42 w7 m #[.int .i64 0, .int .i64 0, .string ⟨#[]⟩, .string ⟨#[]⟩, .bool false, .slice none 0 0, .slice none 0 0] from HP7.out.r)
        obtain ⟨fx, x0, x1, x2, x3, x4, x5, x6⟩ := blk7 (show Blk 42 w7 q #[.int .i64 n, .int .i64 x, .string u, .string r, .bool hh, .slice A1 i1 j1, .slice A2 i2 j2] from HP7.out.x)
        go_wp2_with fail
        refine bodyPost_ret (v := .tuple #[.agg (cells7 ⟨n, x, u, r, hh, listOf d, listOf e⟩ (.slice A1 i1 j1) (.slice A2 i2 j2)), .int .i64 0]) (by simp [results, cells7, Tryz.results22, go_sem, z0, z1, z2, z3, z4, z5, z6]) rfl ?_
        exact refParseSt_ok HYes.out ⟨(strsOff_set7 HP7.out.sa (.inl rfl) _ _ _ _ _ _ _).1, (strsOff_set7 HP7.out.sb (.inl rfl) _ _ _ _ _ _ _).1⟩ (below_set7 HP7.out.w HP7.out.low _ _ _ _ _ _ _)
      · have hq1 : (sP.toList == s.toList) = false := beq_eq_false_iff_ne.2 he
        have hq2 : (sP.toList != s.toList) = true := by rw [bne, hq1]; rfl
        have HNo := Lib.hid (HO.out.trans (if_neg (by rw [HOk.out.trans hq1]; decide)))
        clear he HO HOk
        go_wp2_with fail
        refine CP.out.mono ?_
        rintro E w7 ⟨rfl, hb7⟩
        have HP7 := Lib.hid (HP.out.go hb7)
        clear fx x0 x1 x2 x3 x4 x5 x6 CP hb7 HP
        obtain ⟨fz, z0, z1, z2, z3, z4, z5, z6⟩ := blk7 (show Blk 42 w7 m #[.int .i64 0, .int .i64 0, .string ⟨#[]⟩, .string ⟨#[]⟩, .bool false, .slice none 0 0, .slice none 0 0] from HP7.out.r)
        go_wp2_with fail
        refine bodyPost_ret (v := .tuple #[.agg zero7, .int .i64 3]) (by simp [results, zero7, Tryz.results22, go_sem, z0, z1, z2, z3, z4, z5, z6]) rfl ?_
        exact refParseSt_err HNo.out (below_set7 HP7.out.w HP7.out.low _ _ _ _ _ _ _)

theorem refParseSt_calls (s : ByteArray) (w : World) (hE : Env w) (hs : s.size ≤ 9000) : Calls Tryz.prog 22 #[.string s] w (RefParseStIs (parseS numO verR s) w) := by
  by_cases h5 : (piecesB 32 s).length = 5
  · obtain ⟨a, b, c, d, e, hp⟩ := five_of h5
    exact refParse_five s a b c d e w hE hs hp
  · exact refParse_few s w hE (by omega) h5
end Go.Proofs.YtpbbhjifgaeklaaGreatDoor

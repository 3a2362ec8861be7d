/- RecordTells: for every package and path the call returns true: from the walks. · Which packages may be with their files: plain; two paths that clash. -/
import Derived.Test.YtodbbfgkclkpgaaGreatDoorAW43
import Derived.Test.YtodbbfgkclkpgaaGreatDoorAW44
import Derived.Test.YtodbbfgkclkpgaaGreatDoorAW11
import Derived.Deep.RegionHeld3
import Derived.Test.YtodbbfgkclkpgaaGreatDoorAW16
import Derived.Test.YtodbbfgkclkpgaaGreatDoorAW31
namespace Go.Proofs.YtodbbfgkclkpgaaGreatDoor
open Go Go.RowKit

/-- wherever the call is made above w, it gives this -/
def Gives2 (w : World) (f : Nat) (args : Array Value) (v : Value) : Prop := ∀ W : World, Below w.heap.size w W → Calls Tryz.prog f args W fun E W' => E = .returned v ∧ Below W.heap.size W W'
theorem Gives2.at {w W : World} {f : Nat} {args : Array Value} {v : Value} (h : Gives2 w f args v) (hb : Below w.heap.size w W) : Calls Tryz.prog f args W fun E W' => E = .returned v ∧ Below W.heap.size W W' := h W hb
theorem Gives2.step {w w1 : World} {f : Nat} {args : Array Value} {v : Value} (h : Gives2 w f args v) (hb : Below w.heap.size w w1) : Gives2 w1 f args v := fun W hW => h W (step_below hb hW)

/-- a package's cells in a box, and what lay before -/
def PB (w : World) (m : Nat) (p : Pv) (v1 v2 v3 v4 v5 v6 v7 v8 v9 : Value) (W : World) : Prop :=
  W.cell? ⟨m, 0, none⟩ = some (.string p.n) ∧ W.cell? ⟨m, 1, none⟩ = some (.int .i64 p.e) ∧ W.cell? ⟨m, 2, none⟩ = some (.string p.u) ∧ W.cell? ⟨m, 3, none⟩ = some (.string p.r) ∧ W.cell? ⟨m, 4, none⟩ = some (v1) ∧ W.cell? ⟨m, 5, none⟩ = some (v2) ∧ W.cell? ⟨m, 6, none⟩ = some (v3) ∧ W.cell? ⟨m, 7, none⟩ = some (v4) ∧ W.cell? ⟨m, 8, none⟩ = some (v5) ∧ W.cell? ⟨m, 9, none⟩ = some (v6) ∧ W.cell? ⟨m, 10, none⟩ = some (v7) ∧ W.cell? ⟨m, 11, none⟩ = some (v8) ∧ W.cell? ⟨m, 12, none⟩ = some (v9) ∧ Below w.heap.size w W
theorem pb_go {w W W' : World} {m : Nat} {p : Pv} {v1 v2 v3 v4 v5 v6 v7 v8 v9 : Value} (h : PB w m p v1 v2 v3 v4 v5 v6 v7 v8 v9 W) (hb : Below W.heap.size W W') : PB w m p v1 v2 v3 v4 v5 v6 v7 v8 v9 W' := by
  obtain ⟨h0, h1, h2, h3, h4, h5, h6, h7, h8, h9, h10, h11, h12, hz⟩ := h
  exact ⟨kept hb h0, kept hb h1, kept hb h2, kept hb h3, kept hb h4, kept hb h5, kept hb h6, kept hb h7, kept hb h8, kept hb h9, kept hb h10, kept hb h11, kept hb h12, step_below hz hb⟩
theorem pb_below {w W : World} {m : Nat} {p : Pv} {v1 v2 v3 v4 v5 v6 v7 v8 v9 : Value} (h : PB w m p v1 v2 v3 v4 v5 v6 v7 v8 v9 W) : Below w.heap.size w W := h.2.2.2.2.2.2.2.2.2.2.2.2.2
theorem pb_of {w W : World} {m : Nat} {p : Pv} {v1 v2 v3 v4 v5 v6 v7 v8 v9 : Value} (h : PackBox W m p v1 v2 v3 v4 v5 v6 v7 v8 v9) (hb : Below w.heap.size w W) : PB w m p v1 v2 v3 v4 v5 v6 v7 v8 v9 W := ⟨h.c0, h.c1, h.c2, h.c3, h.c4, h.c5, h.c6, h.c7, h.c8, h.c9, h.c10, h.c11, h.c12, hb⟩

set_option maxHeartbeats 2000000 in
set_option maxRecDepth 100000 in
theorem tells_main (p : Pv) (v1 v2 v3 v4 v5 v6 v7 v8 v9 : Value) (s : ByteArray) (w : World) (hs : s.size ≤ 100) (H0 : Gives2 w 11 #[.agg #[.string p.n, .int .i64 p.e, .string p.u, .string p.r, v1, v2, v3, v4, v5, v6, v7, v8, v9]] (.bool true))
    (H1 : ∀ W : World, Below w.heap.size w W → Calls Tryz.prog 12 #[.agg #[.string p.n, .int .i64 p.e, .string p.u, .string p.r, v1, v2, v3, v4, v5, v6, v7, v8, v9]] W (RefFieldsIs p W))
    (H2 : ∀ W : World, Below w.heap.size w W → Calls Tryz.prog 13 #[.agg #[.string p.n, .int .i64 p.e, .string p.u, .string p.r, v1, v2, v3, v4, v5, v6, v7, v8, v9]] W (RecFieldsIs p W))
    (H3 : Gives2 w 14 #[errV (fldE p), .int .i64 (fldE p)] (.bool true))
    (b : Bool) (R1 : Gives2 w 16 #[.agg #[.string p.n, .int .i64 p.e, .string p.u, .string p.r, v1, v2, v3, v4, v5, v6, v7, v8, v9]] (.bool b)) (R2 : Gives2 w 17 #[.agg #[.string p.n, .int .i64 p.e, .string p.u, .string p.r, v1, v2, v3, v4, v5, v6, v7, v8, v9]] (.bool b))
    (c : Bool) (Q1 : Gives2 w 18 #[.string s] (.bool c)) (Q2 : Gives2 w 19 #[.string s] (.bool c)) :
    Calls Tryz.prog 3 #[.agg #[.string p.n, .int .i64 p.e, .string p.u, .string p.r, v1, v2, v3, v4, v5, v6, v7, v8, v9], .string s] w (BoolIs true w) := by
  have HB := Lib.hid (below_alloc w (.cells #[.string p.n, .int .i64 p.e, .string p.u, .string p.r, v1, v2, v3, v4, v5, v6, v7, v8, v9] 29))
  have X0 := packBox_new w p v1 v2 v3 v4 v5 v6 v7 v8 v9 29
  obtain ⟨c0, c1, c2, c3, c4, c5, c6, c7, c8, c9, c10, c11, c12⟩ := id X0
  have D0 := Lib.hid (Gives2.at H0 HB.out)
  clear H0
  go_enter Tryz.func3, Tryz.ntmps3
  go_wp2_with fail
  refine D0.out.mono ?_
  rintro E w1 ⟨rfl, hb⟩
  have HB1 := Lib.hid (step_below HB.out hb)
  have X1 := X0.below hb
  clear c0 c1 c2 c3 c4 c5 c6 c7 c8 c9 c10 c11 c12 hb X0 D0
  obtain ⟨c0, c1, c2, c3, c4, c5, c6, c7, c8, c9, c10, c11, c12⟩ := id X1
  have D1 := Lib.hid (H1 w1 HB1.out)
  clear H1
  obtain ⟨m, hm⟩ : ∃ m, w.heap.size = m := ⟨_, rfl⟩
  have HM := Lib.hid hm
  rw [hm] at c0 c1 c2 c3 c4 c5 c6 c7 c8 c9 c10 c11 c12 X1
  go_wp2_with fail
  (try rw [hm])
  clear hm
  refine D1.out.mono ?_
  rintro E w2 ⟨x2, rfl, hx2, hb⟩
  have HB2 := Lib.hid (step_below HB1.out hb)
  have HX2 := Lib.hid hx2
  have X2 := X1.below hb
  clear c0 c1 c2 c3 c4 c5 c6 c7 c8 c9 c10 c11 c12 hb X1 D1 hx2
  obtain ⟨c0, c1, c2, c3, c4, c5, c6, c7, c8, c9, c10, c11, c12⟩ := id X2
  have D2 := Lib.hid (H2 w2 HB2.out)
  clear H2
  go_wp2_with fail
  refine D2.out.mono ?_
  rintro E w3 ⟨x3, rfl, hx3, hb⟩
  have HB3 := Lib.hid (step_below HB2.out hb)
  have HX3 := Lib.hid hx3
  have HX2' := Lib.hid (HX2.out.below hb)
  have X3 := X2.below hb
  clear c0 c1 c2 c3 c4 c5 c6 c7 c8 c9 c10 c11 c12 hb X2 D2 hx3
  have G3 : Gives2 w3 14 #[errV (fldE p), .int .i64 (fldE p)] (.bool true) := H3.step HB3.out
  have G4 : Gives2 w3 15 #[x3, x2] (.bool true) := fun W hW => lawSameFields_calls x3 x2 _ W (HX3.out.below hW) (HX2'.out.below hW)
  have G5 := R1.step HB3.out
  have G6 := R2.step HB3.out
  have G7 := Q1.step HB3.out
  have G8 := Q2.step HB3.out
  clear R1 R2 Q1 Q2 H3 HX2
  obtain ⟨n, hn⟩ : ∃ n, fldE p = n := ⟨_, rfl⟩
  rw [hn] at G3 ⊢
  obtain ⟨ev, hev⟩ : ∃ ev, errV n = ev := ⟨_, rfl⟩
  rw [hev] at G3 ⊢
  clear hn hev
  have hN := pb_of (w := w3) X3 (Below.refl _ _)
  clear X3
  go_upto_region 5 with fail
  go_region_held3 (fun W => W.cell? ⟨m, 0, none⟩ = some (.string p.n) ∧ W.cell? ⟨m, 1, none⟩ = some (.int .i64 p.e) ∧ W.cell? ⟨m, 2, none⟩ = some (.string p.u) ∧ W.cell? ⟨m, 3, none⟩ = some (.string p.r) ∧ W.cell? ⟨m, 4, none⟩ = some (v1) ∧ W.cell? ⟨m, 5, none⟩ = some (v2) ∧ W.cell? ⟨m, 6, none⟩ = some (v3) ∧ W.cell? ⟨m, 7, none⟩ = some (v4) ∧ W.cell? ⟨m, 8, none⟩ = some (v5) ∧ W.cell? ⟨m, 9, none⟩ = some (v6) ∧ W.cell? ⟨m, 10, none⟩ = some (v7) ∧ W.cell? ⟨m, 11, none⟩ = some (v8) ∧ W.cell? ⟨m, 12, none⟩ = some (v9) ∧ Below w3.heap.size w3 W)
    ((first | assumption | exact pb_go (by assumption) hb | exact pb_go hN (below_drew _) | exact pb_go (by assumption) (below_drew _)))
    (first | (go_at_call 14; (with_reducible refine (Gives2.at G3 ?_).mono ?_); (exact pb_below (by assumption)); rintro E w' ⟨rfl, hb⟩) | (go_at_call 15; (with_reducible refine (Gives2.at G4 ?_).mono ?_); (exact pb_below (by assumption)); rintro E w' ⟨rfl, hb⟩) | (go_at_call 16; (with_reducible refine (Gives2.at G5 ?_).mono ?_); (exact pb_below (by assumption)); rintro E w' ⟨rfl, hb⟩) | (go_at_call 17; (with_reducible refine (Gives2.at G6 ?_).mono ?_); (exact pb_below (by assumption)); rintro E w' ⟨rfl, hb⟩) | (go_at_call 18; (with_reducible refine (Gives2.at G7 ?_).mono ?_); (exact pb_below (by assumption)); rintro E w' ⟨rfl, hb⟩) | (go_at_call 19; (with_reducible refine (Gives2.at G8 ?_).mono ?_); (exact pb_below (by assumption)); rintro E w' ⟨rfl, hb⟩))
  all_goals
    go_wp2_with fail
    go_ret
    exact ⟨ret_bool (by simp), step_below HB3.out (pb_below (by assumption))⟩

set_option maxRecDepth 100000 in
theorem tells_no (p : Pv) (v1 v2 v3 v4 v5 v6 v7 v8 v9 : Value) (s : ByteArray) (w : World) (H0 : Gives2 w 11 #[.agg #[.string p.n, .int .i64 p.e, .string p.u, .string p.r, v1, v2, v3, v4, v5, v6, v7, v8, v9]] (.bool false)) :
    Calls Tryz.prog 3 #[.agg #[.string p.n, .int .i64 p.e, .string p.u, .string p.r, v1, v2, v3, v4, v5, v6, v7, v8, v9], .string s] w (BoolIs true w) := by
  have HB := Lib.hid (below_alloc w (.cells #[.string p.n, .int .i64 p.e, .string p.u, .string p.r, v1, v2, v3, v4, v5, v6, v7, v8, v9] 29))
  have X0 := packBox_new w p v1 v2 v3 v4 v5 v6 v7 v8 v9 29
  obtain ⟨c0, c1, c2, c3, c4, c5, c6, c7, c8, c9, c10, c11, c12⟩ := X0
  have D0 := Lib.hid (Gives2.at H0 HB.out)
  clear H0
  go_enter Tryz.func3, Tryz.ntmps3
  go_wp2_with fail
  refine D0.out.mono ?_
  rintro E w1 ⟨rfl, hb⟩
  have HB1 := Lib.hid (step_below HB.out hb)
  clear c0 c1 c2 c3 c4 c5 c6 c7 c8 c9 c10 c11 c12 hb D0
  go_wp2_with fail
  go_ret
  exact ⟨rfl, HB1.out⟩

set_option maxRecDepth 100000 in
theorem tells_long (p : Pv) (v1 v2 v3 v4 v5 v6 v7 v8 v9 : Value) (s : ByteArray) (w : World) (hs : 100 < s.size) (H0 : Gives2 w 11 #[.agg #[.string p.n, .int .i64 p.e, .string p.u, .string p.r, v1, v2, v3, v4, v5, v6, v7, v8, v9]] (.bool true)) :
    Calls Tryz.prog 3 #[.agg #[.string p.n, .int .i64 p.e, .string p.u, .string p.r, v1, v2, v3, v4, v5, v6, v7, v8, v9], .string s] w (BoolIs true w) := by
  have HB := Lib.hid (below_alloc w (.cells #[.string p.n, .int .i64 p.e, .string p.u, .string p.r, v1, v2, v3, v4, v5, v6, v7, v8, v9] 29))
  have X0 := packBox_new w p v1 v2 v3 v4 v5 v6 v7 v8 v9 29
  obtain ⟨c0, c1, c2, c3, c4, c5, c6, c7, c8, c9, c10, c11, c12⟩ := X0
  have D0 := Lib.hid (Gives2.at H0 HB.out)
  clear H0
  go_enter Tryz.func3, Tryz.ntmps3
  go_wp2_with fail
  refine D0.out.mono ?_
  rintro E w1 ⟨rfl, hb⟩
  have HB1 := Lib.hid (step_below HB.out hb)
  clear c0 c1 c2 c3 c4 c5 c6 c7 c8 c9 c10 c11 c12 hb D0
  go_wp2_with fail
  go_ret
  exact ⟨rfl, HB1.out⟩

theorem tells_calls (v : Value) (p : Pv) (s : ByteArray) (w : World) (hE : Env w) (hG : EnvE w) (hS : EnvS w) (h : PackAt w v p) : Calls Tryz.prog 3 #[v, .string s] w (BoolIs true w) := by
  obtain ⟨v1, v2, v3, v4, v5, v6, v7, v8, v9, rfl, _⟩ := id h
  cases hsy : saysB p with
  | false => exact tells_no p v1 v2 v3 v4 v5 v6 v7 v8 v9 s w (fun W hb => by have := lawSays_calls _ p W (h.below hb); rw [hsy] at this; exact this)
  | true =>
    by_cases hs : 100 < s.size
    · exact tells_long p v1 v2 v3 v4 v5 v6 v7 v8 v9 s w hs (fun W hb => by have := lawSays_calls _ p W (h.below hb); rw [hsy] at this; exact this)
    · have hf := fit_of h hsy
      exact tells_main p v1 v2 v3 v4 v5 v6 v7 v8 v9 s w (by omega) (fun W hb => by have := lawSays_calls _ p W (h.below hb); rw [hsy] at this; exact this)
        (fun W hb => refFields_calls _ p W (hE.below hb) (h.below hb) hf) (fun W hb => recFields_calls _ p W (hE.below hb) (hS.below hb) (h.below hb) hf)
        (fun W hb => (bare_calls _ _ W (hG.below hb)).mono fun E W' h => ⟨by rw [h.1]; exact ret_bool (by simp), h.2⟩)
        (saysOk p) (fun W hb => recRight_calls _ p W (hE.below hb) (h.below hb) hf) (fun W hb => refSays_calls _ p W (hE.below hb) (h.below hb) hf)
        (VP.pathP s.data.toList) (fun W hb => pathF_calls s W (hE.below hb) (by omega)) (fun W hb => refPath_calls s W (by omega))
end Go.Proofs.YtodbbfgkclkpgaaGreatDoor

namespace Go.Proofs.YtodbbfgkclkpgaaGreatDoor
open Go Go.RowKit

/-- g has f's path, or lies beneath it -/
def underB (f g : Fv) : Bool := Lib.hasPrefix g.n.data.toList (f.n ++ ⟨#[47]⟩).data.toList
def clashB (f g : Fv) : Bool := decide (g.n = f.n) || underB f g
def pairOk (f : Fv) (i : Nat) (g : Fv) (k : Nat) : Bool := decide (k = i) || !clashB f g
def fileAt (fs : List Fv) (i : Nat) : Bool :=
  match fs[i]? with
  | none => true
  | some f => VP.pathP f.n.data.toList && VP.allAt fs.length fun k => match fs[k]? with | none => true | some g => pairOk f i g k
def filesOk (fs : List Fv) : Bool := VP.allAt fs.length (fileAt fs)
def hasFile (fs : List Fv) (s : ByteArray) : Bool := fs.any fun f => decide (f.n = s)
def setOk (p : Pv) : Bool := p.se.all (hasFile p.fi)
def archB (p : Pv) : Bool := saysOk p && (decide (p.fi.length ≤ 20) && (filesOk p.fi && setOk p))

theorem fileAt_path {fs : List Fv} {i : Nat} {f : Fv} (h : fs[i]? = some f) (hp : VP.pathP f.n.data.toList = false) : fileAt fs i = false := by
  unfold fileAt; rw [h]; dsimp only; rw [hp]; rfl
theorem fileAt_clash {fs : List Fv} {i k : Nat} {f g : Fv} (h : fs[i]? = some f) (hg : fs[k]? = some g) (hp : pairOk f i g k = false) : fileAt fs i = false := by
  unfold fileAt; rw [h]; dsimp only
  rw [VP.allAt_false (List.getElem?_eq_some_iff.1 hg).1 (by rw [hg]; exact hp), Bool.and_false]
/-- so far the files do not clash with f -/
def PairsTo (fs : List Fv) (f : Fv) (i n : Nat) : Prop := ∀ k, k < n → ∀ g, fs[k]? = some g → pairOk f i g k = true
theorem PairsTo.zero (fs : List Fv) (f : Fv) (i : Nat) : PairsTo fs f i 0 := fun _ h => absurd h (Nat.not_lt_zero _)
theorem PairsTo.succ {fs : List Fv} {f g : Fv} {i n : Nat} (h : PairsTo fs f i n) (hg : fs[n]? = some g) (hp : pairOk f i g n = true) : PairsTo fs f i (n + 1) := fun k hk g' hg' => by
  rcases Nat.lt_or_ge k n with h1 | h1
  · exact h k h1 g' hg'
  · obtain rfl : k = n := by omega
    rw [hg] at hg'
    rw [← Option.some.inj hg']; exact hp
theorem fileAt_true {fs : List Fv} {i : Nat} {f : Fv} (h : fs[i]? = some f) (hp : VP.pathP f.n.data.toList = true) (ha : PairsTo fs f i fs.length) : fileAt fs i = true := by
  unfold fileAt; rw [h]; dsimp only
  rw [hp, Bool.true_and]
  refine VP.allAt_true fun k hk => ?_
  rw [List.getElem?_eq_getElem hk]
  exact ha k hk _ (List.getElem?_eq_getElem hk)
def FilesTo (fs : List Fv) (n : Nat) : Prop := ∀ i, i < n → fileAt fs i = true
theorem FilesTo.zero (fs : List Fv) : FilesTo fs 0 := fun _ h => absurd h (Nat.not_lt_zero _)
theorem FilesTo.succ {fs : List Fv} {n : Nat} (h : FilesTo fs n) (hp : fileAt fs n = true) : FilesTo fs (n + 1) := fun i hi => by
  rcases Nat.lt_or_ge i n with h1 | h1
  · exact h i h1
  · obtain rfl : i = n := by omega
    exact hp
theorem FilesTo.done {fs : List Fv} (h : FilesTo fs fs.length) : filesOk fs = true := VP.allAt_true h
theorem files_bad {fs : List Fv} {i : Nat} (hi : i < fs.length) (h : fileAt fs i = false) : filesOk fs = false := VP.allAt_false hi h
theorem arch_says {p : Pv} (h : saysOk p = false) : archB p = false := by unfold archB; rw [h]; rfl
theorem arch_many {p : Pv} (h : ¬ p.fi.length ≤ 20) : archB p = false := by
  unfold archB
  rw [show decide (p.fi.length ≤ 20) = false from decide_eq_false h]
  cases saysOk p <;> rfl
theorem arch_files {p : Pv} (h : filesOk p.fi = false) : archB p = false := by
  unfold archB
  rw [h]
  cases saysOk p <;> cases decide (p.fi.length ≤ 20) <;> rfl
theorem arch_rest {p : Pv} (h1 : saysOk p = true) (h2 : p.fi.length ≤ 20) (h3 : filesOk p.fi = true) : archB p = setOk p := by
  unfold archB
  rw [h1, h3, show decide (p.fi.length ≤ 20) = true from decide_eq_true h2]; rfl
theorem name_eq (a b : ByteArray) : (a.toList == b.toList) = decide (a = b) := by
  rw [Lib.toList_data, Lib.toList_data, Bool.eq_iff_iff, beq_iff_eq, decide_eq_true_iff]
  exact ⟨fun h => data_inj h, fun h => by rw [h]⟩
theorem name_eq' (a b : ByteArray) : (b.toList == a.toList) = decide (a = b) := by
  rw [name_eq, Bool.eq_iff_iff, decide_eq_true_iff, decide_eq_true_iff]
  exact ⟨fun h => h.symm, fun h => h.symm⟩
end Go.Proofs.YtodbbfgkclkpgaaGreatDoor

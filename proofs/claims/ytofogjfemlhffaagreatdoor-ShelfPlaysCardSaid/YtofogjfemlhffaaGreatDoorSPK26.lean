/- The shelf's Put, walked. -/
import Derived.Test.YtofogjfemlhffaaGreatDoorSPK21
import Derived.Test.YtofogjfemlhffaaGreatDoorSPK25
namespace Go.Proofs.YtofogjfemlhffaaGreatDoor
open Go Go.RowKit Go.Maps

/-- a row of truth values -/
def BoolsAt (W : World) (v : Value) (a : List Bool) : Prop := ∃ A c, v = .slice A a.length c ∧ a.length ≤ c ∧ c ≤ 9223372036854775807 ∧ (a ≠ [] → ∃ b off, A = some ⟨b, off, none⟩ ∧ ∀ (i : Nat) (x : Bool), a[i]? = some x → W.cell? ⟨b, off + i, none⟩ = some (.bool x))
/-- what Put answers -/
def PutDone (sh d n : Nat) (D : Dk) (p : Pv) (tk : ByteArray → Bool) (a : List Bool) (w : World) (E : Ending) (w' : World) : Prop :=
  if archB p = false then E = .returned (.iface 33 (.int .i64 1)) ∧ ShAt w' sh d D ∧ OffN n d w w'
  else if 0 ≤ (clashD D p.n tk p.fi).1 then ∃ b, E = .returned (.iface 78 (.pointer (some ⟨b, 0, none⟩))) ∧ w.heap.size ≤ b ∧ w'.cell? ⟨b, 0, none⟩ = some (.int .i64 9) ∧ w'.cell? ⟨b, 1, none⟩ = some (.int .i64 (clashD D p.n tk p.fi).1) ∧ ShAt w' sh d D ∧ OffN n d w w'
  else NDone sh d n (putFD D p.n p.se p.fi a) w E w'
theorem putDone_no {sh d n : Nat} {D : Dk} {p : Pv} {tk : ByteArray → Bool} {a : List Bool} {w W : World} (h : archB p = false) (hs : ShAt W sh d D) (ho : OffN n d w W) : PutDone sh d n D p tk a w (.returned (.iface 33 (.int .i64 1))) W := by
  unfold PutDone
  rw [if_pos h]
  exact ⟨rfl, hs, ho⟩
theorem OffN.trans {n d : Nat} {x y z : World} (h : OffN n d x y) (k : OffN n d y z) : OffN n d x z := by
  refine ⟨k.os.trans h.os, k.tape.trans h.tape, k.output.trans h.output, Nat.le_trans h.size k.size, fun i hi hf => (k.block i hi fun hf' => ?_).trans (h.block i hi hf), fun i hf => ?_⟩
  · rcases h.foot i hf' with h' | h'
    · exact hf h'
    · omega
  · rcases k.foot i hf with h' | h'
    · exact h.foot i h'
    · exact .inr h'
theorem pack_parts {W : World} {p : Pv} {v1 v2 v3 v4 v5 v6 v7 v8 v9 : Value} (h : PackAt W (.agg #[.string p.n, .int .i64 p.e, .string p.u, .string p.r, v1, v2, v3, v4, v5, v6, v7, v8, v9]) p) : StrsAt W v7 p.se ∧ FieldsAt W v9 p.fi := by
  obtain ⟨u1, u2, u3, u4, u5, u6, u7, u8, u9, huu, -, -, -, -, -, -, g7, -, g9, -, -⟩ := h
  injection huu with huu
  simp only [Array.mk.injEq, List.cons.injEq, and_true, true_and] at huu
  obtain ⟨rfl, rfl, rfl, rfl, rfl, rfl, rfl, rfl, rfl⟩ := huu
  exact ⟨g7, g9⟩
theorem grown_cell {W W' : World} {o : Obj} {r : Option Nat} {b i : Nat} {v : Value} (hg : (W.alloc o).grownBy W' r) (hr : ∀ g, r = some g → g ≠ b) (hc : W.cell? ⟨b, i, none⟩ = some v) : W'.cell? ⟨b, i, none⟩ = some v := by
  have hb := below_alloc W o
  have h1 : b < W.heap.size := cell_lt hc
  exact (World.cell?_of_block (a := ⟨b, i, none⟩) (hg.block b (Nat.lt_of_lt_of_le h1 hb.size) fun e => hr b e.symm rfl)).trans (kept hb hc)
theorem grown_foot {d B : Nat} {W W' : World} {x : ByteArray} {v : Value} {L : List ByteArray} {i : Nat} (h : RowD d B W v L) (hd : d < W.heap.size) (hg : (W.alloc (.cells #[.string x] 9)).grownBy W' v.ownBlock) (hf : ¬ foot W d i) : ¬ foot W' d i := by
  have hb := below_alloc W (.cells #[.string x] 9)
  have hg2 : W.grownBy W' v.ownBlock := ⟨hg.os, hg.tape, hg.output, Nat.le_trans hb.size hg.size, fun k hk hne => (hg.block k (Nat.lt_of_lt_of_le hk hb.size) hne).trans (hb.block k hk)⟩
  exact fun hf' => hf ((foot_grown hg2 hd fun g e => h.2 g e).1 hf')
theorem putDone_clash {sh d n : Nat} {D : Dk} {p : Pv} {tk : ByteArray → Bool} {a : List Bool} {w W : World} {b : Nat} {ci : Int} (h : archB p = true) (hc : (clashD D p.n tk p.fi).1 = ci) (h0 : 0 ≤ ci) (hb : w.heap.size ≤ b) (c0 : W.cell? ⟨b, 0, none⟩ = some (.int .i64 9)) (c1 : W.cell? ⟨b, 1, none⟩ = some (.int .i64 ci)) (hs : ShAt W sh d D) (ho : OffN n d w W) : PutDone sh d n D p tk a w (.returned (.iface 78 (.pointer (some ⟨b, 0, none⟩)))) W := by
  unfold PutDone
  rw [if_neg (by rw [h]; decide), if_pos (by rw [hc]; exact h0)]
  exact ⟨b, rfl, hb, c0, by rw [hc]; exact c1, hs, ho⟩
theorem putDone_go {sh d n : Nat} {D : Dk} {p : Pv} {tk : ByteArray → Bool} {a : List Bool} {w W : World} {E : Ending} (h : archB p = true) (hc : ¬ 0 ≤ (clashD D p.n tk p.fi).1) (hd : NDone sh d n (putFD D p.n p.se p.fi a) w E W) : PutDone sh d n D p tk a w E W := by
  unfold PutDone
  rw [if_neg (by rw [h]; decide), if_neg hc]
  exact hd
theorem PackBox.off {d : Nat} {w w' : World} {m : Nat} {p : Pv} {v1 v2 v3 v4 v5 v6 v7 v8 v9 : Value} (h : PackBox w m p v1 v2 v3 v4 v5 v6 v7 v8 v9) (ho : Off d w w') (hf : ¬ foot w d m) : PackBox w' m p v1 v2 v3 v4 v5 v6 v7 v8 v9 :=
  ⟨keptO ho hf h.c0, keptO ho hf h.c1, keptO ho hf h.c2, keptO ho hf h.c3, keptO ho hf h.c4, keptO ho hf h.c5, keptO ho hf h.c6, keptO ho hf h.c7, keptO ho hf h.c8, keptO ho hf h.c9, keptO ho hf h.c10, keptO ho hf h.c11, keptO ho hf h.c12⟩
theorem PackBox.same {w w' : World} {m : Nat} {p : Pv} {v1 v2 v3 v4 v5 v6 v7 v8 v9 : Value} (h : PackBox w m p v1 v2 v3 v4 v5 v6 v7 v8 v9) (e : w'.heap[m]? = w.heap[m]?) : PackBox w' m p v1 v2 v3 v4 v5 v6 v7 v8 v9 := by
  have k : ∀ i, w'.cell? ⟨m, i, none⟩ = w.cell? ⟨m, i, none⟩ := fun i => World.cell?_of_block (a := ⟨m, i, none⟩) e
  exact ⟨(k _).trans h.c0, (k _).trans h.c1, (k _).trans h.c2, (k _).trans h.c3, (k _).trans h.c4, (k _).trans h.c5, (k _).trans h.c6, (k _).trans h.c7, (k _).trans h.c8, (k _).trans h.c9, (k _).trans h.c10, (k _).trans h.c11, (k _).trans h.c12⟩
/-- the state of Put's loop: in world W, from world w on -/
structure PutSt (sh d n X B m : Nat) (p : Pv) (v1 v2 v3 v4 v5 v6 v7 v8 v9 : Value) (w W : World) (D : Dk) (vp : Value) (ps : List ByteArray) : Prop where
  lt : m < B ∧ sh < B ∧ n ≤ B
  sh : ShAt W sh d D
  ok : DkOk D
  fit : FitD X D
  off : OffN n d w W
  nw : n ≤ W.heap.size
  row : RowD d B W vp ps
  box : PackBox W m p v1 v2 v3 v4 v5 v6 v7 v8 v9
  fb : ¬ foot W d m
  bw : B ≤ W.heap.size
theorem PutSt.go {sh d n X B m : Nat} {p : Pv} {v1 v2 v3 v4 v5 v6 v7 v8 v9 : Value} {w W W' : World} {D D' : Dk} {vp : Value} {ps : List ByteArray} (h : PutSt sh d n X B m p v1 v2 v3 v4 v5 v6 v7 v8 v9 w W D vp ps) (ho : Off d W W') (hs : ShAt W' sh d D') (hk : DkOk D') (hf : FitD X D') : PutSt sh d n X B m p v1 v2 v3 v4 v5 v6 v7 v8 v9 w W' D' vp ps where
  sh := hs
  ok := hk
  fit := hf
  off := h.off.go ho h.nw
  nw := Nat.le_trans h.nw ho.size
  row := h.row.off ho
  box := h.box.off ho h.fb
  fb := not_foot ho (cell_lt h.box.c0) h.fb
  lt := h.lt
  bw := Nat.le_trans h.bw ho.size
theorem PutSt.below {sh d n X B m : Nat} {p : Pv} {v1 v2 v3 v4 v5 v6 v7 v8 v9 : Value} {w W W' : World} {D : Dk} {vp : Value} {ps : List ByteArray} (h : PutSt sh d n X B m p v1 v2 v3 v4 v5 v6 v7 v8 v9 w W D vp ps) (hb : Below W.heap.size W W') : PutSt sh d n X B m p v1 v2 v3 v4 v5 v6 v7 v8 v9 w W' D vp ps := h.go (Off.of_below hb h.sh.dk.lt) (h.sh.keep hb) h.ok h.fit
theorem PutSt.app {sh d n X B m : Nat} {p : Pv} {v1 v2 v3 v4 v5 v6 v7 v8 v9 : Value} {w W W' : World} {D : Dk} {vp v' : Value} {ps : List ByteArray} {x : ByteArray} (h : PutSt sh d n X B m p v1 v2 v3 v4 v5 v6 v7 v8 v9 w W D vp ps)
    (hown : W'.ownsRow B 9 1 v' (ps.length + 1) (ps.flatMap strC ++ [.string x])) (hg : (W.alloc (.cells #[.string x] 9)).grownBy W' vp.ownBlock) (hl : v'.ownBlock = vp.ownBlock ∨ v'.ownBlock = some (W.alloc (.cells #[.string x] 9)).heap.size) :
    PutSt sh d n X B m p v1 v2 v3 v4 v5 v6 v7 v8 v9 w W' D v' (ps ++ [x]) := by
  obtain ⟨hrow, hsh, hoff, hg2⟩ := rowD_app h.row h.sh h.lt.2.1 h.lt.2.2 h.nw h.off hown hg hl
  have hm : m < W.heap.size := cell_lt h.box.c0
  refine ⟨h.lt, hsh, h.ok, h.fit, hoff, Nat.le_trans h.nw hg2.size, hrow, h.box.same (hg2.block m hm fun e => ?_), fun hf => h.fb ((foot_grown hg2 h.sh.dk.lt fun g e => h.row.2 g e).1 hf), Nat.le_trans h.bw hg2.size⟩
  have := (h.row.base e.symm).1
  have := h.lt.1
  omega

/-- what the choice's region looks at -/
def PutC (pf p8 : Nat) (fn fv : ByteArray) (w0 W : World) : Prop := W.cell? ⟨pf, 0, none⟩ = some (.string fn) ∧ W.cell? ⟨p8, 0, none⟩ = some (.string fv) ∧ Below w0.heap.size w0 W
theorem putC_go {pf p8 : Nat} {fn fv : ByteArray} {w0 W W' : World} (h : PutC pf p8 fn fv w0 W) (hb : Below W.heap.size W W') : PutC pf p8 fn fv w0 W' := ⟨kept hb h.1, kept hb h.2.1, step_below h.2.2 hb⟩
theorem putC_below {pf p8 : Nat} {fn fv : ByteArray} {w0 W : World} (h : PutC pf p8 fn fv w0 W) : Below w0.heap.size w0 W := h.2.2
theorem putC_c8 {pf p8 : Nat} {fn fv : ByteArray} {w0 W : World} (h : PutC pf p8 fn fv w0 W) : W.cell? ⟨p8, 0, none⟩ = some (.string fv) := h.2.1
theorem ptr_low {B : Nat} {W : World} {v : Value} {o : Option ByteArray} (h : PtrAt B W v o) : PtrAt 0 W v o := by
  cases o with
  | none => exact h
  | some s =>
    obtain ⟨g, hv, _, hc⟩ := h
    exact ⟨g, hv, Nat.zero_le _, hc⟩
theorem bools_tail {n d b o m k : Nat} {w : World} {x : Bool} {r : List Bool} (h : ∀ W, OffN n d w W → BoolsAt W (.slice (some ⟨b, o, none⟩) (m + 1) k) (x :: r)) (hr : r.length = m) (W : World) (hW : OffN n d w W) : BoolsAt W (.slice (some ⟨b, o + 1, none⟩) m (k - 1)) r := by
  obtain ⟨A, c, e, hc, hm, hi⟩ := h W hW
  injection e with e1 e2 e3
  subst e1 e3
  rw [List.length_cons] at hc
  refine ⟨_, _, by rw [hr], by omega, by omega, fun _ => ⟨b, o + 1, rfl, fun i y hy => ?_⟩⟩
  obtain ⟨b', o', e, hc'⟩ := hi (List.cons_ne_nil _ _)
  injection e with e
  injection e with e1 e2 _
  subst e1 e2
  have := hc' (i + 1) y hy
  rwa [show o + (i + 1) = o + 1 + i by omega] at this
theorem bools_none {A : Option Addr} {m c : Nat} {W : World} {r : List Bool} (hr : r.length = m) (h : m + 1 ≤ 1) (hc : c ≤ 9223372036854775807) : BoolsAt W (.slice A m c) r := by
  obtain rfl : r = [] := List.eq_nil_of_length_eq_zero (by omega)
  exact ⟨A, c, by rw [← hr], Nat.zero_le _, hc, fun h => absurd rfl h⟩
theorem whatD_no {cc n : Nat} {a : List Bool} (h : (decide (cc = 2) && decide (0 < n)) = false) (hn : a.length = n) : whatD cc a = (cc, a) := by
  cases a with
  | nil => rfl
  | cons b r =>
    have : 0 < n := by rw [← hn]; simp
    rw [decide_eq_true this, Bool.and_true, decide_eq_false_iff_not] at h
    exact if_neg h

set_option maxHeartbeats 4000000 in
set_option maxRecDepth 100000 in
theorem put_calls (sh d n X : Nat) (D : Dk) (p : Pv) (tk : ByteArray → Bool) (v1 v2 v3 v4 v5 v6 v7 v8 v9 fv va : Value) (a : List Bool) (w : World) (hE : EnvD n d w) (h : ShAt w sh d D) (hk : DkOk D) (hf : FitD X D) (hX : X ≤ 700000) (hw : n ≤ w.heap.size)
    (HP : ∀ W, OffN n d w W → PackAt W (.agg #[.string p.n, .int .i64 p.e, .string p.u, .string p.r, v1, v2, v3, v4, v5, v6, v7, v8, v9]) p) (hfit : p.Fit) (hn : p.n.size ≤ 1000) (hz : ∀ f ∈ p.fi, f.n.size ≤ 1000) (hv : ∀ f ∈ p.fi, f.v.size ≤ X) (hl : (linesT (p.fi.map (·.n))).size ≤ 90000) (hln : p.fi.length ≤ 1000)
    (HA : ∀ W, OffN n d w W → BoolsAt W va a)
    (CL : ∀ W, Below w.heap.size w W → Calls Tryz.prog 10 #[.pointer (some ⟨sh, 0, none⟩), .agg #[.string p.n, .int .i64 p.e, .string p.u, .string p.r, v1, v2, v3, v4, v5, v6, v7, v8, v9], fv] W fun E w' => E = .returned (.tuple #[.int .i64 (clashD D p.n tk p.fi).1, .string (clashD D p.n tk p.fi).2]) ∧ Below W.heap.size W w') :
    Calls Tryz.prog 12 #[.pointer (some ⟨sh, 0, none⟩), .agg #[.string p.n, .int .i64 p.e, .string p.u, .string p.r, v1, v2, v3, v4, v5, v6, v7, v8, v9], fv, va] w (PutDone sh d n D p tk a w) := by
  have hOF := fun (W : World) (hb : Below w.heap.size w W) => OffN.of (n := n) (Off.of_below (d := d) hb h.dk.lt) hw
  have HOF := Lib.hid hOF
  have HPH := Lib.hid HP
  have HAH := Lib.hid HA
  have HE := Lib.hid hE
  have CLH := Lib.hid CL
  have CR := Lib.hid (fun (W : World) (hb : Below w.heap.size w W) => arcRight_calls _ p W (hE.offN (hOF W hb)).env (HP W (hOF W hb)) hfit (fun f hf => Nat.le_trans (hz f hf) (by omega)))
  obtain ⟨A', c', rfl, -⟩ := HA w (OffN.of (Off.refl d w) hw)
  obtain ⟨u1, u2, u3, u4, u5, u6, u7, u8, u9, huu, g1, g2, g3, g4, g5, g6, g7, g8, g9, -, -⟩ := HP w (OffN.of (Off.refl d w) hw)
  injection huu with huu
  simp only [Array.mk.injEq, List.cons.injEq, and_true, true_and] at huu
  obtain ⟨rfl, rfl, rfl, rfl, rfl, rfl, rfl, rfl, rfl⟩ := huu
  obtain ⟨E7, e7, f7, rfl⟩ := sl_slice g7
  obtain ⟨E9, f9, rfl, hc9, hm9, -⟩ := g9.open
  have hb0 := below_alloc w (.cells #[.string p.n, .int .i64 p.e, .string p.u, .string p.r, v1, v2, v3, v4, v5, v6, .slice E7 e7 f7, v8, .slice E9 p.fi.length f9] 43)
  have X0 := packBox_new w p v1 v2 v3 v4 v5 v6 (.slice E7 e7 f7) v8 (.slice E9 p.fi.length f9) 43
  have HB0 := Lib.hid hb0
  have HX0 := Lib.hid X0
  have H := Lib.hid h
  have HW := Lib.hid hw
  have HFP : Hid (¬ foot (w.alloc (.cells #[.string p.n, .int .i64 p.e, .string p.u, .string p.r, v1, v2, v3, v4, v5, v6, .slice E7 e7 f7, v8, .slice E9 p.fi.length f9] 43)) d w.heap.size) := Lib.hid (new_not_foot h.dk hb0 (Nat.le_refl _))
  have HKF := Lib.hid (And.intro hk hf)
  have HZ := Lib.hid (And.intro (And.intro hX hn) (And.intro hz (And.intro hv (And.intro hl hln))))
  clear g1 g2 g3 g4 g5 g6 g7 g8 g9 hE h hk hf hX hn hz hv hl hln HP HA CL hOF hfit hw
  obtain ⟨pn, pe, pu, pr, dep, ahd, ag, br, re, prr, se, li, fi⟩ := p
  simp only at *
  go_enter Tryz.func12, Tryz.ntmps12
  go_wp2_with fail
  refine (CR.out _ hb0).mono ?_
  rintro E w1 ⟨rfl, hb1⟩
  have HB1 := Lib.hid (step_below HB0.out hb1)
  have HX1 := Lib.hid (HX0.out.below hb1)
  have HF1 := Lib.hid (not_foot (Off.of_below hb1 (H.out.keep HB0.out).dk.lt) (by have := cell_lt HX0.out.c0; exact this) HFP.out)
  obtain ⟨m, hmm⟩ : ∃ m, w.heap.size = m := ⟨_, rfl⟩
  have HM := Lib.hid hmm
  rw [hmm] at HX1 HF1
  (try rw [hmm])
  obtain ⟨c0, c1, c2, c3, c4, c5, c6, c7, c8, c9, c10, c11, c12⟩ := id HX1.out
  clear hb1 hb0 X0 CR HX0 HFP hmm
  obtain ⟨bA, hbA⟩ : ∃ b, archB ⟨pn, pe, pu, pr, dep, ahd, ag, br, re, prr, se, li, fi⟩ = b := ⟨_, rfl⟩
  (try rw [hbA])
  have HBA := Lib.hid hbA
  clear hbA
  cases bA
  · clear c0 c1 c2 c3 c4 c5 c6 c7 c8 c9 c10 c11 c12
    go_wp2_with fail
    go_ret
    exact putDone_no HBA.out (H.out.keep HB1.out) (HOF.out _ HB1.out)
  · have C2 := Lib.hid (CLH.out w1 HB1.out)
    go_wp2_with fail
    refine C2.out.mono ?_
    rintro E w2 ⟨rfl, hb2⟩
    have HB2 := Lib.hid (step_below HB1.out hb2)
    have HX2 := Lib.hid (HX1.out.below hb2)
    have HF2 := Lib.hid (not_foot (Off.of_below hb2 (H.out.keep HB1.out).dk.lt) (cell_lt HX1.out.c0) HF1.out)
    obtain ⟨ci, hci⟩ : ∃ c, (clashD D pn tk fi).1 = c := ⟨_, rfl⟩
    rw [hci]
    have HCI := Lib.hid hci
    clear hb2 C2 HX1 HF1 HB1 CLH hci c0 c1 c2 c3 c4 c5 c6 c7 c8 c9 c10 c11 c12
    have c12 := HX2.out.c12
    by_cases h0 : 0 ≤ ci
    · have HC0 := Lib.hid h0
      have hg0 : decide (ci ≥ 0) = true := decide_eq_true h0
      go_wp2_with fail
      have hb3 := below_alloc w2 (.cells #[.int .i64 9, .int .i64 ci] 79)
      have HB3 := Lib.hid (step_below HB2.out hb3)
      have k0 : (w2.alloc (.cells #[.int .i64 9, .int .i64 ci] 79)).cell? ⟨w2.heap.size, 0, none⟩ = some (.int .i64 9) := by go_cell
      have k1 : (w2.alloc (.cells #[.int .i64 9, .int .i64 ci] 79)).cell? ⟨w2.heap.size, 1, none⟩ = some (.int .i64 ci) := by go_cell
      go_ret
      exact putDone_clash HBA.out HCI.out HC0.out HB2.out.size k0 k1 (H.out.keep HB3.out) (HOF.out _ HB3.out)
    · have HC0 := Lib.hid (show ¬ 0 ≤ (clashD D pn tk fi).1 from by rw [HCI.out]; exact h0)
      have hg0 : decide (ci ≥ 0) = false := decide_eq_false h0
      have HST : Hid (PutSt sh d n X w2.heap.size m ⟨pn, pe, pu, pr, dep, ahd, ag, br, re, prr, se, li, fi⟩ v1 v2 v3 v4 v5 v6 (.slice E7 e7 f7) v8 (.slice E9 fi.length f9) w w2 D (.slice none 0 0) []) := Lib.hid ⟨⟨cell_lt HX2.out.c0, Nat.lt_of_lt_of_le (cell_lt H.out.c) HB2.out.size, Nat.le_trans HW.out HB2.out.size⟩, H.out.keep HB2.out, HKF.out.1, HKF.out.2, HOF.out _ HB2.out, Nat.le_trans HW.out HB2.out.size, RowD.nil _ _ _, HX2.out, HF2.out, Nat.le_refl _⟩
      obtain ⟨len, hlen⟩ : ∃ l, fi.length = l := ⟨_, rfl⟩
      have HL := Lib.hid hlen
      obtain ⟨B, hB⟩ : ∃ B, w2.heap.size = B := ⟨_, rfl⟩
      rw [hlen] at c12 hc9 hm9 HST HX2
      rw [hB] at HST
      have hln : len ≤ 1000 := by rw [← hlen]; exact HZ.out.2.2.2.2
      clear hlen hB HX2 HF2 h0
      go_wp2_with fail
      go_loopw [3, 11, 40] (fun v3' v11 i wr => ∃ (k : Nat) (a' : List Bool) (D' : Dk), k ≤ len ∧ i = .int .i64 k ∧ Hid (putL se fi a D = putL se (fi.drop k) a' D') ∧ Hid (PutSt sh d n X B m ⟨pn, pe, pu, pr, dep, ahd, ag, br, re, prr, se, li, fi⟩ v1 v2 v3 v4 v5 v6 (.slice E7 e7 f7) v8 (.slice E9 len f9) w wr D' v11 ((fi.take k).map (·.n))) ∧ Hid (∀ W, OffN n d w W → BoolsAt W v3' a')) (fun _ _ i _ => len - (intOf i).toNat)
      case atStart => exact ⟨0, a, D, Nat.zero_le _, rfl, Lib.hid rfl, HST, HAH⟩
      case round =>
        obtain ⟨k, a', D1, hk, rfl, hpl, hst, hba⟩ := hrel
        by_cases hlt : k < len
        · obtain ⟨f, ht⟩ : ∃ f, fi[k]? = some f := ⟨fi[k]'(by have := HL.out; omega), List.getElem?_eq_getElem _⟩
          have hne : fi ≠ [] := fun e => by rw [e] at ht; cases ht
          obtain ⟨_, _, hv9, _, _, hr9⟩ := (pack_parts (p := ⟨pn, pe, pu, pr, dep, ahd, ag, br, re, prr, se, li, fi⟩) (HPH.out wr hst.out.off)).2.open
          injection hv9 with hv9 hv9b hv9c
          subst hv9 hv9c
          clear hv9b
          obtain ⟨b9, o9, rfl, hi9⟩ := hr9 hne
          obtain ⟨c0, c1⟩ := hi9 k f ht
          have HT := Lib.hid ht
          have hfs : f.n.size ≤ 1000 := HZ.out.2.1 f (List.mem_of_getElem? ht)
          have hfv : f.v.size ≤ X := HZ.out.2.2.1 f (List.mem_of_getElem? ht)
          have hX7 : X ≤ 700000 := HZ.out.1.1
          have HNK : Hid ((fi.take (k + 1)).map (·.n) = (fi.take k).map (·.n) ++ [f.n]) := Lib.hid (by rw [List.take_succ_eq_append_getElem (by have := HL.out; omega), List.map_append]; have e := (List.getElem?_eq_some_iff.1 ht).2; rw [e]; rfl)
          obtain ⟨fn, fv'⟩ := f
          simp only at c0 c1 hfs hfv HNK
          have hba' := below_alloc wr (.cells #[.string fn, .string fv'] 72)
          have HS1 := Lib.hid (hst.out.below hba')
          have HFB := Lib.hid (new_not_foot hst.out.sh.dk hba' (Nat.le_refl _))
          have HCF : Hid ((wr.alloc (.cells #[.string fn, .string fv'] 72)).cell? ⟨wr.heap.size, 0, none⟩ = some (.string fn) ∧ (wr.alloc (.cells #[.string fn, .string fv'] 72)).cell? ⟨wr.heap.size, 1, none⟩ = some (.string fv')) := Lib.hid ⟨by go_cell, by go_cell⟩
          have ownR := HS1.out.row.1
          have hkl : ((fi.take k).map (·.n)).length ≤ 1000 := by rw [List.length_map, List.length_take]; omega
          have hbw := HS1.out.bw
          obtain ⟨i0, hi, hz0, hz1, hz2⟩ := info_parts info_str
          have HGL : Hid (∀ g, u11.ownBlock = some g → g ≠ wr.heap.size) := Lib.hid (fun g e => by have := (hst.out.row.base e).2; omega)
          have HDL := Lib.hid HS1.out.sh.dk.lt
          obtain ⟨pf, hpf⟩ : ∃ x, wr.heap.size = x := ⟨_, rfl⟩
          have HPF := Lib.hid hpf
          clear hne hr9 hi9 hba' ht hpf
          go_upto_region 10 with fail
          obtain ⟨W1, hW1⟩ : ∃ W, wr.alloc (.cells #[.string fn, .string fv'] 72) = W := ⟨_, rfl⟩
          (try rw [hW1])
          rw [hW1] at HS1 HFB HCF ownR hbw HDL
          have c6 := HCF.out.1
          have c7 := HCF.out.2
          clear hW1
          go_upto_region 12 with (at_builtin; refine wpList_append_own_at _ rfl _ _ 40 rfl B 9 i0 (.string ⟨#[]⟩) 1 16 Tryz.underlying40 hi hz0 hz1 hz2 rfl (by decide) _ _ _ rfl (ownR.alloc _) ⟨W1.heap.size, 0, none⟩ 1 1 [.string fn] rfl rfl (cell_one_new _ _ _) (by simp [Value.oneCell']) (by simp only [maxLen]; omega) (by omega) (by simp; omega) ?_; intro v5 w5 hown3 hgrow hnil hloc; have c3 := grown_cell hgrow HGL.out HCF.out.1; have c4 := grown_cell hgrow HGL.out HCF.out.2; have HF5 := Lib.hid (grown_foot HS1.out.row HDL.out hgrow HFB.out); have HS5 := Lib.hid (HS1.out.app hown3 hgrow hloc); have c5 := HS5.out.box.c10; clear hown3 hgrow hnil hloc ownR c0 c1 c6 c7 HCF HFB HGL HDL HS1)
          have HFB6 := Lib.hid (below_alloc w5 (.cells #[.string fv'] 9))
          have HCV : Hid ((w5.alloc (.cells #[.string fv'] 9)).cell? ⟨w5.heap.size, 0, none⟩ = some (.string fv')) := Lib.hid (by go_cell)
          have HFV := Lib.hid (new_not_foot HS5.out.sh.dk HFB6.out (Nat.le_refl _))
          obtain ⟨W6, hW6⟩ : ∃ W, w5.alloc (.cells #[.string fv'] 9) = W := ⟨_, rfl⟩
          (try rw [hW6])
          rw [hW6] at HFB6 HCV HFV
          have HS6 := Lib.hid (HS5.out.below HFB6.out)
          have HF6 := Lib.hid (not_foot (Off.of_below HFB6.out HS5.out.sh.dk.lt) (cell_lt c3) HF5.out)
          replace c3 := kept HFB6.out c3
          replace c4 := kept HFB6.out c4
          replace c5 := HS6.out.box.c10
          have c8 := HCV.out
          have CH := Lib.hid (hasStr_calls _ se fn W6 (pack_parts (p := ⟨pn, pe, pu, pr, dep, ahd, ag, br, re, prr, se, li, fi⟩) (HPH.out W6 HS6.out.off)).1)
          clear hW6 HFB6 HS5 HF5
          obtain ⟨b1, hb1⟩ : ∃ b1, hasB se fn = b1 := ⟨_, rfl⟩
          rw [hb1] at CH
          have HB1' := Lib.hid hb1
          clear hb1
          go_wp2_with fail
          refine CH.out.mono ?_
          rintro E wz ⟨rfl, rfl⟩
          cases b1
          · have HPL : Hid (putL se fi a D = thenD (putN D1 ⟨fn, fv'⟩) (putL se (fi.drop (k + 1)) a')) := Lib.hid (hpl.out.trans (putL_new HT.out HB1'.out))
            have C := Lib.hid (comes_calls sh d D1 fn fv' _ HS6.out.sh HS6.out.ok hfs (by omega))
            obtain ⟨n1, D2, hr1⟩ : ∃ n' D', comesD D1 fn fv' = (n', D') := ⟨_, _, rfl⟩
            have HOK : Hid (DkOk D2) := Lib.hid (by have := comesD_ok HS6.out.ok fn fv'; rwa [hr1] at this)
            have HFI : Hid (FitD X D2) := Lib.hid (by have := comesD_fit HS6.out.fit fn fv' hfv; rwa [hr1] at this)
            have hz3 : (spP ++ fn).size ≤ 1000000 := by rw [cat_size]; show 2 + _ ≤ _; omega
            have z1 : ¬ 9223372036854775807 < 2 + fn.size := by omega
            have C2 := Lib.hid (fun (W : World) (hs : ShAt W sh d D2) => gone_calls sh d D2 (spP ++ fn) W hs HOK.out hz3)
            obtain ⟨n2, D3, hr2⟩ : ∃ n' D', goneD D2 (spP ++ fn) = (n', D') := ⟨_, _, rfl⟩
            have HOK3 : Hid (DkOk D3) := Lib.hid (by have := goneD_ok HOK.out (spP ++ fn); rwa [hr2] at this)
            have HFI3 : Hid (FitD X D3) := Lib.hid (by have := goneD_fit HFI.out (spP ++ fn); rwa [hr2] at this)
            have HPN : Hid (putN D1 ⟨fn, fv'⟩ = thenD (n1, D2) fun D => goneD D (spP ++ fn)) := Lib.hid (by unfold putN; rw [hr1])
            unfold SDone at C C2
            rw [hr1] at C
            rw [hr2] at C2
            simp only at C C2
            have HR2 := Lib.hid hr2
            unfold spP at C2
            clear hr1 hr2 hz3 CH
            go_wp2_with fail
            refine C.out.mono ?_
            rintro E w7 ⟨rfl, h7, ho⟩
            have HS7 := Lib.hid (HS6.out.go ho h7 HOK.out HFI.out)
            replace c3 := keptO ho HF6.out c3
            clear h7 ho C c4 c5 c8
            by_cases hn1 : n1 = 0
            · subst hn1
              rw [errV_0]
              have HPN2 : Hid (putN D1 ⟨fn, fv'⟩ = (n2, D3)) := Lib.hid (HPN.out.trans ((thenD_go _ _).trans HR2.out))
              go_wp2_with fail
              refine (C2.out _ HS7.out.sh).mono ?_
              rintro E w8 ⟨rfl, h8, ho⟩
              have HS8 := Lib.hid (HS7.out.go ho h8 HOK3.out HFI3.out)
              clear h8 ho C2 c3
              by_cases hn2 : n2 = 0
              · subst hn2
                rw [errV_0]
                have HKN := Lib.hid (HPL.out.trans (by rw [HPN2.out]; exact thenD_go _ _ : _ = putL se (fi.drop (k + 1)) a' D3))
                have HSN : Hid (PutSt sh d n X B m ⟨pn, pe, pu, pr, dep, ahd, ag, br, re, prr, se, li, fi⟩ v1 v2 v3 v4 _ v6 (.slice E7 e7 f7) v8 _ w w8 D3 _ ((fi.take (k + 1)).map (·.n))) := Lib.hid (by rw [HNK.out]; exact HS8.out)
                go_wp2_with fail
                go_roundw
                case rel => first | exact ⟨k + 1, a', D3, by omega, by go_num, HKN, HSN, hba⟩ | exact ⟨_, _, ⟨k + 1, a', D3, by omega, by go_num, HKN, HSN, hba⟩, rfl⟩ | ((repeat apply Exists.intro); exact ⟨⟨k + 1, a', D3, by omega, by go_num, HKN, HSN, hba⟩, rfl⟩)
                case measure => simp [intOf]; omega
              · rw [errV_n hn2]
                have HKN : Hid (putFD D pn se fi a = (n2, D3)) := Lib.hid (by unfold putFD; rw [HPL.out, HPN2.out, thenD_err hn2]; exact thenD_err hn2 _ _)
                have HNN := Lib.hid hn2
                clear hn2
                go_wp2_with fail
                go_ret
                exact putDone_go HBA.out (by show ¬ 0 ≤ (clashD D pn tk fi).1; have := HC0.out; omega) (ndone_err HKN.out HNN.out HS8.out.sh HS8.out.off)
            · rw [errV_n hn1]
              have HKN : Hid (putFD D pn se fi a = (n1, D2)) := Lib.hid (by unfold putFD; rw [HPL.out, HPN.out, thenD_err hn1, thenD_err hn1]; exact thenD_err hn1 _ _)
              have HNN := Lib.hid hn1
              clear hn1 C2
              go_wp2_with fail
              go_ret
              exact putDone_go HBA.out (by show ¬ 0 ≤ (clashD D pn tk fi).1; have := HC0.out; omega) (ndone_err HKN.out HNN.out HS7.out.sh HS7.out.off)
          · have HPL : Hid (putL se fi a D = putL se (fi.drop k) a' D1) := hpl
            have HDN : Hid (hasB se fn = true) := HB1'
            have HSP := HS6.out.box
            have G1 := Lib.hid (fun (W : World) (hb : Below W6.heap.size W6 W) => shget_calls sh d D1 (spP ++ fn) W (HS6.out.sh.keep hb) (by rw [cat_size]; show 2 + _ ≤ _; omega))
            have G2 := Lib.hid (fun (W : World) (hb : Below W6.heap.size W6 W) => shget_calls sh d D1 (thP ++ fn) W (HS6.out.sh.keep hb) (by rw [cat_size]; show 2 + _ ≤ _; omega))
            unfold spP at G1
            unfold thP at G2
            have CX := Lib.hid (fun (W : World) (vo vn : Value) (ho : PtrAt 0 W vo (getF D1.now (spP ++ fn))) (hn : PtrAt 0 W vn (getF D1.now (thP ++ fn))) (hx : W.cell? ⟨w5.heap.size, 0, none⟩ = some (.string fv')) => choice_calls 0 (getF D1.now (spP ++ fn)) (getF D1.now (thP ++ fn)) fv' vo vn (.pointer (some ⟨w5.heap.size, 0, none⟩)) W ho hn ⟨w5.heap.size, rfl, Nat.zero_le _, hx⟩)
            unfold spP thP at CX
            have z1 : ¬ 9223372036854775807 < 2 + fn.size := by omega
            obtain ⟨cc, hcc⟩ : ∃ c, choD D1 ⟨fn, fv'⟩ = c := ⟨_, rfl⟩
            have HCC := Lib.hid hcc
            unfold choD at hcc
            unfold spP thP at hcc
            simp only at hcc
            rw [hcc] at CX
            have HSt := HS6
            go_upto_region 13 with fail
            have hpf := HPF.out
            rw [hpf] at c3 c4 HF6
            (try rw [hpf])
            obtain ⟨p8, hp8⟩ : ∃ x, w5.heap.size = x := ⟨_, rfl⟩
            rw [hp8] at c8 CX
            (try rw [hp8])
            have HP8 := Lib.hid hp8
            have HC8 := Lib.hid c8
            have HC34 := Lib.hid (And.intro c3 c4)
            have HFst := HF6
            clear hp8 hcc c5 CH hpf
            go_cut [15] (fun v wx => v = .int .i64 cc ∧ Below W6.heap.size W6 wx)
            case first =>
              refine wp_region_held_drew (S := (fun W => W.cell? ⟨pf, 0, none⟩ = some (.string fn) ∧ W.cell? ⟨p8, 0, none⟩ = some (.string fv') ∧ Below W6.heap.size W6 W)) (by kernel_rfl) ?_ (fun hHeld => ?_)
              · exact ⟨kept (below_drew _) c3, kept (below_drew _) c8, below_drew _⟩
              refine wpAnyH_take (i := 0) (v := ?_) rfl (by kernel_rfl) (by kernel_rfl) (by kernel_rfl) (fun _ _ _ h => h) (Or.inl ⟨by rfl, ?_⟩) (by assumption) ?_
              rotate_left
              · (intro w hSw; (try dsimp only at hSw); go_simp; (try with_reducible rfl))
              (try simp only [List.getElem_toArray, List.getElem_cons_zero, Act.put, List.setIfInBounds_toArray, List.set_cons_zero, List.set_cons_succ])
              refine wpAnyH_take (i := 1) (v := ?_) rfl (by kernel_rfl) (by kernel_rfl) (by kernel_rfl) (fun _ _ _ h => h) (Or.inl ⟨by rfl, ?_⟩) (by assumption) ?_
              rotate_left
              · (intro w hSw; (try dsimp only at hSw); go_simp; (try with_reducible rfl))
              (try simp only [List.getElem_toArray, List.getElem_cons_succ, List.getElem_cons_zero, Act.put, List.setIfInBounds_toArray, List.set_cons_zero, List.set_cons_succ])
              refine wpAnyH_take (i := 2) (v := ?_) rfl (by kernel_rfl) (by kernel_rfl) (by kernel_rfl) (fun _ _ _ h => h) (Or.inl ⟨by rfl, ?_⟩) (by assumption) ?_
              rotate_left
              · (intro w hSw; (try dsimp only at hSw); go_simp; (try with_reducible rfl))
              (try simp only [List.getElem_toArray, List.getElem_cons_succ, List.getElem_cons_zero, Act.put, List.setIfInBounds_toArray, List.set_cons_zero, List.set_cons_succ])
              refine wpAnyH_take (i := 3) (v := ?_) rfl (by kernel_rfl) (by kernel_rfl) (by kernel_rfl) (fun _ _ _ h => h) (Or.inl ⟨by rfl, ?_⟩) (by assumption) ?_
              rotate_left
              · (intro w hSw; (try dsimp only at hSw); go_simp; (try with_reducible rfl))
              (try simp only [List.getElem_toArray, List.getElem_cons_succ, List.getElem_cons_zero, Act.put, List.setIfInBounds_toArray, List.set_cons_zero, List.set_cons_succ])
              refine wpAnyH_take (i := 5) (v := ?_) rfl (by kernel_rfl) (by kernel_rfl) (by kernel_rfl) (fun _ _ _ h => h) (Or.inl ⟨by rfl, ?_⟩) (by assumption) ?_
              rotate_left
              · (intro w hSw; (try dsimp only at hSw); go_simp; (try with_reducible rfl))
              (try simp only [List.getElem_toArray, List.getElem_cons_succ, List.getElem_cons_zero, Act.put, List.setIfInBounds_toArray, List.set_cons_zero, List.set_cons_succ])
              refine wpAnyH_take (i := 6) (v := ?_) rfl (by kernel_rfl) (by kernel_rfl) (by kernel_rfl) (fun _ _ _ h => h) (Or.inl ⟨by rfl, ?_⟩) (by assumption) ?_
              rotate_left
              · (intro w hSw; (try dsimp only at hSw); go_simp; (try with_reducible rfl))
              (try simp only [List.getElem_toArray, List.getElem_cons_succ, List.getElem_cons_zero, Act.put, List.setIfInBounds_toArray, List.set_cons_zero, List.set_cons_succ])
              refine wpAnyH_take (i := 7) (v := ?_) rfl (by kernel_rfl) (by kernel_rfl) (by kernel_rfl) (fun _ _ _ h => h) (Or.inl ⟨by rfl, ?_⟩) (by assumption) ?_
              rotate_left
              · (intro w hSw; (try dsimp only at hSw); go_simp; (try with_reducible rfl))
              (try simp only [List.getElem_toArray, List.getElem_cons_succ, List.getElem_cons_zero, Act.put, List.setIfInBounds_toArray, List.set_cons_zero, List.set_cons_succ])
              refine wpAnyH_take (i := 8) (v := ?_) rfl (by kernel_rfl) (by kernel_rfl) (by kernel_rfl) (fun _ _ _ h => h) (Or.inl ⟨by rfl, ?_⟩) (by assumption) ?_
              rotate_left
              · (intro w hSw; (try dsimp only at hSw); go_simp; (try with_reducible rfl))
              (try simp only [List.getElem_toArray, List.getElem_cons_succ, List.getElem_cons_zero, Act.put, List.setIfInBounds_toArray, List.set_cons_zero, List.set_cons_succ])
              refine wpAnyH_ready (rs := [4]) (by kernel_rfl) (by simp) ?_
              refine AllReadyH.cons rfl (fun K hK => ?_) AllReadyH.nil
              · go_simp
                go_at_call 33
                refine Calls.mono (G1.out _ (putC_below hHeld)) ?_
                rintro E y1 ⟨vy1, rfl, hpy1, hby1⟩
                (try go_wp2_with fail)
                refine hK.out _ _ ?_ (fun hHeld => ?_)
                · exact putC_go (by assumption) hby1
                clear hK K
                (try simp only [List.getElem_toArray, List.getElem_cons_succ, List.getElem_cons_zero, Act.put, List.setIfInBounds_toArray, List.set_cons_zero, List.set_cons_succ])
                refine wpAnyH_ready (rs := [9]) (by kernel_rfl) (by simp) ?_
                refine AllReadyH.cons rfl (fun K hK => ?_) AllReadyH.nil
                go_simp
                go_at_call 33
                refine Calls.mono (G2.out _ (putC_below hHeld)) ?_
                rintro E y2 ⟨vy2, rfl, hpy2, hby2⟩
                (try go_wp2_with fail)
                refine hK.out _ _ ?_ (fun hHeld => ?_)
                · exact putC_go (by assumption) hby2
                clear hK K
                (try simp only [List.getElem_toArray, List.getElem_cons_succ, List.getElem_cons_zero, Act.put, List.setIfInBounds_toArray, List.set_cons_zero, List.set_cons_succ])
                refine wpAnyH_ready (rs := [10]) (by kernel_rfl) (by simp) ?_
                refine AllReadyH.cons rfl (fun K hK => ?_) AllReadyH.nil
                go_simp
                go_at_call 32
                refine Calls.mono (CX.out _ _ _ ((ptr_low hpy1).below hby2) (ptr_low hpy2) (putC_c8 hHeld)) ?_
                rintro E y3 ⟨rfl, hb3⟩
                (try go_wp2_with fail)
                refine hK.out _ _ ?_ (fun hHeld => ?_)
                · exact putC_go (by assumption) hb3
                clear hK K
                (try simp only [List.getElem_toArray, List.getElem_cons_succ, List.getElem_cons_zero, Act.put, List.setIfInBounds_toArray, List.set_cons_zero, List.set_cons_succ])
                refine wpAnyH_take (i := 11) (v := ?_) rfl (by kernel_rfl) (by kernel_rfl) (by kernel_rfl) (fun _ _ _ h => h) (Or.inl ⟨by rfl, ?_⟩) (by assumption) ?_
                rotate_left
                · (intro w hSw; (try dsimp only at hSw); go_simp; (try with_reducible rfl))
                (try simp only [List.getElem_toArray, List.getElem_cons_succ, List.getElem_cons_zero, Act.put, List.setIfInBounds_toArray, List.set_cons_zero, List.set_cons_succ])
                refine wpAnyH_done (by kernel_rfl) ?_ _
                go_wp2_with fail
                go_meet
                exact ⟨rfl, putC_below (by assumption)⟩
            case rest =>
            obtain ⟨rfl, hb7⟩ := hcut
            have HS7 := Lib.hid (HSt.out.below hb7)
            have HF7 := Lib.hid (not_foot (Off.of_below hb7 HSt.out.sh.dk.lt) (cell_lt HC34.out.1) HFst.out)
            have HFV7 := Lib.hid (not_foot (Off.of_below hb7 HSt.out.sh.dk.lt) (cell_lt HC8.out) (by have := HFV.out; rwa [HP8.out] at this))
            replace HC34 := Lib.hid (And.intro (kept hb7 HC34.out.1) (kept hb7 HC34.out.2))
            replace HC8 := Lib.hid (kept hb7 HC8.out)
            clear hb7 c3 c4 c8 G1 G2 CX HS6 HF6 HFV HSt HFst HSP
            obtain ⟨A3, k3, rfl, hk3, hm3, hr3⟩ := hba.out wc HS7.out.off
            have HK3 := Lib.hid hk3
            have HBA3 := hba
            obtain ⟨n3, hn3⟩ : ∃ x, a'.length = x := ⟨_, rfl⟩
            rw [hn3] at HBA3 hk3
            (try rw [hn3])
            have HN3 := Lib.hid hn3
            have HR3 := Lib.hid hr3
            clear hr3 hba HK3
            obtain ⟨bb, hbb⟩ : ∃ b, (decide (cc = 2) && decide (0 < n3)) = b := ⟨_, rfl⟩
            have HBB := Lib.hid hbb
            go_upto_region 14 with fail
            go_cut [73] (fun v wx => v = .bool bb ∧ wx = wc)
            case first =>
              clear HPL HNK HPF HT
              by_cases h2 : cc = 2
              · subst h2
                by_cases h0 : 0 < n3
                · have h0' : decide ((n3 : Int) > 0) = true := decide_eq_true (by omega)
                  rw [decide_eq_true h0] at hbb
                  subst hbb
                  clear HBB
                  go_wp2_with fail
                  go_meet
                  exact ⟨rfl, rfl⟩
                · have h0' : decide ((n3 : Int) > 0) = false := decide_eq_false (by omega)
                  rw [decide_eq_false h0, Bool.and_false] at hbb
                  subst hbb
                  clear HBB
                  go_wp2_with fail
                  go_meet
                  exact ⟨rfl, rfl⟩
              · have h2' : ((cc : Int) == 2) = false := by rw [beq_eq_false_iff_ne]; omega
                rw [decide_eq_false h2, Bool.false_and] at hbb
                subst hbb
                clear HBB
                go_wp2_with fail
                go_meet
                exact ⟨rfl, rfl⟩
            case rest =>
            obtain ⟨rfl, rfl⟩ := hcut
            clear hbb
            go_upto_if 73 with fail
            go_cut [3, 15] (fun s3 s15 wx => ∃ (c2 : Nat) (a2 : List Bool), Hid (whatD cc a' = (c2, a2)) ∧ s15 = .int .i64 c2 ∧ Hid (∀ W, OffN n d w W → BoolsAt W s3 a2) ∧ wx = wc)
            case first =>
              cases bb
              · have HW2 : Hid (whatD cc a' = (cc, a')) := Lib.hid (whatD_no HBB.out HN3.out)
                go_wp2_with fail
                go_meet
                exact ⟨cc, a', HW2, rfl, HBA3, rfl⟩
              · obtain ⟨h2, h0⟩ : cc = 2 ∧ 0 < n3 := by have := HBB.out; rwa [Bool.and_eq_true, decide_eq_true_iff, decide_eq_true_iff] at this
                subst h2
                obtain ⟨x, r, rfl⟩ : ∃ x r, a' = x :: r := by
                  cases a' with
                  | nil => have := HN3.out; simp at this; omega
                  | cons x r => exact ⟨x, r, rfl⟩
                obtain ⟨m3, rfl⟩ : ∃ m3, n3 = m3 + 1 := ⟨n3 - 1, by omega⟩
                have HR1 : Hid (r.length = m3) := Lib.hid (by have := HN3.out; simpa using this)
                obtain ⟨b3, o3, rfl, hi3⟩ := HR3.out (List.cons_ne_nil _ _)
                have c0 : wc.cell? ⟨b3, o3, none⟩ = some (.bool x) := hi3 0 x rfl
                clear hi3 HBB HN3 HR3 hpl hn3
                cases x
                · have HWA : Hid (whatD 2 (false :: r) = (2, r)) := Lib.hid rfl
                  clear h0
                  go_wp2_with fail
                  · go_meet
                    exact ⟨2, r, HWA, rfl, Lib.hid (fun W _ => bools_none HR1.out (by omega) (by omega)), rfl⟩
                  · go_meet
                    exact ⟨2, r, HWA, rfl, Lib.hid (bools_tail HBA3.out HR1.out), rfl⟩
                · have HWA : Hid (whatD 2 (true :: r) = (0, r)) := Lib.hid rfl
                  clear h0
                  go_wp2_with fail
                  · go_meet
                    exact ⟨0, r, HWA, rfl, Lib.hid (fun W _ => bools_none HR1.out (by omega) (by omega)), rfl⟩
                  · go_meet
                    exact ⟨0, r, HWA, rfl, Lib.hid (bools_tail HBA3.out HR1.out), rfl⟩
            case rest =>
            obtain ⟨c2, a2, hw2, rfl, hba2, rfl⟩ := hcut
            have HPS : Hid (putL se fi a D = thenD (putS D1 ⟨fn, fv'⟩ c2) (putL se (fi.drop (k + 1)) a2)) := Lib.hid (HPL.out.trans (putL_set HT.out HDN.out (by rw [HCC.out]; exact hw2.out)))
            have hz4 : (spP ++ fn).size ≤ 1000000 := by rw [cat_size]; show 2 + _ ≤ _; omega
            have c3 := HC34.out.1
            have c4 := HC34.out.2
            have c8 := HC8.out
            have hfv9 : fv'.size ≤ 1000000 := by omega
            clear HCC HBB HN3 HR3 HBA3 hw2 hk3 hm3
            by_cases h0 : c2 = 0
            · subst h0
              have C := Lib.hid (comes_calls sh d D1 fn fv' _ HS7.out.sh HS7.out.ok hfs (by omega))
              obtain ⟨n1, D2, hr1⟩ : ∃ n' D', comesD D1 fn fv' = (n', D') := ⟨_, _, rfl⟩
              have HOK : Hid (DkOk D2) := Lib.hid (by have := comesD_ok HS7.out.ok fn fv'; rwa [hr1] at this)
              have HFI : Hid (FitD X D2) := Lib.hid (by have := comesD_fit HS7.out.fit fn fv' hfv; rwa [hr1] at this)
              have C2 := Lib.hid (fun (W : World) (hs : ShAt W sh d D2) => keeps_calls sh d D2 (spP ++ fn) fv' W hs HOK.out hz4 hfv9)
              obtain ⟨n2, D3, hr2⟩ : ∃ n' D', keepsD D2 (spP ++ fn) fv' = (n', D') := ⟨_, _, rfl⟩
              have HOK3 : Hid (DkOk D3) := Lib.hid (by have := keepsD_ok HOK.out (spP ++ fn) fv'; rwa [hr2] at this)
              have HFI3 : Hid (FitD X D3) := Lib.hid (by have := keepsD_fit HFI.out (spP ++ fn) fv' hfv; rwa [hr2] at this)
              have HPN : Hid (putS D1 ⟨fn, fv'⟩ 0 = thenD (n1, D2) fun D => keepsD D (spP ++ fn) fv') := Lib.hid (by unfold putS; rw [if_pos rfl, hr1])
              have HR2 := Lib.hid hr2
              unfold SDone at C C2
              rw [hr1] at C
              rw [hr2] at C2
              simp only at C C2
              unfold spP at C2
              clear hr1 hr2 hz4
              go_wp2_with fail
              refine C.out.mono ?_
              rintro E w7 ⟨rfl, h7, ho⟩
              have HS8 := Lib.hid (HS7.out.go ho h7 HOK.out HFI.out)
              replace c3 := keptO ho HF7.out c3
              replace c4 := keptO ho HF7.out c4
              replace c8 := keptO ho HFV7.out c8
              clear h7 ho C
              by_cases hn1 : n1 = 0
              · subst hn1
                rw [errV_0]
                have HPN2 : Hid (putS D1 ⟨fn, fv'⟩ 0 = (n2, D3)) := Lib.hid (HPN.out.trans ((thenD_go _ _).trans HR2.out))
                go_wp2_with fail
                refine (C2.out _ HS8.out.sh).mono ?_
                rintro E w8 ⟨rfl, h8, ho⟩
                have HS9 := Lib.hid (HS8.out.go ho h8 HOK3.out HFI3.out)
                clear h8 ho C2 c3 c4 c8
                by_cases hn2 : n2 = 0
                · subst hn2
                  rw [errV_0]
                  have HKN := Lib.hid (HPS.out.trans (by rw [HPN2.out]; exact thenD_go _ _ : _ = putL se (fi.drop (k + 1)) a2 D3))
                  have HSN : Hid (PutSt sh d n X B m ⟨pn, pe, pu, pr, dep, ahd, ag, br, re, prr, se, li, fi⟩ v1 v2 v3 v4 _ v6 (.slice E7 e7 f7) v8 _ w w8 D3 _ ((fi.take (k + 1)).map (·.n))) := Lib.hid (by rw [HNK.out]; exact HS9.out)
                  go_wp2_with fail
                  go_roundw
                  case rel => first | exact ⟨k + 1, a2, D3, by omega, by go_num, HKN, HSN, hba2⟩ | exact ⟨_, _, ⟨k + 1, a2, D3, by omega, by go_num, HKN, HSN, hba2⟩, rfl⟩ | ((repeat apply Exists.intro); exact ⟨⟨k + 1, a2, D3, by omega, by go_num, HKN, HSN, hba2⟩, rfl⟩)
                  case measure => simp [intOf]; omega
                · rw [errV_n hn2]
                  have HKN : Hid (putFD D pn se fi a = (n2, D3)) := Lib.hid (by unfold putFD; rw [HPS.out, HPN2.out, thenD_err hn2]; exact thenD_err hn2 _ _)
                  have HNN := Lib.hid hn2
                  clear hn2
                  go_wp2_with fail
                  go_ret
                  exact putDone_go HBA.out (by show ¬ 0 ≤ (clashD D pn tk fi).1; have := HC0.out; omega) (ndone_err HKN.out HNN.out HS9.out.sh HS9.out.off)
              · rw [errV_n hn1]
                have HKN : Hid (putFD D pn se fi a = (n1, D2)) := Lib.hid (by unfold putFD; rw [HPS.out, HPN.out, thenD_err hn1, thenD_err hn1]; exact thenD_err hn1 _ _)
                have HNN := Lib.hid hn1
                clear hn1 C2
                go_wp2_with fail
                go_ret
                exact putDone_go HBA.out (by show ¬ 0 ≤ (clashD D pn tk fi).1; have := HC0.out; omega) (ndone_err HKN.out HNN.out HS8.out.sh HS8.out.off)
            · have hg0' : (((c2 : Nat) : Int) == 0) = false := by rw [beq_eq_false_iff_ne]; omega
              have C2 := Lib.hid (fun (W : World) (hs : ShAt W sh d D1) => keeps_calls sh d D1 (spP ++ fn) fv' W hs HS7.out.ok hz4 hfv9)
              obtain ⟨n2, D3, hr2⟩ : ∃ n' D', keepsD D1 (spP ++ fn) fv' = (n', D') := ⟨_, _, rfl⟩
              have HOK3 : Hid (DkOk D3) := Lib.hid (by have := keepsD_ok HS7.out.ok (spP ++ fn) fv'; rwa [hr2] at this)
              have HFI3 : Hid (FitD X D3) := Lib.hid (by have := keepsD_fit HS7.out.fit (spP ++ fn) fv' hfv; rwa [hr2] at this)
              have HPN2 : Hid (putS D1 ⟨fn, fv'⟩ c2 = (n2, D3)) := Lib.hid (by unfold putS; rw [if_neg h0, thenD_go, hr2])
              unfold SDone at C2
              rw [hr2] at C2
              simp only at C2
              unfold spP at C2
              clear hr2 hz4
              go_wp2_with fail
              refine (C2.out _ HS7.out.sh).mono ?_
              rintro E w8 ⟨rfl, h8, ho⟩
              have HS9 := Lib.hid (HS7.out.go ho h8 HOK3.out HFI3.out)
              clear h8 ho C2 c3 c4 c8
              by_cases hn2 : n2 = 0
              · subst hn2
                rw [errV_0]
                have HKN := Lib.hid (HPS.out.trans (by rw [HPN2.out]; exact thenD_go _ _ : _ = putL se (fi.drop (k + 1)) a2 D3))
                have HSN : Hid (PutSt sh d n X B m ⟨pn, pe, pu, pr, dep, ahd, ag, br, re, prr, se, li, fi⟩ v1 v2 v3 v4 _ v6 (.slice E7 e7 f7) v8 _ w w8 D3 _ ((fi.take (k + 1)).map (·.n))) := Lib.hid (by rw [HNK.out]; exact HS9.out)
                go_wp2_with fail
                go_roundw
                case rel => first | exact ⟨k + 1, a2, D3, by omega, by go_num, HKN, HSN, hba2⟩ | exact ⟨_, _, ⟨k + 1, a2, D3, by omega, by go_num, HKN, HSN, hba2⟩, rfl⟩ | ((repeat apply Exists.intro); exact ⟨⟨k + 1, a2, D3, by omega, by go_num, HKN, HSN, hba2⟩, rfl⟩)
                case measure => simp [intOf]; omega
              · rw [errV_n hn2]
                have HKN : Hid (putFD D pn se fi a = (n2, D3)) := Lib.hid (by unfold putFD; rw [HPS.out, HPN2.out, thenD_err hn2]; exact thenD_err hn2 _ _)
                have HNN := Lib.hid hn2
                clear hn2
                go_wp2_with fail
                go_ret
                exact putDone_go HBA.out (by show ¬ 0 ≤ (clashD D pn tk fi).1; have := HC0.out; omega) (ndone_err HKN.out HNN.out HS9.out.sh HS9.out.off)
        · obtain rfl : k = len := by omega
          have HPE : Hid (putL se fi a D = (0, D1)) := Lib.hid (hpl.out.trans (putL_end (by have := HL.out; omega)))
          have HNM : Hid ((fi.take k).map (·.n) = fi.map (·.n)) := Lib.hid (by rw [List.take_of_length_le (by have := HL.out; omega)])
          have hst' := hst.out
          rw [HNM.out] at hst'
          have CO := Lib.hid (owned_calls sh d n X B D1 pn pu pr pe v1 v2 v3 v4 v5 v6 (.slice E7 e7 f7) v8 (.slice E9 k f9) _ (fi.map (·.n)) wr (HE.out.offN hst'.off) hst'.sh hst'.ok hst'.fit (by have := HZ.out.1.1; omega) HZ.out.1.2 hst'.row hst'.lt.2.2 hst'.lt.2.1 hst'.nw (by rw [List.length_map]; have := HL.out; omega) HZ.out.2.2.2.1 hst'.bw)
          unfold NDone at CO
          obtain ⟨c0, c1, c2, c3, c4, c5, c6, c7, c8, c9, c10, c11, c12⟩ := id hst'.box
          have HPF : Hid (putFD D pn se fi a = ownedD D1 pn (fi.map (·.n))) := Lib.hid (by unfold putFD; rw [HPE.out]; exact thenD_go _ _)
          obtain ⟨e2, D2, hr2⟩ : ∃ n' D', ownedD D1 pn (fi.map (·.n)) = (n', D') := ⟨_, _, rfl⟩
          rw [hr2] at CO HPF
          simp only at CO
          have HOO := Lib.hid hst'.off
          clear hst' hr2 hba hpl HST
          go_wp2_with fail
          refine CO.out.mono ?_
          rintro E w5 ⟨rfl, h5, ho⟩
          have H5 := Lib.hid h5
          have HO5 := Lib.hid (HOO.out.trans ho)
          clear h5 ho CO c0 c1 c2 c3 c4 c5 c6 c7 c8 c9 c10 c11 c12
          obtain ⟨ev, hev⟩ : ∃ ev, errV e2 = ev := ⟨_, rfl⟩
          rw [hev]
          have HEV := Lib.hid hev
          clear hev
          go_wp2_with fail
          go_ret
          exact putDone_go HBA.out (by show ¬ 0 ≤ (clashD D pn tk fi).1; have := HC0.out; omega) (ndone_ret HPF.out HEV.out H5.out HO5.out)
end Go.Proofs.YtofogjfemlhffaaGreatDoor

/- The shelf's owned, walked. -/
import Derived.Test.YtofogjfemlhffaaGreatDoorSPK19
import Derived.RangeFuncBox
namespace Go.Proofs.YtofogjfemlhffaaGreatDoor
open Go Go.RowKit Go.Maps

/-- what the library reads of its own variables lies below the disk -/
def EnvD (n d : Nat) (W : World) : Prop := ∃ w0, Env w0 ∧ w0.heap.size ≤ n ∧ Below w0.heap.size w0 W ∧ Low w0.heap.size W d
theorem EnvD.env {n d : Nat} {W : World} (h : EnvD n d W) : Env W := by
  obtain ⟨w0, he, _, hb, _⟩ := h
  exact he.below hb
theorem EnvD.offN {n d : Nat} {W W' : World} (h : EnvD n d W) (ho : OffN n d W W') : EnvD n d W' := by
  obtain ⟨w0, he, hn, hb, hl⟩ := h
  refine ⟨w0, he, hn, ?_, fun i hi => ?_⟩
  · exact hb.trans ⟨ho.os, ho.tape, ho.output, ho.size, fun i hi => ho.block i (by omega) fun hf => by have := hl i hf; omega⟩
  · rcases ho.foot i hi with h' | h'
    · exact hl i h'
    · omega

theorem blk_frz {T : TypeId} {W : World} {b : Nat} {cs : Array Value} (h : Blk T W b cs) : W.frozen? ⟨b, 0, none⟩ = false := by
  unfold Blk at h
  simp [World.frozen?, h]
/-- the state of owned: in world W, from world w on -/
structure OwnSt (sh d n X B px bx : Nat) (pn : ByteArray) (vp : Value) (ps : List ByteArray) (w W : World) (D : Dk) : Prop where
  sh : ShAt W sh d D
  ok : DkOk D
  fit : FitD X D
  off : OffN n d w W
  env : EnvD n d W
  row : RowD d B W vp ps
  nw : n ≤ W.heap.size
  cpn : W.cell? ⟨px, 0, none⟩ = some (.string pn)
  cbx : W.cell? ⟨bx, 0, none⟩ = some vp
  fpx : ¬ foot W d px
  fbx : ¬ foot W d bx
  fz : W.frozen? ⟨bx, 0, none⟩ = false
theorem OwnSt.go {sh d n X B px bx : Nat} {pn : ByteArray} {vp : Value} {ps : List ByteArray} {w W W' : World} {D D' : Dk} (h : OwnSt sh d n X B px bx pn vp ps w W D) (ho : Off d W W') (hs : ShAt W' sh d D') (hk : DkOk D') (hf : FitD X D') : OwnSt sh d n X B px bx pn vp ps w W' D' where
  sh := hs
  ok := hk
  fit := hf
  off := h.off.go ho h.nw
  env := h.env.offN (OffN.of ho h.nw)
  row := h.row.off ho
  nw := Nat.le_trans h.nw ho.size
  cpn := keptO ho h.fpx h.cpn
  cbx := keptO ho h.fbx h.cbx
  fpx := not_foot ho (cell_lt h.cpn) h.fpx
  fbx := not_foot ho (cell_lt h.cbx) h.fbx
  fz := (World.frozen?_of_block (a := ⟨bx, 0, none⟩) (ho.block bx (cell_lt h.cbx) h.fbx)).trans h.fz
theorem OwnSt.below {sh d n X B px bx : Nat} {pn : ByteArray} {vp : Value} {ps : List ByteArray} {w W W' : World} {D : Dk} (h : OwnSt sh d n X B px bx pn vp ps w W D) (hb : Below W.heap.size W W') : OwnSt sh d n X B px bx pn vp ps w W' D := h.go (Off.of_below hb h.sh.dk.lt) (h.sh.keep hb) h.ok h.fit

theorem RowS.grown {d : Nat} {W W' : World} {r : Option Nat} {v : Value} {L : List ByteArray} (h : RowS d W v L) (hg : W.grownBy W' r) (hd : d < W.heap.size) (hr : ∀ g, r = some g → ¬ foot W d g) (hne : L ≠ [] → ∀ b off n c, v = .slice (some ⟨b, off, none⟩) n c → r ≠ some b) : RowS d W' v L := by
  obtain ⟨⟨A, c, rfl, hc, hm, hx⟩, ht⟩ := h
  have hf := fun i => foot_grown (i := i) hg hd hr
  refine ⟨⟨A, c, rfl, hc, hm, fun hn => ?_⟩, fun hn b off n c' e h' => ht hn b off n c' e ((hf b).1 h')⟩
  obtain ⟨b, off, rfl, hi⟩ := hx hn
  refine ⟨b, off, rfl, fun j u hj => ?_⟩
  have hcb := hi j u hj
  have hblk := hg.block b (cell_lt hcb) fun e => hne (by first | exact hn | (intro e; subst e; exact hn rfl)) b off _ _ rfl e.symm
  exact (World.cell?_of_block (a := ⟨b, off + j, none⟩) hblk).trans hcb

/-- the state of owned's second loop: besides, what lies apart -/
structure OwnSt2 (sh d n X B px bx : Nat) (A : Option Addr) (lw cw : Nat) (was : List ByteArray) (pn : ByteArray) (vp : Value) (ps : List ByteArray) (w W : World) (D : Dk) : Prop where
  st : OwnSt sh d n X B px bx pn vp ps w W D
  was : RowS d W (.slice A lw cw) was
  apart : ∀ g, vp.ownBlock = some g → g ≠ px ∧ g ≠ bx ∧ ∀ b off, A = some ⟨b, off, none⟩ → g ≠ b
  wlt : ∀ b off, A = some ⟨b, off, none⟩ → bx < b ∧ b < W.heap.size
  low : n ≤ bx ∧ px < bx
theorem OwnSt2.go {sh d n X B px bx : Nat} {A : Option Addr} {lw cw : Nat} {was : List ByteArray} {pn : ByteArray} {vp : Value} {ps : List ByteArray} {w W W' : World} {D D' : Dk} (h : OwnSt2 sh d n X B px bx A lw cw was pn vp ps w W D) (ho : Off d W W') (hs : ShAt W' sh d D') (hk : DkOk D') (hf : FitD X D') : OwnSt2 sh d n X B px bx A lw cw was pn vp ps w W' D' :=
  ⟨h.st.go ho hs hk hf, h.was.off ho, h.apart, fun b off e => ⟨(h.wlt b off e).1, Nat.lt_of_lt_of_le (h.wlt b off e).2 ho.size⟩, h.low⟩
theorem OwnSt2.below {sh d n X B px bx : Nat} {A : Option Addr} {lw cw : Nat} {was : List ByteArray} {pn : ByteArray} {vp : Value} {ps : List ByteArray} {w W W' : World} {D : Dk} (h : OwnSt2 sh d n X B px bx A lw cw was pn vp ps w W D) (hb : Below W.heap.size W W') : OwnSt2 sh d n X B px bx A lw cw was pn vp ps w W' D := h.go (Off.of_below hb h.st.sh.dk.lt) (h.st.sh.keep hb) h.st.ok h.st.fit
theorem OwnSt2.app {sh d n X B px bx : Nat} {A : Option Addr} {lw cw : Nat} {was : List ByteArray} {pn x : ByteArray} {v v' : Value} {ps : List ByteArray} {w W W' W'' : World} {D : Dk} (h : OwnSt2 sh d n X B px bx A lw cw was pn v ps w W D) (hB : sh < B) (hn : n ≤ B)
    (hown : W'.ownsRow B 9 1 v' (ps.length + 1) (ps.flatMap strC ++ [.string x])) (hg : (W.alloc (.cells #[.string x] 9)).grownBy W' v.ownBlock) (hl : v'.ownBlock = v.ownBlock ∨ v'.ownBlock = some (W.alloc (.cells #[.string x] 9)).heap.size) (hg3 : W'.grownBy W'' (some bx)) (hcell : W''.cell? ⟨bx, 0, none⟩ = some v') (hfz : W''.frozen? ⟨bx, 0, none⟩ = false) :
    OwnSt2 sh d n X B px bx A lw cw was pn v' (ps ++ [x]) w W'' D := by
  have hd := h.st.sh.dk.lt
  obtain ⟨hrow, hsh, hoff, hg2⟩ := rowD_app h.st.row h.st.sh hB hn h.st.nw h.st.off hown hg hl
  have hr2 : ∀ g, v.ownBlock = some g → n ≤ g ∧ ¬ foot W d g := fun g e => ⟨Nat.le_trans hn (h.st.row.base e).1, h.st.row.2 g e⟩
  have hf2 := fun i => foot_grown (i := i) hg2 hd fun g e => (hr2 g e).2
  have hbx : bx < W.heap.size := cell_lt h.st.cbx
  have hpx : px < W.heap.size := cell_lt h.st.cpn
  have hbs : bx ≠ sh := fun e => by
    have h1 := h.st.cbx
    rw [e, h.st.sh.c] at h1
    obtain ⟨_, _, _, e2⟩ := h.st.row.slice
    rw [e2] at h1
    cases h1
  have hdW' : d < W'.heap.size := Nat.lt_of_lt_of_le hd hg2.size
  have hr3 : ∀ g, some bx = some g → n ≤ g ∧ ¬ foot W' d g := fun g e => by
    injection e with e
    subst e
    exact ⟨h.low.1, fun hf => h.st.fbx ((hf2 _).1 hf)⟩
  have hf3 := fun i => foot_grown (i := i) hg3 hdW' fun g e => (hr3 g e).2
  have hal := (below_alloc W (.cells #[.string x] 9)).size
  have hap : ∀ g, v'.ownBlock = some g → g ≠ px ∧ g ≠ bx ∧ ∀ b off, A = some ⟨b, off, none⟩ → g ≠ b := fun g e => by
    rcases hl with hl | hl
    · exact h.apart g (hl ▸ e)
    · rw [hl] at e
      injection e with e
      refine ⟨by omega, by omega, fun b off ea => ?_⟩
      have := (h.wlt b off ea).2
      omega
  have hnW' : n ≤ W'.heap.size := Nat.le_trans h.st.nw hg2.size
  refine ⟨⟨hsh.grown hg3 fun g e => ⟨(hr3 g e).2, by injection e with e; subst e; exact hbs⟩, h.st.ok, h.st.fit, hoff.grown hg3 hnW' hdW' hr3, h.st.env.offN (((OffN.of (Off.refl d W) h.st.nw).grown hg2 h.st.nw hd hr2).grown hg3 hnW' hdW' hr3), hrow.keepB (fun g e => hg3.block g (hrow.base e).2 fun e' => ?_) fun g e hf => hrow.2 g e ((hf3 g).1 hf), Nat.le_trans hnW' hg3.size, ?_, hcell, fun hf => h.st.fpx ((hf2 _).1 ((hf3 _).1 hf)), fun hf => h.st.fbx ((hf2 _).1 ((hf3 _).1 hf)), hfz⟩, ?_, hap, fun b off e => ⟨(h.wlt b off e).1, Nat.lt_of_lt_of_le (h.wlt b off e).2 (Nat.le_trans hg2.size hg3.size)⟩, h.low⟩
  · injection e' with e'
    exact (hap g e).2.1 e'
  · have h1 := hg2.block px hpx fun e => (h.apart px e.symm).1 rfl
    have h2 := hg3.block px (Nat.lt_of_lt_of_le hpx hg2.size) fun e => by injection e with e; have := h.low.2; omega
    exact (World.cell?_of_block (a := ⟨px, 0, none⟩) h2).trans ((World.cell?_of_block (a := ⟨px, 0, none⟩) h1).trans h.st.cpn)
  · refine (h.was.grown hg2 hd (fun g e => (hr2 g e).2) fun _ b off n' c e e' => ?_).grown hg3 hdW' (fun g e => (hr3 g e).2) fun _ b off n' c e e' => ?_
    · injection e with e _ _
      exact (h.apart b e').2.2 b off e rfl
    · injection e with e _ _
      injection e' with e'
      have := (h.wlt b off e).1
      omega

theorem box_set {W : World} {b : Nat} {v u : Value} (c : W.cell? ⟨b, 0, none⟩ = some v) : (W.setCell ⟨b, 0, none⟩ u).cell? ⟨b, 0, none⟩ = some u := by go_cell
theorem box_frz {W : World} {b : Nat} {u : Value} (c : W.frozen? ⟨b, 0, none⟩ = false) : (W.setCell ⟨b, 0, none⟩ u).frozen? ⟨b, 0, none⟩ = false := by simp [c]
theorem OwnSt2.grown {sh d n X B px bx : Nat} {A : Option Addr} {lw cw : Nat} {was : List ByteArray} {pn : ByteArray} {v : Value} {ps : List ByteArray} {w W W' : World} {D : Dk} (h : OwnSt2 sh d n X B px bx A lw cw was pn v ps w W D) (hg : W.grownBy W' v.ownBlock) (hB : sh < B) (hn : n ≤ B) : ShAt W' sh d D ∧ OffN n d w W' ∧ W'.cell? ⟨px, 0, none⟩ = some (.string pn) ∧ W'.cell? ⟨bx, 0, none⟩ = some v := by
  have hr : ∀ g, v.ownBlock = some g → B ≤ g ∧ ¬ foot W d g := fun g e => ⟨(h.st.row.base e).1, h.st.row.2 g e⟩
  refine ⟨h.st.sh.grown hg fun g e => ⟨(hr g e).2, by have := (hr g e).1; omega⟩, h.st.off.grown hg h.st.nw h.st.sh.dk.lt fun g e => ⟨Nat.le_trans hn (hr g e).1, (hr g e).2⟩, ?_, ?_⟩
  · exact (World.cell?_of_block (a := ⟨px, 0, none⟩) (hg.block px (cell_lt h.st.cpn) fun e => (h.apart px e.symm).1 rfl)).trans h.st.cpn
  · exact (World.cell?_of_block (a := ⟨bx, 0, none⟩) (hg.block bx (cell_lt h.st.cbx) fun e => (h.apart bx e.symm).2.1 rfl)).trans h.st.cbx
theorem own_slice9 {W : World} {B m n : Nat} {T : TypeId} {v : Value} {l : List Value} (h : W.ownsRow B T m v n l) : ∃ A k c, v = .slice A k c := by
  rcases h.2 with ⟨rfl, _⟩ | ⟨g, cap, cur, rfl, _⟩
  · exact ⟨_, _, _, rfl⟩
  · exact ⟨_, _, _, rfl⟩
theorem own2_has {L ps : List ByteArray} {D : Dk} {k : Nat} {x : ByteArray} (hx : L[k]? = some x) (h : hasB ps x = true) : own2 (L.drop k) ps D = own2 (L.drop (k + 1)) ps D := by
  rw [dropL_cons hx, own2, if_pos h]
theorem own2_app {L ps : List ByteArray} {D : Dk} {k : Nat} {x : ByteArray} (hx : L[k]? = some x) (h : hasB ps x = false) (h2 : noSet D x = false) : own2 (L.drop k) ps D = own2 (L.drop (k + 1)) (ps ++ [x]) D := by
  rw [dropL_cons hx, own2, if_neg (by rw [h]; decide), if_neg (by rw [h2]; decide)]
theorem own2_go {L ps : List ByteArray} {D D' : Dk} {k : Nat} {x : ByteArray} (hx : L[k]? = some x) (h : hasB ps x = false) (h2 : noSet D x = true) (hg : goneD D (thP ++ x) = (0, D')) : own2 (L.drop k) ps D = own2 (L.drop (k + 1)) ps D' := by
  rw [dropL_cons hx, own2, if_neg (by rw [h]; decide), if_pos h2, hg, if_pos rfl]
theorem own2_err {L ps : List ByteArray} {D D' : Dk} {k : Nat} {e : Int} {x : ByteArray} (hx : L[k]? = some x) (h : hasB ps x = false) (h2 : noSet D x = true) (hg : goneD D (thP ++ x) = (e, D')) (he : e ≠ 0) : own2 (L.drop k) ps D = (e, D', ps) := by
  rw [dropL_cons hx, own2, if_neg (by rw [h]; decide), if_pos h2, hg, if_neg he]
theorem own2_end {L ps : List ByteArray} {D : Dk} {k : Nat} (h : L.length ≤ k) : own2 (L.drop k) ps D = (0, D, ps) := by
  rw [List.drop_of_length_le h]; rfl
theorem OwnSt2.boxed {sh d n X B px bx : Nat} {A : Option Addr} {lw cw : Nat} {was : List ByteArray} {pn : ByteArray} {v : Value} {ps : List ByteArray} {w W W' : World} {D : Dk} {o : Obj} (h : OwnSt2 sh d n X B px bx A lw cw was pn v ps w W D) (hg : (W.alloc o).grownBy W' v.ownBlock) : W'.cell? ⟨bx, 0, none⟩ = some v := by
  have hb := below_alloc W o
  have hbx : bx < W.heap.size := cell_lt h.st.cbx
  have h1 := hg.block bx (Nat.lt_of_lt_of_le hbx hb.size) fun e => (h.apart bx e.symm).2.1 rfl
  exact (World.cell?_of_block (a := ⟨bx, 0, none⟩) h1).trans ((World.cell?_of_block (a := ⟨bx, 0, none⟩) (hb.block bx hbx)).trans h.st.cbx)
theorem OwnSt2.boxedF {sh d n X B px bx : Nat} {A : Option Addr} {lw cw : Nat} {was : List ByteArray} {pn : ByteArray} {v : Value} {ps : List ByteArray} {w W W' : World} {D : Dk} {o : Obj} (h : OwnSt2 sh d n X B px bx A lw cw was pn v ps w W D) (hg : (W.alloc o).grownBy W' v.ownBlock) : W'.frozen? ⟨bx, 0, none⟩ = false := by
  have hb := below_alloc W o
  have hbx : bx < W.heap.size := cell_lt h.st.cbx
  have h1 := hg.block bx (Nat.lt_of_lt_of_le hbx hb.size) fun e => (h.apart bx e.symm).2.1 rfl
  exact (World.frozen?_of_block (a := ⟨bx, 0, none⟩) h1).trans ((World.frozen?_of_block (a := ⟨bx, 0, none⟩) (hb.block bx hbx)).trans h.st.fz)
theorem ownSt2_start {sh d n X B px bx : Nat} {A : Option Addr} {lw cw : Nat} {was : List ByteArray} {pn : ByteArray} {vp : Value} {ps : List ByteArray} {w wr W : World} {D : Dk} (h : OwnSt sh d n X B px bx pn vp ps w wr D) (hro : RowOf wr.heap.size W (.slice A lw cw) was) (hl : was.length ≤ 900001) (hb : Below wr.heap.size wr W) (hg : ∀ g, vp.ownBlock = some g → g < px) (hx : n ≤ px ∧ px + 1 = bx) : OwnSt2 sh d n X B px bx A lw cw was pn vp ps w W D := by
  have hbx : bx < wr.heap.size := cell_lt h.cbx
  have hA : ∀ b off, A = some ⟨b, off, none⟩ → wr.heap.size ≤ b ∧ b < W.heap.size := fun b off e => by
    rcases hro with ⟨_, e2⟩ | ⟨g, e2, hg, hk⟩
    · injection e2 with e2 _ _
      rw [e] at e2
      cases e2
    · injection e2 with e2 _ _
      rw [e] at e2
      injection e2 with e2
      injection e2 with e2 _ _
      subst e2
      exact ⟨hg, hk.lt⟩
  exact ⟨h.below hb, RowS.new (hro.strs (by omega)) h.sh.dk hb, fun g e => by
    have := hg g e
    refine ⟨by omega, by omega, fun b off ea => ?_⟩
    have := (hA b off ea).1
    omega, fun b off e => ⟨by have := (hA b off e).1; omega, (hA b off e).2⟩, by omega, by omega⟩

def ownedD (D : Dk) (pn : ByteArray) (ps : List ByteArray) : Int × Dk := thenD (own1 pn ps (ownersD D) D) fun D' =>
  if (own2 (pathsD D' pn) ps D').1 = 0 then setD (own2 (pathsD D' pn) ps D').2.1 pn (sortB (own2 (pathsD D' pn) ps D').2.2) else ((own2 (pathsD D' pn) ps D').1, (own2 (pathsD D' pn) ps D').2.1)
/-- done: and what lay below n is as it was, but for the disk -/
def NDone (sh d n : Nat) (r : Int × Dk) (w : World) (E : Ending) (w' : World) : Prop := E = .returned (errV r.1) ∧ ShAt w' sh d r.2 ∧ OffN n d w w'
theorem ndone_err {sh d n : Nat} {e : Int} {D1 : Dk} {r : Int × Dk} {w W : World} (hr : r = (e, D1)) (he : e ≠ 0) (h : ShAt W sh d D1) (ho : OffN n d w W) : NDone sh d n r w (.returned (.iface 33 (.int .i64 e))) W := by
  subst hr
  exact ⟨by rw [errV_n he], h, ho⟩
theorem ndone_ret {sh d n : Nat} {e : Int} {D1 : Dk} {r : Int × Dk} {ev : Value} {w W : World} (hr : r = (e, D1)) (he : errV e = ev) (h : ShAt W sh d D1) (ho : OffN n d w W) : NDone sh d n r w (.returned ev) W := by
  subst hr he
  exact ⟨rfl, h, ho⟩
theorem thenD_go (D : Dk) (k : Dk → Int × Dk) : thenD (0, D) k = k D := if_pos rfl
theorem thenD_err {e : Int} (h : e ≠ 0) (D : Dk) (k : Dk → Int × Dk) : thenD (e, D) k = (e, D) := if_neg h

set_option maxHeartbeats 4000000 in
set_option maxRecDepth 100000 in
theorem owned_calls (sh d n X B : Nat) (D : Dk) (pn pu pr : ByteArray) (pe : Int) (v1 v2 v3 v4 v5 v6 v7 v8 v9 vp : Value) (ps : List ByteArray) (w : World) (hE : EnvD n d w) (h : ShAt w sh d D) (hk : DkOk D) (hf : FitD X D) (hX : X ≤ 800000) (hpn : pn.size ≤ 1000) (hrow : RowD d B w vp ps) (hn : n ≤ B) (hs : sh < B) (hw : n ≤ w.heap.size) (hps : ps.length ≤ 90000) (hpz : (linesT ps).size ≤ 90000) (hBw : B ≤ w.heap.size) :
    Calls Tryz.prog 37 #[.pointer (some ⟨sh, 0, none⟩), .agg #[.string pn, .int .i64 pe, .string pu, .string pr, v1, v2, v3, v4, v5, v6, v7, v8, v9], vp] w (NDone sh d n (ownedD D pn ps) w) := by
  have hst : OwnSt sh d n X B w.heap.size (w.heap.size + 1) pn vp ps w ((w.alloc (.cells #[.string pn, .int .i64 pe, .string pu, .string pr, v1, v2, v3, v4, v5, v6, v7, v8, v9] 43)).alloc (.cells #[vp] 40)) D := by
    have b1 := below_alloc w (.cells #[.string pn, .int .i64 pe, .string pu, .string pr, v1, v2, v3, v4, v5, v6, v7, v8, v9] 43)
    have b2 := below_alloc (w.alloc (.cells #[.string pn, .int .i64 pe, .string pu, .string pr, v1, v2, v3, v4, v5, v6, v7, v8, v9] 43)) (.cells #[vp] 40)
    have bb := step_below b1 b2
    have ho := Off.of_below (d := d) bb h.dk.lt
    refine ⟨h.keep bb, hk, hf, OffN.of ho hw, hE.offN (OffN.of ho hw), hrow.off ho, Nat.le_trans hw bb.size, ?_, ?_, new_not_foot h.dk bb (Nat.le_refl _), new_not_foot h.dk bb (by omega), ?_⟩
    · go_cell
    · go_cell
    · have hk := blk_new 40 (w.alloc (.cells #[.string pn, .int .i64 pe, .string pu, .string pr, v1, v2, v3, v4, v5, v6, v7, v8, v9] 43)) #[vp]
      rw [World.size_alloc] at hk
      exact blk_frz hk
  obtain ⟨Av, cv, rfl, hcv, hmv, -⟩ := (hrow.strs (by omega)).open
  obtain ⟨lps, hlps⟩ : ∃ l, ps.length = l := ⟨_, rfl⟩
  rw [hlps] at hst hrow hps hcv hmv ⊢
  have HLP := Lib.hid hlps
  clear hlps
  have HPS := Lib.hid hps
  have HNW := Lib.hid hw
  have HPZ := Lib.hid hpz
  have HBW := Lib.hid hBw
  have HGP := Lib.hid (show ∀ g, (Value.slice Av lps cv).ownBlock = some g → g < w.heap.size from fun g e => (hrow.base e).2)
  have HX := Lib.hid hX
  have HPN := Lib.hid hpn
  have HNB := Lib.hid hn
  have HSB := Lib.hid hs
  clear hE h hk hf hX hpn hrow hn hs hw hps hBw hpz
  go_enter Tryz.func37, Tryz.ntmps37
  go_wp2_with fail
  obtain ⟨W0, hW0⟩ : ∃ W, (w.alloc (.cells #[.string pn, .int .i64 pe, .string pu, .string pr, v1, v2, v3, v4, v5, v6, v7, v8, v9] 43)).alloc (.cells #[.slice Av lps cv] 40) = W := ⟨_, rfl⟩
  rw [hW0] at hst ⊢
  obtain ⟨px, hpx⟩ : ∃ px, w.heap.size = px := ⟨_, rfl⟩
  obtain ⟨bx, hbx⟩ : ∃ bx, w.heap.size + 1 = bx := ⟨_, rfl⟩
  have HPX := Lib.hid hpx
  have HBX := Lib.hid (show px + 1 = bx by omega)
  (try rw [hbx] at hst ⊢)
  (try rw [hpx] at hst ⊢)
  have HST := Lib.hid hst
  have C1 := Lib.hid (owners_calls sh d D W0 hst.sh hst.ok)
  have HON := Lib.hid (ownersD_size hst.fit)
  have HOL := Lib.hid (ownersD_len hst.ok)
  have HF := Lib.hid (show ownedD D pn ps = thenD (own1 pn ps (ownersD D) D) fun D' => if (own2 (pathsD D' pn) ps D').1 = 0 then setD (own2 (pathsD D' pn) ps D').2.1 pn (sortB (own2 (pathsD D' pn) ps D').2.2) else ((own2 (pathsD D' pn) ps D').1, (own2 (pathsD D' pn) ps D').2.1) from rfl)
  obtain ⟨own, hown⟩ : ∃ own, ownersD D = own := ⟨_, rfl⟩
  rw [hown] at C1 HON HOL HF
  clear hst hW0 hpx hbx hown
  refine C1.out.mono ?_
  rintro E w1 ⟨vo, rfl, hU, hb⟩
  have HSO : Hid (RowS d w1 vo own) := Lib.hid (RowS.new hU HST.out.sh.dk hb)
  have HS1 := Lib.hid (HST.out.below hb)
  obtain ⟨A, cc, rfl, hc, hm, -⟩ := hU.1.open
  obtain ⟨lo, hlo⟩ : ∃ lo, own.length = lo := ⟨_, rfl⟩
  have HLO := Lib.hid hlo
  rw [hlo] at hc hm HSO ⊢
  clear hU hb C1 HST hlo
  go_wp2_with fail
  go_loopw [18] (fun i wr => ∃ (k : Nat) (D' : Dk), k ≤ lo ∧ i = .int .i64 k ∧ Hid (own1 pn ps own D = own1 pn ps (own.drop k) D') ∧ Hid (OwnSt sh d n X B px bx pn (.slice Av lps cv) ps w wr D') ∧ Hid (RowS d wr (.slice A lo cc) own)) (fun i _ => lo - (intOf i).toNat)
  case atStart => exact ⟨0, D, Nat.zero_le _, rfl, Lib.hid rfl, HS1, HSO⟩
  case round =>
    obtain ⟨k, D1, hk, rfl, hof, hst, hso⟩ := hrel
    by_cases hlt : k < lo
    · obtain ⟨x, ht⟩ : ∃ x, own[k]? = some x := ⟨own[k]'(by have := HLO.out; omega), List.getElem?_eq_getElem _⟩
      obtain ⟨b, off, rfl, c0⟩ := hso.out.at ht
      have HT := Lib.hid ht
      have hxs : x.size ≤ 80 := HON.out x (List.mem_of_getElem? ht)
      have CP := Lib.hid (paths_row sh d D1 x wr hst.out.env.env hst.out.sh (hst.out.fit.mono (by have := HX.out; omega)) (by omega))
      have HPL := Lib.hid (paths_few (hst.out.fit.mono (by have := HX.out; omega)) x)
      have HLF : Hid (leftO D1 ps x = (pathsD D1 x).filter fun q => !hasB ps q) := Lib.hid rfl
      have HLL := Lib.hid (lines_left hst.out.fit ps x)
      have HSK := Lib.hid (own1_skip (pn := pn) (ps := ps) (D := D1) ht)
      have HSE := Lib.hid (own1_set (pn := pn) (ps := ps) (D := D1) ht)
      have HFK := Lib.hid (setD_fit hst.out.fit x (leftO D1 ps x) (lines_left hst.out.fit ps x))
      have HOK := Lib.hid (setD_ok hst.out.ok x (leftO D1 ps x))
      obtain ⟨L, hL⟩ : ∃ L, pathsD D1 x = L := ⟨_, rfl⟩
      obtain ⟨lf, hlf⟩ : ∃ lf, leftO D1 ps x = lf := ⟨_, rfl⟩
      obtain ⟨ns, Ds, hsd⟩ : ∃ n' D', setD D1 x lf = (n', D') := ⟨_, _, rfl⟩
      rw [hlf] at HLF HLL HSK HSE HFK HOK
      rw [hL] at CP HPL HLF HSK HSE
      have HLC := Lib.hid (show lf.length ≤ L.length from by rw [HLF.out]; exact List.length_filter_le _ _)
      have HCB := Lib.hid (fun W (hb : Below wr.heap.size wr W) => (⟨(hst.out.below hb).cbx, (hst.out.below hb).row.strs (by have := HPS.out; have := HLP.out; omega)⟩ : W.cell? ⟨bx, 0, none⟩ = some (.slice Av lps cv) ∧ StrsAt W (.slice Av lps cv) ps))
      have HSD := Lib.hid hsd
      have HLQ := Lib.hid hL
      rw [hsd] at HFK HOK
      clear ht hL hlf hsd
      go_wp2_with fail
      refine CP.out.mono ?_
      rintro E w2 ⟨v2, rfl, hro, hb2⟩
      have CD := Lib.hid (delO_any bx (.slice Av lps cv) v2 ps L wr w2 hro hb2 HPL.out HCB.out)
      rw [← HLF.out] at CD
      clear hro hb2 CP HCB
      go_wp2_with fail
      refine CD.out.mono ?_
      rintro E w3 ⟨v3, rfl, hU3, hb3⟩
      have HST3 := Lib.hid (hst.out.below hb3)
      have HSO3 := Lib.hid (hso.out.off (Off.of_below hb3 hst.out.sh.dk.lt))
      have c1 := HST3.out.cpn
      have CP2 := Lib.hid (paths_row sh d D1 x w3 HST3.out.env.env HST3.out.sh (HST3.out.fit.mono (by have := HX.out; omega)) (by omega))
      rw [HLQ.out] at CP2
      obtain ⟨A3, k3, rfl, hc3, hm3, -⟩ := hU3.1.open
      have HU3 := Lib.hid hU3
      obtain ⟨b1, hb1⟩ : ∃ b1, decide (x = pn) = b1 := ⟨_, rfl⟩
      have hq : (x.toList == pn.toList) = b1 := by rw [← hb1]; exact name_eq x pn
      have HB1 := Lib.hid hb1
      clear hU3 hb3 CD c0 hst hso hb1
      cases b1
      · have HNE : Hid (x ≠ pn) := Lib.hid (of_decide_eq_false HB1.out)
        have HL9 := HPL.out
        obtain ⟨ll, hll⟩ : ∃ l, lf.length = l := ⟨_, rfl⟩
        obtain ⟨lL, hlL⟩ : ∃ l, L.length = l := ⟨_, rfl⟩
        have HLL2 := Lib.hid hll
        have HLL3 := Lib.hid hlL
        have hll9 : ll ≤ lL := by rw [← hll, ← hlL]; exact HLC.out
        rw [hlL] at HL9
        (try rw [hll] at hc3 hm3)
        (try rw [hll])
        clear hlL
        go_wp2_with fail
        refine CP2.out.mono ?_
        rintro E w4 ⟨vq, rfl, hro4, hb4⟩
        have HST4 := Lib.hid (HST3.out.below hb4)
        have HSO4 := Lib.hid (HSO3.out.off (Off.of_below hb4 HST3.out.sh.dk.lt))
        have HU4 := Lib.hid (HU3.out.below hb4)
        obtain ⟨A4, k4, hv4, hc4, hm4, -⟩ := (hro4.strs (by have := HLL3.out; omega)).1.open
        subst hv4
        rw [HLL3.out] at hc4 hm4 ⊢
        clear hro4 hb4 CP2 HST3 HSO3 HU3 c1
        by_cases he : ll = lL
        · have HK2 := Lib.hid (hof.out.trans (HSK.out (.inr (by have h1 := HLL2.out; have h2 := HLL3.out; omega))))
          subst he
          go_wp2_with fail
          go_roundw
          case rel => exact ⟨k + 1, D1, by omega, by go_num, HK2, HST4, HSO4⟩
          case measure => simp [intOf]; omega
        · have hne : ¬ ((ll : Int) = (lL : Int)) := by omega
          have HSN := Lib.hid (hof.out.trans (HSE.out HNE.out (by have h1 := HLL2.out; have h2 := HLL3.out; omega)))
          have CS := Lib.hid (set_calls sh d D1 x _ lf w4 HST4.out.sh HST4.out.ok (by omega) HU4.out.1 (by have := HLL.out; have := HX.out; omega) (by have := HLL2.out; omega))
          unfold SDone at CS
          rw [HSD.out] at CS
          rw [HSD.out] at HSN
          rw [HLL2.out] at CS
          clear he HSE HSK HU4
          go_wp2_with fail
          refine CS.out.mono ?_
          rintro E w5 ⟨rfl, h5, ho⟩
          have HST5 := Lib.hid (HST4.out.go ho h5 HOK.out HFK.out)
          have HSO5 := Lib.hid (HSO4.out.off ho)
          clear h5 ho CS HST4 HSO4
          by_cases hns : ns = 0
          · subst hns
            rw [errV_0]
            have HK2 := Lib.hid (HSN.out.trans (thenD_go _ _))
            go_wp2_with fail
            go_roundw
            case rel => exact ⟨k + 1, Ds, by omega, by go_num, HK2, HST5, HSO5⟩
            case measure => simp [intOf]; omega
          · rw [errV_n hns]
            have HK2 := Lib.hid (HSN.out.trans (thenD_err hns _ _))
            have HNN := Lib.hid hns
            clear hns
            go_wp2_with fail
            go_ret
            exact ndone_err (by rw [HF.out, HK2.out]; exact thenD_err HNN.out _ _) HNN.out HST5.out.sh HST5.out.off
      · have HK2 := Lib.hid (hof.out.trans (HSK.out (.inl (of_decide_eq_true HB1.out))))
        go_wp2_with fail
        go_roundw
        case rel => exact ⟨k + 1, D1, by omega, by go_num, HK2, HST3, HSO3⟩
        case measure => simp [intOf]; omega
    · obtain rfl : k = lo := by omega
      have HZ1 : Hid (own1 pn ps own D = (0, D1)) := Lib.hid (hof.out.trans (own1_end (by have := HLO.out; omega)))
      have HFX : Hid (FitD 900000 D1) := Lib.hid (hst.out.fit.mono (by have := HX.out; omega))
      have CP := Lib.hid (paths_row sh d D1 pn wr hst.out.env.env hst.out.sh (HFX.out.mono (by omega)) HPN.out)
      have c1 := hst.out.cpn
      have HPL := Lib.hid (paths_few HFX.out pn)
      have HSZ := Lib.hid (pathsD_size HFX.out pn)
      have HLN := Lib.hid (lines_paths hst.out.fit pn)
      have HF2 : Hid (ownedD D pn ps = if (own2 (pathsD D1 pn) ps D1).1 = 0 then setD (own2 (pathsD D1 pn) ps D1).2.1 pn (sortB (own2 (pathsD D1 pn) ps D1).2.2) else ((own2 (pathsD D1 pn) ps D1).1, (own2 (pathsD D1 pn) ps D1).2.1)) := Lib.hid (HF.out.trans (by rw [HZ1.out]; exact thenD_go _ _))
      have HSUB := Lib.hid (own2_sub (pathsD D1 pn) ps D1)
      obtain ⟨was, hwas⟩ : ∃ x, pathsD D1 pn = x := ⟨_, rfl⟩
      rw [hwas] at CP HPL HSZ HF2 HLN HSUB
      clear hwas HF HZ1 hso
      go_wp2_with fail
      refine CP.out.mono ?_
      rintro E w2 ⟨vq, rfl, hro, hb⟩
      obtain ⟨A2, c2, rfl, hc2, hm2, -⟩ := (hro.strs (by have := HPL.out; omega)).1.open
      have HSS := Lib.hid (ownSt2_start hst.out hro HPL.out hb (by rw [← HPX.out]; exact HGP.out) (by have := HPX.out; have := HBX.out; have := HNW.out; omega))
      have hPL := HPL.out
      obtain ⟨lw, hlw⟩ : ∃ l, was.length = l := ⟨_, rfl⟩
      have HLW := Lib.hid hlw
      rw [hlw] at HSS hc2 hm2 hPL ⊢
      clear hro hb CP hst c1 hlw hc hm
      obtain ⟨i0, hi, hz0, hz1, hz2⟩ := info_parts info_str
      have HLP2 := HPS.out
      go_wp2_with fail
      go_loopw [54] (fun i wr => ∃ (k : Nat) (v' : Value) (ps' : List ByteArray) (D' : Dk), k ≤ lw ∧ i = .int .i64 k ∧ Hid (own2 was ps D1 = own2 (was.drop k) ps' D') ∧ Hid (ps'.length ≤ lps + k) ∧ Hid (OwnSt2 sh d n X B px bx A2 lw c2 was pn v' ps' w wr D')) (fun i _ => lw - (intOf i).toNat)
      case atStart => exact ⟨0, _, ps, D1, Nat.zero_le _, rfl, Lib.hid rfl, Lib.hid (by have := HLP.out; omega), HSS⟩
      case round =>
        obtain ⟨k2, v', ps2, D2, hk2, rfl, ho2, hl2, hst2⟩ := hrel
        have hl9 : ps2.length ≤ 1900000 := by have := hl2.out; omega
        have c1 := hst2.out.st.cbx
        by_cases hlt2 : k2 < lw
        · obtain ⟨x, ht⟩ : ∃ x, was[k2]? = some x := ⟨was[k2]'(by have := HLW.out; omega), List.getElem?_eq_getElem _⟩
          obtain ⟨b, off, rfl, c0⟩ := hst2.out.was.at ht
          have HT := Lib.hid ht
          have hxs : x.size ≤ 900000 := HSZ.out x (List.mem_of_getElem? ht)
          have z1 : ¬ 9223372036854775807 < 2 + x.size := by omega
          have hz3 : (spP ++ x).size ≤ 1000000 := by rw [cat_size]; show 2 + _ ≤ _; omega
          have hz4 : (thP ++ x).size ≤ 1000000 := by rw [cat_size]; show 2 + _ ≤ _; omega
          have CH := Lib.hid (hasStr_calls v' ps2 x wr (hst2.out.st.row.strs (by omega)))
          have CG := Lib.hid (shget_calls sh d D2 (spP ++ x) wr hst2.out.st.sh hz3)
          have C1 := Lib.hid (fun (W : World) (hs : ShAt W sh d D2) => gone_calls sh d D2 (thP ++ x) W hs hst2.out.st.ok hz4)
          obtain ⟨n1, D3, hr1⟩ : ∃ n' D', goneD D2 (thP ++ x) = (n', D') := ⟨_, _, rfl⟩
          have HOK : Hid (DkOk D3) := Lib.hid (by have := goneD_ok hst2.out.st.ok (thP ++ x); rwa [hr1] at this)
          have HFI : Hid (FitD X D3) := Lib.hid (by have := goneD_fit hst2.out.st.fit (thP ++ x); rwa [hr1] at this)
          unfold SDone at C1
          rw [hr1] at C1
          simp only at C1
          have HR1 := Lib.hid hr1
          obtain ⟨b1, hb1⟩ : ∃ b1, hasB ps2 x = b1 := ⟨_, rfl⟩
          rw [hb1] at CH
          have HB1 := Lib.hid hb1
          have HNS : Hid (noSet D2 x = (getF D2.now (spP ++ x)).isNone) := Lib.hid rfl
          obtain ⟨o, hoo⟩ : ∃ o, getF D2.now (spP ++ x) = o := ⟨_, rfl⟩
          rw [hoo] at CG HNS
          unfold spP at CG
          unfold thP at C1
          clear ht hr1 hb1 hoo hz3 hz4
          go_wp2_with fail
          refine CH.out.mono ?_
          rintro E wz ⟨rfl, rfl⟩
          cases b1
          · go_wp2_with fail
            refine CG.out.mono ?_
            rintro E w3 ⟨pv, rfl, hp, hb⟩
            have HST3 := Lib.hid (hst2.out.below hb)
            have c2' := HST3.out.st.cbx
            clear hb CG CH c0 c1 hst2
            cases o with
            | none =>
              obtain rfl : pv = .pointer none := hp
              go_wp2_with fail
              refine (C1.out _ HST3.out.st.sh).mono ?_
              rintro E w4 ⟨rfl, h4, ho⟩
              have HST4 := Lib.hid (HST3.out.go ho h4 HOK.out HFI.out)
              clear h4 ho C1 HST3 c2'
              by_cases hn1 : n1 = 0
              · subst hn1
                rw [errV_0]
                have HK2 := Lib.hid (ho2.out.trans (own2_go HT.out HB1.out HNS.out HR1.out))
                go_wp2_with fail
                go_roundw
                case rel => exact ⟨k2 + 1, v', ps2, D3, by omega, by go_num, HK2, Lib.hid (by have := hl2.out; omega), HST4⟩
                case measure => simp [intOf]; omega
              · rw [errV_n hn1]
                have HK2 := Lib.hid (ho2.out.trans (own2_err HT.out HB1.out HNS.out HR1.out hn1))
                have HNN := Lib.hid hn1
                clear hn1
                go_wp2_with fail
                go_ret
                exact ndone_err (by rw [HF2.out, HK2.out, if_neg HNN.out]) HNN.out HST4.out.st.sh HST4.out.st.off
            | some s =>
              obtain ⟨gp, rfl, -, -⟩ := hp
              have own2 := HST3.out.st.row.1
              have hw12 : B ≤ w3.heap.size := Nat.le_trans HBW.out HST3.out.st.off.size
              have HK2 := Lib.hid (ho2.out.trans (own2_app HT.out HB1.out HNS.out))
              clear C1
              go_wp2_with (at_builtin; refine wpList_append_own_at _ rfl _ _ 40 rfl B 9 i0 (.string ⟨#[]⟩) 1 16 Tryz.underlying40 hi hz0 hz1 hz2 rfl (by decide) _ _ _ rfl (own2.alloc _) ⟨w3.heap.size, 0, none⟩ 1 1 [.string x] rfl rfl (cell_one_new _ _ _) (by simp [Value.oneCell']) (by simp only [maxLen]; omega) (by omega) (by simp; omega) ?_; intro v5 w5 hown3 hgrow hnil hloc; obtain ⟨A5, n5, c5, rfl⟩ := own_slice9 hown3; have c9 := HST3.out.boxed hgrow; have f9 := HST3.out.boxedF hgrow; have HAP := Lib.hid (HST3.out.app HSB.out HNB.out hown3 hgrow hloc (grownBy_setCell' w5 bx (.slice A5 n5 c5)) (box_set c9) (box_frz f9)); clear hown3 hgrow hnil hloc own2 c2')
              go_roundw
              case rel => exact ⟨k2 + 1, _, ps2 ++ [x], D2, by omega, by go_num, HK2, Lib.hid (by rw [List.length_append, List.length_singleton]; have := hl2.out; omega), HAP⟩
              case measure => simp [intOf]; omega
          · have HK2 := Lib.hid (ho2.out.trans (own2_has (D := D2) HT.out HB1.out))
            go_wp2_with fail
            go_roundw
            case rel => exact ⟨k2 + 1, v', ps2, D2, by omega, by go_num, HK2, Lib.hid (by have := hl2.out; omega), hst2⟩
            case measure => simp [intOf]; omega
        · obtain rfl : k2 = lw := by omega
          have HE2 : Hid (own2 was ps D1 = (0, D2, ps2)) := Lib.hid (ho2.out.trans (own2_end (by have := HLW.out; omega)))
          have HL3 : Hid ((linesT (sortB ps2)).size ≤ 1000000) := Lib.hid (by
            obtain ⟨K, h1, h2⟩ := HSUB.out
            rw [HE2.out] at h2
            have h2' : ps2 = ps ++ K := h2
            have h3 := lines_app ps K
            have h4 := lines_sub h1
            have h5 := HLN.out
            have h6 := HPZ.out
            have h7 := HX.out
            rw [lines_sort, h2']
            omega)
          have HF3 : Hid (ownedD D pn ps = setD D2 pn (sortB ps2)) := Lib.hid (HF2.out.trans (by rw [HE2.out]; exact if_pos rfl))
          have CS := Lib.hid (sort_row d B v' ps2 wr hst2.out.st.row (by omega))
          have HGR := Lib.hid (fun W' (hg : wr.grownBy W' v'.ownBlock) => hst2.out.grown hg HSB.out HNB.out)
          obtain ⟨A', n', c', hv'⟩ := hst2.out.st.row.slice
          have HL4 : Hid ((sortB ps2).length ≤ 1000000) := Lib.hid (by rw [sortB_len]; have := hl2.out; omega)
          have HOK2 := Lib.hid hst2.out.st.ok
          have HNX := Lib.hid (show n ≤ wr.heap.size from hst2.out.st.nw)
          subst hv'
          clear HF2 HSUB HLN HSZ ho2 hst2
          go_wp2_with fail
          refine CS.out.mono ?_
          rintro E w3 ⟨rfl, hst3, hgr⟩
          obtain ⟨hsh3, hoff3, c3, c4⟩ := HGR.out w3 hgr
          have C3 := Lib.hid (set_calls sh d D2 pn _ (sortB ps2) w3 hsh3 HOK2.out HPN.out hst3 HL3.out HL4.out)
          have HO3 := Lib.hid hoff3
          have HN3 := Lib.hid (Nat.le_trans HNX.out hgr.size)
          unfold SDone at C3
          obtain ⟨n2, D4, hr2⟩ : ∃ n' D', setD D2 pn (sortB ps2) = (n', D') := ⟨_, _, rfl⟩
          rw [hr2] at C3 HF3
          simp only at C3
          clear hsh3 hoff3 hst3 hgr hr2 c1 CS HGR
          go_wp2_with fail
          refine C3.out.mono ?_
          rintro E w5 ⟨rfl, h5, ho⟩
          have H5 := Lib.hid h5
          have HO5 := Lib.hid (HO3.out.go ho HN3.out)
          clear h5 ho C3
          obtain ⟨ev, hev⟩ : ∃ ev, errV n2 = ev := ⟨_, rfl⟩
          rw [hev]
          have HEV := Lib.hid hev
          clear hev
          go_wp2_with fail
          go_ret
          exact ndone_ret HF3.out HEV.out H5.out HO5.out
end Go.Proofs.YtofogjfemlhffaaGreatDoor

/- record.Read: the boxes: of the package that is filled, and of the result. · The package that is read is short enough to be read again. -/
import Derived.Test.YtodbbfgkclkpgaaGreatDoorRK32
import Derived.Test.YtodbbfgkclkpgaaGreatDoorRK23
import Derived.Test.YtodbbfgkclkpgaaGreatDoorRK25
namespace Go.Proofs.YtodbbfgkclkpgaaGreatDoor
open Go Go.RowKit

def zeros : Array Value := #[.string ⟨#[]⟩, .int .i64 0, .string ⟨#[]⟩, .string ⟨#[]⟩, .slice none 0 0, .slice none 0 0, .slice none 0 0, .slice none 0 0, .slice none 0 0, .slice none 0 0, .slice none 0 0, .slice none 0 0, .slice none 0 0]
/-- the whole block of a package -/
def PkBlk (W : World) (b : Nat) (cs : Array Value) : Prop := W.heap[b]? = some (.cells cs 29 (0, 0))
theorem PkBlk.keep {b : Nat} {cs : Array Value} {W W' : World} (h : PkBlk W b cs) (hb : Below W.heap.size W W') : PkBlk W' b cs := (hb.block b (Array.getElem?_eq_some_iff.1 h).1).trans h
theorem PkBlk.lt {b : Nat} {cs : Array Value} {W : World} (h : PkBlk W b cs) : b < W.heap.size := (Array.getElem?_eq_some_iff.1 h).1
theorem PkBlk.cell {b : Nat} {cs : Array Value} {W : World} (h : PkBlk W b cs) {i : Nat} {v : Value} (hv : cs[i]? = some v) : W.cell? ⟨b, i, none⟩ = some v := by
  unfold World.cell?
  rw [show W.heap[b]? = _ from h]
  exact hv
theorem PkBlk.frozen {b : Nat} {cs : Array Value} {W : World} (h : PkBlk W b cs) : ∀ i, W.frozen? ⟨b, i, none⟩ = false := fun i => by
  unfold World.frozen?
  rw [show W.heap[b]? = _ from h]
  rfl
theorem PkBlk.set {b : Nat} {cs : Array Value} {W : World} (h : PkBlk W b cs) (i : Nat) (v : Value) : PkBlk (W.setCell ⟨b, i, none⟩ v) b (cs.setIfInBounds i v) := by
  unfold PkBlk World.setCell at *
  dsimp only
  rw [Array.getElem?_modify, if_pos rfl, h]
  rfl
theorem PkBlk.other {b c : Nat} {cs : Array Value} {W : World} (h : PkBlk W b cs) (hne : c ≠ b) (i : Nat) (v : Value) : PkBlk (W.setCell ⟨c, i, none⟩ v) b cs := by
  unfold PkBlk World.setCell at *
  dsimp only
  rw [Array.getElem?_modify, if_neg hne]
  exact h
theorem pk_new (w : World) (cs : Array Value) : PkBlk (w.alloc (.cells cs 29)) w.heap.size cs := heap_alloc_new w _
def cells13 (q : Pv) (v1 v2 v3 v4 v5 v6 v7 v8 : Value) : Array Value := #[.string q.n, .int .i64 q.e, .string q.u, .string q.r, v1, v2, v3, v4, v5, v6, v7, v8, .slice none 0 0]
theorem PkBlk.box {W : World} {b : Nat} {q : Pv} {v1 v2 v3 v4 v5 v6 v7 v8 : Value} (h : PkBlk W b (cells13 q v1 v2 v3 v4 v5 v6 v7 v8)) : PackBox W b q v1 v2 v3 v4 v5 v6 v7 v8 (.slice none 0 0) :=
  ⟨h.cell rfl, h.cell rfl, h.cell rfl, h.cell rfl, h.cell rfl, h.cell rfl, h.cell rfl, h.cell rfl, h.cell rfl, h.cell rfl, h.cell rfl, h.cell rfl, h.cell rfl⟩

theorem AskedIn.up {B B' : Nat} {W : World} {v : Value} {L : List (List Tv)} (h : AskedIn B' W v L) (hB : B ≤ B') : AskedIn B W v L :=
  ⟨h.1, fun b off n c hv hn => ⟨Nat.le_trans hB (h.2 b off n c hv hn).1, fun i x hx b' off' n' c' hc hnx => Nat.le_trans hB ((h.2 b off n c hv hn).2 i x hx b' off' n' c' hc hnx)⟩⟩
theorem TermsFrom.up {B B' : Nat} {W : World} {v : Value} {ts : List Tv} (h : TermsFrom B' W v ts) (hB : B ≤ B') : TermsFrom B W v ts := ⟨h.1, fun b off n c hv => Nat.le_trans hB (h.2 b off n c hv)⟩
theorem StrsFrom.up {B B' : Nat} {W : World} {v : Value} {ss : List ByteArray} (h : StrsFrom B' W v ss) (hB : B ≤ B') : StrsFrom B W v ss := ⟨h.1, fun b off n c hv => Nat.le_trans hB (h.2 b off n c hv)⟩
/-- the values that the package reads as lie in blocks from B on -/
structure RdVals (B : Nat) (W : World) (q : Pv) (v1 v2 v3 v4 v5 v6 v7 v8 : Value) : Prop where
  d : AskedIn B W v1 q.dep
  a : AskedIn B W v2 q.ahead
  g : TermsFrom B W v3 q.ag
  b : TermsFrom B W v4 q.br
  r : TermsFrom B W v5 q.re
  p : TermsFrom B W v6 q.pr
  s : StrsFrom B W v7 q.se
  l : StrsFrom B W v8 q.li
  f : q.fi = []
theorem RdVals.keep {B : Nat} {W W' : World} {q : Pv} {v1 v2 v3 v4 v5 v6 v7 v8 : Value} (h : RdVals B W q v1 v2 v3 v4 v5 v6 v7 v8) (k : FromAs B W W') : RdVals B W' q v1 v2 v3 v4 v5 v6 v7 v8 :=
  ⟨h.d.keep k, h.a.keep k, h.g.keep k, h.b.keep k, h.r.keep k, h.p.keep k, h.s.keep k, h.l.keep k, h.f⟩
theorem RdVals.low {B B' : Nat} {W : World} {q : Pv} {v1 v2 v3 v4 v5 v6 v7 v8 : Value} (h : RdVals B' W q v1 v2 v3 v4 v5 v6 v7 v8) (hB : B ≤ B') : RdVals B W q v1 v2 v3 v4 v5 v6 v7 v8 :=
  ⟨h.d.up hB, h.a.up hB, h.g.up hB, h.b.up hB, h.r.up hB, h.p.up hB, h.s.up hB, h.l.up hB, h.f⟩
/-- a package without files whose values lie in blocks from B on -/
def PackFr (B : Nat) (W : World) (v : Value) (q : Pv) : Prop := ∃ v1 v2 v3 v4 v5 v6 v7 v8 : Value, v = .agg (cells13 q v1 v2 v3 v4 v5 v6 v7 v8) ∧ RdVals B W q v1 v2 v3 v4 v5 v6 v7 v8
theorem PackFr.keep {B : Nat} {W W' : World} {v : Value} {q : Pv} (h : PackFr B W v q) (k : FromAs B W W') : PackFr B W' v q := by
  obtain ⟨v1, v2, v3, v4, v5, v6, v7, v8, hv, hr⟩ := h
  exact ⟨v1, v2, v3, v4, v5, v6, v7, v8, hv, hr.keep k⟩
theorem packFr_zero (B : Nat) (W : World) : PackFr B W (.agg zeros) pack0 :=
  ⟨.slice none 0 0, .slice none 0 0, .slice none 0 0, .slice none 0 0, .slice none 0 0, .slice none 0 0, .slice none 0 0, .slice none 0 0, rfl, ⟨askedIn_nil _ _ _, askedIn_nil _ _ _, termsFrom_nil _ _ _, termsFrom_nil _ _ _, termsFrom_nil _ _ _, termsFrom_nil _ _ _, strsFrom_nil _ _ _, strsFrom_nil _ _ _, rfl⟩⟩
def ReadIs (fs : List Fv) (w : World) (E : Ending) (w' : World) : Prop := ∃ v', E = .returned (.tuple #[v', errV (rdE fs)]) ∧ PackAt w' v' (rdV fs) ∧ Below w.heap.size w w' ∧ PackFr w.heap.size w' v' (rdV fs)
/-- the state: the result's box b, the package's box b + 1 -/
structure RdSt (w : World) (b : Nat) (q : Pv) (v1 v2 v3 v4 v5 v6 v7 v8 : Value) (W : World) : Prop where
  z : PkBlk W b zeros
  k : PkBlk W (b + 1) (cells13 q v1 v2 v3 v4 v5 v6 v7 v8)
  v : RdVals (b + 2) W q v1 v2 v3 v4 v5 v6 v7 v8
  low : w.heap.size ≤ b
  w : Below w.heap.size w W
theorem RdSt.below {w W W' : World} {b : Nat} {q : Pv} {v1 v2 v3 v4 v5 v6 v7 v8 : Value} (h : RdSt w b q v1 v2 v3 v4 v5 v6 v7 v8 W) (hb : Below W.heap.size W W') : RdSt w b q v1 v2 v3 v4 v5 v6 v7 v8 W' :=
  ⟨h.z.keep hb, h.k.keep hb, h.v.keep (FromAs.of_below hb), h.low, step_below h.w hb⟩
theorem RdSt.start (w : World) : RdSt w w.heap.size pack0 (.slice none 0 0) (.slice none 0 0) (.slice none 0 0) (.slice none 0 0) (.slice none 0 0) (.slice none 0 0) (.slice none 0 0) (.slice none 0 0) ((w.alloc (.cells zeros 29)).alloc (.cells zeros 29)) :=
  ⟨(pk_new w zeros).keep (below_alloc _ _), by have := pk_new (w.alloc (.cells zeros 29)) zeros; rwa [World.size_alloc] at this,
    ⟨askedIn_nil _ _ _, askedIn_nil _ _ _, termsFrom_nil _ _ _, termsFrom_nil _ _ _, termsFrom_nil _ _ _, termsFrom_nil _ _ _, strsFrom_nil _ _ _, strsFrom_nil _ _ _, rfl⟩, Nat.le_refl _, step_below (below_alloc _ _) (below_alloc _ _)⟩
/-- a store into the package's box -/
theorem RdSt.put {w W : World} {b i : Nat} {q q' : Pv} {v1 v2 v3 v4 v5 v6 v7 v8 u1 u2 u3 u4 u5 u6 u7 u8 : Value} (h : RdSt w b q v1 v2 v3 v4 v5 v6 v7 v8 W) (x : Value)
    (hc : (cells13 q v1 v2 v3 v4 v5 v6 v7 v8).setIfInBounds i x = cells13 q' u1 u2 u3 u4 u5 u6 u7 u8) (hv : RdVals (b + 2) W q' u1 u2 u3 u4 u5 u6 u7 u8) : RdSt w b q' u1 u2 u3 u4 u5 u6 u7 u8 (W.setCell ⟨b + 1, i, none⟩ x) :=
  ⟨h.z.other (by omega) i x, by have := h.k.set i x; rwa [hc] at this, hv.keep (fromAs_set W (b + 1) i x), h.low, h.w.setCell (p := ⟨b + 1, i, none⟩) (Nat.le_trans h.low (Nat.le_succ b)) x⟩

theorem below_set13 {n : Nat} {w0 W : World} {b : Nat} (hb : Below n w0 W) (h : n ≤ b) (v0 v1 v2 v3 v4 v5 v6 v7 v8 v9 va vb vc : Value) :
    Below n w0 (((((((((((((W.setCell ⟨b, 0, none⟩ v0).setCell ⟨b, 1, none⟩ v1).setCell ⟨b, 2, none⟩ v2).setCell ⟨b, 3, none⟩ v3).setCell ⟨b, 4, none⟩ v4).setCell ⟨b, 5, none⟩ v5).setCell ⟨b, 6, none⟩ v6).setCell ⟨b, 7, none⟩ v7).setCell ⟨b, 8, none⟩ v8).setCell ⟨b, 9, none⟩ v9).setCell ⟨b, 10, none⟩ va).setCell ⟨b, 11, none⟩ vb).setCell ⟨b, 12, none⟩ vc) :=
  ((((((((((((hb.setCell (p := ⟨b, 0, none⟩) h v0).setCell (p := ⟨b, 1, none⟩) h v1).setCell (p := ⟨b, 2, none⟩) h v2).setCell (p := ⟨b, 3, none⟩) h v3).setCell (p := ⟨b, 4, none⟩) h v4).setCell (p := ⟨b, 5, none⟩) h v5).setCell (p := ⟨b, 6, none⟩) h v6).setCell (p := ⟨b, 7, none⟩) h v7).setCell (p := ⟨b, 8, none⟩) h v8).setCell (p := ⟨b, 9, none⟩) h v9).setCell (p := ⟨b, 10, none⟩) h va).setCell (p := ⟨b, 11, none⟩) h vb).setCell (p := ⟨b, 12, none⟩) h vc
theorem FromAs.trans_set {B b i : Nat} {W W' : World} {v : Value} (h : FromAs B W W') (hs : W'.heap.size = W.heap.size) (hb : b < B) : FromAs B W (W'.setCell ⟨b, i, none⟩ v) := fun j hj hl => by
  rw [fromAs_set W' b i v j (by omega) (by omega)]
  exact h j hj hl
theorem fromAs_set13 {W : World} {b B : Nat} (h : b < B) (v0 v1 v2 v3 v4 v5 v6 v7 v8 v9 va vb vc : Value) :
    FromAs B W (((((((((((((W.setCell ⟨b, 0, none⟩ v0).setCell ⟨b, 1, none⟩ v1).setCell ⟨b, 2, none⟩ v2).setCell ⟨b, 3, none⟩ v3).setCell ⟨b, 4, none⟩ v4).setCell ⟨b, 5, none⟩ v5).setCell ⟨b, 6, none⟩ v6).setCell ⟨b, 7, none⟩ v7).setCell ⟨b, 8, none⟩ v8).setCell ⟨b, 9, none⟩ v9).setCell ⟨b, 10, none⟩ va).setCell ⟨b, 11, none⟩ vb).setCell ⟨b, 12, none⟩ vc) :=
  ((((((((((((FromAs.trans_set (fun _ _ _ => rfl) rfl h).trans_set (by simp) h).trans_set (by simp) h).trans_set (by simp) h).trans_set (by simp) h).trans_set (by simp) h).trans_set (by simp) h).trans_set (by simp) h).trans_set (by simp) h).trans_set (by simp) h).trans_set (by simp) h).trans_set (by simp) h).trans_set (by simp) h
theorem pack0_at (W : World) : PackAt W (.agg zeros) pack0 :=
  ⟨_, _, _, _, _, _, _, _, _, rfl, (askedIn_nil 0 W 0).1, (askedIn_nil 0 W 0).1, (termsFrom_nil 0 W 0).1, (termsFrom_nil 0 W 0).1, (termsFrom_nil 0 W 0).1, (termsFrom_nil 0 W 0).1, SlC.nil _ _ _, SlC.nil _ _ _, SlC.nil _ _ _, by decide, by decide⟩
theorem readIs_err {fs : List Fv} {w W : World} {n : Int} (h : rdE fs = n ∧ rdV fs = pack0) (hb : Below w.heap.size w W) : ReadIs fs w (.returned (.tuple #[.agg zeros, errV n])) W :=
  ⟨_, by rw [h.1], by rw [h.2]; exact pack0_at W, hb, by rw [h.2]; exact packFr_zero _ W⟩
theorem PackFr.at {B : Nat} {W : World} {v : Value} {q : Pv} (h : PackFr B W v q) (h0 : -9223372036854775808 ≤ q.e) (h1 : q.e ≤ 9223372036854775807) : PackAt W v q := by
  obtain ⟨v1, v2, v3, v4, v5, v6, v7, v8, rfl, hr⟩ := h
  exact ⟨v1, v2, v3, v4, v5, v6, v7, v8, .slice none 0 0, rfl, hr.d.1, hr.a.1, hr.g.1, hr.b.1, hr.r.1, hr.p.1, hr.s.1, hr.l.1, by rw [hr.f]; exact SlC.nil _ _ _, h0, h1⟩
theorem packAt_of {B : Nat} {W : World} {q : Pv} {v1 v2 v3 v4 v5 v6 v7 v8 : Value} (h : RdVals B W q v1 v2 v3 v4 v5 v6 v7 v8) (h0 : -9223372036854775808 ≤ q.e) (h1 : q.e ≤ 9223372036854775807) : PackAt W (.agg (cells13 q v1 v2 v3 v4 v5 v6 v7 v8)) q :=
  ⟨v1, v2, v3, v4, v5, v6, v7, v8, .slice none 0 0, rfl, h.d.1, h.a.1, h.g.1, h.b.1, h.r.1, h.p.1, h.s.1, h.l.1, by rw [h.f]; exact SlC.nil _ _ _, h0, h1⟩
end Go.Proofs.YtodbbfgkclkpgaaGreatDoor

namespace Go.Proofs.YtodbbfgkclkpgaaGreatDoor
open Go Go.RowKit

theorem tm_tvOf (t : VP.Tm) : (tvOf t).tm = t := by
  obtain ⟨n, op, e, u, r⟩ := t
  rfl
theorem tmL_tv (M : List (List VP.Tm)) : tmL (M.map fun x => x.map tvOf) = M := by
  unfold tmL
  rw [List.map_map]
  conv => rhs; rw [← List.map_id M]
  refine List.map_congr_left fun x _ => ?_
  show (x.map tvOf).map Tv.tm = x
  rw [List.map_map]
  conv => rhs; rw [← List.map_id x]
  exact List.map_congr_left fun t _ => tm_tvOf t
theorem readT_fit {s : ByteArray} {L : List (List Tv)} (h : readT s = .ok L) : (∀ x ∈ L, ∀ t ∈ x, t.small) ∧ ∀ x ∈ L, x.length ≤ 1000 := by
  unfold readT at h
  cases hM : VP.termsP s.data.toList with
  | error e => rw [hM] at h; cases h
  | ok M =>
    rw [hM] at h
    injection h with h
    have hA := VP.termsP_asked hM
    rw [← tmL_tv M, h] at hA
    have ha := (VP.askedP_iff _).2 hA
    obtain ⟨_, hx⟩ := asked_sizes ha
    refine ⟨fun x hxm t ht => small_right rfl ((hx x hxm).2 t ht), fun x hxm => ?_⟩
    have := (hx x hxm).1
    omega
theorem readS_fit {s : ByteArray} {ts : List Tv} (h : readS s = .ok ts) : (∀ t ∈ ts, t.small) ∧ ts.length ≤ 1000 := by
  unfold readS VP.listP at h
  cases hM : VP.termsP s.data.toList with
  | error e => rw [hM] at h; cases h
  | ok M =>
    rw [hM] at h
    dsimp only at h
    by_cases hall : (M.all fun x => decide (x.length ≤ 1)) = true
    · rw [if_pos hall] at h
      injection h with h
      have hA := VP.termsP_asked hM
      have hR := readL (L := M.map fun x => x.map tvOf) (by rw [tmL_tv]; exact hM)
      have ha := (VP.askedP_iff _).2 (show VP.AskedP (tmL (M.map fun x => x.map tvOf)) by rw [tmL_tv]; exact hA)
      obtain ⟨_, hx⟩ := asked_sizes ha
      have e : ts = (M.map fun x => x.map tvOf).flatten := by rw [← h, List.map_flatten]
      subst e
      refine ⟨fun t ht => ?_, by have := hR.sum; omega⟩
      obtain ⟨x, hxm, htx⟩ := List.mem_flatten.1 ht
      exact small_right rfl ((hx x hxm).2 t htx)
    · rw [if_neg hall] at h
      cases h
theorem rdTo_succ {fs : List Fv} {p q : Pv} {k : Nat} (h : rdTo fs p (k + 1) = .ok q) : ∃ q', rdTo fs p k = .ok q' ∧ rdK fs q' k = .ok q := by
  cases hk : rdTo fs p k with
  | error e =>
    have : rdTo fs p (k + 1) = .error e := rdTo_error hk (k + 1) (by omega)
    rw [this] at h; cases h
  | ok q' =>
    refine ⟨q', rfl, ?_⟩
    unfold rdTo at h
    rw [hk] at h
    exact h
theorem map_ok {α : Type} {x : Except Int α} {f : α → Pv} {q : Pv} (h : x.map f = .ok q) : ∃ L, x = .ok L ∧ q = f L := by
  cases x with
  | error e => cases h
  | ok L => exact ⟨L, rfl, by injection h with h; exact h.symm⟩
/-- what was read, all in all -/
theorem six_read {fs : List Fv} {p q : Pv} (h : rdTo fs p 6 = .ok q) : ∃ d a g b r o, readT (sayF fs nDepends) = .ok d ∧ readT (sayF fs nPre) = .ok a ∧ readS (sayF fs nConflicts) = .ok g ∧ readS (sayF fs nBreaks) = .ok b ∧ readS (sayF fs nReplaces) = .ok r ∧ readS (sayF fs nProvides) = .ok o ∧
    q = { p with dep := d, ahead := a, ag := g, br := b, re := r, pr := o } := by
  obtain ⟨q5, h5, k5⟩ := rdTo_succ h
  obtain ⟨q4, h4, k4⟩ := rdTo_succ h5
  obtain ⟨q3, h3, k3⟩ := rdTo_succ h4
  obtain ⟨q2, h2, k2⟩ := rdTo_succ h3
  obtain ⟨q1, h1, k1⟩ := rdTo_succ h2
  obtain ⟨q0, h0, k0⟩ := rdTo_succ h1
  have e0 : q0 = p := by injection h0 with h0; exact h0.symm
  obtain ⟨d, hd, rfl⟩ := map_ok (show (readT (sayF fs nDepends)).map _ = .ok q1 from k0)
  obtain ⟨a, ha, rfl⟩ := map_ok (show (readT (sayF fs nPre)).map _ = .ok q2 from k1)
  obtain ⟨g, hg, rfl⟩ := map_ok (show (readS (sayF fs nConflicts)).map _ = .ok q3 from k2)
  obtain ⟨b, hb, rfl⟩ := map_ok (show (readS (sayF fs nBreaks)).map _ = .ok q4 from k3)
  obtain ⟨r, hr, rfl⟩ := map_ok (show (readS (sayF fs nReplaces)).map _ = .ok q5 from k4)
  obtain ⟨o, ho, rfl⟩ := map_ok (show (readS (sayF fs nProvides)).map _ = .ok q from k5)
  subst e0
  exact ⟨d, a, g, b, r, o, hd, ha, hg, hb, hr, ho, rfl⟩
theorem linesV_size {fs : List Fv} {n : ByteArray} (h : ∀ f ∈ fs, f.v.size ≤ 6000) : ∀ s ∈ linesV fs n, s.size ≤ 1000000 := by
  intro s hs
  unfold linesV at hs
  have hz : ((getB fs n).getD ⟨#[]⟩).size ≤ 6000 := getB_size h
  cases hg : getB fs n with
  | none => rw [hg] at hs; cases hs
  | some v =>
    rw [hg] at hs hz
    have h1 := lineB_size (List.mem_of_mem_tail hs)
    have h2 : v.size ≤ 6000 := hz
    omega
theorem checkP_rt {e e' : Int} {u r u' r' : List UInt8} (h : VP.checkP e u r = some (e', u', r')) : VP.rightP e' u' r' = true := by
  unfold VP.checkP at h
  by_cases hr : VP.rightP e u r = true
  · rw [if_pos hr] at h
    injection h with h
    injection h with h1 h
    injection h with h2 h3
    subst h1 h2 h3
    exact hr
  · rw [if_neg hr] at h; cases h
theorem restP_rt {e e' : Int} {l u' r' : List UInt8} (h : VP.restP e l = some (e', u', r')) : VP.rightP e' u' r' = true := by
  unfold VP.restP at h
  cases hc : VP.cutEnd 45 l with
  | none => rw [hc] at h; exact checkP_rt h
  | some p =>
    obtain ⟨u, r⟩ := p
    rw [hc] at h
    dsimp only at h
    by_cases hr : r = []
    · rw [if_pos hr] at h; cases h
    · rw [if_neg hr] at h; exact checkP_rt h
theorem parseP_rt {e' : Int} {l u' r' : List UInt8} (h : VP.parseP l = some (e', u', r')) : VP.rightP e' u' r' = true := by
  unfold VP.parseP at h
  by_cases hl : 40 < l.length
  · rw [if_pos hl] at h; cases h
  · rw [if_neg hl] at h
    cases hc : VP.cutAt 58 l with
    | none => rw [hc] at h; exact restP_rt h
    | some p =>
      obtain ⟨a, b⟩ := p
      rw [hc] at h
      dsimp only at h
      cases hn : VP.number 9 a with
      | none => rw [hn] at h; cases h
      | some n => rw [hn] at h; exact restP_rt h
theorem rightP_len {e : Int} {u r : List UInt8} (h : VP.rightP e u r = true) : (VP.printP e u r).length ≤ 40 ∧ 0 ≤ e ∧ e < 1000000000 := by
  unfold VP.rightP at h
  simp only [Bool.and_eq_true, decide_eq_true_eq] at h
  exact ⟨h.2, h.1.1.1.1.1.1, h.1.1.1.1.1.2⟩
theorem rd_fit {fs : List Fv} {e : Int} {u r : ByteArray} {q : Pv} (hs : ∀ f ∈ fs, f.v.size ≤ 6000) (hv : VP.parseP (sayF fs nVersion).data.toList = some (e, u.data.toList, r.data.toList)) (h : rdTo fs (rdP1 fs e u r) 6 = .ok q) : (rdEnd fs q).Fit := by
  obtain ⟨d, a, g, b, rr, o, hd, ha, hg, hb, hr, ho, rfl⟩ := six_read h
  have hn : (sayF fs nPackage).size ≤ 6000 := getB_size hs
  have hl : (VP.printP e u.data.toList r.data.toList).length ≤ 40 := by
    exact (rightP_len (parseP_rt hv)).1
  have hur : u.size ≤ 40 ∧ r.size ≤ 40 := by
    unfold VP.printP at hl
    rw [List.length_append, List.length_append] at hl
    constructor
    · rw [size_eq_length]; omega
    · by_cases hr0 : r.data.toList = []
      · rw [size_eq_length, hr0]; simp
      · rw [if_neg hr0, List.length_cons] at hl
        rw [size_eq_length]; omega
  exact ⟨by show (sayF fs nPackage).size ≤ 1000000; omega, by show u.size ≤ 1000; omega, by show r.size ≤ 1000; omega, (readT_fit hd).1, (readT_fit hd).2, (readT_fit ha).1, (readT_fit ha).2, (readS_fit hg).1, (readS_fit hg).2, (readS_fit hb).1, (readS_fit hb).2, (readS_fit hr).1, (readS_fit hr).2, (readS_fit ho).1, (readS_fit ho).2, linesV_size hs, linesV_size hs⟩
end Go.Proofs.YtodbbfgkclkpgaaGreatDoor

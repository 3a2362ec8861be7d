/- The reference's Put: its state. -/
import Derived.Test.YtofogjfemlhffaaGreatDoorSPK30
import Derived.Test.YtofogjfemlhffaaGreatDoorSPK26
import Derived.Test.YtofogjfemlhffaaGreatDoorSPK31
namespace Go.Proofs.YtofogjfemlhffaaGreatDoor
open Go Go.RowKit Go.Maps

def EnvFi (w : World) : Prop := w.cell? ⟨0, 0, none⟩ = some (.int .i64 0) ∧ w.cell? ⟨0, 1, none⟩ = some (.int .i64 (-1))
theorem EnvFi.below {w w' : World} (h : EnvFi w) (hb : Below w.heap.size w w') : EnvFi w' := ⟨kept hb h.1, kept hb h.2⟩
theorem set_cell {W W' : World} {b n : Nat} {L : List ByteArray} (h : SetAt W b n L) (ht : W.mapTurned W' b) {a : Addr} {v : Value} (hc : W.cell? a = some v) : W'.cell? a = some v := by
  by_cases e : a.block = b
  · obtain ⟨E, ⟨es, clock, hm, _⟩, _⟩ := h
    unfold World.cell? at hc
    rw [e, hm] at hc
    simp at hc
  · unfold World.cell? at hc ⊢
    rw [turned_block ht e]
    exact hc
theorem rblk_set {T : TypeId} {W : World} {g b n : Nat} {cs : Array Value} {L : List ByteArray} (h : Blk T W g cs) (hm : SetAt W b n L) : g ≠ b := by
  rintro rfl
  obtain ⟨E, ⟨es, clock, hh, _⟩, _⟩ := hm
  have h2 : W.heap[g]? = some (.cells cs T (0, 0)) := h
  rw [h2] at hh
  cases hh
theorem RShAt.far {W W' : World} {r b0 b1 b2 n : Nat} {Wm Dm Sm : Fm} (h : RShAt W r b0 b1 b2 Wm Dm Sm) (hb : Below n W W') (hr : r < n) (h0 : b0 < n) (h1 : b1 < n) (h2 : b2 < n) : RShAt W' r b0 b1 b2 Wm Dm Sm :=
  ⟨(hb.block _ hr).trans h.bx, h.m0.keep (hb.block _ h0), h.m1.keep (hb.block _ h1), h.m2.keep (hb.block _ h2), h.d01, h.d02, h.d12⟩
theorem set_row {T : TypeId} {W : World} {g : Nat} {old : Array Value} (h : Blk T W g old) (cells : Array Value) : Blk T (W.setRow g cells) g cells ∧ ∀ (n : Nat) (w : World), Below n w W → n ≤ g → Below n w (W.setRow g cells) := by
  refine ⟨setRow_heap _ _ _ _ _ _ h, fun n w hb hn => ⟨hb.os, hb.tape, hb.output, by have := hb.size; simpa using this, fun k hk => ?_⟩⟩
  rw [setRow_other _ _ _ _ (by omega)]
  exact hb.block k hk
structure RPutSt (w W0 : World) (r b0 b1 b2 bm x8 : Nat) (W2 D2 S2 : Fm) (n : Nat) (names : List ByteArray) (W : World) : Prop where
  sh : RShAt W r b0 b1 b2 W2 D2 S2
  mine : SetAt W bm n names
  rb : Blk 54 W x8 #[.int .i64 0, .int .i64 0]
  ce : ∀ (a : Addr) (u : Value), W0.cell? a = some u → W.cell? a = some u
  off : ROff w.heap.size b0 b1 b2 w W
  nb : w.heap.size ≤ bm
  lb : b0 < w.heap.size ∧ b1 < w.heap.size ∧ b2 < w.heap.size
  sz : W0.heap.size ≤ W.heap.size
section
variable {w W0 W W' : World} {r b0 b1 b2 bm x8 n : Nat} {W2 D2 S2 M : Fm} {names : List ByteArray}
theorem RPutSt.size (h : RPutSt w W0 r b0 b1 b2 bm x8 W2 D2 S2 n names W) : w.heap.size ≤ W.heap.size := h.off.size
theorem RPutSt.below (h : RPutSt w W0 r b0 b1 b2 bm x8 W2 D2 S2 n names W) (hb : Below W.heap.size W W') : RPutSt w W0 r b0 b1 b2 bm x8 W2 D2 S2 n names W' :=
  ⟨h.sh.keep hb, h.mine.keep (hb.block _ h.mine.lt), h.rb.keep hb, fun a u hu => kept hb (h.ce a u hu), h.off.go hb h.size, h.nb, h.lb, Nat.le_trans h.sz hb.size⟩
theorem RPutSt.turn0 (h : RPutSt w W0 r b0 b1 b2 bm x8 W2 D2 S2 n names W) (ht : W.mapTurned W' b0) (hm : MapAt W' b0 M) : RPutSt w W0 r b0 b1 b2 bm x8 M D2 S2 n names W' :=
  ⟨h.sh.turn0 ht hm, h.mine.keep (turned_block ht (by have := h.nb; have := h.lb; omega)), (turned_block ht (rblk_map h.rb h.sh.m0)).trans h.rb, fun a u hu => map_cell h.sh.m0 ht (h.ce a u hu), h.off.trans (ROff.turn ht (.inl rfl)), h.nb, h.lb, by rw [turned_size ht]; exact h.sz⟩
theorem RPutSt.turn1 (h : RPutSt w W0 r b0 b1 b2 bm x8 W2 D2 S2 n names W) (ht : W.mapTurned W' b1) (hm : MapAt W' b1 M) : RPutSt w W0 r b0 b1 b2 bm x8 W2 M S2 n names W' :=
  ⟨h.sh.turn1 ht hm, h.mine.keep (turned_block ht (by have := h.nb; have := h.lb; omega)), (turned_block ht (rblk_map h.rb h.sh.m1)).trans h.rb, fun a u hu => map_cell h.sh.m1 ht (h.ce a u hu), h.off.trans (ROff.turn ht (.inr (.inl rfl))), h.nb, h.lb, by rw [turned_size ht]; exact h.sz⟩
theorem RPutSt.turn2 (h : RPutSt w W0 r b0 b1 b2 bm x8 W2 D2 S2 n names W) (ht : W.mapTurned W' b2) (hm : MapAt W' b2 M) : RPutSt w W0 r b0 b1 b2 bm x8 W2 D2 M n names W' :=
  ⟨h.sh.turn2 ht hm, h.mine.keep (turned_block ht (by have := h.nb; have := h.lb; omega)), (turned_block ht (rblk_map h.rb h.sh.m2)).trans h.rb, fun a u hu => map_cell h.sh.m2 ht (h.ce a u hu), h.off.trans (ROff.turn ht (.inr (.inr rfl))), h.nb, h.lb, by rw [turned_size ht]; exact h.sz⟩
theorem RPutSt.turnM {n' : Nat} {names' : List ByteArray} (h : RPutSt w W0 r b0 b1 b2 bm x8 W2 D2 S2 n names W) (ht : W.mapTurned W' bm) (hs : SetAt W' bm n' names') : RPutSt w W0 r b0 b1 b2 bm x8 W2 D2 S2 n' names' W' := by
  have h1 := h.nb
  have h2 := h.lb
  obtain ⟨o1, o2, o3⟩ := turned_os ht
  refine ⟨⟨(turned_block ht (rblk_set h.sh.bx h.mine)).trans h.sh.bx, h.sh.m0.keep (turned_block ht (by omega)), h.sh.m1.keep (turned_block ht (by omega)), h.sh.m2.keep (turned_block ht (by omega)), h.sh.d01, h.sh.d02, h.sh.d12⟩, hs,
    (turned_block ht (rblk_set h.rb h.mine)).trans h.rb, fun a u hu => set_cell h.mine ht (h.ce a u hu), h.off.trans ⟨o1, o2, o3, by rw [turned_size ht]; exact Nat.le_refl _, fun i hi _ _ _ => turned_block ht (by omega)⟩, h.nb, h.lb, by rw [turned_size ht]; exact h.sz⟩
/-- another block grew, that came later -/
theorem RPutSt.grow {g : Nat} (h : RPutSt w W0 r b0 b1 b2 bm x8 W2 D2 S2 n names W) (hg : W.grownBy W' (some g)) (hlt : W0.heap.size ≤ g) (hw : w.heap.size ≤ W0.heap.size) (hr : r < w.heap.size) (hbm : bm < W0.heap.size) (hx : x8 < W0.heap.size) : RPutSt w W0 r b0 b1 b2 bm x8 W2 D2 S2 n names W' := by
  have hb : ∀ i, i < W0.heap.size → i < W.heap.size → W'.heap[i]? = W.heap[i]? := fun i h1 h2 => hg.block i h2 (fun e => by injection e with e; omega)
  obtain ⟨l0, l1, l2⟩ := h.lb
  have hs := h.size
  exact ⟨⟨(hb r (by omega) h.sh.bx.lt).trans h.sh.bx, h.sh.m0.keep (hb _ (by omega) h.sh.m0.lt), h.sh.m1.keep (hb _ (by omega) h.sh.m1.lt), h.sh.m2.keep (hb _ (by omega) h.sh.m2.lt), h.sh.d01, h.sh.d02, h.sh.d12⟩,
    h.mine.keep (hb _ hbm h.mine.lt), (hb _ hx h.rb.lt).trans h.rb, fun a u hu => by
      have h1 := h.ce a u hu
      have h2 := World.block_lt_of_cell? W0 a hu
      have h3 := World.block_lt_of_cell? W a h1
      unfold World.cell? at h1 ⊢
      rw [hb a.block h2 h3]
      exact h1,
    h.off.trans ⟨hg.os, hg.tape, hg.output, hg.size, fun i hi _ _ _ => hb i (by omega) (by omega)⟩, h.nb, h.lb, Nat.le_trans h.sz hg.size⟩
theorem RPutSt.files {v : Value} {fs : List Fv} (h : RPutSt w W0 r b0 b1 b2 bm x8 W2 D2 S2 n names W) (hf : FieldsAt W0 v fs) : FieldsAt W v fs := by
  obtain ⟨A, c, hv, h1, h2, h3⟩ := hf
  refine ⟨A, c, hv, h1, h2, fun hn => ?_⟩
  obtain ⟨b, off, hA, hi⟩ := h3 hn
  exact ⟨b, off, hA, fun j u hj => h.ce _ _ (hi j u hj)⟩
end
theorem rbools_tail {b o m k : Nat} {W : World} {x : Bool} {r : List Bool} (h : BoolsAt W (.slice (some ⟨b, o, none⟩) (m + 1) k) (x :: r)) (hr : r.length = m) : BoolsAt W (.slice (some ⟨b, o + 1, none⟩) m (k - 1)) r := by
  obtain ⟨A, c, hv, hc, hm, hi⟩ := h
  injection hv with e1 _ e3
  subst e1 e3
  have hl : (x :: r).length = m + 1 := by rw [List.length_cons, hr]
  refine ⟨_, k - 1, by rw [hr], by omega, by omega, fun hn => ⟨b, o + 1, rfl, fun i y hy => ?_⟩⟩
  obtain ⟨b', o', hA, hcell⟩ := hi (by simp)
  injection hA with hA
  injection hA with hb ho
  subst hb ho
  have := hcell (i + 1) y (by simpa using hy)
  rwa [show o + (i + 1) = o + 1 + i from by omega] at this
theorem hasB_take {l : List ByteArray} {k : Nat} {q x : ByteArray} (h : l[k]? = some q) : hasB (l.take (k + 1)) x = (hasB (l.take k) x || decide (q = x)) := by
  unfold hasB
  rw [List.take_add_one, h, List.any_append]
  simp
theorem rputL_no {se : List ByteArray} {fi : List Fv} {k : Nat} {f : Fv} (hf : fi[k]? = some f) (hs : hasB se f.n = false) (a : List Bool) (D S : Fm) : rputL se (fi.drop k) a D S = rputL se (fi.drop (k + 1)) a (putF D f.n f.v) (delF S f.n) := by
  rw [List.drop_eq_getElem_cons (List.getElem?_eq_some_iff.1 hf).1, (List.getElem?_eq_some_iff.1 hf).2, rputL, if_neg (by rw [hs]; simp)]
theorem rputL_yes {se : List ByteArray} {fi : List Fv} {k c : Nat} {f : Fv} {a a2 : List Bool} (hf : fi[k]? = some f) (hs : hasB se f.n = true) {D S : Fm} (hw : whatD (choiceD (getF S f.n) (getF D f.n) f.v) a = (c, a2)) : rputL se (fi.drop k) a D S = rputL se (fi.drop (k + 1)) a2 (if c = 0 then putF D f.n f.v else D) (putF S f.n f.v) := by
  rw [List.drop_eq_getElem_cons (List.getElem?_eq_some_iff.1 hf).1, (List.getElem?_eq_some_iff.1 hf).2, rputL, if_pos hs, hw]
theorem rgoneL_next {ps P : List ByteArray} {S : Fm} {k : Nat} {q : ByteArray} (hq : P[k]? = some q) (D W : Fm) : rgoneL ps S (P.drop k) D W = if (!hasB ps q && (getF S q).isNone) = true then rgoneL ps S (P.drop (k + 1)) (delF D q) (delF W q) else rgoneL ps S (P.drop (k + 1)) D W := by
  rw [List.drop_eq_getElem_cons (List.getElem?_eq_some_iff.1 hq).1, rgoneL, (List.getElem?_eq_some_iff.1 hq).2]
theorem rbools_keep {W W' : World} {v : Value} {a : List Bool} (h : BoolsAt W v a) (hb : Below W.heap.size W W') : BoolsAt W' v a := by
  obtain ⟨A, c, hv, hc, hm, hi⟩ := h
  refine ⟨A, c, hv, hc, hm, fun hn => ?_⟩
  obtain ⟨b, o, hA, hcell⟩ := hi hn
  exact ⟨b, o, hA, fun i x hx => kept hb (hcell i x hx)⟩
theorem names_take {fi : List Fv} {k : Nat} {f : Fv} (h : fi[k]? = some f) : (fi.take (k + 1)).map (·.n) = (fi.take k).map (·.n) ++ [f.n] := by
  rw [List.take_add_one, h, List.map_append]
  rfl
def namesK (p : Pv) : List ByteArray := p.fi.map (·.n)
def putDS (p : Pv) (a : List Bool) (Dm Sm : Fm) : Fm × Fm := rputL p.se p.fi a Dm Sm
def goneDW (p : Pv) (a : List Bool) (Wm Dm Sm : Fm) : Fm × Fm := rgoneL (namesK p) (putDS p a Dm Sm).2 (pathsR Wm p.n) (putDS p a Dm Sm).1 Wm
def RPutIs (r b0 b1 b2 : Nat) (Wm Dm Sm : Fm) (own : List ByteArray) (p : Pv) (tk : ByteArray → Bool) (a : List Bool) (w : World) (E : Ending) (w' : World) : Prop :=
  ROff w.heap.size b0 b1 b2 w w' ∧
  ((archB p = false ∧ E = .returned (.agg #[.int .i64 1, .int .i64 (-1)]) ∧ RShAt w' r b0 b1 b2 Wm Dm Sm) ∨
   (archB p = true ∧ 0 ≤ (clashR Wm own p.n tk p.fi).1 ∧ E = .returned (.agg #[.int .i64 9, .int .i64 (clashR Wm own p.n tk p.fi).1]) ∧ RShAt w' r b0 b1 b2 Wm Dm Sm) ∨
   (archB p = true ∧ ¬ 0 ≤ (clashR Wm own p.n tk p.fi).1 ∧ E = .returned (.agg #[.int .i64 0, .int .i64 (-1)]) ∧ ∃ W2, RShAt w' r b0 b1 b2 W2 (goneDW p a Wm Dm Sm).1 (putDS p a Dm Sm).2 ∧ W2.length ≤ Wm.length + 20 ∧ (goneDW p a Wm Dm Sm).1.length ≤ Dm.length + 20 ∧ (putDS p a Dm Sm).2.length ≤ Sm.length + 20 ∧ ∀ k, getF W2 k = if hasB (namesK p) k = true then some p.n else getF (goneDW p a Wm Dm Sm).2 k))
theorem arch_len {p : Pv} (h : archB p = true) : p.fi.length ≤ 20 := by
  rcases Nat.lt_or_ge 20 p.fi.length with h1 | h1
  · rw [arch_many (by omega)] at h
    cases h
  · exact h1
end Go.Proofs.YtofogjfemlhffaaGreatDoor

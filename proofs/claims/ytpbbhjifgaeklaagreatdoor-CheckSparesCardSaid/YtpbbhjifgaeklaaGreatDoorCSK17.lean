/- A shelf, its disk, and rows of the call's own beside them: what stays. · The walker of order.Rings in memory. -/
import Derived.Test.YtpbbhjifgaeklaaGreatDoorCSK16
import Derived.Maps.AppendAt
import Derived.Test.YtpbbhjifgaeklaaGreatDoorCSK15
import Derived.Test.YtpbbhjifgaeklaaGreatDoorCSK10
namespace Go.Proofs.YtpbbhjifgaeklaaGreatDoor
open Go Go.RowKit Go.Maps

/-- as Off, but of what lay below n alone -/
structure OffN (n d : Nat) (w w' : World) : Prop where
  os : w'.os = w.os
  tape : w'.tape = w.tape
  output : w'.output = w.output
  size : w.heap.size ≤ w'.heap.size
  block : ∀ i, i < n → ¬ foot w d i → w'.heap[i]? = w.heap[i]?
  foot : ∀ i, Go.Proofs.YtpbbhjifgaeklaaGreatDoor.foot w' d i → Go.Proofs.YtpbbhjifgaeklaaGreatDoor.foot w d i ∨ n ≤ i
theorem OffN.of {n d : Nat} {w w' : World} (h : Off d w w') (hn : n ≤ w.heap.size) : OffN n d w w' :=
  ⟨h.os, h.tape, h.output, h.size, fun i hi => h.block i (by omega), fun i hi => (h.foot i hi).imp id (by omega)⟩
theorem OffN.off {d : Nat} {w w' : World} (h : OffN w.heap.size d w w') : Off d w w' := ⟨h.os, h.tape, h.output, h.size, h.block, h.foot⟩
theorem OffN.go {n d : Nat} {a b c : World} (h : OffN n d a b) (k : Off d b c) (hn : n ≤ b.heap.size) : OffN n d a c := by
  refine ⟨k.os.trans h.os, k.tape.trans h.tape, k.output.trans h.output, Nat.le_trans h.size k.size, fun i hi hf => ?_, fun i hi => ?_⟩
  · refine (k.block i (by omega) fun hb => ?_).trans (h.block i hi hf)
    rcases h.foot i hb with h' | h'
    · exact hf h'
    · omega
  · rcases k.foot i hi with h' | h'
    · exact h.foot i h'
    · exact .inr (by omega)
theorem foot_of {w w' : World} {d i : Nat} (hb : w'.heap[d]? = w.heap[d]?) : foot w' d i ↔ foot w d i := by
  have e : ∀ j, w'.cell? ⟨d, j, none⟩ = w.cell? ⟨d, j, none⟩ := fun j => by
    unfold World.cell?
    rw [show w'.heap[(⟨d, j, none⟩ : Addr).block]? = w.heap[(⟨d, j, none⟩ : Addr).block]? from hb]
  unfold foot
  rw [e, e]
theorem foot_grown {b c : World} {r : Option Nat} {d i : Nat} (hg : b.grownBy c r) (hd : d < b.heap.size) (hr : ∀ g, r = some g → ¬ foot b d g) : foot c d i ↔ foot b d i :=
  foot_of (hg.block d hd fun e => hr d e.symm (.inl rfl))
theorem OffN.grown {n d : Nat} {a b c : World} {r : Option Nat} (h : OffN n d a b) (hg : b.grownBy c r) (hn : n ≤ b.heap.size) (hd : d < b.heap.size) (hr : ∀ g, r = some g → n ≤ g ∧ ¬ Go.Proofs.YtpbbhjifgaeklaaGreatDoor.foot b d g) : OffN n d a c := by
  have hf := fun i => foot_grown (i := i) hg hd (fun g e => (hr g e).2)
  refine ⟨hg.os.trans h.os, hg.tape.trans h.tape, hg.output.trans h.output, Nat.le_trans h.size hg.size, fun i hi hfi => ?_, fun i hi => h.foot i ((hf i).1 hi)⟩
  refine (hg.block i (by omega) fun e => ?_).trans (h.block i hi hfi)
  have := (hr i e.symm).1
  omega
theorem DiskAt.grown {b c : World} {r : Option Nat} {d : Nat} {D : Dk} (h : DiskAt b d D) (hg : b.grownBy c r) (hr : ∀ g, r = some g → ¬ foot b d g) : DiskAt c d D := by
  have hf : ∀ i, foot b d i → c.heap[i]? = b.heap[i]? := fun i hi => hg.block i (h.foot_lt hi) fun e => hr i e.symm hi
  obtain ⟨m0, m1, hk, hm⟩ := h
  refine ⟨m0, m1, (hf d (.inl rfl)).trans hk, hm.keep fun i hi => hf i ?_⟩
  rcases hi with rfl | rfl
  · exact .inr (.inl (hk.cell (i := 0) rfl))
  · exact .inr (.inr (hk.cell (i := 1) rfl))
theorem ShAt.grown {b c : World} {r : Option Nat} {sh d : Nat} {D : Dk} (h : ShAt b sh d D) (hg : b.grownBy c r) (hr : ∀ g, r = some g → ¬ foot b d g ∧ g ≠ sh) : ShAt c sh d D := by
  have hs : c.heap[sh]? = b.heap[sh]? := hg.block sh (cell_lt h.c) fun e => (hr sh e.symm).2 rfl
  refine ⟨?_, fun hf => h.off ((foot_grown hg h.dk.lt fun g e => (hr g e).1).1 hf), h.dk.grown hg fun g e => (hr g e).1⟩
  have := h.c
  unfold World.cell? at this ⊢
  rw [show c.heap[(⟨sh, 0, none⟩ : Addr).block]? = b.heap[(⟨sh, 0, none⟩ : Addr).block]? from hs]
  exact this

/-- texts in a row of the call's own, off the disk -/
def RowD (d B : Nat) (W : World) (v : Value) (L : List ByteArray) : Prop := W.ownsRow B 9 1 v L.length (L.flatMap strC) ∧ ∀ g, v.ownBlock = some g → ¬ foot W d g
theorem RowD.nil (d B : Nat) (W : World) : RowD d B W (.slice none 0 0) [] := ⟨⟨rfl, .inl ⟨rfl, rfl⟩⟩, fun g e => by cases e⟩
theorem RowD.base {d B : Nat} {W : World} {v : Value} {L : List ByteArray} (h : RowD d B W v L) {g : Nat} (e : v.ownBlock = some g) : B ≤ g ∧ g < W.heap.size := by
  rcases h.1.2 with ⟨rfl, _⟩ | ⟨g', cap, cur, rfl, hB, hb, _⟩
  · cases e
  · injection e with e
    subst e
    exact ⟨hB, (Array.getElem?_eq_some_iff.1 hb).1⟩
theorem RowD.keepB {d B : Nat} {W W' : World} {v : Value} {L : List ByteArray} (h : RowD d B W v L) (hb : ∀ g, v.ownBlock = some g → W'.heap[g]? = W.heap[g]?) (hf : ∀ g, v.ownBlock = some g → ¬ foot W' d g) : RowD d B W' v L := by
  refine ⟨⟨h.1.1, ?_⟩, hf⟩
  rcases h.1.2 with h' | ⟨g, cap, cur, rfl, hB, hb', r⟩
  · exact .inl h'
  · exact .inr ⟨g, cap, cur, rfl, hB, (hb g rfl).trans hb', r⟩
theorem RowD.off {d B : Nat} {W W' : World} {v : Value} {L : List ByteArray} (h : RowD d B W v L) (ho : Off d W W') : RowD d B W' v L :=
  h.keepB (fun g e => ho.block g (h.base e).2 (h.2 g e)) fun g e => not_foot ho (h.base e).2 (h.2 g e)
theorem RowD.below {d B : Nat} {W W' : World} {v : Value} {L : List ByteArray} (h : RowD d B W v L) (hb : Below W.heap.size W W') (hd : d < W.heap.size) : RowD d B W' v L := h.off (Off.of_below hb hd)
/-- a whole block, off the disk -/
theorem Blk.off {T : TypeId} {W W' : World} {d g : Nat} {cs : Array Value} (h : Blk T W g cs) (ho : Off d W W') (hf : ¬ foot W d g) : Blk T W' g cs := (ho.block g h.lt hf).trans h
theorem Blk.grown {T : TypeId} {W W' : World} {r : Option Nat} {g : Nat} {cs : Array Value} (h : Blk T W g cs) (hg : W.grownBy W' r) (hr : r ≠ some g) : Blk T W' g cs := (hg.block g h.lt (fun e => hr e.symm)).trans h
end Go.Proofs.YtpbbhjifgaeklaaGreatDoor

namespace Go.Proofs.YtpbbhjifgaeklaaGreatDoor
open Go Go.RowKit
open TJ (EdgeN hasN Tj Inv g0 visitT zeros srt)

def natA (l : List Nat) : Array Value := (l.map fun n : Nat => Value.int .i64 n).toArray
theorem natA_at {l : List Nat} {i x : Nat} (h : l[i]? = some x) : (natA l)[i]? = some (.int .i64 x) := by
  unfold natA
  rw [List.getElem?_toArray, List.getElem?_map, h]
  rfl
theorem natA_set (l : List Nat) (i x : Nat) : (natA l).setIfInBounds i (.int .i64 x) = natA (l.set i x) := by
  unfold natA
  rw [List.setIfInBounds_toArray, List.map_set]
theorem g0_at {l : List Nat} {i : Nat} (h : i < l.length) : l[i]? = some (g0 l i) := by
  unfold g0
  rw [List.getD_eq_getElem?_getD, List.getElem?_eq_getElem h]
  rfl

/-- the walker at wb, its rows of numbers at ba and bl; the rest lies from B on -/
structure Wk (B wb ba bl bo n : Nat) (W : World) (vop vs : Value) (vals : List Value) (st : Tj) : Prop where
  wk : Blk 262 W wb #[.slice (some ⟨bo, 0, none⟩) n n, .slice (some ⟨ba, 0, none⟩) n n, .slice (some ⟨bl, 0, none⟩) n n, vop, .int .i64 st.count, vs]
  nu : Blk 3 W ba (natA st.nums)
  lo : Blk 3 W bl (natA st.low)
  op : W.ownsRow B 3 1 vop st.opn.length (st.opn.flatMap natC)
  se : W.ownsRow B 40 1 vs st.sets.length vals
  va : ∀ (i : Nat) (x : List Nat), st.sets[i]? = some x → ∃ g c, vals[i]? = some (Value.slice (some ⟨g, 0, none⟩) x.length c) ∧ (B ≤ g ∧ g < W.heap.size) ∧ vop.ownBlock ≠ some g ∧ vs.ownBlock ≠ some g ∧ NatsAt W (.slice (some ⟨g, 0, none⟩) x.length c) x
  ap : ∀ g, vop.ownBlock = some g → vs.ownBlock ≠ some g

/-- what a call leaves as it was: all that lay ahead of B, but the three -/
structure WkKeep (B wb ba bl : Nat) (W W' : World) : Prop where
  os : W'.os = W.os
  tape : W'.tape = W.tape
  output : W'.output = W.output
  size : W.heap.size ≤ W'.heap.size
  block : ∀ i, i < B → i ≠ wb → i ≠ ba → i ≠ bl → W'.heap[i]? = W.heap[i]?
theorem WkKeep.refl (B wb ba bl : Nat) (W : World) : WkKeep B wb ba bl W W := ⟨rfl, rfl, rfl, Nat.le_refl _, fun _ _ _ _ _ => rfl⟩
theorem WkKeep.trans {B wb ba bl : Nat} {a b c : World} (h : WkKeep B wb ba bl a b) (k : WkKeep B wb ba bl b c) : WkKeep B wb ba bl a c :=
  ⟨k.os.trans h.os, k.tape.trans h.tape, k.output.trans h.output, Nat.le_trans h.size k.size, fun i hi h1 h2 h3 => (k.block i hi h1 h2 h3).trans (h.block i hi h1 h2 h3)⟩
theorem WkKeep.cell {B wb ba bl : Nat} {W W' : World} {a : Addr} {v : Value} (h : WkKeep B wb ba bl W W') (hB : a.block < B) (h1 : a.block ≠ wb) (h2 : a.block ≠ ba) (h3 : a.block ≠ bl) (hc : W.cell? a = some v) : W'.cell? a = some v := by
  have := h.block a.block hB h1 h2 h3
  unfold World.cell? at hc ⊢
  rw [this]; exact hc

/-- a row of numbers that stays: ahead of B, in none of the three -/
def NatsLow (B wb ba bl : Nat) (W : World) (v : Value) (l : List Nat) : Prop := NatsAt W v l ∧ (l ≠ [] → ∀ b off n c, v = .slice (some ⟨b, off, none⟩) n c → b < B ∧ b ≠ wb ∧ b ≠ ba ∧ b ≠ bl)
theorem NatsLow.keep {B wb ba bl : Nat} {W W' : World} {v : Value} {l : List Nat} (h : NatsLow B wb ba bl W v l) (k : WkKeep B wb ba bl W W') : NatsLow B wb ba bl W' v l := by
  obtain ⟨⟨A, c, rfl, hc, hm, hr⟩, ht⟩ := h
  refine ⟨⟨A, c, rfl, hc, hm, fun hn => ?_⟩, ht⟩
  obtain ⟨b, off, rfl, hi⟩ := hr hn
  obtain ⟨h0, h1, h2, h3⟩ := ht hn b off _ _ rfl
  exact ⟨b, off, rfl, fun j u hj => k.cell h0 h1 h2 h3 (hi j u hj)⟩
/-- who stands behind whom: the slice of slices at bo -/
def OutAt (B wb ba bl bo n : Nat) (W : World) (out : Nat → List Nat) : Prop := ∀ i, i < n → ∃ vi, W.cell? ⟨bo, i, none⟩ = some vi ∧ NatsLow B wb ba bl W vi (out i)
theorem OutAt.keep {B wb ba bl bo n : Nat} {W W' : World} {out : Nat → List Nat} (h : OutAt B wb ba bl bo n W out) (h0 : bo < B) (h1 : bo ≠ wb) (h2 : bo ≠ ba) (h3 : bo ≠ bl) (k : WkKeep B wb ba bl W W') : OutAt B wb ba bl bo n W' out := fun i hi => by
  obtain ⟨vi, hc, hv⟩ := h i hi
  exact ⟨vi, k.cell h0 h1 h2 h3 hc, hv.keep k⟩

theorem row_keep {W W' : World} {B : Nat} {e : TypeId} {sz n : Nat} {v : Value} {xs : List Value} (h : W.ownsRow B e sz v n xs) (hb : ∀ g, v.ownBlock = some g → W'.heap[g]? = W.heap[g]?) : W'.ownsRow B e sz v n xs := by
  refine ⟨h.1, ?_⟩
  rcases h.2 with h' | ⟨g, cap, cur, rfl, hB, hb', r⟩
  · exact .inl h'
  · exact .inr ⟨g, cap, cur, rfl, hB, (hb g rfl).trans hb', r⟩
theorem row_lt {W : World} {B : Nat} {e : TypeId} {sz n : Nat} {v : Value} {xs : List Value} (h : W.ownsRow B e sz v n xs) {g : Nat} (hg : v.ownBlock = some g) : B ≤ g ∧ g < W.heap.size := by
  rcases h.2 with ⟨rfl, _⟩ | ⟨g', cap, cur, rfl, hB, hb, _⟩
  · cases hg
  · injection hg with hg
    subst hg
    exact ⟨hB, (Array.getElem?_eq_some_iff.1 hb).1⟩
theorem nats_block {W W' : World} {g : Nat} {n c : Nat} {l : List Nat} (h : NatsAt W (.slice (some ⟨g, 0, none⟩) n c) l) (hb : W'.heap[g]? = W.heap[g]?) : NatsAt W' (.slice (some ⟨g, 0, none⟩) n c) l := by
  obtain ⟨A, c', hv, hc, hm, hr⟩ := h
  refine ⟨A, c', hv, hc, hm, fun hn => ?_⟩
  obtain ⟨b, off, hA, hi⟩ := hr hn
  refine ⟨b, off, hA, fun j u hj => ?_⟩
  have := hi j u hj
  rw [hA] at hv
  injection hv with hv _ _
  injection hv with hv
  injection hv with hv _ _
  subst hv
  unfold World.cell? at this ⊢
  rw [hb]; exact this

theorem lt_same {W W' : World} {g : Nat} (h : g < W.heap.size) (e : W'.heap[g]? = W.heap[g]?) : g < W'.heap.size := by
  rw [Array.getElem?_eq_getElem h] at e
  exact (Array.getElem?_eq_some_iff.1 e).1
/-- the walker's own three turn, all else stays -/
theorem Wk.turn {B wb ba bl bo n : Nat} {W W' : World} {vop vs : Value} {vals : List Value} {st st' : Tj} (h : Wk B wb ba bl bo n W vop vs vals st) (hw : wb < B) (ha : ba < B) (hl : bl < B)
    (k : ∀ i, i ≠ wb → i ≠ ba → i ≠ bl → W'.heap[i]? = W.heap[i]?)
    (h1 : Blk 262 W' wb #[.slice (some ⟨bo, 0, none⟩) n n, .slice (some ⟨ba, 0, none⟩) n n, .slice (some ⟨bl, 0, none⟩) n n, vop, .int .i64 st'.count, vs])
    (h2 : Blk 3 W' ba (natA st'.nums)) (h3 : Blk 3 W' bl (natA st'.low)) (e1 : st'.opn = st.opn) (e2 : st'.sets = st.sets) : Wk B wb ba bl bo n W' vop vs vals st' := by
  have hk : ∀ g, B ≤ g → W'.heap[g]? = W.heap[g]? := fun g hg => k g (by omega) (by omega) (by omega)
  refine ⟨h1, h2, h3, ?_, ?_, ?_, h.ap⟩
  · rw [e1]
    exact row_keep h.op fun g hg => hk g (row_lt h.op hg).1
  · rw [e2]
    exact row_keep h.se fun g hg => hk g (row_lt h.se hg).1
  · intro i x hx
    rw [e2] at hx
    obtain ⟨g, c, hv, hg, n1, n2, hn⟩ := h.va i x hx
    exact ⟨g, c, hv, ⟨hg.1, lt_same hg.2 (hk g hg.1)⟩, n1, n2, nats_block hn (hk g hg.1)⟩

theorem Wk.set {B wb ba bl bo n v x : Nat} {W : World} {vop vs : Value} {vals : List Value} {st : Tj} (h : Wk B wb ba bl bo n W vop vs vals st) (hw : wb < B) (ha : ba < B) (hl : bl < B) (d2 : wb ≠ bl) (d3 : ba ≠ bl) :
    Wk B wb ba bl bo n (W.setCell ⟨bl, v, none⟩ (.int .i64 x)).drew vop vs vals { st with low := st.low.set v x } ∧ WkKeep B wb ba bl W (W.setCell ⟨bl, v, none⟩ (.int .i64 x)).drew := by
  have k : ∀ i, i ≠ bl → (W.setCell ⟨bl, v, none⟩ (.int .i64 x)).drew.heap[i]? = W.heap[i]? := fun i hi => by
    show (W.setCell ⟨bl, v, none⟩ (.int .i64 x)).heap[i]? = W.heap[i]?
    unfold World.setCell
    rw [Array.getElem?_modify, if_neg (Ne.symm hi)]
  have h3 := h.lo.set v (.int .i64 x)
  rw [natA_set] at h3
  refine ⟨h.turn hw ha hl (fun i _ _ hi => k i hi) ((k wb d2).trans h.wk) ((k ba d3).trans h.nu) h3 rfl rfl, rfl, rfl, rfl, by simp [World.setCell, World.drew], fun i _ _ _ hi => k i hi⟩

/-- all three turn at the start -/
theorem Wk.start {B wb ba bl bo n v : Nat} {W : World} {vop vs : Value} {vals : List Value} {st : Tj} (h : Wk B wb ba bl bo n W vop vs vals st) (hw : wb < B) (ha : ba < B) (hl : bl < B) (d1 : wb ≠ ba) (d2 : wb ≠ bl) (d3 : ba ≠ bl) :
    Wk B wb ba bl bo n (((W.setCell ⟨wb, 4, none⟩ (.int .i64 (st.count + 1))).setCell ⟨ba, v, none⟩ (.int .i64 (st.count + 1))).setCell ⟨bl, v, none⟩ (.int .i64 (st.count + 1))).drew vop vs vals { st with count := st.count + 1, nums := st.nums.set v (st.count + 1), low := st.low.set v (st.count + 1) } ∧
    WkKeep B wb ba bl W (((W.setCell ⟨wb, 4, none⟩ (.int .i64 (st.count + 1))).setCell ⟨ba, v, none⟩ (.int .i64 (st.count + 1))).setCell ⟨bl, v, none⟩ (.int .i64 (st.count + 1))).drew := by
  have k : ∀ i, i ≠ wb → i ≠ ba → i ≠ bl → (((W.setCell ⟨wb, 4, none⟩ (.int .i64 (st.count + 1))).setCell ⟨ba, v, none⟩ (.int .i64 (st.count + 1))).setCell ⟨bl, v, none⟩ (.int .i64 (st.count + 1))).drew.heap[i]? = W.heap[i]? := fun i h1 h2 h3 => by
    show (((W.setCell ⟨wb, 4, none⟩ (.int .i64 (st.count + 1))).setCell ⟨ba, v, none⟩ (.int .i64 (st.count + 1))).setCell ⟨bl, v, none⟩ (.int .i64 (st.count + 1))).heap[i]? = W.heap[i]?
    unfold World.setCell
    rw [Array.getElem?_modify, if_neg (Ne.symm h3), Array.getElem?_modify, if_neg (Ne.symm h2), Array.getElem?_modify, if_neg (Ne.symm h1)]
  have e : (Value.int .i64 ((st.count : Int) + 1)) = .int .i64 ((st.count + 1 : Nat) : Int) := by simp
  have h1 := ((h.wk.set 4 (.int .i64 (st.count + 1))).other d1.symm v (.int .i64 (st.count + 1))).other d2.symm v (.int .i64 (st.count + 1))
  have h2 := ((h.nu.other d1 4 (.int .i64 (st.count + 1))).set v (.int .i64 (st.count + 1))).other d3.symm v (.int .i64 (st.count + 1))
  have h3 := ((h.lo.other d2 4 (.int .i64 (st.count + 1))).other d3 v (.int .i64 (st.count + 1))).set v (.int .i64 (st.count + 1))
  rw [e, natA_set] at h2 h3
  rw [← e] at h2 h3
  refine ⟨h.turn hw ha hl k h1 h2 h3 rfl rfl, rfl, rfl, rfl, by simp [World.setCell, World.drew], fun i _ h1 h2 h3 => k i h1 h2 h3⟩

/-- one more stands open -/
theorem Wk.push {B wb ba bl bo n v : Nat} {W W3 : World} {vop vop' vs : Value} {vals : List Value} {st : Tj} {o : Obj} (h : Wk B wb ba bl bo n W vop vs vals st) (hw : wb < B) (ha : ba < B) (hl : bl < B) (d1 : wb ≠ ba) (d2 : wb ≠ bl) (hB : B ≤ W.heap.size)
    (own : W3.ownsRow B 3 1 vop' (st.opn.length + 1) (st.opn.flatMap natC ++ [.int .i64 v])) (hg : (W.alloc o).grownBy W3 vop.ownBlock) (hloc : vop'.ownBlock = vop.ownBlock ∨ vop'.ownBlock = some (W.alloc o).heap.size) :
    Wk B wb ba bl bo n (W3.setCell ⟨wb, 3, none⟩ vop') vop' vs vals { st with opn := st.opn ++ [v] } ∧ WkKeep B wb ba bl W (W3.setCell ⟨wb, 3, none⟩ vop') := by
  have hb := below_alloc W o
  have hg2 : W.grownBy W3 vop.ownBlock := ⟨hg.os, hg.tape, hg.output, Nat.le_trans hb.size hg.size, fun k hk hne => (hg.block k (Nat.lt_of_lt_of_le hk hb.size) hne).trans (hb.block k hk)⟩
  have low : ∀ i, i < B → W3.heap[i]? = W.heap[i]? := fun i hi => hg2.block i (by omega) fun e => by have := (row_lt h.op e.symm).1; omega
  have k3 : ∀ i, i ≠ wb → (W3.setCell ⟨wb, 3, none⟩ vop').heap[i]? = W3.heap[i]? := fun i hi => by
    unfold World.setCell
    rw [Array.getElem?_modify, if_neg (Ne.symm hi)]
  have h1 : Blk 262 W3 wb _ := (low wb hw).trans h.wk
  have h1' := h1.set 3 vop'
  have hse : ∀ g, vs.ownBlock = some g → (W3.setCell ⟨wb, 3, none⟩ vop').heap[g]? = W.heap[g]? := fun g hgs => by
    have hr := row_lt h.se hgs
    rw [k3 g (by omega)]
    exact hg2.block g hr.2 fun e => h.ap g e.symm hgs
  refine ⟨⟨h1', (k3 ba d1.symm).trans ((low ba ha).trans h.nu), (k3 bl d2.symm).trans ((low bl hl).trans h.lo), ?_, row_keep h.se hse, ?_, ?_⟩, hg2.os, hg2.tape, hg2.output, by have := hg2.size; simp [World.setCell]; omega, fun i hi hne _ _ => (k3 i hne).trans (low i hi)⟩
  · rw [List.length_append, List.length_singleton, List.flatMap_append]
    refine row_keep own fun g e => k3 g ?_
    have := (row_lt own e).1
    omega
  · intro i x hx
    obtain ⟨g, c, hv, hgB, n1, n2, hn⟩ := h.va i x hx
    have hk : (W3.setCell ⟨wb, 3, none⟩ vop').heap[g]? = W.heap[g]? := by
      rw [k3 g (by omega)]
      exact hg2.block g hgB.2 fun e => n1 e.symm
    refine ⟨g, c, hv, ⟨hgB.1, lt_same hgB.2 hk⟩, fun e => ?_, n2, nats_block hn hk⟩
    rcases hloc with hl' | hl'
    · exact n1 (hl' ▸ e)
    · rw [hl'] at e
      injection e with e
      have := hb.size
      omega
  · intro g e1 e2
    rcases hloc with hl' | hl'
    · exact h.ap g (hl' ▸ e1) e2
    · rw [hl'] at e1
      injection e1 with e1
      have := (row_lt h.se e2).2
      have := hb.size
      omega

theorem row_take {W : World} {B n k : Nat} {e : TypeId} {A : Option Addr} {c : Nat} {l : List Nat} (h : W.ownsRow B e 1 (.slice A n c) n (l.flatMap natC)) (hk : k ≤ n) (hA : A ≠ none) : W.ownsRow B e 1 (.slice A k c) k ((l.take k).flatMap natC) := by
  have hl : (l.flatMap natC).length = l.length := by rw [flat_nats, List.length_map]
  have hn : l.length = n := by have := h.1; omega
  refine ⟨by rw [flat_nats, List.length_map, List.length_take]; omega, ?_⟩
  rcases h.2 with ⟨h', _⟩ | ⟨g, cap, cur, hv, hB, hb, h1, h2, h3, h4⟩
  · injection h' with h' _ _
    exact absurd h' hA
  · injection hv with e1 e2 e3
    subst e1 e3
    refine .inr ⟨g, c, cur, rfl, hB, hb, by omega, h2, h3, ?_⟩
    rw [Nat.mul_one] at h4 ⊢
    have : cur.toList.take k = (cur.toList.take n).take k := by rw [List.take_take, Nat.min_eq_left hk]
    rw [this, h4, flat_nats, flat_nats, List.map_take]
theorem row_nats {W : World} {B n : Nat} {e : TypeId} {v : Value} {l : List Nat} (h : W.ownsRow B e 1 v n (l.flatMap natC)) (hn : n = l.length) (hm : n ≤ 9223372036854775807) : NatsAt W v l := slc_of_own h hn hm

/-- a ring is told: its set comes behind the others, and stands open no more -/
theorem Wk.pop {B wb ba bl bo n k go co g c : Nat} {W W2 W3 : World} {vs vs' : Value} {vals : List Value} {st : Tj} {o : Obj} {x : List Nat} (h : Wk B wb ba bl bo n W (.slice (some ⟨go, 0, none⟩) st.opn.length co) vs vals st) (hw : wb < B) (ha : ba < B) (hl : bl < B) (d1 : wb ≠ ba) (d2 : wb ≠ bl) (hB : B ≤ W.heap.size) (hk : k ≤ st.opn.length)
    (hs2 : W.heap.size ≤ W2.heap.size) (hk2 : ∀ i, i < W.heap.size → W2.heap[i]? = W.heap[i]?) (ho2 : W2.os = W.os) (ht2 : W2.tape = W.tape) (hp2 : W2.output = W.output)
    (hx : NatsAt W2 (.slice (some ⟨g, 0, none⟩) x.length c) x) (hg1 : W.heap.size ≤ g) (hg3 : g < W2.heap.size)
    (own : W3.ownsRow B 40 1 vs' (st.sets.length + 1) (vals ++ [.slice (some ⟨g, 0, none⟩) x.length c])) (hg : (W2.alloc o).grownBy W3 vs.ownBlock) (hloc : vs'.ownBlock = vs.ownBlock ∨ vs'.ownBlock = some (W2.alloc o).heap.size) :
    Wk B wb ba bl bo n ((W3.setCell ⟨wb, 5, none⟩ vs').setCell ⟨wb, 3, none⟩ (.slice (some ⟨go, 0, none⟩) k co)) (.slice (some ⟨go, 0, none⟩) k co) vs' (vals ++ [.slice (some ⟨g, 0, none⟩) x.length c]) { st with sets := st.sets ++ [x], opn := st.opn.take k } ∧
    WkKeep B wb ba bl W ((W3.setCell ⟨wb, 5, none⟩ vs').setCell ⟨wb, 3, none⟩ (.slice (some ⟨go, 0, none⟩) k co)) := by
  have hb := below_alloc W2 o
  have hrow := fun (q : Nat) (e : vs.ownBlock = some q) => row_lt h.se e
  have hg2 : ∀ i, i < W2.heap.size → vs.ownBlock ≠ some i → W3.heap[i]? = W2.heap[i]? := fun i hi hne => (hg.block i (Nat.lt_of_lt_of_le hi hb.size) (fun e => hne e.symm)).trans (hb.block i hi)
  have hgw : ∀ i, i < W.heap.size → vs.ownBlock ≠ some i → W3.heap[i]? = W.heap[i]? := fun i hi hne => (hg2 i (by omega) hne).trans (hk2 i hi)
  have low : ∀ i, i < B → W3.heap[i]? = W.heap[i]? := fun i hi => hgw i (by omega) fun e => by have := (hrow i e).1; omega
  have k3 : ∀ i, i ≠ wb → ((W3.setCell ⟨wb, 5, none⟩ vs').setCell ⟨wb, 3, none⟩ (.slice (some ⟨go, 0, none⟩) k co)).heap[i]? = W3.heap[i]? := fun i hi => by
    unfold World.setCell
    rw [Array.getElem?_modify, if_neg (Ne.symm hi), Array.getElem?_modify, if_neg (Ne.symm hi)]
  have h1 : Blk 262 W3 wb _ := (low wb hw).trans h.wk
  have h1' := (h1.set 5 vs').set 3 (.slice (some ⟨go, 0, none⟩) k co)
  have hgo := row_lt h.op (g := go) rfl
  have hgo3 : ((W3.setCell ⟨wb, 5, none⟩ vs').setCell ⟨wb, 3, none⟩ (.slice (some ⟨go, 0, none⟩) k co)).heap[go]? = W.heap[go]? := by
    rw [k3 go (by omega)]
    exact hgw go hgo.2 (h.ap go rfl)
  have hsz : W.heap.size ≤ W3.heap.size := Nat.le_trans hs2 (Nat.le_trans hb.size hg.size)
  refine ⟨⟨h1', (k3 ba d1.symm).trans ((low ba ha).trans h.nu), (k3 bl d2.symm).trans ((low bl hl).trans h.lo), ?_, ?_, ?_, ?_⟩, hg.os.trans ho2, hg.tape.trans ht2, hg.output.trans hp2, by simp [World.setCell]; omega, fun i hi hne _ _ => (k3 i hne).trans (low i hi)⟩
  · show World.ownsRow _ B 3 1 _ (st.opn.take k).length _
    rw [List.length_take, Nat.min_eq_left hk]
    refine row_keep (row_take h.op hk (by simp)) fun q e => ?_
    injection e with e
    rw [← e]
    exact hgo3
  · show World.ownsRow _ B 40 1 vs' (st.sets ++ [x]).length _
    rw [List.length_append, List.length_singleton]
    exact row_keep own fun q e => k3 q (by have := (row_lt own e).1; omega)
  · intro i y hy
    have hy : (st.sets ++ [x])[i]? = some y := hy
    have hvl : vals.length = st.sets.length := by have := h.se.1; omega
    by_cases hi : i < st.sets.length
    · rw [List.getElem?_append_left hi] at hy
      obtain ⟨g', c', hv, hgB, n1, n2, hn⟩ := h.va i y hy
      have hkk : ((W3.setCell ⟨wb, 5, none⟩ vs').setCell ⟨wb, 3, none⟩ (.slice (some ⟨go, 0, none⟩) k co)).heap[g']? = W.heap[g']? := by
        rw [k3 g' (by omega)]
        exact hgw g' hgB.2 n2
      refine ⟨g', c', by rw [List.getElem?_append_left (by omega)]; exact hv, ⟨hgB.1, lt_same hgB.2 hkk⟩, n1, fun e => ?_, nats_block hn hkk⟩
      rcases hloc with hl' | hl'
      · exact n2 (hl' ▸ e)
      · rw [hl'] at e
        injection e with e
        have := hb.size
        omega
    · have hi2 : i = st.sets.length := by
        have := (List.getElem?_eq_some_iff.1 hy).1
        rw [List.length_append, List.length_singleton] at this
        omega
      subst hi2
      have hy2 : x = y := by simpa using hy
      subst hy2
      have hng : vs.ownBlock ≠ some g := fun e => by have := (hrow g e).2; omega
      have hkk : ((W3.setCell ⟨wb, 5, none⟩ vs').setCell ⟨wb, 3, none⟩ (.slice (some ⟨go, 0, none⟩) k co)).heap[g]? = W2.heap[g]? := by
        rw [k3 g (by omega)]
        exact hg2 g hg3 hng
      refine ⟨g, c, by rw [← hvl]; simp, ⟨by omega, lt_same hg3 hkk⟩, fun e => ?_, fun e => ?_, nats_block hx hkk⟩
      · injection e with e
        have e : go = g := e
        have := hgo.2
        omega
      · rcases hloc with hl' | hl'
        · exact hng (hl' ▸ e)
        · rw [hl'] at e
          injection e with e
          have := hb.size
          omega
  · intro q e1 e2
    injection e1 with e1
    rcases hloc with hl' | hl'
    · exact h.ap q (by rw [← e1]; rfl) (hl' ▸ e2)
    · rw [hl'] at e2
      injection e2 with e2
      have := hgo.2
      have := hb.size
      have e1 : go = q := e1
      omega

/-- the walker's block behind an append to one of its rows -/
theorem Wk.blk3 {B wb ba bl bo n : Nat} {W W3 : World} {vop vs : Value} {vals : List Value} {st : Tj} {o : Obj} {r : Option Nat} (h : Wk B wb ba bl bo n W vop vs vals st) (hw : wb < B) (hB : B ≤ W.heap.size) (hr : ∀ g, r = some g → B ≤ g) (hg : (W.alloc o).grownBy W3 r) :
    Blk 262 W3 wb #[.slice (some ⟨bo, 0, none⟩) n n, .slice (some ⟨ba, 0, none⟩) n n, .slice (some ⟨bl, 0, none⟩) n n, vop, .int .i64 st.count, vs] := by
  have hb := below_alloc W o
  exact (hg.block wb (Nat.lt_of_lt_of_le (by omega) hb.size) (fun e => by have := hr wb e.symm; omega)).trans ((hb.block wb (by omega)).trans h.wk)
end Go.Proofs.YtpbbhjifgaeklaaGreatDoor

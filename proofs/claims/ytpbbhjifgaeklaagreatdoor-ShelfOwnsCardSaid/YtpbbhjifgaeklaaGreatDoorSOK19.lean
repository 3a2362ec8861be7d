/- A shelf, its disk, and rows of the call's own beside them: what stays. -/
import Derived.Test.YtpbbhjifgaeklaaGreatDoorSOK18
import Derived.Maps.AppendAt
namespace Go.Proofs.YtpbbhjifgaeklaaGreatDoor
open Go Go.RowKit Go.Maps

/-- as Off, but of what lay below n alone -/
structure OffN (n d : Nat) (w w' : World) : Prop where
  os : w'.os = w.os
  tape : w'.tape = w.tape
  output : w'.output = w.output
  size : w.heap.size ≤ w'.heap.size
  block : ∀ i, i < n → ¬ foot w d i → w'.heap[i]? = w.heap[i]?
  foot : ∀ i, Go.Proofs.YtpbbhjifgaeklaaGreatDoor.foot w' d i → Go.Proofs.YtpbbhjifgaeklaaGreatDoor.foot w d i ∨ n ≤ i
theorem OffN.of {n d : Nat} {w w' : World} (h : Off d w w') (hn : n ≤ w.heap.size) : OffN n d w w' :=
  ⟨h.os, h.tape, h.output, h.size, fun i hi => h.block i (by omega), fun i hi => (h.foot i hi).imp id (by omega)⟩
theorem OffN.off {d : Nat} {w w' : World} (h : OffN w.heap.size d w w') : Off d w w' := ⟨h.os, h.tape, h.output, h.size, h.block, h.foot⟩
theorem OffN.go {n d : Nat} {a b c : World} (h : OffN n d a b) (k : Off d b c) (hn : n ≤ b.heap.size) : OffN n d a c := by
  refine ⟨k.os.trans h.os, k.tape.trans h.tape, k.output.trans h.output, Nat.le_trans h.size k.size, fun i hi hf => ?_, fun i hi => ?_⟩
  · refine (k.block i (by omega) fun hb => ?_).trans (h.block i hi hf)
    rcases h.foot i hb with h' | h'
    · exact hf h'
    · omega
  · rcases k.foot i hi with h' | h'
    · exact h.foot i h'
    · exact .inr (by omega)
theorem foot_of {w w' : World} {d i : Nat} (hb : w'.heap[d]? = w.heap[d]?) : foot w' d i ↔ foot w d i := by
  have e : ∀ j, w'.cell? ⟨d, j, none⟩ = w.cell? ⟨d, j, none⟩ := fun j => by
    unfold World.cell?
    rw [show w'.heap[(⟨d, j, none⟩ : Addr).block]? = w.heap[(⟨d, j, none⟩ : Addr).block]? from hb]
  unfold foot
  rw [e, e]
theorem foot_grown {b c : World} {r : Option Nat} {d i : Nat} (hg : b.grownBy c r) (hd : d < b.heap.size) (hr : ∀ g, r = some g → ¬ foot b d g) : foot c d i ↔ foot b d i :=
  foot_of (hg.block d hd fun e => hr d e.symm (.inl rfl))
theorem OffN.grown {n d : Nat} {a b c : World} {r : Option Nat} (h : OffN n d a b) (hg : b.grownBy c r) (hn : n ≤ b.heap.size) (hd : d < b.heap.size) (hr : ∀ g, r = some g → n ≤ g ∧ ¬ Go.Proofs.YtpbbhjifgaeklaaGreatDoor.foot b d g) : OffN n d a c := by
  have hf := fun i => foot_grown (i := i) hg hd (fun g e => (hr g e).2)
  refine ⟨hg.os.trans h.os, hg.tape.trans h.tape, hg.output.trans h.output, Nat.le_trans h.size hg.size, fun i hi hfi => ?_, fun i hi => h.foot i ((hf i).1 hi)⟩
  refine (hg.block i (by omega) fun e => ?_).trans (h.block i hi hfi)
  have := (hr i e.symm).1
  omega
theorem DiskAt.grown {b c : World} {r : Option Nat} {d : Nat} {D : Dk} (h : DiskAt b d D) (hg : b.grownBy c r) (hr : ∀ g, r = some g → ¬ foot b d g) : DiskAt c d D := by
  have hf : ∀ i, foot b d i → c.heap[i]? = b.heap[i]? := fun i hi => hg.block i (h.foot_lt hi) fun e => hr i e.symm hi
  obtain ⟨m0, m1, hk, hm⟩ := h
  refine ⟨m0, m1, (hf d (.inl rfl)).trans hk, hm.keep fun i hi => hf i ?_⟩
  rcases hi with rfl | rfl
  · exact .inr (.inl (hk.cell (i := 0) rfl))
  · exact .inr (.inr (hk.cell (i := 1) rfl))
theorem ShAt.grown {b c : World} {r : Option Nat} {sh d : Nat} {D : Dk} (h : ShAt b sh d D) (hg : b.grownBy c r) (hr : ∀ g, r = some g → ¬ foot b d g ∧ g ≠ sh) : ShAt c sh d D := by
  have hs : c.heap[sh]? = b.heap[sh]? := hg.block sh (cell_lt h.c) fun e => (hr sh e.symm).2 rfl
  refine ⟨?_, fun hf => h.off ((foot_grown hg h.dk.lt fun g e => (hr g e).1).1 hf), h.dk.grown hg fun g e => (hr g e).1⟩
  have := h.c
  unfold World.cell? at this ⊢
  rw [show c.heap[(⟨sh, 0, none⟩ : Addr).block]? = b.heap[(⟨sh, 0, none⟩ : Addr).block]? from hs]
  exact this

/-- texts in a row of the call's own, off the disk -/
def RowD (d B : Nat) (W : World) (v : Value) (L : List ByteArray) : Prop := W.ownsRow B 9 1 v L.length (L.flatMap strC) ∧ ∀ g, v.ownBlock = some g → ¬ foot W d g
theorem RowD.nil (d B : Nat) (W : World) : RowD d B W (.slice none 0 0) [] := ⟨⟨rfl, .inl ⟨rfl, rfl⟩⟩, fun g e => by cases e⟩
theorem RowD.base {d B : Nat} {W : World} {v : Value} {L : List ByteArray} (h : RowD d B W v L) {g : Nat} (e : v.ownBlock = some g) : B ≤ g ∧ g < W.heap.size := by
  rcases h.1.2 with ⟨rfl, _⟩ | ⟨g', cap, cur, rfl, hB, hb, _⟩
  · cases e
  · injection e with e
    subst e
    exact ⟨hB, (Array.getElem?_eq_some_iff.1 hb).1⟩
theorem RowD.keepB {d B : Nat} {W W' : World} {v : Value} {L : List ByteArray} (h : RowD d B W v L) (hb : ∀ g, v.ownBlock = some g → W'.heap[g]? = W.heap[g]?) (hf : ∀ g, v.ownBlock = some g → ¬ foot W' d g) : RowD d B W' v L := by
  refine ⟨⟨h.1.1, ?_⟩, hf⟩
  rcases h.1.2 with h' | ⟨g, cap, cur, rfl, hB, hb', r⟩
  · exact .inl h'
  · exact .inr ⟨g, cap, cur, rfl, hB, (hb g rfl).trans hb', r⟩
theorem RowD.off {d B : Nat} {W W' : World} {v : Value} {L : List ByteArray} (h : RowD d B W v L) (ho : Off d W W') : RowD d B W' v L :=
  h.keepB (fun g e => ho.block g (h.base e).2 (h.2 g e)) fun g e => not_foot ho (h.base e).2 (h.2 g e)
theorem RowD.below {d B : Nat} {W W' : World} {v : Value} {L : List ByteArray} (h : RowD d B W v L) (hb : Below W.heap.size W W') (hd : d < W.heap.size) : RowD d B W' v L := h.off (Off.of_below hb hd)
theorem RowD.strs {d B : Nat} {W : World} {v : Value} {L : List ByteArray} (h : RowD d B W v L) (hm : L.length ≤ 9223372036854775807) : StrsAt W v L := (row_strsUp h.1 hm).1
/-- behind an append of one text: the new slice, and what stays -/
theorem rowD_app {n sh d B : Nat} {w W W' : World} {v v' : Value} {L : List ByteArray} {D : Dk} {x : ByteArray} (h : RowD d B W v L) (hs : ShAt W sh d D) (hB : sh < B) (hn : n ≤ B) (hnw : n ≤ W.heap.size) (hO : OffN n d w W)
    (hown : W'.ownsRow B 9 1 v' (L.length + 1) (L.flatMap strC ++ [.string x])) (hg : (W.alloc (.cells #[.string x] 9)).grownBy W' v.ownBlock) (hl : v'.ownBlock = v.ownBlock ∨ v'.ownBlock = some (W.alloc (.cells #[.string x] 9)).heap.size) :
    RowD d B W' v' (L ++ [x]) ∧ ShAt W' sh d D ∧ OffN n d w W' ∧ W.grownBy W' v.ownBlock := by
  have hb := below_alloc W (.cells #[.string x] 9)
  have hg2 : W.grownBy W' v.ownBlock := ⟨hg.os, hg.tape, hg.output, Nat.le_trans hb.size hg.size, fun k hk hne => (hg.block k (Nat.lt_of_lt_of_le hk hb.size) hne).trans (hb.block k hk)⟩
  have hr : ∀ g, v.ownBlock = some g → ¬ foot W d g ∧ g ≠ sh := fun g e => ⟨h.2 g e, by have := (h.base e).1; omega⟩
  have hf := fun i => foot_grown (i := i) hg2 hs.dk.lt fun g e => (hr g e).1
  refine ⟨⟨by rw [List.length_append, List.length_singleton, List.flatMap_append]; exact hown, fun g e => ?_⟩, hs.grown hg2 hr, hO.grown hg2 hnw hs.dk.lt fun g e => ⟨by have := (h.base e).1; omega, (hr g e).1⟩, hg2⟩
  rw [hf]
  rcases hl with hl | hl
  · exact h.2 g (hl ▸ e)
  · rw [hl] at e
    injection e with e
    intro hfoot
    have h1 := hs.dk.foot_lt hfoot
    have h2 := hb.size
    omega
/-- a whole block, off the disk -/
theorem Blk.off {T : TypeId} {W W' : World} {d g : Nat} {cs : Array Value} (h : Blk T W g cs) (ho : Off d W W') (hf : ¬ foot W d g) : Blk T W' g cs := (ho.block g h.lt hf).trans h
theorem Blk.grown {T : TypeId} {W W' : World} {r : Option Nat} {g : Nat} {cs : Array Value} (h : Blk T W g cs) (hg : W.grownBy W' r) (hr : r ≠ some g) : Blk T W' g cs := (hg.block g h.lt (fun e => hr e.symm)).trans h
end Go.Proofs.YtpbbhjifgaeklaaGreatDoor

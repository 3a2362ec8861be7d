/- Who stands behind whom, in memory, as order.Rings builds it. -/
import Derived.Test.YtpbbhjifgaeklaaGreatDoorCSK18
import Derived.Test.YtpbbhjifgaeklaaGreatDoorCSK22
import Derived.Deep.AppendLies
namespace Go.Proofs.YtpbbhjifgaeklaaGreatDoor
open Go Go.RowKit
open TJ (EdgeN hasN Tj Inv g0 visitT zeros srt outE newT rootsT setsT)

theorem made_nil (n : Nat) : madeCells #[.slice none 0 0] n = Array.replicate n (.slice none 0 0) := by
  apply Array.ext
  · simp [size_madeCells]
  · intro i h1 h2
    simp [madeCells, Nat.mod_one]

/-- the walker and its three rows, new -/
structure RingW (w : World) (n : Nat) (wb bo ba bl : Nat) (W : World) : Prop where
  wk : Blk 262 W wb #[.slice (some ⟨bo, 0, none⟩) n n, .slice (some ⟨ba, 0, none⟩) n n, .slice (some ⟨bl, 0, none⟩) n n, .slice none 0 0, .int .i64 0, .slice none 0 0]
  o : Blk 40 W bo (Array.replicate n (.slice none 0 0))
  nu : Blk 3 W ba (natA (List.replicate n 0))
  lo : Blk 3 W bl (natA (List.replicate n 0))
  d : wb ≠ ba ∧ wb ≠ bl ∧ ba ≠ bl ∧ bo ≠ wb ∧ bo ≠ ba ∧ bo ≠ bl
  lw : w.heap.size ≤ wb ∧ w.heap.size ≤ bo ∧ w.heap.size ≤ ba ∧ w.heap.size ≤ bl
  s : W.heap.size = w.heap.size + 4
  b : Below w.heap.size w W

/-- the same, where edges were noted: vals are the rows -/
structure RingO (w : World) (n : Nat) (wb bo ba bl : Nat) (l : List EdgeN) (vals : List Value) (W : World) : Prop where
  wk : Blk 262 W wb #[.slice (some ⟨bo, 0, none⟩) n n, .slice (some ⟨ba, 0, none⟩) n n, .slice (some ⟨bl, 0, none⟩) n n, .slice none 0 0, .int .i64 0, .slice none 0 0]
  o : Blk 40 W bo vals.toArray
  nu : Blk 3 W ba (natA (List.replicate n 0))
  lo : Blk 3 W bl (natA (List.replicate n 0))
  d : wb ≠ ba ∧ wb ≠ bl ∧ ba ≠ bl ∧ bo ≠ wb ∧ bo ≠ ba ∧ bo ≠ bl
  lw : w.heap.size ≤ wb ∧ w.heap.size ≤ bo ∧ w.heap.size ≤ ba ∧ w.heap.size ≤ bl
  u : wb < w.heap.size + 4 ∧ bo < w.heap.size + 4 ∧ ba < w.heap.size + 4 ∧ bl < w.heap.size + 4
  nn : vals.length = n
  s : w.heap.size + 4 ≤ W.heap.size
  b : Below w.heap.size w W
  r : ∀ (i : Nat) (v : Value), vals[i]? = some v → W.ownsRow (w.heap.size + 4) 3 1 v (outE l i).length ((outE l i).flatMap natC)
  p : ∀ (i j : Nat) (v u : Value), vals[i]? = some v → vals[j]? = some u → i ≠ j → ∀ g, v.ownBlock = some g → u.ownBlock ≠ some g
theorem RingW.start {w W : World} {n wb bo ba bl : Nat} (h : RingW w n wb bo ba bl W) : RingO w n wb bo ba bl [] (List.replicate n (.slice none 0 0)) W := by
  have u := h.s
  have h1 := h.wk.lt
  have h2 := h.o.lt
  have h3 := h.nu.lt
  have h4 := h.lo.lt
  refine ⟨h.wk, by rw [List.toArray_replicate]; exact h.o, h.nu, h.lo, h.d, h.lw, ⟨by omega, by omega, by omega, by omega⟩, by simp, by omega, h.b, fun i v hv => ?_, fun i j v u hv hu hne g e => ?_⟩
  · rw [List.getElem?_replicate] at hv
    split at hv
    · injection hv with hv
      subst hv
      exact World.ownsRow_nil _ _ _ _
    · cases hv
  · rw [List.getElem?_replicate] at hv
    split at hv
    · injection hv with hv
      subst hv
      cases e
    · cases hv
theorem RingO.below {w W W' : World} {n wb bo ba bl : Nat} {l : List EdgeN} {vals : List Value} (h : RingO w n wb bo ba bl l vals W) (hb : Below W.heap.size W W') : RingO w n wb bo ba bl l vals W' :=
  ⟨h.wk.keep hb, h.o.keep hb, h.nu.keep hb, h.lo.keep hb, h.d, h.lw, h.u, h.nn, Nat.le_trans h.s hb.size, h.b.trans (hb.mono h.b.size), fun i v hv => row_keep (h.r i v hv) fun g e => hb.block g (row_lt (h.r i v hv) e).2, h.p⟩
theorem outE_snoc (l : List EdgeN) (e : EdgeN) (i : Nat) : outE (l ++ [e]) i = if e.1 = i then outE l i ++ [e.2] else outE l i := by
  unfold outE
  rw [List.filter_append, List.map_append]
  by_cases h : e.1 = i
  · rw [if_pos h]
    congr 1
    simp [h]
  · rw [if_neg h]
    simp [h]
/-- one edge more -/
theorem RingO.push {w W W6 : World} {n wb bo ba bl g c : Nat} {l : List EdgeN} {vals : List Value} {e : EdgeN} {v : Value} {o : Obj} (h : RingO w n wb bo ba bl l vals W) (hv : vals[e.1]? = some v)
    (own : W6.ownsRow (w.heap.size + 4) 3 1 (.slice (some ⟨g, 0, none⟩) ((outE l e.1).length + 1) c) ((outE l e.1).length + 1) ((outE l e.1).flatMap natC ++ [.int .i64 e.2])) (hg : (W.alloc o).grownBy W6 v.ownBlock) (hloc : v.ownBlock = some g ∨ g = (W.alloc o).heap.size) :
    RingO w n wb bo ba bl (l ++ [e]) (vals.set e.1 (.slice (some ⟨g, 0, none⟩) ((outE l e.1).length + 1) c)) (W6.setCell ⟨bo, e.1, none⟩ (.slice (some ⟨g, 0, none⟩) ((outE l e.1).length + 1) c)) := by
  have hb := below_alloc W o
  have hrow := h.r e.1 v hv
  have hk : ∀ i, i < W.heap.size → v.ownBlock ≠ some i → W6.heap[i]? = W.heap[i]? := fun i hi hne => (hg.block i (Nat.lt_of_lt_of_le hi hb.size) (fun e => hne e.symm)).trans (hb.block i hi)
  have low : ∀ i, i < w.heap.size + 4 → W6.heap[i]? = W.heap[i]? := fun i hi => hk i (by have := h.s; omega) fun e => by have := (row_lt hrow e).1; omega
  have ks : ∀ i, i ≠ bo → (W6.setCell ⟨bo, e.1, none⟩ (.slice (some ⟨g, 0, none⟩) ((outE l e.1).length + 1) c)).heap[i]? = W6.heap[i]? := fun i hi => by
    unfold World.setCell
    rw [Array.getElem?_modify, if_neg (Ne.symm hi)]
  obtain ⟨d1, d2, d3, d4, d5, d6⟩ := h.d
  obtain ⟨u1, u2, u3, u4⟩ := h.u
  obtain ⟨l1, l2, l3, l4⟩ := h.lw
  have ho : Blk 40 W6 bo vals.toArray := (low bo u2).trans h.o
  have ho2 := ho.set e.1 (.slice (some ⟨g, 0, none⟩) ((outE l e.1).length + 1) c)
  rw [List.setIfInBounds_toArray] at ho2
  have hsz : W.heap.size ≤ W6.heap.size := Nat.le_trans hb.size hg.size
  have hel : e.1 < vals.length := (List.getElem?_eq_some_iff.1 hv).1
  refine ⟨(ks wb d4.symm).trans ((low wb u1).trans h.wk), ho2, (ks ba d5.symm).trans ((low ba u3).trans h.nu), (ks bl d6.symm).trans ((low bl u4).trans h.lo), h.d, h.lw, h.u, by rw [List.length_set]; exact h.nn, by have := h.s; simp [World.setCell]; omega,
    ⟨hg.os.trans h.b.os, hg.tape.trans h.b.tape, hg.output.trans h.b.output, by have := h.b.size; simp [World.setCell]; omega, fun i hi => (ks i (by omega)).trans ((low i (by omega)).trans (h.b.block i hi))⟩, fun i u hu => ?_, fun i j u1' u2' hu1 hu2 hne q e1 e2 => ?_⟩
  · rw [outE_snoc]
    rw [List.getElem?_set] at hu
    by_cases hi : e.1 = i
    · rw [if_pos hi] at hu
      rw [if_pos (by omega)] at hu
      injection hu with hu
      subst hu hi
      rw [if_pos rfl, List.length_append, List.length_singleton, List.flatMap_append]
      exact row_keep own fun q eq => ks q (by have := (row_lt own eq).1; omega)
    · rw [if_neg hi] at hu
      rw [if_neg hi]
      refine row_keep (h.r i u hu) fun q eq => ?_
      have hq := row_lt (h.r i u hu) eq
      rw [ks q (by omega)]
      exact hk q hq.2 fun e3 => h.p e.1 i v u hv hu hi q e3 eq
  · have key : ∀ (i : Nat) (u : Value), vals[i]? = some u → e.1 ≠ i → u.ownBlock ≠ some g := fun i u hu hi eq => by
      rcases hloc with hl' | hl'
      · exact h.p e.1 i v u hv hu hi g hl' eq
      · have := (row_lt (h.r i u hu) eq).2
        have := hb.size
        omega
    rw [List.getElem?_set] at hu1 hu2
    by_cases h1 : e.1 = i
    · rw [if_pos h1, if_pos (by omega)] at hu1
      injection hu1 with hu1
      subst hu1
      rw [if_neg (by omega)] at hu2
      injection e1 with e1
      have e1 : g = q := e1
      subst e1
      exact key j u2' hu2 (by omega) e2
    · rw [if_neg h1] at hu1
      by_cases h2 : e.1 = j
      · rw [if_pos h2, if_pos (by omega)] at hu2
        injection hu2 with hu2
        subst hu2
        injection e2 with e2
        have e2 : g = q := e2
        subst e2
        exact key i u1' hu1 h1 e1
      · rw [if_neg h2] at hu2
        exact h.p i j u1' u2' hu1 hu2 hne q e1 e2
/-- ready for the walk -/
theorem RingO.ready {w W : World} {n wb bo ba bl : Nat} {l : List EdgeN} {vals : List Value} (h : RingO w n wb bo ba bl l vals W) (hl : ∀ i, (outE l i).length ≤ 9223372036854775807) : Wk W.heap.size wb ba bl bo n W (.slice none 0 0) (.slice none 0 0) [] (newT n) ∧ OutAt W.heap.size wb ba bl bo n W (outE l) := by
  refine ⟨⟨h.wk, h.nu, h.lo, World.ownsRow_nil _ _ _ _, World.ownsRow_nil _ _ _ _, fun i x hx => by simp [newT] at hx, fun g e => by cases e⟩, fun i hi => ?_⟩
  obtain ⟨v, hv⟩ : ∃ v, vals[i]? = some v := ⟨vals[i]'(by rw [h.nn]; exact hi), List.getElem?_eq_getElem _⟩
  have hr := h.r i v hv
  refine ⟨v, h.o.cell (by rw [List.getElem?_toArray]; exact hv), row_nats hr rfl (hl i), fun hne b off nn c e => ?_⟩
  have hx : v.ownBlock = some b := by rw [e]; rfl
  have := row_lt hr hx
  obtain ⟨u1, u2, u3, u4⟩ := h.u
  exact ⟨this.2, by omega, by omega, by omega⟩
theorem four_new (w : World) (o1 o2 o3 o4 : Obj) : ((((w.alloc o1).alloc o2).alloc o3).alloc o4).drew.heap[w.heap.size]? = some o1 ∧ ((((w.alloc o1).alloc o2).alloc o3).alloc o4).drew.heap[w.heap.size + 1]? = some o2 ∧ ((((w.alloc o1).alloc o2).alloc o3).alloc o4).drew.heap[w.heap.size + 1 + 1]? = some o3 ∧ ((((w.alloc o1).alloc o2).alloc o3).alloc o4).drew.heap[w.heap.size + 1 + 1 + 1]? = some o4 ∧
    ((((w.alloc o1).alloc o2).alloc o3).alloc o4).drew.heap.size = w.heap.size + 4 ∧ Below w.heap.size w ((((w.alloc o1).alloc o2).alloc o3).alloc o4).drew := by
  have s1 : (w.alloc o1).heap.size = w.heap.size + 1 := World.size_alloc _ _
  have s2 : ((w.alloc o1).alloc o2).heap.size = w.heap.size + 1 + 1 := by rw [World.size_alloc, s1]
  have s3 : (((w.alloc o1).alloc o2).alloc o3).heap.size = w.heap.size + 1 + 1 + 1 := by rw [World.size_alloc, s2]
  have a1 := heap_alloc_new w o1
  have a2 := heap_alloc_new (w.alloc o1) o2
  have a3 := heap_alloc_new ((w.alloc o1).alloc o2) o3
  have a4 := heap_alloc_new (((w.alloc o1).alloc o2).alloc o3) o4
  rw [s1] at a2
  rw [s2] at a3
  rw [s3] at a4
  have b1 := below_alloc w o1
  have b2 := below_alloc (w.alloc o1) o2
  have b3 := below_alloc ((w.alloc o1).alloc o2) o3
  have b4 := below_alloc (((w.alloc o1).alloc o2).alloc o3) o4
  refine ⟨?_, ?_, ?_, a4, ?_, ?_⟩
  · exact (b4.block _ (by omega)).trans ((b3.block _ (by omega)).trans ((b2.block _ (by omega)).trans a1))
  · exact (b4.block _ (by omega)).trans ((b3.block _ (by omega)).trans a2)
  · exact (b4.block _ (by omega)).trans a3
  · show ((((w.alloc o1).alloc o2).alloc o3).alloc o4).heap.size = _
    rw [World.size_alloc, s3]
  · exact ((((Below.refl _ _).trans b1).trans (b2.mono (by omega))).trans (b3.mono (by omega))).trans (b4.mono (by omega)) |>.drew
theorem RingO.o6 {w W W6 : World} {n wb bo ba bl i : Nat} {l : List EdgeN} {vals : List Value} {v : Value} {o : Obj} (h : RingO w n wb bo ba bl l vals W) (hv : vals[i]? = some v) (hg : (W.alloc o).grownBy W6 v.ownBlock) : Blk 40 W6 bo vals.toArray := by
  have hb := below_alloc W o
  have hrow := h.r i v hv
  have h1 := h.s
  have h2 := h.u.2.1
  exact (hg.block bo (Nat.lt_of_lt_of_le (by omega) hb.size) (fun e => by have := (row_lt hrow e.symm).1; omega)).trans ((hb.block bo (by omega)).trans h.o)
end Go.Proofs.YtpbbhjifgaeklaaGreatDoor

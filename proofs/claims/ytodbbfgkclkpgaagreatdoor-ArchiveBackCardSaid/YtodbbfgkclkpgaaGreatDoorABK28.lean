/- record.Read: the boxes: of the package that is filled, and of the result. · The package that bytes are: plain. · strconv.Atoi of any text. -/
import Derived.Test.YtodbbfgkclkpgaaGreatDoorABK27
import Derived.Test.YtodbbfgkclkpgaaGreatDoorABK11
import Derived.Test.YtodbbfgkclkpgaaGreatDoorABK3
import Derived.Test.YtodbbfgkclkpgaaGreatDoorABK23
import Derived.Test.YtodbbfgkclkpgaaGreatDoorABK26
import Derived.Lib.AtoiAllCases
namespace Go.Proofs.YtodbbfgkclkpgaaGreatDoor
open Go Go.RowKit

def zeros : Array Value := #[.string ⟨#[]⟩, .int .i64 0, .string ⟨#[]⟩, .string ⟨#[]⟩, .slice none 0 0, .slice none 0 0, .slice none 0 0, .slice none 0 0, .slice none 0 0, .slice none 0 0, .slice none 0 0, .slice none 0 0, .slice none 0 0]
/-- the whole block of a package -/
def PkBlk (W : World) (b : Nat) (cs : Array Value) : Prop := W.heap[b]? = some (.cells cs 29 (0, 0))
theorem PkBlk.keep {b : Nat} {cs : Array Value} {W W' : World} (h : PkBlk W b cs) (hb : Below W.heap.size W W') : PkBlk W' b cs := (hb.block b (Array.getElem?_eq_some_iff.1 h).1).trans h
theorem PkBlk.lt {b : Nat} {cs : Array Value} {W : World} (h : PkBlk W b cs) : b < W.heap.size := (Array.getElem?_eq_some_iff.1 h).1
theorem PkBlk.cell {b : Nat} {cs : Array Value} {W : World} (h : PkBlk W b cs) {i : Nat} {v : Value} (hv : cs[i]? = some v) : W.cell? ⟨b, i, none⟩ = some v := by
  unfold World.cell?
  rw [show W.heap[b]? = _ from h]
  exact hv
theorem PkBlk.frozen {b : Nat} {cs : Array Value} {W : World} (h : PkBlk W b cs) : ∀ i, W.frozen? ⟨b, i, none⟩ = false := fun i => by
  unfold World.frozen?
  rw [show W.heap[b]? = _ from h]
  rfl
theorem PkBlk.set {b : Nat} {cs : Array Value} {W : World} (h : PkBlk W b cs) (i : Nat) (v : Value) : PkBlk (W.setCell ⟨b, i, none⟩ v) b (cs.setIfInBounds i v) := by
  unfold PkBlk World.setCell at *
  dsimp only
  rw [Array.getElem?_modify, if_pos rfl, h]
  rfl
theorem PkBlk.other {b c : Nat} {cs : Array Value} {W : World} (h : PkBlk W b cs) (hne : c ≠ b) (i : Nat) (v : Value) : PkBlk (W.setCell ⟨c, i, none⟩ v) b cs := by
  unfold PkBlk World.setCell at *
  dsimp only
  rw [Array.getElem?_modify, if_neg hne]
  exact h
theorem pk_new (w : World) (cs : Array Value) : PkBlk (w.alloc (.cells cs 29)) w.heap.size cs := heap_alloc_new w _
def cells13 (q : Pv) (v1 v2 v3 v4 v5 v6 v7 v8 : Value) : Array Value := #[.string q.n, .int .i64 q.e, .string q.u, .string q.r, v1, v2, v3, v4, v5, v6, v7, v8, .slice none 0 0]
theorem PkBlk.box {W : World} {b : Nat} {q : Pv} {v1 v2 v3 v4 v5 v6 v7 v8 : Value} (h : PkBlk W b (cells13 q v1 v2 v3 v4 v5 v6 v7 v8)) : PackBox W b q v1 v2 v3 v4 v5 v6 v7 v8 (.slice none 0 0) :=
  ⟨h.cell rfl, h.cell rfl, h.cell rfl, h.cell rfl, h.cell rfl, h.cell rfl, h.cell rfl, h.cell rfl, h.cell rfl, h.cell rfl, h.cell rfl, h.cell rfl, h.cell rfl⟩

theorem AskedIn.up {B B' : Nat} {W : World} {v : Value} {L : List (List Tv)} (h : AskedIn B' W v L) (hB : B ≤ B') : AskedIn B W v L :=
  ⟨h.1, fun b off n c hv hn => ⟨Nat.le_trans hB (h.2 b off n c hv hn).1, fun i x hx b' off' n' c' hc hnx => Nat.le_trans hB ((h.2 b off n c hv hn).2 i x hx b' off' n' c' hc hnx)⟩⟩
theorem TermsFrom.up {B B' : Nat} {W : World} {v : Value} {ts : List Tv} (h : TermsFrom B' W v ts) (hB : B ≤ B') : TermsFrom B W v ts := ⟨h.1, fun b off n c hv => Nat.le_trans hB (h.2 b off n c hv)⟩
theorem StrsFrom.up {B B' : Nat} {W : World} {v : Value} {ss : List ByteArray} (h : StrsFrom B' W v ss) (hB : B ≤ B') : StrsFrom B W v ss := ⟨h.1, fun b off n c hv => Nat.le_trans hB (h.2 b off n c hv)⟩
/-- the values that the package reads as lie in blocks from B on -/
structure RdVals (B : Nat) (W : World) (q : Pv) (v1 v2 v3 v4 v5 v6 v7 v8 : Value) : Prop where
  d : AskedIn B W v1 q.dep
  a : AskedIn B W v2 q.ahead
  g : TermsFrom B W v3 q.ag
  b : TermsFrom B W v4 q.br
  r : TermsFrom B W v5 q.re
  p : TermsFrom B W v6 q.pr
  s : StrsFrom B W v7 q.se
  l : StrsFrom B W v8 q.li
  f : q.fi = []
theorem RdVals.keep {B : Nat} {W W' : World} {q : Pv} {v1 v2 v3 v4 v5 v6 v7 v8 : Value} (h : RdVals B W q v1 v2 v3 v4 v5 v6 v7 v8) (k : FromAs B W W') : RdVals B W' q v1 v2 v3 v4 v5 v6 v7 v8 :=
  ⟨h.d.keep k, h.a.keep k, h.g.keep k, h.b.keep k, h.r.keep k, h.p.keep k, h.s.keep k, h.l.keep k, h.f⟩
theorem RdVals.low {B B' : Nat} {W : World} {q : Pv} {v1 v2 v3 v4 v5 v6 v7 v8 : Value} (h : RdVals B' W q v1 v2 v3 v4 v5 v6 v7 v8) (hB : B ≤ B') : RdVals B W q v1 v2 v3 v4 v5 v6 v7 v8 :=
  ⟨h.d.up hB, h.a.up hB, h.g.up hB, h.b.up hB, h.r.up hB, h.p.up hB, h.s.up hB, h.l.up hB, h.f⟩
/-- a package without files whose values lie in blocks from B on -/
def PackFr (B : Nat) (W : World) (v : Value) (q : Pv) : Prop := ∃ v1 v2 v3 v4 v5 v6 v7 v8 : Value, v = .agg (cells13 q v1 v2 v3 v4 v5 v6 v7 v8) ∧ RdVals B W q v1 v2 v3 v4 v5 v6 v7 v8
theorem PackFr.keep {B : Nat} {W W' : World} {v : Value} {q : Pv} (h : PackFr B W v q) (k : FromAs B W W') : PackFr B W' v q := by
  obtain ⟨v1, v2, v3, v4, v5, v6, v7, v8, hv, hr⟩ := h
  exact ⟨v1, v2, v3, v4, v5, v6, v7, v8, hv, hr.keep k⟩
theorem packFr_zero (B : Nat) (W : World) : PackFr B W (.agg zeros) pack0 :=
  ⟨.slice none 0 0, .slice none 0 0, .slice none 0 0, .slice none 0 0, .slice none 0 0, .slice none 0 0, .slice none 0 0, .slice none 0 0, rfl, ⟨askedIn_nil _ _ _, askedIn_nil _ _ _, termsFrom_nil _ _ _, termsFrom_nil _ _ _, termsFrom_nil _ _ _, termsFrom_nil _ _ _, strsFrom_nil _ _ _, strsFrom_nil _ _ _, rfl⟩⟩
def ReadIs (fs : List Fv) (w : World) (E : Ending) (w' : World) : Prop := ∃ v', E = .returned (.tuple #[v', errV (rdE fs)]) ∧ PackAt w' v' (rdV fs) ∧ Below w.heap.size w w' ∧ PackFr w.heap.size w' v' (rdV fs)
/-- the state: the result's box b, the package's box b + 1 -/
structure RdSt (w : World) (b : Nat) (q : Pv) (v1 v2 v3 v4 v5 v6 v7 v8 : Value) (W : World) : Prop where
  z : PkBlk W b zeros
  k : PkBlk W (b + 1) (cells13 q v1 v2 v3 v4 v5 v6 v7 v8)
  v : RdVals (b + 2) W q v1 v2 v3 v4 v5 v6 v7 v8
  low : w.heap.size ≤ b
  w : Below w.heap.size w W
theorem RdSt.below {w W W' : World} {b : Nat} {q : Pv} {v1 v2 v3 v4 v5 v6 v7 v8 : Value} (h : RdSt w b q v1 v2 v3 v4 v5 v6 v7 v8 W) (hb : Below W.heap.size W W') : RdSt w b q v1 v2 v3 v4 v5 v6 v7 v8 W' :=
  ⟨h.z.keep hb, h.k.keep hb, h.v.keep (FromAs.of_below hb), h.low, step_below h.w hb⟩
theorem RdSt.start (w : World) : RdSt w w.heap.size pack0 (.slice none 0 0) (.slice none 0 0) (.slice none 0 0) (.slice none 0 0) (.slice none 0 0) (.slice none 0 0) (.slice none 0 0) (.slice none 0 0) ((w.alloc (.cells zeros 29)).alloc (.cells zeros 29)) :=
  ⟨(pk_new w zeros).keep (below_alloc _ _), by have := pk_new (w.alloc (.cells zeros 29)) zeros; rwa [World.size_alloc] at this,
    ⟨askedIn_nil _ _ _, askedIn_nil _ _ _, termsFrom_nil _ _ _, termsFrom_nil _ _ _, termsFrom_nil _ _ _, termsFrom_nil _ _ _, strsFrom_nil _ _ _, strsFrom_nil _ _ _, rfl⟩, Nat.le_refl _, step_below (below_alloc _ _) (below_alloc _ _)⟩
/-- a store into the package's box -/
theorem RdSt.put {w W : World} {b i : Nat} {q q' : Pv} {v1 v2 v3 v4 v5 v6 v7 v8 u1 u2 u3 u4 u5 u6 u7 u8 : Value} (h : RdSt w b q v1 v2 v3 v4 v5 v6 v7 v8 W) (x : Value)
    (hc : (cells13 q v1 v2 v3 v4 v5 v6 v7 v8).setIfInBounds i x = cells13 q' u1 u2 u3 u4 u5 u6 u7 u8) (hv : RdVals (b + 2) W q' u1 u2 u3 u4 u5 u6 u7 u8) : RdSt w b q' u1 u2 u3 u4 u5 u6 u7 u8 (W.setCell ⟨b + 1, i, none⟩ x) :=
  ⟨h.z.other (by omega) i x, by have := h.k.set i x; rwa [hc] at this, hv.keep (fromAs_set W (b + 1) i x), h.low, h.w.setCell (p := ⟨b + 1, i, none⟩) (Nat.le_trans h.low (Nat.le_succ b)) x⟩

theorem below_set13 {n : Nat} {w0 W : World} {b : Nat} (hb : Below n w0 W) (h : n ≤ b) (v0 v1 v2 v3 v4 v5 v6 v7 v8 v9 va vb vc : Value) :
    Below n w0 (((((((((((((W.setCell ⟨b, 0, none⟩ v0).setCell ⟨b, 1, none⟩ v1).setCell ⟨b, 2, none⟩ v2).setCell ⟨b, 3, none⟩ v3).setCell ⟨b, 4, none⟩ v4).setCell ⟨b, 5, none⟩ v5).setCell ⟨b, 6, none⟩ v6).setCell ⟨b, 7, none⟩ v7).setCell ⟨b, 8, none⟩ v8).setCell ⟨b, 9, none⟩ v9).setCell ⟨b, 10, none⟩ va).setCell ⟨b, 11, none⟩ vb).setCell ⟨b, 12, none⟩ vc) :=
  ((((((((((((hb.setCell (p := ⟨b, 0, none⟩) h v0).setCell (p := ⟨b, 1, none⟩) h v1).setCell (p := ⟨b, 2, none⟩) h v2).setCell (p := ⟨b, 3, none⟩) h v3).setCell (p := ⟨b, 4, none⟩) h v4).setCell (p := ⟨b, 5, none⟩) h v5).setCell (p := ⟨b, 6, none⟩) h v6).setCell (p := ⟨b, 7, none⟩) h v7).setCell (p := ⟨b, 8, none⟩) h v8).setCell (p := ⟨b, 9, none⟩) h v9).setCell (p := ⟨b, 10, none⟩) h va).setCell (p := ⟨b, 11, none⟩) h vb).setCell (p := ⟨b, 12, none⟩) h vc
theorem FromAs.trans_set {B b i : Nat} {W W' : World} {v : Value} (h : FromAs B W W') (hs : W'.heap.size = W.heap.size) (hb : b < B) : FromAs B W (W'.setCell ⟨b, i, none⟩ v) := fun j hj hl => by
  rw [fromAs_set W' b i v j (by omega) (by omega)]
  exact h j hj hl
theorem fromAs_set13 {W : World} {b B : Nat} (h : b < B) (v0 v1 v2 v3 v4 v5 v6 v7 v8 v9 va vb vc : Value) :
    FromAs B W (((((((((((((W.setCell ⟨b, 0, none⟩ v0).setCell ⟨b, 1, none⟩ v1).setCell ⟨b, 2, none⟩ v2).setCell ⟨b, 3, none⟩ v3).setCell ⟨b, 4, none⟩ v4).setCell ⟨b, 5, none⟩ v5).setCell ⟨b, 6, none⟩ v6).setCell ⟨b, 7, none⟩ v7).setCell ⟨b, 8, none⟩ v8).setCell ⟨b, 9, none⟩ v9).setCell ⟨b, 10, none⟩ va).setCell ⟨b, 11, none⟩ vb).setCell ⟨b, 12, none⟩ vc) :=
  ((((((((((((FromAs.trans_set (fun _ _ _ => rfl) rfl h).trans_set (by simp) h).trans_set (by simp) h).trans_set (by simp) h).trans_set (by simp) h).trans_set (by simp) h).trans_set (by simp) h).trans_set (by simp) h).trans_set (by simp) h).trans_set (by simp) h).trans_set (by simp) h).trans_set (by simp) h).trans_set (by simp) h
theorem pack0_at (W : World) : PackAt W (.agg zeros) pack0 :=
  ⟨_, _, _, _, _, _, _, _, _, rfl, (askedIn_nil 0 W 0).1, (askedIn_nil 0 W 0).1, (termsFrom_nil 0 W 0).1, (termsFrom_nil 0 W 0).1, (termsFrom_nil 0 W 0).1, (termsFrom_nil 0 W 0).1, SlC.nil _ _ _, SlC.nil _ _ _, SlC.nil _ _ _, by decide, by decide⟩
theorem readIs_err {fs : List Fv} {w W : World} {n : Int} (h : rdE fs = n ∧ rdV fs = pack0) (hb : Below w.heap.size w W) : ReadIs fs w (.returned (.tuple #[.agg zeros, errV n])) W :=
  ⟨_, by rw [h.1], by rw [h.2]; exact pack0_at W, hb, by rw [h.2]; exact packFr_zero _ W⟩
theorem PackFr.at {B : Nat} {W : World} {v : Value} {q : Pv} (h : PackFr B W v q) (h0 : -9223372036854775808 ≤ q.e) (h1 : q.e ≤ 9223372036854775807) : PackAt W v q := by
  obtain ⟨v1, v2, v3, v4, v5, v6, v7, v8, rfl, hr⟩ := h
  exact ⟨v1, v2, v3, v4, v5, v6, v7, v8, .slice none 0 0, rfl, hr.d.1, hr.a.1, hr.g.1, hr.b.1, hr.r.1, hr.p.1, hr.s.1, hr.l.1, by rw [hr.f]; exact SlC.nil _ _ _, h0, h1⟩
theorem packAt_of {B : Nat} {W : World} {q : Pv} {v1 v2 v3 v4 v5 v6 v7 v8 : Value} (h : RdVals B W q v1 v2 v3 v4 v5 v6 v7 v8) (h0 : -9223372036854775808 ≤ q.e) (h1 : q.e ≤ 9223372036854775807) : PackAt W (.agg (cells13 q v1 v2 v3 v4 v5 v6 v7 v8)) q :=
  ⟨v1, v2, v3, v4, v5, v6, v7, v8, .slice none 0 0, rfl, h.d.1, h.a.1, h.g.1, h.b.1, h.r.1, h.p.1, h.s.1, h.l.1, by rw [h.f]; exact SlC.nil _ _ _, h0, h1⟩
end Go.Proofs.YtodbbfgkclkpgaaGreatDoor

namespace Go.Proofs.YtodbbfgkclkpgaaGreatDoor
open Go Go.RowKit

/-- one file, and what is left -/
def fileP (s : ByteArray) : Option (Fv × ByteArray) := match VP.cutAt 10 s.data.toList with
  | none => none
  | some (h, r) => match VP.cutAt 32 h with
    | none => none
    | some (nm, z) => match VP.number 6 z with
      | none => none
      | some n => if r[n]? = some 10 then some (⟨⟨nm.toArray⟩, ⟨(r.take n).toArray⟩⟩, ⟨(r.drop (n + 1)).toArray⟩) else none
theorem fileP_sizes {s r : ByteArray} {f : Fv} (h : fileP s = some (f, r)) : r.size < s.size ∧ f.n.size ≤ s.size ∧ f.v.size ≤ s.size := by
  unfold fileP at h
  cases hc : VP.cutAt 10 s.data.toList with
  | none => rw [hc] at h; cases h
  | some p =>
    obtain ⟨hd, rs⟩ := p
    rw [hc] at h
    dsimp only at h
    cases hc2 : VP.cutAt 32 hd with
    | none => rw [hc2] at h; cases h
    | some p =>
      obtain ⟨nm, z⟩ := p
      rw [hc2] at h
      dsimp only at h
      cases hn : VP.number 6 z with
      | none => rw [hn] at h; cases h
      | some n =>
        rw [hn] at h
        dsimp only at h
        have h1 := cutAt_len hc
        have h2 := cutAt_len hc2
        split at h
        · have e := Option.some.inj h
          injection e with e1 e2
          subst e1 e2
          rw [size_eq_length, size_eq_length, size_eq_length, size_eq_length]
          simp only [List.length_drop, List.length_take]
          omega
        · cases h
def filesP (s : ByteArray) : Option (List Fv) :=
  if s.size = 0 then some [] else match _h : fileP s with
    | none => none
    | some (f, r) => (filesP r).map (f :: ·)
termination_by s.size
decreasing_by exact (fileP_sizes _h).1
theorem filesP_empty {s : ByteArray} (h : s.size = 0) : filesP s = some [] := by rw [filesP, if_pos h]
theorem filesP_none {s : ByteArray} (h : ¬ s.size = 0) (hf : fileP s = none) : filesP s = none := by
  rw [filesP, if_neg h]
  split
  · rfl
  · rename_i f r h1
    rw [hf] at h1; cases h1
theorem filesP_some {s r : ByteArray} {f : Fv} (h : ¬ s.size = 0) (hf : fileP s = some (f, r)) : filesP s = (filesP r).map (f :: ·) := by
  rw [filesP, if_neg h]
  split
  · rename_i h1
    rw [hf] at h1; cases h1
  · rename_i f' r' h1
    rw [hf] at h1
    have e := Option.some.inj h1
    injection e with e1 e2
    subst e1 e2
    rfl
/-- read so far: fs, and rest is left -/
structure FilesAt (s : ByteArray) (fs : List Fv) (rest : ByteArray) : Prop where
  eq : filesP s = (filesP rest).map (fs ++ ·)
  le : rest.size + fs.length ≤ s.size
  sz : ∀ f ∈ fs, f.n.size ≤ s.size ∧ f.v.size ≤ s.size
theorem FilesAt.start (s : ByteArray) : FilesAt s [] s := ⟨by cases filesP s <;> rfl, by simp, fun f hf => by cases hf⟩
theorem FilesAt.step {s rest r : ByteArray} {fs : List Fv} {f : Fv} (h : FilesAt s fs rest) (h0 : ¬ rest.size = 0) (hf : fileP rest = some (f, r)) : FilesAt s (fs ++ [f]) r := by
  have hz := fileP_sizes hf
  have hl := h.le
  refine ⟨?_, ?_, fun g hg => ?_⟩
  · rw [h.eq, filesP_some h0 hf]
    cases filesP r with
    | none => rfl
    | some l => simp
  · rw [List.length_append]; simp only [List.length_cons, List.length_nil]; omega
  · rcases List.mem_append.1 hg with hg | hg
    · exact h.sz g hg
    · obtain rfl := List.mem_singleton.1 hg
      omega
theorem FilesAt.none {s rest : ByteArray} {fs : List Fv} (h : FilesAt s fs rest) (h0 : ¬ rest.size = 0) (hf : fileP rest = none) : filesP s = none := by
  rw [h.eq, filesP_none h0 hf]; rfl
theorem FilesAt.done {s rest : ByteArray} {fs : List Fv} (h : FilesAt s fs rest) (h0 : rest.size = 0) : filesP s = some fs := by
  rw [h.eq, filesP_empty h0]; simp

/-- the head, and what is behind the empty line -/
def headP (s : ByteArray) : Option (ByteArray × ByteArray) :=
  if (Lib.cut s.data.toList [10, 10]).2.2 then some (⟨(Lib.cut s.data.toList [10, 10]).1.toArray⟩, ⟨(Lib.cut s.data.toList [10, 10]).2.1.toArray⟩) else none
theorem headP_sizes {s a b : ByteArray} (h : headP s = some (a, b)) : a.size ≤ s.size ∧ b.size ≤ s.size := by
  unfold headP at h
  split at h
  · have e := Option.some.inj h
    injection e with e1 e2
    subst e1 e2
    rw [size_eq_length, size_eq_length, size_eq_length]
    unfold Lib.cut
    split
    · simp only [List.length_take, List.length_drop]; omega
    · simp
  · cases h
def withFiles (p : Pv) (fs : List Fv) : Pv := { p with fi := fs }
def arcP (s : ByteArray) : Except Int Pv :=
  if 4000 < s.size then .error 4
  else match headP s with
    | none => .error 3
    | some (hd, rest) => match parseS hd with
      | .error _ => .error 3
      | .ok [l] => match readP l with
        | .error e => .error e
        | .ok p => match filesP rest with
          | none => .error 3
          | some fs => if archB (withFiles p fs) then .ok (withFiles p fs) else .error 1
      | .ok _ => .error 3
def arE (s : ByteArray) : Int := match arcP s with
  | .ok _ => 0
  | .error e => e
def arV (s : ByteArray) : Pv := match arcP s with
  | .ok p => p
  | .error _ => pack0
theorem ar_error {s : ByteArray} {e : Int} (h : arcP s = .error e) : arE s = e ∧ arV s = pack0 := by unfold arE arV; rw [h]; exact ⟨rfl, rfl⟩
theorem ar_ok {s : ByteArray} {p : Pv} (h : arcP s = .ok p) : arE s = 0 ∧ arV s = p := by unfold arE arV; rw [h]; exact ⟨rfl, rfl⟩
theorem arc_big {s : ByteArray} (h : 4000 < s.size) : arcP s = .error 4 := by unfold arcP; rw [if_pos h]
theorem arc_nohead {s : ByteArray} (h : ¬ 4000 < s.size) (hh : headP s = none) : arcP s = .error 3 := by unfold arcP; rw [if_neg h, hh]
theorem arc_nostz {s hd rest : ByteArray} {n : Nat} (h : ¬ 4000 < s.size) (hh : headP s = some (hd, rest)) (hp : parseS hd = .error n) : arcP s = .error 3 := by unfold arcP; rw [if_neg h, hh]; dsimp only; rw [hp]
theorem arc_many2 {s hd rest : ByteArray} {L : List (List Fv)} (h : ¬ 4000 < s.size) (hh : headP s = some (hd, rest)) (hp : parseS hd = .ok L) (hl : L.length ≠ 1) : arcP s = .error 3 := by
  unfold arcP; rw [if_neg h, hh]; dsimp only; rw [hp]
  match L, hl with
  | [], _ => rfl
  | [_], hl => exact absurd rfl hl
  | _ :: _ :: _, _ => rfl
theorem arc_one {s hd rest : ByteArray} {l : List Fv} (h : ¬ 4000 < s.size) (hh : headP s = some (hd, rest)) (hp : parseS hd = .ok [l]) : arcP s = match readP l with
    | .error e => .error e
    | .ok p => match filesP rest with
      | none => .error 3
      | some fs => if archB (withFiles p fs) then .ok (withFiles p fs) else .error 1 := by
  unfold arcP; rw [if_neg h, hh]; dsimp only; rw [hp]
def ArcRIs (s : ByteArray) (w : World) (E : Ending) (w' : World) : Prop := ∃ v', E = .returned (.tuple #[v', errV (arE s)]) ∧ PackAt w' v' (arV s) ∧ Below w.heap.size w w'
theorem someP_err {n : Nat} {l : List (List UInt8)} {e : Int} (h : VP.someP n l = .error e) : e = 3 ∨ e = 4 := by
  induction l generalizing n with
  | nil => cases h
  | cons a l ih =>
    unfold VP.someP at h
    split at h
    · injection h with h; omega
    · split at h
      · injection h with h; omega
      · split at h
        · rename_i e' he
          injection h with h
          subst h
          exact ih he
        · cases h
theorem eachP_err {n : Nat} {l : List (List UInt8)} {e : Int} (h : VP.eachP n l = .error e) : e = 3 ∨ e = 4 := by
  induction l generalizing n with
  | nil => cases h
  | cons a l ih =>
    unfold VP.eachP at h
    split at h
    · rename_i e' he
      injection h with h
      subst h
      exact someP_err he
    · split at h
      · rename_i e' he
        injection h with h
        subst h
        exact ih he
      · cases h
theorem termsP_err {l : List UInt8} {e : Int} (h : VP.termsP l = .error e) : e = 3 ∨ e = 4 := by
  unfold VP.termsP at h
  split at h
  · cases h
  · exact eachP_err h
theorem readT_err {s : ByteArray} {e : Int} (h : readT s = .error e) : e = 3 ∨ e = 4 := by
  unfold readT at h
  split at h
  · rename_i e' he
    injection h with h
    subst h
    exact termsP_err he
  · cases h
theorem readS_err {s : ByteArray} {e : Int} (h : readS s = .error e) : e = 3 ∨ e = 4 := by
  unfold readS VP.listP at h
  split at h
  · rename_i e' he
    injection h with h
    subst h
    split at he
    · rename_i e2 he2
      injection he with he
      subst he
      exact termsP_err he2
    · split at he
      · cases he
      · injection he with he; omega
  · cases h
theorem map_err {α : Type} {x : Except Int α} {f : α → Pv} {e : Int} (h : x.map f = .error e) : x = .error e := by
  cases x with
  | error e' => injection h with h; rw [h]
  | ok a => cases h
theorem rdK_err {fs : List Fv} {p : Pv} {k : Nat} {e : Int} (h : rdK fs p k = .error e) : e = 3 ∨ e = 4 := by
  unfold rdK at h
  split at h
  · exact readT_err (map_err h)
  · exact readT_err (map_err h)
  · exact readS_err (map_err h)
  · exact readS_err (map_err h)
  · exact readS_err (map_err h)
  · exact readS_err (map_err h)
  · cases h
theorem rdTo_err {fs : List Fv} {p : Pv} {k : Nat} {e : Int} (h : rdTo fs p k = .error e) : e = 3 ∨ e = 4 := by
  induction k with
  | zero => cases h
  | succ k ih =>
    unfold rdTo at h
    split at h
    · rename_i e' he
      injection h with h
      subst h
      exact ih he
    · exact rdK_err h
theorem readP_err {l : List Fv} {e : Int} (h : readP l = .error e) : e ≠ 0 := by
  unfold readP at h
  split at h
  · split at h
    · injection h with h; omega
    · split at h
      · rename_i x hx
        injection h with h
        subst h
        have := rdTo_err hx
        omega
      · split at h
        · split at h
          · cases h
          · injection h with h; omega
        · injection h with h; omega
  · injection h with h; omega
theorem rd_cases (l : List Fv) : (∃ e, readP l = .error e ∧ rdE l = e ∧ rdV l = pack0 ∧ e ≠ 0) ∨ (∃ p, readP l = .ok p ∧ rdE l = 0 ∧ rdV l = p) := by
  cases h : readP l with
  | error e => exact .inl ⟨e, rfl, (rd_error h).1, (rd_error h).2, readP_err h⟩
  | ok p => exact .inr ⟨p, rfl, (rd_ok h).1, (rd_ok h).2⟩
end Go.Proofs.YtodbbfgkclkpgaaGreatDoor

namespace Go.Proofs.YtodbbfgkclkpgaaGreatDoor
open Go Go.RowKit Go.Shelf

/-- the library's two errors -/
def EnvA (w : World) : Prop := (∃ (t : TypeId) (p : Value), w.cell? ⟨5, 0, none⟩ = some (.iface t p)) ∧ ∃ (t : TypeId) (p : Value), w.cell? ⟨6, 0, none⟩ = some (.iface t p)
theorem EnvA.below {w w' : World} (h : EnvA w) (hb : Below w.heap.size w w') : EnvA w' := by
  obtain ⟨⟨t, p, h1⟩, t2, p2, h2⟩ := h
  exact ⟨⟨t, p, kept hb h1⟩, t2, p2, kept hb h2⟩
def AtoiIs (z : ByteArray) (w : World) (E : Ending) (w' : World) : Prop := Below w.heap.size w w' ∧ ((∃ v : Int, E = .returned (.tuple #[.int .i64 v, .nilIface]) ∧ Lib.atoiAll z.data.toList = .ok v) ∨ (∃ (v : Int) (t : TypeId) (p : Value), E = .returned (.tuple #[.int .i64 v, .iface t p]) ∧ ∀ u, Lib.atoiAll z.data.toList ≠ .ok u))
theorem atoi_calls (z : ByteArray) (w : World) (hA : EnvA w) (hz : z.size ≤ 1000000) : Calls Tryz.prog 106 #[.string z] w (AtoiIs z w) := by
  obtain ⟨⟨t1, p1, h1⟩, t2, p2, h2⟩ := hA
  cases hc : Lib.atoiAll z.data.toList with
  | ok v =>
    refine (Tryz.strconv_Atoi_ok z (by omega) v hc w).mono fun E w' ⟨he, hw⟩ => ⟨?_, .inl ⟨v, he, hc⟩⟩
    rcases hw with rfl | ⟨t, rfl⟩
    · exact Below.refl _ _
    · exact Joins.below_bytesWorld _ _ _ _ (Nat.le_refl _)
  | range => exact (Tryz.strconv_Atoi_range z (by omega) hc _ w h2 (.inr ⟨t2, p2, rfl⟩)).mono fun E w' ⟨N, he, _, _, hb⟩ => ⟨hb, .inr ⟨_, _, _, he, fun u e => (by rw [hc] at e; cases e)⟩⟩
  | _ => exact (Any.strconv_Atoi_syntax Tryz.laysC172 z (by omega) hc _ w h1 (.inr ⟨t1, p1, rfl⟩)).mono fun E w' ⟨N, he, _, _, hb⟩ => ⟨hb, .inr ⟨_, _, _, he, fun u e => (by rw [hc] at e; cases e)⟩⟩
end Go.Proofs.YtodbbfgkclkpgaaGreatDoor

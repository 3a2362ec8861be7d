/- stanza.Parse: the rows of fields that it makes; what keeps them. · record.lines: the lines of a field, behind the first one, which is empty. -/
import Derived.Test.YtodbbfgkclkpgaaGreatDoorABK24
import Derived.Test.YtodbbfgkclkpgaaGreatDoorABK20
import Derived.Test.YtodbbfgkclkpgaaGreatDoorABK17
import Derived.Test.YtodbbfgkclkpgaaGreatDoorABK23
import Derived.Test.YtodbbfgkclkpgaaGreatDoorABK19
import Derived.Deep.RegionHeld3
namespace Go.Proofs.YtodbbfgkclkpgaaGreatDoor
open Go Go.RowKit

theorem info_fields : (Tryz.prog.info? 31).map (fun i => (i.zero, i.size, i.bytes)) = some (some (.slice none 0 0), 1, 24) := by kernel_rfl

theorem two_facts {W : World} {q : Nat} {a b : Value} {t : TypeId} (h : W.heap[q]? = some (.cells #[a, b] t (0, 0))) : W.cell? ⟨q, 0, none⟩ = some a ∧ W.cell? ⟨q, 1, none⟩ = some b ∧ (∀ i, W.frozen? ⟨q, i, none⟩ = false) := by
  refine ⟨?_, ?_, fun i => ?_⟩
  · unfold World.cell?; rw [h]; rfl
  · unfold World.cell?; rw [h]; rfl
  · unfold World.frozen?; rw [h]; rfl
/-- stanzas, as they lie in memory -/
def StzsAt (w : World) (v : Value) (L : List (List Fv)) : Prop := ∃ A c, v = .slice A L.length c ∧ L.length ≤ 9223372036854775807 ∧ (L ≠ [] → ∃ b off, A = some ⟨b, off, none⟩ ∧ ∀ (i : Nat) (x : List Fv), L[i]? = some x → ∃ vx, w.cell? ⟨b, off + i, none⟩ = some vx ∧ FieldsAt w vx x)
def StzIs (s : ByteArray) (w : World) (E : Ending) (w' : World) : Prop :=
  Below w.heap.size w w' ∧ ((∃ L v, E = .returned (.tuple #[v, .nilIface]) ∧ parseS s = .ok L ∧ StzsAt w' v L) ∨
    (∃ n p, E = .returned (.tuple #[.slice none 0 0, .iface 185 p]) ∧ parseS s = .error n))

theorem pstep_count {st st' : PSt} {x : ByteArray} (hs : pstep st x = some st') : st'.1.length + st'.2.length ≤ st.1.length + st.2.length + 1 := by
  have hfl : (flushP st).1.length + (flushP st).2.length ≤ st.1.length + st.2.length + 1 := by
    unfold flushP
    split
    · omega
    · simp only [List.length_append, List.length_cons, List.length_nil]; omega
  have hal : ∀ t, (addLast st.2 t).length = st.2.length := by
    intro t
    unfold addLast
    cases hg : st.2.getLast? with
    | none => rfl
    | some g =>
      have : st.2 ≠ [] := by intro e; rw [e] at hg; cases hg
      have := List.length_pos_iff.2 this
      simp only [List.length_append, List.length_dropLast, List.length_cons, List.length_nil]; omega
  unfold pstep at hs
  split at hs
  · obtain rfl := Option.some.inj hs; omega
  split at hs
  · obtain rfl := Option.some.inj hs; exact hfl
  split at hs
  · split at hs
    · cases hs
    · cases hc : contOf (trimB x) with
      | none => rw [hc] at hs; cases hs
      | some t =>
        rw [hc] at hs
        obtain rfl := Option.some.inj hs
        have := hal t
        show st.1.length + (addLast st.2 t).length ≤ _
        omega
  · cases hf : fieldOf x with
    | none => rw [hf] at hs; cases hs
    | some f =>
      rw [hf] at hs
      dsimp only at hs
      split at hs
      · cases hs
      · obtain rfl := Option.some.inj hs
        simp only [List.length_append, List.length_cons, List.length_nil]; omega
theorem pfold_count : ∀ (ls : List ByteArray) {n : Nat} {st st' : PSt}, pfold n ls st = .ok st' → st'.1.length + st'.2.length ≤ st.1.length + st.2.length + ls.length
  | [], n, st, st', hs => by injection hs with hs; subst hs; simp
  | x :: ls, n, st, st', hs => by
    unfold pfold at hs
    cases hp : pstep st x with
    | none => rw [hp] at hs; cases hs
    | some s1 =>
      rw [hp] at hs
      have h1 := pfold_count ls hs
      have h2 := pstep_count hp
      simp only [List.length_cons]
      omega
theorem lsum_take (ls : List ByteArray) (k : Nat) : lsum (ls.take k) ≤ lsum ls := by
  have h : lsum ls = lsum (ls.take k) + lsum (ls.drop k) := by
    unfold lsum
    rw [← List.sum_append, ← List.map_append, List.take_append_drop]
  omega
/-- at line k: how many, how long -/
theorem at_line {s : ByteArray} {k : Nat} {st : PSt} (h : pfold 0 ((piecesB 10 s).take k) ([], []) = .ok st) : st.1.length + st.2.length ≤ k ∧ ∀ f ∈ st.2, f.n.size ≤ s.size + 1 ∧ f.v.size ≤ s.size + 1 := by
  have h1 := pfold_count _ h
  rw [List.length_take] at h1
  simp only [List.length_nil] at h1
  have h2 := pfold_fits _ (B := 0) (st := ([], [])) ⟨fun l hl => (by cases hl), fun f hf => (by cases hf)⟩ h
  have h3 := lsum_take (piecesB 10 s) k
  rw [lsum_pieces] at h3
  refine ⟨by omega, fun f hf => ?_⟩
  have := h2.2 f hf
  omega

structure ParSt (B Bl : Nat) (W : World) (vo vl : Value) (st : PSt) (vs : List Value) : Prop where
  o : W.ownsRow B 31 1 vo st.1.length vs
  l : W.ownsRow Bl 69 2 vl st.2.length (st.2.flatMap fldC)
  n : vs.length = st.1.length
  r : ∀ (i : Nat) (x : List Fv), st.1[i]? = some x → ∃ vx, vs[i]? = some vx ∧ W.ownsRow B 69 2 vx x.length (x.flatMap fldC)
  a : ∀ vx ∈ vs, ∀ g, vx.ownBlock = some g → g < Bl
  lo : B ≤ Bl
  hi : Bl ≤ W.heap.size
theorem ParSt.start (W : World) : ParSt W.heap.size W.heap.size W (.slice none 0 0) (.slice none 0 0) ([], []) [] :=
  ⟨World.ownsRow_nil _ _ _ _, World.ownsRow_nil _ _ _ _, rfl, fun _ _ h => (by cases h), fun _ h => (by cases h), Nat.le_refl _, Nat.le_refl _⟩
theorem ParSt.below {B Bl : Nat} {W W' : World} {vo vl : Value} {st : PSt} {vs : List Value} (h : ParSt B Bl W vo vl st vs) (hb : Below W.heap.size W W') : ParSt B Bl W' vo vl st vs :=
  ⟨own_below h.o hb, own_below h.l hb, h.n, fun i x hx => by obtain ⟨vx, h1, h2⟩ := h.r i x hx; exact ⟨vx, h1, own_below h2 hb⟩, h.a, h.lo, Nat.le_trans h.hi hb.size⟩
theorem own_apart {W : World} {B1 B2 n1 n2 s1 s2 : Nat} {e1 e2 : TypeId} {v1 v2 : Value} {x1 x2 : List Value} (h1 : W.ownsRow B1 e1 s1 v1 n1 x1) (h2 : W.ownsRow B2 e2 s2 v2 n2 x2) (hne : e1 ≠ e2) : v1.ownBlock = none ∨ v1.ownBlock ≠ v2.ownBlock := by
  rcases h1.2 with ⟨rfl, _⟩ | ⟨g, cap, cur, rfl, _, hk, _⟩
  · exact .inl rfl
  · exact .inr (own_other h2 hk hne)
/-- what is not in the row that grows -/
theorem ParSt.kept {B Bl : Nat} {W W' : World} {vo vl : Value} {st : PSt} {vs : List Value} {row : Option Nat} (h : ParSt B Bl W vo vl st vs) (hg : W.grownBy W' row) (hr : ∀ vx ∈ vs, ∀ g, vx.ownBlock = some g → row ≠ some g) (i : Nat) (x : List Fv) (hx : st.1[i]? = some x) : ∃ vx, vs[i]? = some vx ∧ W'.ownsRow B 69 2 vx x.length (x.flatMap fldC) := by
  obtain ⟨vx, h1, h2⟩ := h.r i x hx
  refine ⟨vx, h1, h2.kept hg ?_⟩
  cases hb : vx.ownBlock with
  | none => exact .inl rfl
  | some g => exact .inr (fun e => hr vx (List.mem_of_getElem? h1) g hb e.symm)
/-- the rows' blocks hold fields -/
theorem ParSt.fields {B Bl : Nat} {W : World} {vo vl : Value} {st : PSt} {vs : List Value} (h : ParSt B Bl W vo vl st vs) {vx : Value} (hv : vx ∈ vs) {g : Nat} (hg : vx.ownBlock = some g) : ∃ cur, W.heap[g]? = some (.cells cur 69 (0, 0)) := by
  obtain ⟨i, hi⟩ := List.mem_iff_getElem?.1 hv
  have hlt : i < st.1.length := by rw [← h.n]; exact (List.getElem?_eq_some_iff.1 hi).1
  obtain ⟨vy, h1, h2⟩ := h.r i _ (List.getElem?_eq_getElem hlt)
  rw [hi] at h1
  obtain rfl := Option.some.inj h1
  rcases h2.2 with ⟨rfl, _⟩ | ⟨g', cap, cur, rfl, _, hk, _⟩
  · cases hg
  · obtain rfl : g' = g := by simpa [Value.ownBlock] using hg
    exact ⟨cur, hk⟩
theorem ParSt.flush {B Bl : Nat} {W W' : World} {vo vo' vl : Value} {st : PSt} {vs : List Value} {tmp : Obj} (h : ParSt B Bl W vo vl st vs) (hg : (W.alloc tmp).grownBy W' vo.ownBlock) (hown : W'.ownsRow B 31 1 vo' (st.1.length + 1) (vs ++ [vl])) :
    ParSt B W'.heap.size W' vo' (.slice none 0 0) (st.1 ++ [st.2], []) (vs ++ [vl]) := by
  have hA := h.below (below_alloc W tmp)
  have hz : W.heap.size ≤ W'.heap.size := by have := hg.size; rw [World.size_alloc] at this; omega
  refine ⟨by rw [List.length_append]; exact hown, World.ownsRow_nil _ _ _ _, by rw [List.length_append, List.length_append, h.n]; rfl, fun i x hx => ?_, fun vx hv g hb => ?_, ?_, Nat.le_refl _⟩
  · rcases Nat.lt_trichotomy i st.1.length with hi | hi | hi
    · rw [List.getElem?_append_left hi] at hx
      obtain ⟨vx, h1, h2⟩ := hA.kept hg (fun vx hv g hb => by
        obtain ⟨cur, hk⟩ := hA.fields hv hb
        exact fun e => own_other hA.o hk (by decide) e.symm) i x hx
      exact ⟨vx, by rw [List.getElem?_append_left (by rw [h.n]; exact hi)]; exact h1, h2⟩
    · subst hi
      rw [List.getElem?_append_right (Nat.le_refl _), Nat.sub_self] at hx
      obtain rfl := Option.some.inj hx
      refine ⟨vl, by rw [List.getElem?_append_right (by rw [h.n]; exact Nat.le_refl _), h.n, Nat.sub_self]; rfl, ?_⟩
      exact Joins.ownsRow_le (hA.l.kept hg (own_apart hA.l hA.o (by decide))) h.lo
    · rw [List.getElem?_eq_none (by rw [List.length_append, List.length_singleton]; omega)] at hx
      cases hx
  · rcases List.mem_append.1 hv with hv | hv
    · have := h.a vx hv g hb
      have := h.hi
      omega
    · obtain rfl := List.mem_singleton.1 hv
      have := (h.l.lt g hb).2
      omega
  · have := h.lo
    have := h.hi
    omega
theorem ParSt.push {B Bl : Nat} {W W' : World} {vo vl vl' : Value} {st : PSt} {vs : List Value} {tmp : Obj} {f : Fv} (h : ParSt B Bl W vo vl st vs) (hg : (W.alloc tmp).grownBy W' vl.ownBlock) (hown : W'.ownsRow Bl 69 2 vl' (st.2.length + 1) (st.2.flatMap fldC ++ fldC f)) :
    ParSt B Bl W' vo vl' (st.1, st.2 ++ [f]) vs := by
  have hA := h.below (below_alloc W tmp)
  have hz : W.heap.size ≤ W'.heap.size := by have := hg.size; rw [World.size_alloc] at this; omega
  refine ⟨hA.o.kept hg (own_apart hA.o hA.l (by decide)), by rw [List.length_append, List.flatMap_append]; simpa using hown, h.n, fun i x hx => ?_, h.a, h.lo, Nat.le_trans h.hi hz⟩
  refine hA.kept hg (fun vx hv g hb e => ?_) i x hx
  have h1 := h.a vx hv g hb
  have h2 := (h.l.lt g e).1
  omega
theorem set_last {α : Type} (l : List α) (a b : α) : (l ++ [a]).set l.length b = l ++ [b] := by
  rw [List.set_append_right _ _ (Nat.le_refl _), Nat.sub_self]
  rfl
theorem flat_fld (fs : List Fv) : (fs.flatMap fldC).length = fs.length * 2 := flat_length (cs := fldC) (size := 2) (fun _ => rfl) fs
/-- the last field says more -/
theorem ParSt.more {B Bl g n cap : Nat} {W : World} {vo : Value} {st : PSt} {vs : List Value} {t u : ByteArray} {f : Fv} (h : ParSt B Bl W vo (.slice (some ⟨g, 0, none⟩) n cap) st vs) (hl : st.2.getLast? = some f) (hn : n = st.2.length) (hu : u.data.toList = f.v.data.toList ++ 10 :: t.data.toList) :
    ParSt B Bl (W.setCell ⟨g, (n - 1) * 2 + 1, none⟩ (.string u)) vo (.slice (some ⟨g, 0, none⟩) n cap) (st.1, addLast st.2 t) vs ∧ Bl ≤ g := by
  obtain ⟨fs, hfs⟩ : ∃ fs, st.2 = fs ++ [f] := by
    have hne : st.2 ≠ [] := by intro e; rw [e] at hl; cases hl
    refine ⟨st.2.dropLast, ?_⟩
    have h1 := List.dropLast_concat_getLast hne
    rw [List.getLast?_eq_some_getLast hne] at hl
    rw [← Option.some.inj hl]
    exact h1.symm
  have hadd : addLast st.2 t = fs ++ [⟨f.n, u⟩] := by
    unfold addLast
    rw [hl, hfs]
    dsimp only
    rw [List.dropLast_concat, ← hu, mk_data]
  have hlen : n = fs.length + 1 := by rw [hn, hfs, List.length_append]; rfl
  have hrow : W.ownsRow Bl 69 2 (.slice (some ⟨g, 0, none⟩) n cap) n (st.2.flatMap fldC) := by
    have := h.l
    rwa [← hn] at this
  obtain ⟨hs, hg⟩ := hrow.stored ((n - 1) * 2 + 1) (.string u)
  have hgB := (h.l.lt g rfl).1
  have hcells : (st.2.flatMap fldC).set ((n - 1) * 2 + 1) (.string u) = (fs ++ [(⟨f.n, u⟩ : Fv)]).flatMap fldC := by
    rw [hfs, List.flatMap_append, List.flatMap_append, hlen]
    have e1 : [f].flatMap fldC = [.string f.n, .string f.v] := rfl
    have e2 : [(⟨f.n, u⟩ : Fv)].flatMap fldC = [.string f.n, .string u] := rfl
    rw [e1, e2, show fs.flatMap fldC ++ [Value.string f.n, Value.string f.v] = (fs.flatMap fldC ++ [Value.string f.n]) ++ [Value.string f.v] by simp]
    have e3 : (fs.length + 1 - 1) * 2 + 1 = (fs.flatMap fldC ++ [Value.string f.n]).length := by rw [List.length_append, flat_fld]; simp
    rw [e3, set_last]
    simp
  have hz : (W.setCell ⟨g, (n - 1) * 2 + 1, none⟩ (.string u)).heap.size = W.heap.size := by simp
  refine ⟨⟨h.o.kept hg (own_apart h.o h.l (by decide)), ?_, h.n, fun i x hx => ?_, h.a, h.lo, by rw [hz]; exact h.hi⟩, hgB⟩
  · show World.ownsRow _ Bl _ 2 _ (addLast st.2 t).length ((addLast st.2 t).flatMap fldC)
    rw [hadd, show (fs ++ [(⟨f.n, u⟩ : Fv)]).length = n by rw [hlen, List.length_append]; rfl, ← hcells]
    exact hs
  · refine h.kept hg (fun vx hv g' hb e => ?_) i x hx
    have h1 := h.a vx hv g' hb
    obtain rfl : g = g' := by injection e
    omega
theorem own_max {W : World} {B size n : Nat} {e : TypeId} {v : Value} {xs : List Value} (h : W.ownsRow B e size v n xs) : n ≤ 9223372036854775807 := by
  rcases h.2 with ⟨_, rfl⟩ | ⟨g, cap, cur, _, _, _, h1, h2, _⟩
  · omega
  · unfold maxLen at h2; omega
/-- all in all -/
theorem ParSt.stzs {B Bl : Nat} {W : World} {vo vl : Value} {st : PSt} {vs : List Value} (h : ParSt B Bl W vo vl st vs) (hm : st.1.length ≤ 9223372036854775807) : StzsAt W vo st.1 := by
  rcases id h.o.2 with ⟨rfl, h0⟩ | ⟨g, cap, cur, rfl, hg, hk, hc, _⟩
  · have : st.1 = [] := List.eq_nil_of_length_eq_zero h0
    rw [this]
    exact ⟨none, 0, rfl, by simp, fun h => absurd rfl h⟩
  · refine ⟨some ⟨g, 0, none⟩, cap, rfl, hm, fun _ => ⟨g, 0, rfl, fun i x hx => ?_⟩⟩
    obtain ⟨vx, h1, h2⟩ := h.r i x hx
    refine ⟨vx, ?_, slc_of_own h2 rfl (own_max h2)⟩
    have := h.o.cells (g := g) rfl i vx h1
    rwa [Go.WideShapes.add_plain] at this
theorem own_slice {W : World} {B size n : Nat} {e : TypeId} {v : Value} {xs : List Value} (h : W.ownsRow B e size v n xs) : ∃ A c, v = .slice A n c := by
  rcases h.2 with ⟨rfl, rfl⟩ | ⟨g, cap, cur, rfl, _⟩
  · exact ⟨none, 0, rfl⟩
  · exact ⟨_, cap, rfl⟩
end Go.Proofs.YtodbbfgkclkpgaaGreatDoor

namespace Go.Proofs.YtodbbfgkclkpgaaGreatDoor
open Go Go.RowKit

/-- the lines that a field says, and whether they may be -/
def linesV (fs : List Fv) (s : ByteArray) : List ByteArray := match getB fs s with
  | none => []
  | some v => (piecesB 10 v).tail
def linesOk (fs : List Fv) (s : ByteArray) : Bool := match getB fs s with
  | none => true
  | some v => decide ((piecesB 10 v)[0]? = some ⟨#[]⟩) && decide (1 < (piecesB 10 v).length)
def LinesIs (fs : List Fv) (s : ByteArray) (w : World) (E : Ending) (w' : World) : Prop := ∃ A n c, E = .returned (.tuple #[.slice A n c, .bool (linesOk fs s)]) ∧ StrsAt w' (.slice A n c) (linesV fs s) ∧ SlFr w.heap.size (.slice A n c) ∧ Below w.heap.size w w'

theorem name_eq2 (x : ByteArray) : (x.toList == (⟨#[]⟩ : ByteArray).toList) = decide (x = (⟨#[]⟩ : ByteArray)) := by
  rw [Lib.toList_data, Lib.toList_data, Bool.eq_iff_iff, beq_iff_eq, decide_eq_true_iff]
  exact ⟨fun h => data_inj h, fun h => by rw [h]⟩
theorem name_eq_true {x : ByteArray} (h : (x.toList == (⟨#[]⟩ : ByteArray).toList) = true) : x = ⟨#[]⟩ := by
  rw [name_eq2] at h
  exact of_decide_eq_true h
theorem text_ne2 {S : ByteArray} (h : ¬ S.size = 0) : (S.toList == (⟨#[]⟩ : ByteArray).toList) = false ∧ (S.toList == []) = false := by
  have h1 := isEmpty_false S (by omega)
  have e : (⟨#[]⟩ : ByteArray).toList = [] := by rw [Lib.toList_data]
  rw [e]
  have h2 : (S.toList == []) = false := by
    cases hl : S.toList with
    | nil => rw [hl] at h1; cases h1
    | cons a l => rfl
  exact ⟨h2, h2⟩
theorem strs_tail {W : World} {b n : Nat} {ss : List ByteArray} (hn : n = ss.length) (hm : n ≤ 9223372036854775807) (h : ∀ (i : Nat) (x : ByteArray), ss[i]? = some x → W.cell? ⟨b, i, none⟩ = some (.string x)) : StrsAt W (.slice (some ⟨b, 1, none⟩) (n - 1) (n - 1)) ss.tail := by
  subst hn
  refine ⟨some ⟨b, 1, none⟩, ss.length - 1, by rw [List.length_tail], by rw [List.length_tail]; exact Nat.le_refl _, by rw [List.length_tail]; omega, fun _ => ⟨b, 1, rfl, fun j u hj => ?_⟩⟩
  rw [flat_strs, List.getElem?_map, Option.map_eq_some_iff] at hj
  obtain ⟨x, hx, rfl⟩ := hj
  rw [List.getElem?_tail] at hx
  rw [Nat.add_comm]
  exact h (j + 1) x hx

set_option maxHeartbeats 2000000 in
set_option maxRecDepth 100000 in
theorem lines_calls (v : Value) (fs : List Fv) (s : ByteArray) (w : World) (hE : Env w) (h : FieldsAt w v fs) (hs : ∀ f ∈ fs, f.n.size ≤ 1000000 ∧ f.v.size ≤ 1000000) (hz : s.size ≤ 1000000) : Calls Tryz.prog 99 #[v, .string s] w (LinesIs fs s w) := by
  have C := Lib.hid (get_calls v fs s w h (fun f hf => (hs f hf).1) hz)
  have HSZ := Lib.hid (getB_size (s := s) (fun f hf => (hs f hf).2))
  have HE := Lib.hid hE
  obtain ⟨A0, n0, c0, rfl⟩ : ∃ A n c, v = .slice A n c := by obtain ⟨A, c, hv, _⟩ := h; exact ⟨A, _, c, hv⟩
  cases hg : getB fs s with
  | none =>
    have HV := Lib.hid (show linesV fs s = [] by unfold linesV; rw [hg])
    have HO := Lib.hid (show linesOk fs s = true by unfold linesOk; rw [hg])
    unfold GetIs at C
    rw [hg] at C
    clear hE h hs hz hg
    go_enter Tryz.func99, Tryz.ntmps99
    go_wp2_with fail
    refine C.out.mono ?_
    rintro E w1 ⟨rfl, hb⟩
    go_wp2_with fail
    go_ret2
    exact ⟨none, 0, 0, by rw [HO.out]; rfl, by rw [HV.out]; exact SlC.nil _ _ _, slFr_nil _ _ _, hb⟩
  | some t =>
    have HV := Lib.hid (show linesV fs s = (piecesB 10 t).tail by unfold linesV; rw [hg])
    have HO := Lib.hid (show linesOk fs s = (decide ((piecesB 10 t)[0]? = some ⟨#[]⟩) && decide (1 < (piecesB 10 t).length)) by unfold linesOk; rw [hg])
    unfold GetIs at C
    rw [hg] at C HSZ
    have htz : t.size ≤ 1000000 := HSZ.out
    clear hE h hs hz hg HSZ
    go_enter Tryz.func99, Tryz.ntmps99
    go_wp2_with fail
    refine C.out.mono ?_
    rintro E w1 ⟨rfl, hb⟩
    have C2 := Lib.hid (call_split t 10 w1 (HE.out.below hb) htz)
    have HB1 := Lib.hid hb
    clear C hb
    go_wp2_with fail
    refine C2.out.mono ?_
    rintro E w2 ⟨n, rfl, hn, hb2, hcell⟩
    have HB2 := Lib.hid (step_below HB1.out hb2)
    have HSZ1 := Lib.hid HB1.out.size
    obtain ⟨b, hbq⟩ : ∃ b, w1.heap.size = b := ⟨_, rfl⟩
    rw [hbq] at hcell HSZ1
    (try rw [hbq])
    have h1 : 0 < n := by
      rw [hn]; unfold piecesB; rw [List.length_map]
      rcases hp : VP.pieces 10 t.data.toList with _ | ⟨a, r⟩
      · exact absurd hp (VP.pieces_ne _ _)
      · simp
    have hmax : n ≤ 9223372036854775807 := by
      have h2 := VP.pieces_count 10 t.data.toList
      have h3 := size_eq_length t
      rw [hn]; unfold piecesB; rw [List.length_map]
      omega
    obtain ⟨x, hx⟩ : ∃ x, (piecesB 10 t)[0]? = some x := ⟨(piecesB 10 t)[0]'(by omega), List.getElem?_eq_getElem _⟩
    have d0 := hcell 0 x hx
    have HST := Lib.hid (strs_tail hn hmax hcell)
    have HN := Lib.hid hn
    have q1 := name_eq2 x
    obtain ⟨be, hbe⟩ : ∃ y, decide (x = (⟨#[]⟩ : ByteArray)) = y := ⟨_, rfl⟩
    have HOK := Lib.hid (show linesOk fs s = (be && decide (1 < n)) by rw [HO.out, hx, hn]; congr 1; rw [← hbe]; simp)
    rw [hbe] at q1
    have d0' : w2.drew.cell? ⟨b, 0, none⟩ = some (.string x) := d0
    clear C2 hb2 hcell hbq hx hbe hn HO HB1
    have hmore : 1 < n ∨ n = 1 := by omega
    have fin : ∀ (A : Option Addr) (q : Nat), (A = some ⟨b, 1, none⟩ ∧ q = n - 1) ∨ (A = some ⟨b, 0, none⟩ ∧ q = 0 ∧ n = 1) → StrsAt w2.drew (.slice A q q) (linesV fs s) ∧ SlFr w.heap.size (.slice A q q) ∧ Below w.heap.size w w2.drew := by
      intro A q hA
      refine ⟨?_, fun b' off n' c' e => ?_, step_below HB2.out (below_drew _)⟩
      · rw [HV.out]
        rcases hA with ⟨rfl, rfl⟩ | ⟨rfl, rfl, h1⟩
        · exact HST.out.below (below_drew _)
        · have e : (piecesB 10 t).tail = [] := List.eq_nil_of_length_eq_zero (by rw [List.length_tail, ← HN.out, h1])
          rw [e]; exact SlC.nil _ _ _
      · rcases hA with ⟨rfl, rfl⟩ | ⟨rfl, rfl, h1⟩ <;> (injection e with e _ _; injection e with e; injection e with e _ _; rw [← e]; exact HSZ1.out)
    have FIN := Lib.hid fin
    clear fin
    cases be with
    | true =>
      have hxe : x = ⟨#[]⟩ := name_eq_true q1
      subst hxe
      rcases hmore with hl | hl
      · have hn1 : ¬ n = 1 := by omega
        go_upto_region 5 with fail
        go_region
        all_goals
          go_wp2_with fail
          go_ret2
          exact ⟨some ⟨b, 1, none⟩, n - 1, n - 1, by rw [HOK.out]; simp; omega, FIN.out _ _ (.inl ⟨rfl, rfl⟩)⟩
      · subst hl
        go_upto_region 5 with fail
        go_region
        all_goals
          go_wp2_with fail
          go_ret2
          exact ⟨some ⟨b, 0, none⟩, 0, 0, by rw [HOK.out]; simp, FIN.out _ _ (.inr ⟨rfl, rfl, by trivial⟩)⟩
    | false =>
      have hx0 : ¬ x.size = 0 := fun h => by
        rw [eq_empty x h, beq_self_eq_true] at q1
        cases q1
      obtain ⟨q2, q3⟩ := text_ne2 hx0
      have q4 := isEmpty_false x (by omega)
      rcases hmore with hl | hl
      · have hn1 : ¬ n = 1 := by omega
        go_upto_region 5 with fail
        go_region
        all_goals
          go_wp2_with fail
          go_ret2
          exact ⟨some ⟨b, 1, none⟩, n - 1, n - 1, by rw [HOK.out]; simp, FIN.out _ _ (.inl ⟨rfl, rfl⟩)⟩
      · subst hl
        go_upto_region 5 with fail
        go_region
        all_goals
          go_wp2_with fail
          go_ret2
          exact ⟨some ⟨b, 0, none⟩, 0, 0, by rw [HOK.out]; simp, FIN.out _ _ (.inr ⟨rfl, rfl, by trivial⟩)⟩
end Go.Proofs.YtodbbfgkclkpgaaGreatDoor

/- The reference's Singles: of which type the blocks of what comes back are. · The reference's Fields: plain things: the fields by number; what is loaded. -/
import Derived.Test.YtodbbfgkclkpgaaGreatDoorAW21
import Derived.Test.YtodbbfgkclkpgaaGreatDoorAW33
namespace Go.Proofs.YtodbbfgkclkpgaaGreatDoor
open Go Go.RowKit

/-- the blocks of lists of terms: below B0, or of another type than fields' -/
def Ty (W : World) (B0 b : Nat) : Prop := b < B0 ∨ ∃ cs t fz, W.heap[b]? = some (.cells cs t fz) ∧ t ≠ 69
def AskedTy (W : World) (B0 : Nat) (v : Value) (L : List (List Tv)) : Prop := ∀ b off n c, v = .slice (some ⟨b, off, none⟩) n c → L ≠ [] → Ty W B0 b ∧ ∀ (i : Nat) (x : List Tv), L[i]? = some x → ∀ b' off' n' c', W.cell? ⟨b, off + i, none⟩ = some (.slice (some ⟨b', off', none⟩) n' c') → x ≠ [] → Ty W B0 b'
def SinglesTy (B0 : Nat) (ts : List Tv) (w : World) (E : Ending) (w' : World) : Prop := ∃ v', E = .returned v' ∧ (AskedAt w' v' (ts.map fun t => [t]) ∧ AskedTy w' B0 v' (ts.map fun t => [t])) ∧ Below w.heap.size w w'

/-- what appending fields keeps: the blocks below B0, and those of other types -/
structure KeptT (B0 : Nat) (W W' : World) : Prop where
  size : W.heap.size ≤ W'.heap.size
  below : Below B0 W W'
  others : ∀ (j : Nat) cs t fz, W.heap[j]? = some (.cells cs t fz) → t ≠ 69 → W'.heap[j]? = W.heap[j]?
theorem KeptT.refl (B0 : Nat) (W : World) : KeptT B0 W W := ⟨Nat.le_refl _, Below.refl _ _, fun _ _ _ _ _ _ => rfl⟩
theorem KeptT.of_below {B0 : Nat} {W W' : World} (hb : Below W.heap.size W W') (hB : B0 ≤ W.heap.size) : KeptT B0 W W' :=
  ⟨hb.size, hb.mono hB, fun j _ _ _ hj _ => hb.block j (Array.getElem?_eq_some_iff.1 hj).1⟩
theorem KeptT.trans {B0 : Nat} {W W1 W2 : World} (h : KeptT B0 W W1) (k : KeptT B0 W1 W2) : KeptT B0 W W2 :=
  ⟨Nat.le_trans h.size k.size, h.below.trans k.below, fun j cs t fz hj ht => (k.others j cs t fz ((h.others j cs t fz hj ht).trans hj) ht).trans (h.others j cs t fz hj ht)⟩
theorem KeptT.grown {B0 : Nat} {W W' : World} {s : Value} {n size : Nat} {xs : List Value} (ho : W.ownsRow B0 69 size s n xs) (hg : W.grownBy W' s.ownBlock) (hB : B0 ≤ W.heap.size) : KeptT B0 W W' :=
  ⟨hg.size, (Below.refl B0 W).grown hg hB (fun g e => (ho.lt g e).1), fun j _ _ _ hj ht => hg.block j (Array.getElem?_eq_some_iff.1 hj).1 (own_other ho hj ht)⟩
theorem KeptT.block {B0 b : Nat} {W W' : World} (h : KeptT B0 W W') (ht : Ty W B0 b) : W'.heap[b]? = W.heap[b]? := by
  rcases ht with h1 | ⟨cs, t, fz, h1, h2⟩
  · exact h.below.block b h1
  · exact h.others b cs t fz h1 h2
theorem cell_heap {W W' : World} {a : Addr} (h : W'.heap[a.block]? = W.heap[a.block]?) : W'.cell? a = W.cell? a := by
  unfold World.cell?
  rw [h]
theorem KeptT.cell {B0 : Nat} {W W' : World} {a : Addr} {v : Value} (h : KeptT B0 W W') (hc : W.cell? a = some v) (ht : Ty W B0 a.block) : W'.cell? a = some v :=
  (cell_heap (h.block ht)).trans hc
theorem KeptT.ty {B0 b : Nat} {W W' : World} (h : KeptT B0 W W') (ht : Ty W B0 b) : Ty W' B0 b := by
  rcases ht with h1 | ⟨cs, t, fz, h1, h2⟩
  · exact .inl h1
  · exact .inr ⟨cs, t, fz, (h.others b cs t fz h1 h2).trans h1, h2⟩
theorem KeptT.asked {B0 : Nat} {W W' : World} {v : Value} {L : List (List Tv)} (h : KeptT B0 W W') (ha : AskedAt W v L) (ht : AskedTy W B0 v L) : AskedAt W' v L ∧ AskedTy W' B0 v L := by
  obtain ⟨A, c, rfl, hc, hm, hr⟩ := ha
  refine ⟨⟨A, c, rfl, hc, hm, fun hn => ?_⟩, ?_⟩
  · obtain ⟨b, off, rfl, hi⟩ := hr hn
    obtain ⟨t0, t1⟩ := ht b off _ _ rfl hn
    refine ⟨b, off, rfl, fun i x hx => ?_⟩
    obtain ⟨vx, h0, A', c', hv, hc', hm', hr'⟩ := hi i x hx
    refine ⟨vx, h.cell h0 t0, A', c', hv, hc', hm', fun hnx => ?_⟩
    obtain ⟨b', off', rfl, hi'⟩ := hr' hnx
    have t2 := t1 i x hx b' off' _ _ (by rw [h0, hv]) hnx
    refine ⟨b', off', rfl, fun k t hk => ?_⟩
    obtain ⟨⟨c0, c1, c2, c3, c4⟩, hok⟩ := hi' k t hk
    exact ⟨⟨h.cell c0 t2, h.cell c1 t2, h.cell c2 t2, h.cell c3 t2, h.cell c4 t2⟩, hok⟩
  · intro b off n c' hv hn
    obtain ⟨t0, t1⟩ := ht b off n c' hv hn
    refine ⟨h.ty t0, fun i x hx b' off' n' c'' hcell hnx => ?_⟩
    obtain ⟨b1, off1, hA, hi⟩ := hr hn
    injection hv with hv _ _
    rw [hA] at hv
    injection hv with hv
    injection hv with hb1 ho1 _
    subst hb1
    subst ho1
    obtain ⟨vx, h0, _⟩ := hi i x hx
    have h0' := h.cell h0 t0
    rw [hcell] at h0'
    have hvx := Option.some.inj h0'
    rw [← hvx] at h0
    exact h.ty (t1 i x hx b' off' n' c'' h0 hnx)
theorem askedTy_low {W : World} {B0 : Nat} {v : Value} {L : List (List Tv)} (h : W.heap.size ≤ B0) (ha : AskedAt W v L) : AskedTy W B0 v L := by
  intro b off n c hv hn
  obtain ⟨A, c1, hv1, _, _, hr⟩ := ha
  rw [hv] at hv1
  injection hv1 with hA _ _
  obtain ⟨b1, off1, hA1, hi⟩ := hr hn
  rw [← hA] at hA1
  injection hA1 with hA1
  injection hA1 with hb1 ho1 _
  subst hb1
  subst ho1
  refine ⟨.inl (Nat.lt_of_lt_of_le ?_ h), fun i x hx b' off' n' c' hcell hnx => .inl (Nat.lt_of_lt_of_le ?_ h)⟩
  · cases L with
    | nil => exact absurd rfl hn
    | cons x r =>
      obtain ⟨vx, h0, _⟩ := hi 0 x rfl
      exact cell_lt h0
  · obtain ⟨vx, h0, A', c2, hv2, _, _, hr'⟩ := hi i x hx
    rw [hcell] at h0
    have := Option.some.inj h0
    rw [← this] at hv2
    injection hv2 with hA2 _ _
    obtain ⟨b2, off2, hA3, hi'⟩ := hr' hnx
    rw [← hA2] at hA3
    injection hA3 with hA3
    injection hA3 with hb2 _ _
    subst hb2
    cases x with
    | nil => exact absurd rfl hnx
    | cons t r => exact cell_lt (hi' 0 t rfl).1.c0
theorem askedTy_below {W W' : World} {B0 : Nat} {v : Value} {L : List (List Tv)} (hb : Below W.heap.size W W') (hle : B0 ≤ W.heap.size) (ha : AskedAt W v L) (ht : AskedTy W B0 v L) : AskedTy W' B0 v L :=
  ((KeptT.of_below hb hle).asked ha ht).2

theorem rows_grown2 {w w' : World} {B0 base : Nat} {s : Value} {n : Nat} {us : List Value} {L : List (List Tv)} {vs : List Value} (hle : B0 ≤ base) (hg : w.grownBy w' s.ownBlock) (ho : w.ownsRow base 25 1 s n us) (h : Rows w B0 L vs) : Rows w' B0 L vs :=
  ⟨h.1, fun i x hx => by
    obtain ⟨vx, h1, h2, h3⟩ := h.2 i x hx
    have h3' : Typed w base vx := fun a n c hv => by
      rcases h3 a n c hv with h | h
      · exact .inl (by omega)
      · exact .inr h
    obtain ⟨h4, _⟩ := terms_grown hg ho h2 h3'
    refine ⟨vx, h1, h4, fun a m c' hv' => ?_⟩
    rcases h3 a m c' hv' with h | ⟨cur, fz, h⟩
    · exact .inl h
    · exact .inr ⟨cur, fz, (hg.block a.block (Array.getElem?_eq_some_iff.1 h).1 (typed_ne ho h3' hv')).trans h⟩⟩

theorem askedTy_of_own {w : World} {base B0 : Nat} {v : Value} {n : Nat} {vs : List Value} {L : List (List Tv)} (ho : w.ownsRow base 25 1 v n vs) (h : Rows w B0 L vs) : AskedTy w B0 v L := by
  intro b off n' c hv hn
  rcases id ho.2 with ⟨rfl, _⟩ | ⟨g, cap, cur, rfl, hg, hk, _⟩
  · cases hv
  · cases hv
    refine ⟨.inr ⟨_, _, _, hk, by decide⟩, fun i x hx b' off' n'' c'' hcell hnx => ?_⟩
    obtain ⟨vx, h1, h2, h3⟩ := h.2 i x hx
    have hc := ho.cells (g := b) rfl i vx h1
    rw [Go.WideShapes.add_plain] at hc
    rw [hcell] at hc
    have hvx := Option.some.inj hc
    rcases h3 ⟨b', off', none⟩ n'' c'' hvx.symm with h | ⟨cur', fz, h⟩
    · exact .inl h
    · exact .inr ⟨_, _, _, h, by decide⟩

set_option maxHeartbeats 1000000 in
set_option maxRecDepth 100000 in
theorem refSinglesT_calls (B0 : Nat) (v : Value) (ts : List Tv) (w : World) (h : TermsAt w v ts) (hle : B0 ≤ w.heap.size) (hb0 : ∀ a n c, v = .slice (some a) n c → ts ≠ [] → a.block < B0) (h40 : ts.length ≤ 1000) : Calls Tryz.prog 53 #[v] w (SinglesTy B0 ts w) := by
  obtain ⟨A, c, rfl, hc, hm, hr⟩ := h
  obtain ⟨len, hlen⟩ : ∃ len, ts.length = len := ⟨_, rfl⟩
  have HL := Lib.hid hlen
  have HR := Lib.hid hr
  have HB0 := Lib.hid hb0
  have HLE := Lib.hid hle
  rw [hlen] at hc hm h40 ⊢
  clear hlen hr hb0 hle
  obtain ⟨i0, hi, hz0, hz1, hz2⟩ := info_parts info_terms
  go_enter Tryz.func53, Tryz.ntmps53
  go_wp2_with fail
  go_loopw [3, 7] (fun s3 i wr => ∃ (k : Nat) (vs : List Value), k ≤ len ∧ i = .int .i64 k ∧ wr.ownsRow w.heap.size 25 1 s3 k vs ∧ Hid (Rows wr B0 ((ts.take k).map fun t => [t]) vs) ∧ Below w.heap.size w wr) (fun _ i _ => len - (intOf i).toNat)
  case atStart => exact ⟨0, [], Nat.zero_le _, rfl, World.ownsRow_nil _ _ _ _, Lib.hid Rows.nil, Below.refl _ _⟩
  case round =>
    obtain ⟨k, vs, hk, rfl, hown, hrows, hB⟩ := hrel
    by_cases hlt : k < len
    · obtain ⟨t, ht⟩ : ∃ t, ts[k]? = some t := ⟨ts[k]'(by have := HL.out; omega), List.getElem?_eq_getElem _⟩
      have hne : ts ≠ [] := by
        intro e
        have := HL.out
        rw [e] at this
        simp at this
        omega
      obtain ⟨b, off, rfl, hi'⟩ := HR.out hne
      have hblt : b < B0 := HB0.out ⟨b, off, none⟩ _ _ rfl hne
      obtain ⟨hT0, hok⟩ := hi' k t ht
      clear hi' hne
      have HT := Lib.hid ht
      have HT0 := Lib.hid (hT0.below hB)
      have HOK := Lib.hid hok
      have hsz := hB.size
      have hck : k < c := by omega
      have hk1 : k + 1 ≤ c := by omega
      clear ht hT0 hok
      go_wp2_with (at_builtin; refine wpList_append_own _ rfl _ _ 24 rfl w.heap.size 25 i0 (.slice none 0 0) 1 24 Tryz.underlying24 hi hz0 hz1 hz2 rfl (by decide) _ _ _ rfl (hown.alloc _) ⟨wr.heap.size, 0, none⟩ 1 1 [.slice (some ⟨b, off + k * 5, none⟩) 1 (c - k)] rfl rfl (cell_one_new _ _ _) (by simp [Value.oneCell']) (by simp only [maxLen]; omega) (by omega) (by simp; omega) ?_; intro v' w3 hown3 hgrow hnil)
      have HOW := Lib.hid hown3
      have HG := Lib.hid hgrow
      have HO := Lib.hid hown
      clear hown3 hgrow hown hnil
      go_roundw
      case rel =>
        have ho3 := HO.out.alloc (.cells #[.slice (some ⟨b, off + k * 5, none⟩) 1 (c - k)] 25)
        have hb1 := below_alloc wr (.cells #[.slice (some ⟨b, off + k * 5, none⟩) 1 (c - k)] 25)
        have hty : Typed (wr.alloc (.cells #[.slice (some ⟨b, off + k * 5, none⟩) 1 (c - k)] 25)) B0 (.slice (some ⟨b, off + k * 5, none⟩) 1 (c - k)) := by
          intro a m c' hv
          injection hv with hv1 _ _
          injection hv1 with hv1
          subst hv1
          exact .inl hblt
        have hrows3 := (hrows.out.below hb1).snoc (termsAt_one (HT0.out.below hb1) HOK.out (by omega)) hty
        rw [← take_map_succ HT.out] at hrows3
        exact ⟨k + 1, vs ++ [.slice (some ⟨b, off + k * 5, none⟩) 1 (c - k)], by omega, by go_num, HOW.out, Lib.hid (rows_grown2 HLE.out HG.out ho3 hrows3), (step_below hB hb1).grown HG.out (by simp; omega) (fun g e => (ho3.lt g e).1)⟩
      case measure => simp [intOf]; omega
    · obtain rfl : k = len := by omega
      have HO := Lib.hid hown
      clear hown
      go_wp2_with fail
      go_ret
      refine ⟨_, rfl, ?_, hB⟩
      have hrows' := hrows.out
      rw [← HL.out, List.take_length] at hrows'
      refine ⟨asked_of_own HO.out (by rw [List.length_map, HL.out]) (by omega) (fun i x hx => by
        obtain ⟨vx, h1, h2, _⟩ := hrows'.2 i x hx
        exact ⟨vx, h1, h2⟩), ?_⟩
      exact askedTy_of_own HO.out hrows'
end Go.Proofs.YtodbbfgkclkpgaaGreatDoor

namespace Go.Proofs.YtodbbfgkclkpgaaGreatDoor
open Go Go.RowKit

theorem asked_slice {w : World} {v : Value} {L : List (List Tv)} (h : AskedAt w v L) : ∃ A n c, v = .slice A n c := by
  obtain ⟨A, c, hv, _⟩ := h
  exact ⟨A, _, c, hv⟩
theorem strs_slice {w : World} {v : Value} {ss : List ByteArray} (h : StrsAt w v ss) : ∃ A n c, v = .slice A n c := by
  obtain ⟨A, c, hv, _⟩ := h
  exact ⟨A, _, c, hv⟩

/-- the fields, when k of eight are written -/
def fldK (p : Pv) : Nat → List Fv
  | 0 => fld0 p
  | 1 => fld1 p
  | 2 => fld2 p
  | 3 => fld3 p
  | 4 => fld4 p
  | 5 => fld5 p
  | 6 => fld6 p
  | 7 => fld7 p
  | _ => fldB p
theorem fldK_len (p : Pv) (k : Nat) : (fldK p k).length ≤ 10 := by
  obtain ⟨h0, h1, h2, h3, h4, h5, h6, h7, h8⟩ := fld_lens p
  match k with
  | 0 => show (fld0 p).length ≤ 10; omega
  | 1 => show (fld1 p).length ≤ 10; omega
  | 2 => show (fld2 p).length ≤ 10; omega
  | 3 => show (fld3 p).length ≤ 10; omega
  | 4 => show (fld4 p).length ≤ 10; omega
  | 5 => show (fld5 p).length ≤ 10; omega
  | 6 => show (fld6 p).length ≤ 10; omega
  | 7 => show (fld7 p).length ≤ 10; omega
  | k + 8 => exact h8
def sixN : List ByteArray := [nDepends, nPre, nConflicts, nBreaks, nReplaces, nProvides]
def sixL (p : Pv) : List (List (List Tv)) := [p.dep, p.ahead, p.ag.map fun t => [t], p.br.map fun t => [t], p.re.map fun t => [t], p.pr.map fun t => [t]]
theorem fldK_six {p : Pv} {j : Nat} {n : ByteArray} {L : List (List Tv)} (hn : sixN[j]? = some n) (hL : (sixL p)[j]? = some L) : fldK p (j + 1) = fldK p j ++ optF n (wholeS L) := by
  match j, hn, hL with
  | 0, hn, hL => rw [← Option.some.inj hn, ← Option.some.inj hL]; rfl
  | 1, hn, hL => rw [← Option.some.inj hn, ← Option.some.inj hL]; rfl
  | 2, hn, hL => rw [← Option.some.inj hn, ← Option.some.inj hL]; rfl
  | 3, hn, hL => rw [← Option.some.inj hn, ← Option.some.inj hL]; rfl
  | 4, hn, hL => rw [← Option.some.inj hn, ← Option.some.inj hL]; rfl
  | 5, hn, hL => rw [← Option.some.inj hn, ← Option.some.inj hL]; rfl
theorem six_at {p : Pv} (hf : p.Fit) (hk : p.Ok) {j : Nat} {L : List (List Tv)} (hL : (sixL p)[j]? = some L) : (∀ x ∈ L, ∀ t ∈ x, t.small) ∧ (∀ x ∈ L, x.length ≤ 1000) ∧ VP.askedP (tmL L) = true := by
  match j, hL with
  | 0, hL => rw [← Option.some.inj hL]; exact ⟨hf.dep, hf.depN, hk.dep⟩
  | 1, hL => rw [← Option.some.inj hL]; exact ⟨hf.ahead, hf.aheadN, hk.ahead⟩
  | 2, hL => rw [← Option.some.inj hL]; exact ⟨singles_small hf.ag, singles_few, hk.ag⟩
  | 3, hL => rw [← Option.some.inj hL]; exact ⟨singles_small hf.br, singles_few, hk.br⟩
  | 4, hL => rw [← Option.some.inj hL]; exact ⟨singles_small hf.re, singles_few, hk.re⟩
  | 5, hL => rw [← Option.some.inj hL]; exact ⟨singles_small hf.pr, singles_few, hk.pr⟩
theorem Ty.below {W W' : World} {B0 b : Nat} (h : Ty W B0 b) (hb : Below W.heap.size W W') (hle : B0 ≤ W.heap.size) : Ty W' B0 b := (KeptT.of_below hb hle).ty h
theorem ty_new (W : World) (B0 : Nat) (cs : Array Value) (t : TypeId) (ht : t ≠ 69) : Ty (W.alloc (.cells cs t)) B0 W.heap.size := .inr ⟨cs, t, _, heap_alloc_new W _, ht⟩

/-- the row of fields, one more or none -/
theorem fld_own_same {W : World} {B0 : Nat} {s : Value} {p : Pv} {j : Nat} {n S : ByteArray} (h : W.ownsRow B0 69 2 s (fldK p j).length ((fldK p j).flatMap fldC)) (he : fldK p (j + 1) = fldK p j ++ optF n S) (hS : S.size = 0) : W.ownsRow B0 69 2 s (fldK p (j + 1)).length ((fldK p (j + 1)).flatMap fldC) := by
  rw [he]
  unfold optF
  rw [if_pos hS, List.append_nil]
  exact h
theorem fld_own_more {W : World} {B0 : Nat} {s : Value} {p : Pv} {j : Nat} {n S : ByteArray} (h : W.ownsRow B0 69 2 s ((fldK p j).length + 1) ((fldK p j).flatMap fldC ++ fldC ⟨n, S⟩)) (he : fldK p (j + 1) = fldK p j ++ optF n S) (hS : ¬ S.size = 0) : W.ownsRow B0 69 2 s (fldK p (j + 1)).length ((fldK p (j + 1)).flatMap fldC) := by
  rw [he]
  unfold optF
  rw [if_neg hS, List.flatMap_append, List.length_append]
  simpa using h
def twoN : List ByteArray := [nConffiles, nTriggers]
def twoS (p : Pv) : List (List ByteArray) := [p.se, p.li]
theorem fldK_two {p : Pv} {j : Nat} {n : ByteArray} {ss : List ByteArray} (hn : twoN[j]? = some n) (hL : (twoS p)[j]? = some ss) : fldK p (6 + j + 1) = fldK p (6 + j) ++ optF n (linesS ss) := by
  match j, hn, hL with
  | 0, hn, hL => rw [← Option.some.inj hn, ← Option.some.inj hL]; rfl
  | 1, hn, hL => rw [← Option.some.inj hn, ← Option.some.inj hL]; rfl
theorem text_ne {S : ByteArray} (h : ¬ S.size = 0) : (S.toList == (⟨#[]⟩ : ByteArray).toList) = false ∧ (S.toList == []) = false := by
  have h1 := isEmpty_false S (by omega)
  have e : (⟨#[]⟩ : ByteArray).toList = [] := by rw [Lib.toList_data]
  rw [e]
  have h2 : (S.toList == []) = false := by
    cases hl : S.toList with
    | nil => rw [hl] at h1; cases h1
    | cons a l => rfl
  exact ⟨h2, h2⟩
end Go.Proofs.YtodbbfgkclkpgaaGreatDoor

/- strings.Split at one byte. · What a field says, line by line; how long what is written is: plain. · stanza.Right, the reference's Stanza: may fields be a stanza. · The reference's stanzaText: fields, written. -/
import Derived.Test.YtodbbfgkclkpgaaGreatDoorABK16
import Derived.Shelf.Strings.SplitShaped
import Derived.Test.YtodbbfgkclkpgaaGreatDoorABK15
import Derived.Deep.DeepCutAuto
namespace Go.Proofs.YtodbbfgkclkpgaaGreatDoor
open Go.RowKit

theorem indexB_one (s : ByteArray) (c : UInt8) : Lib.indexB s ⟨#[c]⟩ = Lib.indexByte s.data.toList c := Lib.index_one _ _

theorem splitB_pieces (c : UInt8) : ∀ (n : Nat) (s : ByteArray), s.size ≤ n → Lib.splitB ⟨#[c]⟩ 0 (Lib.countB s ⟨#[c]⟩) s = piecesB c s
  | n, s, hn => by
    cases hc : VP.cutAt c s.data.toList with
    | none =>
      have hi : Lib.indexB s ⟨#[c]⟩ = -1 := by rw [indexB_one]; exact indexB_none hc
      rw [Lib.countB_miss _ _ hi, Lib.splitB_miss _ _ _ _ hi, piecesB_none hc]
    | some p =>
      obtain ⟨a, b⟩ := p
      have hi : Lib.indexB s ⟨#[c]⟩ = a.length := by rw [indexB_one]; exact indexB_some hc
      have hz := (cut_sizes hc).2.2
      rw [Lib.countB_hit s ⟨#[c]⟩ _ (Nat.le_refl 1) hi, Nat.add_comm, Lib.splitB_hit _ _ _ _ _ hi, piecesB_some hc]
      cases n with
      | zero => omega
      | succ n => exact congrArg _ (splitB_pieces c n _ (by show (s.extract (a.length + 1) s.size).size ≤ n; simp; omega))

def SplitIs (s : ByteArray) (c : UInt8) (w : World) (E : Ending) (w' : World) : Prop :=
  ∃ n, E = .returned (.slice (some ⟨w.heap.size, 0, none⟩) n n) ∧ n = (piecesB c s).length ∧ Below w.heap.size w w' ∧ ∀ (i : Nat) (x : ByteArray), (piecesB c s)[i]? = some x → w'.cell? ⟨w.heap.size, i, none⟩ = some (.string x)

theorem call_split (s : ByteArray) (c : UInt8) (w : World) (hE : Env w) (hs : s.size ≤ 1000000) : Calls Tryz.prog 94 #[.string s, .string ⟨#[c]⟩] w (SplitIs s c w) := by
  obtain ⟨m, hm⟩ := hE.1
  refine (Tryz.strings_Split s ⟨#[c]⟩ m w (by omega) hm (Nat.le_refl 1)).mono fun E w' ⟨he, hw⟩ => ?_
  have hp := splitB_pieces c s.size s (Nat.le_refl _)
  have hlen := Lib.splitB_all ⟨#[c]⟩ (Nat.le_refl 1) 0 _ s rfl
  rw [hp] at hw hlen
  refine ⟨_, he, hlen.symm, by rw [hw]; exact below_alloc _ _, fun i x hx => ?_⟩
  rw [hw, World.cell?_alloc_at _ _ _ _ rfl]
  simp [hx]
end Go.Proofs.YtodbbfgkclkpgaaGreatDoor

namespace Go.Proofs.YtodbbfgkclkpgaaGreatDoor.VP
theorem allAt_succ (n : Nat) (p : Nat → Bool) : allAt (n + 1) p = (p 0 && allAt n fun i => p (i + 1)) := by
  unfold allAt
  rw [List.range_succ_eq_map, List.all_cons, List.all_map]
  rfl
def getOk {α : Type} (q : α → Bool) (l : List α) (j : Nat) : Bool :=
  match l[j]? with
  | none => true
  | some x => q x
theorem allAt_list {α : Type} (q : α → Bool) (l : List α) : allAt l.length (getOk q l) = l.all q := by
  induction l with
  | nil => rfl
  | cons a l ih =>
    rw [List.length_cons, allAt_succ, List.all_cons, ← ih]
    rfl
theorem pieces_count (c : UInt8) (l : List UInt8) : ((pieces c l).flatMap id).length + (pieces c l).length = l.length + 1 := by
  induction l with
  | nil => rfl
  | cons x l ih =>
    rw [pieces]
    by_cases hx : x = c
    · rw [if_pos hx, List.flatMap_cons, List.length_append, List.length_cons, List.length_cons]
      simp only [id, List.length_nil]
      omega
    · rw [if_neg hx]
      cases hp : pieces c l with
      | nil => exact absurd hp (pieces_ne c l)
      | cons p ps =>
        rw [hp] at ih
        simp only [List.flatMap_cons, List.length_append, List.length_cons, id] at ih ⊢
        omega
theorem restL_len (s : List UInt8) : (restL s).length ≤ s.length + 3 := by
  unfold restL
  split <;> simp
theorem linesL_len (ps : List (List UInt8)) : (linesL ps).length ≤ (ps.flatMap id).length + 3 * ps.length := by
  cases ps with
  | nil => simp [linesL]
  | cons a r =>
    have h1 : (firstL2 a).length ≤ a.length + 2 := by unfold firstL2; split <;> simp
    have h2 : ∀ r : List (List UInt8), (r.flatMap restL).length ≤ (r.flatMap id).length + 3 * r.length := by
      intro r
      induction r with
      | nil => simp
      | cons b r ih =>
        have := restL_len b
        simp only [List.flatMap_cons, List.length_append, List.length_cons, id]
        omega
    have h3 := h2 r
    simp only [linesL, List.flatMap_cons, List.length_append, List.length_cons, id]
    omega
theorem fieldL_len (f : Fd) : (fieldL f).length ≤ f.n.length + 4 * (f.v.length + 1) := by
  have h1 := linesL_len (pieces 10 f.v)
  have h2 := pieces_count 10 f.v
  unfold fieldL
  simp only [List.length_append, List.length_cons]
  omega
theorem textL_len (B : Nat) : ∀ l : List Fd, (∀ f ∈ l, f.n.length ≤ B ∧ f.v.length ≤ B) → (textL l).length ≤ l.length * (5 * B + 4)
  | [], _ => by simp [textL]
  | f :: l, h => by
    have ih := textL_len B l (fun g hg => h g (.tail _ hg))
    have h1 := fieldL_len f
    obtain ⟨h2, h3⟩ := h f (.head _)
    have e : textL (f :: l) = fieldL f ++ textL l := by unfold textL; rw [List.flatMap_cons]
    rw [e, List.length_append, List.length_cons, Nat.succ_mul]
    omega
end Go.Proofs.YtodbbfgkclkpgaaGreatDoor.VP
namespace Go.Proofs.YtodbbfgkclkpgaaGreatDoor
open Go Go.RowKit

def lineOk (ls : List ByteArray) (j : Nat) : Bool :=
  match ls[j]? with
  | none => true
  | some s => VP.flineP s.data.toList && (decide (j = 0) || !decide (s.size = 0))
theorem size_zero_iff (s : ByteArray) : decide (s.size = 0) = s.data.toList.isEmpty := by
  rw [size_eq_length]
  cases s.data.toList <;> simp
theorem valueP_eq (v : ByteArray) : VP.valueP v.data.toList = VP.allAt (piecesB 10 v).length (lineOk (piecesB 10 v)) := by
  unfold VP.valueP piecesB
  cases hp : VP.pieces 10 v.data.toList with
  | nil => exact absurd hp (VP.pieces_ne _ _)
  | cons a r =>
    rw [List.map_cons, List.length_cons, VP.allAt_succ]
    have e0 : lineOk (⟨a.toArray⟩ :: r.map fun l => ⟨l.toArray⟩) 0 = VP.flineP a := by
      show (VP.flineP a && (true || _)) = _
      rw [Bool.true_or, Bool.and_true]
    have e1 : (VP.allAt (r.map fun l => (⟨l.toArray⟩ : ByteArray)).length fun i => lineOk (⟨a.toArray⟩ :: r.map fun l => ⟨l.toArray⟩) (i + 1)) = r.all fun s => VP.flineP s && !s.isEmpty := by
      have h := VP.allAt_list (fun s : ByteArray => VP.flineP s.data.toList && !decide (s.size = 0)) (r.map fun l => (⟨l.toArray⟩ : ByteArray))
      have h' : (VP.allAt (r.map fun l => (⟨l.toArray⟩ : ByteArray)).length fun i => lineOk (⟨a.toArray⟩ :: r.map fun l => ⟨l.toArray⟩) (i + 1)) = VP.allAt (r.map fun l => (⟨l.toArray⟩ : ByteArray)).length (VP.getOk (fun s : ByteArray => VP.flineP s.data.toList && !decide (s.size = 0)) (r.map fun l => (⟨l.toArray⟩ : ByteArray))) := by
        congr 1
        funext j
        unfold lineOk VP.getOk
        rw [List.getElem?_cons_succ]
        cases (r.map fun l => (⟨l.toArray⟩ : ByteArray))[j]? with
        | none => rfl
        | some x =>
          show (_ && (decide (j + 1 = 0) || _)) = _
          rw [decide_eq_false (by omega : ¬ j + 1 = 0), Bool.false_or]
      refine (h'.trans h).trans ?_
      rw [List.all_map]
      congr 1
      funext s
      show (VP.flineP s && !decide ((⟨s.toArray⟩ : ByteArray).size = 0)) = _
      rw [size_zero_iff]
    rw [e0, e1]

theorem lineOk_at {ls : List ByteArray} {j : Nat} {s : ByteArray} (h : ls[j]? = some s) : lineOk ls j = (VP.flineP s.data.toList && (decide (j = 0) || !decide (s.size = 0))) := by
  unfold lineOk
  rw [h]

/-- the fields so far are well -/
def FieldsTo (fs : List Fv) (k : Nat) : Prop := ∀ i, i < k → VP.fieldOk (fs.map Fv.fd) i = true
theorem any_named (fs : List Fv) (k : Nat) (n : ByteArray) : (((fs.map Fv.fd).take k).any fun g => decide (VP.smallP g.n = VP.smallP n.data.toList)) = (fs.take k).any (fun g => sameN g.n n) := by
  rw [← List.map_take, List.any_map]
  rfl
theorem fieldOk_at {fs : List Fv} {k : Nat} {f : Fv} (h : fs[k]? = some f) : VP.fieldOk (fs.map Fv.fd) k = (VP.fnameP f.n.data.toList && !((fs.take k).any fun g => sameN g.n f.n) && VP.valueP f.v.data.toList) := by
  unfold VP.fieldOk
  rw [List.getElem?_map, h, ← any_named]
  rfl
def stanzaB (fs : List Fv) : Bool := VP.stanzaP (fs.map Fv.fd)
theorem stanzaB_false {fs : List Fv} {k : Nat} {f : Fv} (h : fs[k]? = some f) (hb : (VP.fnameP f.n.data.toList && !((fs.take k).any fun g => sameN g.n f.n) && VP.valueP f.v.data.toList) = false) : stanzaB fs = false := by
  unfold stanzaB VP.stanzaP
  rw [VP.allAt_false (i := k) (by rw [List.length_map]; exact (List.getElem?_eq_some_iff.1 h).1) ((fieldOk_at h).trans hb)]
  simp
theorem FieldsTo.succ {fs : List Fv} {k : Nat} {f : Fv} (h : FieldsTo fs k) (hf : fs[k]? = some f) (hb : (VP.fnameP f.n.data.toList && !((fs.take k).any fun g => sameN g.n f.n) && VP.valueP f.v.data.toList) = true) : FieldsTo fs (k + 1) := fun i hi => by
  rcases Nat.lt_or_ge i k with h' | h'
  · exact h i h'
  · obtain rfl : i = k := by omega
    exact (fieldOk_at hf).trans hb
theorem FieldsTo.done {fs : List Fv} (h : FieldsTo fs fs.length) (h1 : 1 ≤ fs.length) (h40 : fs.length ≤ 40) : stanzaB fs = decide ((VP.textL (fs.map Fv.fd)).length ≤ 4000) := by
  unfold stanzaB VP.stanzaP
  rw [VP.allAt_true (by rw [List.length_map]; exact h), List.length_map, decide_eq_true h1, decide_eq_true h40]
  rfl
theorem FieldsTo.full {fs : List Fv} (h : FieldsTo fs fs.length) : RestFull fs := by
  intro f hf a r hp t ht
  obtain ⟨i, hi⟩ := List.getElem?_of_mem hf
  have h1 := h i (List.getElem?_eq_some_iff.1 hi).1
  rw [fieldOk_at hi, Bool.and_eq_true] at h1
  have h2 := h1.2
  unfold VP.valueP at h2
  rw [hp] at h2
  simp only [Bool.and_eq_true, List.all_eq_true] at h2
  have h3 := (h2.2 t ht).2
  intro e
  rw [e] at h3
  cases h3
theorem text_bound {fs : List Fv} (hs : ∀ f ∈ fs, f.n.size ≤ 1000000 ∧ f.v.size ≤ 1000000) (h40 : fs.length ≤ 1000) : (VP.textL (fs.map Fv.fd)).length ≤ 100000000000 := by
  have h := VP.textL_len 1000000 (fs.map Fv.fd) (fun f hf => by
    obtain ⟨g, hg, rfl⟩ := List.mem_map.1 hf
    have := hs g hg
    rw [size_eq_length, size_eq_length] at this
    exact this)
  rw [List.length_map] at h
  have : fs.length * (5 * 1000000 + 4) ≤ 1000 * (5 * 1000000 + 4) := Nat.mul_le_mul_right _ h40
  omega
end Go.Proofs.YtodbbfgkclkpgaaGreatDoor

namespace Go.Proofs.YtodbbfgkclkpgaaGreatDoor
open Go Go.RowKit

/-- the lines so far are well -/
def LinesTo (ls : List ByteArray) (k : Nat) : Prop := ∀ i, i < k → lineOk ls i = true
theorem LinesTo.succ {ls : List ByteArray} {k : Nat} (h : LinesTo ls k) (hb : lineOk ls k = true) : LinesTo ls (k + 1) := fun i hi => by
  rcases Nat.lt_or_ge i k with h' | h'
  · exact h i h'
  · obtain rfl : i = k := by omega
    exact hb
theorem lines_done {v : ByteArray} (h : LinesTo (piecesB 10 v) (piecesB 10 v).length) : VP.valueP v.data.toList = true := by rw [valueP_eq]; exact VP.allAt_true h
theorem lines_bad {v : ByteArray} {k : Nat} (hk : k < (piecesB 10 v).length) (h : lineOk (piecesB 10 v) k = false) : VP.valueP v.data.toList = false := by rw [valueP_eq]; exact VP.allAt_false hk h
theorem lineB_size {v s : ByteArray} (h : s ∈ piecesB 10 v) : s.size ≤ v.size := by
  have h1 := VP.pieces_count 10 v.data.toList
  unfold piecesB at h
  obtain ⟨l, hl, rfl⟩ := List.mem_map.1 h
  have h2 : l.length ≤ ((VP.pieces 10 v.data.toList).flatMap id).length := by
    clear h1
    generalize VP.pieces 10 v.data.toList = ps at hl ⊢
    induction ps with
    | nil => cases hl
    | cons a r ih =>
      rw [List.flatMap_cons, List.length_append]
      rcases List.mem_cons.1 hl with rfl | h
      · simp
      · have := ih h; omega
  have h3 : 1 ≤ (VP.pieces 10 v.data.toList).length := by
    rcases hp : VP.pieces 10 v.data.toList with _ | ⟨a, r⟩
    · exact absurd hp (VP.pieces_ne _ _)
    · simp
  rw [size_eq_length v, size_eq_length]
  show l.length ≤ _
  omega

set_option maxHeartbeats 4000000 in
set_option maxRecDepth 100000 in
theorem stanza_calls (v : Value) (fs : List Fv) (w : World) (hE : Env w) (h : FieldsAt w v fs) (hs : ∀ f ∈ fs, f.n.size ≤ 1000000 ∧ f.v.size ≤ 1000000) : Calls Tryz.prog 62 #[v] w (BoolIs (stanzaB fs) w) := by
  obtain ⟨A, c, hv, hc, hm, hr⟩ := h.open
  subst hv
  have HH := Lib.hid h
  obtain ⟨len, hlen⟩ : ∃ len, fs.length = len := ⟨_, rfl⟩
  have HL := Lib.hid hlen
  have HR := Lib.hid hr
  have HS := Lib.hid hs
  have HE := Lib.hid hE
  rw [hlen] at hc hm HH ⊢
  clear hlen hr hs h hE
  go_enter Tryz.func62, Tryz.ntmps62
  by_cases h0 : len = 0
  · have HF := Lib.hid (show stanzaB fs = false by unfold stanzaB VP.stanzaP; rw [List.length_map, HL.out, decide_eq_false (by omega : ¬ 1 ≤ len)]; rfl)
    subst h0
    clear HH HR HL
    go_wp2_with fail
    go_ret
    exact ⟨ret_bool HF.out.symm, Below.refl _ _⟩
  by_cases h40 : 40 < len
  · have HF := Lib.hid (show stanzaB fs = false by unfold stanzaB VP.stanzaP; rw [List.length_map, HL.out, decide_eq_false (by omega : ¬ len ≤ 40)]; simp)
    have hb0 : ((len : Int) == 0) = false := by rw [beq_eq_false_iff_ne]; omega
    clear HH HR HL
    go_wp2_with fail
    go_ret
    exact ⟨ret_bool HF.out.symm, Below.refl _ _⟩
  have hb0 : ((len : Int) == 0) = false := by rw [beq_eq_false_iff_ne]; omega
  go_wp2_with fail
  go_loopw [17] (fun i wr => ∃ k : Nat, k ≤ len ∧ i = .int .i64 k ∧ Hid (FieldsTo fs k) ∧ Below w.heap.size w wr) (fun i _ => len - (intOf i).toNat)
  case atStart => exact ⟨0, Nat.zero_le _, rfl, Lib.hid (fun i h => absurd h (Nat.not_lt_zero _)), Below.refl _ _⟩
  case round =>
    obtain ⟨k, hk, rfl, hall, hB⟩ := hrel
    by_cases hlt : k < len
    · have hne : fs ≠ [] := by
        intro e
        have := HL.out
        rw [e] at this
        simp at this
        omega
      obtain ⟨f, ht⟩ : ∃ f, fs[k]? = some f := ⟨fs[k]'(by have := HL.out; omega), List.getElem?_eq_getElem _⟩
      obtain ⟨b, off, rfl, hi⟩ := HR.out hne
      obtain ⟨c0, c1⟩ := hi k f ht
      replace c0 := kept hB c0
      replace c1 := kept hB c1
      obtain ⟨z0, z1⟩ := HS.out f (List.mem_of_getElem? ht)
      have HT := Lib.hid ht
      have hck : k ≤ c := by omega
      have hba := below_alloc wr (.cells #[.string f.n, .string f.v] 69)
      have hB1 := step_below hB hba
      have d0 : (wr.alloc (.cells #[.string f.n, .string f.v] 69)).cell? ⟨wr.heap.size, 0, none⟩ = some (.string f.n) := by go_cell
      have d1 : (wr.alloc (.cells #[.string f.n, .string f.v] 69)).cell? ⟨wr.heap.size, 1, none⟩ = some (.string f.v) := by go_cell
      have CN := Lib.hid (fun W => fname_calls f.n W z0)
      have CH := Lib.hid (fun (W : World) (hb : Below w.heap.size w W) (hd : W.cell? ⟨wr.heap.size, 0, none⟩ = some (.string f.n)) => hasNamed_calls (.slice (some ⟨b, off, none⟩) k c) (fs.take k) wr.heap.size (fun g => sameN g.n f.n) W ((HH.out.below hb).take (by have := HL.out; omega)) (fun W' x hb' hx => sameN1_calls x wr.heap.size f.n W' (kept hb' hd) (HS.out x (List.mem_of_mem_take hx)).1 z0))
      obtain ⟨bn, hbn⟩ : ∃ x, VP.fnameP f.n.data.toList = x := ⟨_, rfl⟩
      obtain ⟨bh, hbh⟩ : ∃ x, (fs.take k).any (fun g => sameN g.n f.n) = x := ⟨_, rfl⟩
      have HBN := Lib.hid hbn
      have HBH := Lib.hid hbh
      rw [hbn] at CN
      rw [hbh] at CH
      have HB1 := Lib.hid hB1
      clear hbn hbh ht hi hne hba hB hB1
      go_wp2_with fail
      refine (CN.out _).mono ?_
      rintro E w1 ⟨rfl, rfl⟩
      clear CN c0 c1
      cases bn with
      | false =>
        go_wp2_with fail
        go_ret
        exact ⟨ret_bool (by rw [stanzaB_false HT.out (by rw [HBN.out]; rfl)]), HB1.out⟩
      | true =>
      have CH1 := Lib.hid (CH.out _ HB1.out d0)
      clear CH
      go_wp2_with fail
      refine CH1.out.mono ?_
      rintro E w2 ⟨rfl, hb2⟩
      have hB2 := step_below HB1.out hb2
      have e1 := kept hb2 d1
      clear CH1 hb2 d0 d1
      cases bh with
      | true =>
        go_wp2_with fail
        go_ret
        exact ⟨ret_bool (by rw [stanzaB_false HT.out (by rw [HBH.out, HBN.out]; rfl)]), hB2⟩
      | false =>
      have CS := Lib.hid (call_split f.v 10 w2 (HE.out.below hB2) z1)
      have HB2 := Lib.hid hB2
      clear hB2 HB1
      go_wp2_with fail
      refine CS.out.mono ?_
      rintro E w3 ⟨np, rfl, hnp, hb3, hcell⟩
      have hB3 := step_below HB2.out hb3
      obtain ⟨g, hg⟩ : ∃ g, w2.heap.size = g := ⟨_, rfl⟩
      have HCell := Lib.hid hcell
      have HNP := Lib.hid hnp
      have hnmax : np ≤ 9223372036854775807 := by
        have := VP.pieces_count 10 f.v.data.toList
        have h1 := size_eq_length f.v
        rw [hnp]
        unfold piecesB
        rw [List.length_map]
        omega
      clear CS hcell hb3 e1 hnp
      rw [hg] at HCell ⊢
      clear hg HB2
      have HB3 := Lib.hid hB3
      have hz3 := Below.refl w3.heap.size w3
      clear hB3
      go_wp2_with fail
      go_loopw [37] (fun i wx => ∃ j : Nat, j ≤ np ∧ i = .int .i64 j ∧ Hid (LinesTo (piecesB 10 f.v) j) ∧ Below w3.heap.size w3 wx) (fun i _ => np - (intOf i).toNat)
      case atStart => exact ⟨0, Nat.zero_le _, rfl, Lib.hid (fun i h => absurd h (Nat.not_lt_zero _)), hz3⟩
      case round =>
        clear hz3
        obtain ⟨j, hj, rfl, hls, hz⟩ := hrel
        by_cases hjt : j < np
        · obtain ⟨s, hs⟩ : ∃ s, (piecesB 10 f.v)[j]? = some s := ⟨(piecesB 10 f.v)[j]'(by have := HNP.out; omega), List.getElem?_eq_getElem _⟩
          have q0 := kept hz (HCell.out j s hs)
          have hsz : s.size ≤ 1000000 := Nat.le_trans (lineB_size (List.mem_of_getElem? hs)) z1
          have CL := Lib.hid (fun W => line_calls s W hsz)
          have hlo := lineOk_at hs
          obtain ⟨bl, hbl⟩ : ∃ x, VP.flineP s.data.toList = x := ⟨_, rfl⟩
          rw [hbl] at CL hlo
          have HLO := Lib.hid hlo
          have hbad := Lib.hid (fun (h : lineOk (piecesB 10 f.v) j = false) => (show stanzaB fs = false from stanzaB_false HT.out (by rw [lines_bad (by have := HNP.out; omega) h, Bool.and_false])))
          clear hbl hlo hs
          go_wp2_with fail
          refine (CL.out _).mono ?_
          rintro E w5 ⟨rfl, hb5⟩
          have hz5 := step_below hz hb5
          have hB5 := Lib.hid (step_below HB3.out hz5)
          clear CL hb5 q0 hz
          cases bl with
          | false =>
            go_wp2_with fail
            go_ret
            exact ⟨ret_bool (by rw [hbad.out (by rw [HLO.out]; rfl)]), hB5.out⟩
          | true =>
            by_cases hj0 : j = 0
            · have HK := Lib.hid (hls.out.succ (by rw [HLO.out, decide_eq_true hj0]; rfl))
              subst hj0
              clear hls
              go_wp2_with fail
              go_roundw
              case rel => exact ⟨0 + 1, by omega, by go_num, HK, hz5⟩
              case measure => simp [intOf]; omega
            · by_cases hse : s.size = 0
              · have hem := isEmpty_true s hse
                have HF := Lib.hid (hbad.out (by rw [HLO.out, decide_eq_true hse, decide_eq_false hj0]; rfl))
                have hjp : 0 < j := by omega
                clear hbad HLO hls hse hj0
                go_wp2_with fail
                go_ret
                exact ⟨ret_bool HF.out.symm, hB5.out⟩
              · have hem := isEmpty_false s (by omega)
                have HK := Lib.hid (hls.out.succ (by rw [HLO.out, decide_eq_false hse]; simp))
                have hjp : 0 < j := by omega
                clear hbad HLO hls hse hj0
                go_wp2_with fail
                go_roundw
                case rel => exact ⟨j + 1, by omega, by go_num, HK, hz5⟩
                case measure => simp [intOf]; omega
        · obtain rfl : np = j := by omega
          have HV := Lib.hid (show VP.valueP f.v.data.toList = true from lines_done (by have := hls.out; rw [HNP.out] at this; exact this))
          have HK := Lib.hid (hall.out.succ HT.out (by rw [HBN.out, HBH.out, HV.out]; rfl))
          have hB6 := step_below HB3.out hz
          clear hls hz HV
          go_wp2_with fail
          go_roundw
          case rel => exact ⟨k + 1, by omega, by go_num, HK, hB6⟩
          case measure => simp [intOf]; omega
    · obtain rfl : len = k := by omega
      have hall' : FieldsTo fs fs.length := by rw [HL.out]; exact hall.out
      have CT := Lib.hid (text_calls _ fs wr (HE.out.below hB) (HH.out.below hB) HS.out hall'.full (text_bound HS.out (by rw [HL.out]; omega)))
      have HF := Lib.hid (hall'.done (by rw [HL.out]; omega) (by rw [HL.out]; omega))
      have HB := Lib.hid hB
      clear hall hall' HH HR hB
      go_wp2_with fail
      refine CT.out.mono ?_
      rintro E w7 ⟨rfl, hb7⟩
      have hB7 := step_below HB.out hb7
      clear CT hb7
      obtain ⟨T, hT⟩ : ∃ T, VP.textL (fs.map Fv.fd) = T := ⟨_, rfl⟩
      rw [hT] at HF ⊢
      have hTs : (⟨T.toArray⟩ : ByteArray).size = T.length := by rw [size_eq_length]
      clear hT
      by_cases h4 : T.length ≤ 4000
      · have HG := Lib.hid (HF.out.trans (decide_eq_true h4))
        generalize (⟨T.toArray⟩ : ByteArray) = tb at hTs ⊢
        rw [← hTs] at h4
        clear HF hTs
        go_wp2_with fail
        go_ret
        exact ⟨ret_bool (by rw [HG.out]; exact decide_eq_true (by omega)), hB7⟩
      · have HG := Lib.hid (HF.out.trans (decide_eq_false h4))
        generalize (⟨T.toArray⟩ : ByteArray) = tb at hTs ⊢
        rw [← hTs] at h4
        clear HF hTs
        go_wp2_with fail
        go_ret
        exact ⟨ret_bool (by rw [HG.out]; exact decide_eq_false (by omega)), hB7⟩
end Go.Proofs.YtodbbfgkclkpgaaGreatDoor

namespace Go.Proofs.YtodbbfgkclkpgaaGreatDoor
open Go Go.RowKit

/-- what is written, and what is to come -/
def SoFar (T : List UInt8) (S : ByteArray) (todo : List UInt8) : Prop := S.data.toList ++ todo = T
theorem SoFar.size {T todo : List UInt8} {S : ByteArray} (h : SoFar T S todo) : S.size + todo.length = T.length := by
  rw [← h, List.length_append, size_eq_length]
theorem SoFar.add {T a todo : List UInt8} {S s : ByteArray} (h : SoFar T S (a ++ todo)) (hs : s.data.toList = a) : SoFar T (S ++ s) todo := by
  unfold SoFar at h ⊢
  rw [append_data, hs, List.append_assoc]; exact h
end Go.Proofs.YtodbbfgkclkpgaaGreatDoor

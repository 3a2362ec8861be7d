/- stanza.Right's closure: two names alike in small letters; is one of some fields called so. · strings.Split at one byte. · What a field says, line by line; how long what is written is: plain. -/
import Derived.Test.YtodbbfgkclkpgaaGreatDoorAW31
import Derived.Test.YtodbbfgkclkpgaaGreatDoorAW17
import Derived.Deep.RegionHeld3
import Derived.Test.YtodbbfgkclkpgaaGreatDoorAW23
import Derived.Shelf.Strings.SplitShaped
namespace Go.Proofs.YtodbbfgkclkpgaaGreatDoor
open Go Go.RowKit

/-- alike in small letters -/
def sameN (a b : ByteArray) : Bool := decide (VP.smallP a.data.toList = VP.smallP b.data.toList)
def smallB (s : ByteArray) : ByteArray := ⟨(VP.smallP s.data.toList).toArray⟩
theorem smallB_eq (a b : ByteArray) : ((smallB a).toList == (smallB b).toList) = sameN a b := by
  unfold sameN smallB
  rw [Lib.toList_data, Lib.toList_data, Bool.eq_iff_iff, beq_iff_eq, decide_eq_true_iff]

def TwoS (w0 : World) (b1 b2 : Nat) (n1 n2 : ByteArray) (W : World) : Prop := W.cell? ⟨b1, 0, none⟩ = some (.string n1) ∧ W.cell? ⟨b2, 0, none⟩ = some (.string n2) ∧ Below w0.heap.size w0 W
theorem twoS_go {w0 : World} {b1 b2 : Nat} {n1 n2 : ByteArray} {W W' : World} (h : TwoS w0 b1 b2 n1 n2 W) (hb : Below W.heap.size W W') : TwoS w0 b1 b2 n1 n2 W' := ⟨kept hb h.1, kept hb h.2.1, step_below h.2.2 hb⟩
theorem twoS_below {w0 : World} {b1 b2 : Nat} {n1 n2 : ByteArray} {W : World} (h : TwoS w0 b1 b2 n1 n2 W) : Below w0.heap.size w0 W := h.2.2

set_option maxHeartbeats 2000000 in
set_option maxRecDepth 100000 in
theorem sameN1_calls (g : Fv) (b : Nat) (n : ByteArray) (w : World) (hc : w.cell? ⟨b, 0, none⟩ = some (.string n)) (hg : g.n.size ≤ 1000000) (hn : n.size ≤ 1000000) :
    Calls Tryz.prog 131 #[.agg #[.string g.n, .string g.v], .pointer (some ⟨b, 0, none⟩)] w (BoolIs (sameN g.n n) w) := by
  have hb0 := below_alloc w (.cells #[.string g.n, .string g.v] 69)
  have hc1 := kept hb0 hc
  have hd1 : (w.alloc (.cells #[.string g.n, .string g.v] 69)).cell? ⟨w.heap.size, 0, none⟩ = some (.string g.n) := by go_cell
  have S0 : TwoS w w.heap.size b g.n n (w.alloc (.cells #[.string g.n, .string g.v] 69)) := ⟨hd1, hc1, hb0⟩
  obtain ⟨bs, hbs⟩ : ∃ x, sameN g.n n = x := ⟨_, rfl⟩
  have heq := (smallB_eq g.n n).trans hbs
  have C1 := Lib.hid (fun (W : World) => small_calls g.n W hg)
  have C2 := Lib.hid (fun (W : World) => small_calls n W hn)
  rw [hbs]
  obtain ⟨sg, hsg⟩ : ∃ x, smallB g.n = x := ⟨_, rfl⟩
  obtain ⟨sn, hsn⟩ : ∃ x, smallB n = x := ⟨_, rfl⟩
  have C1' : Hid (∀ W : World, Calls Tryz.prog 132 #[.string g.n] W fun E w' => E = .returned (.string sg) ∧ Below W.heap.size W w') := by rw [← hsg]; exact C1
  have C2' : Hid (∀ W : World, Calls Tryz.prog 132 #[.string n] W fun E w' => E = .returned (.string sn) ∧ Below W.heap.size W w') := by rw [← hsn]; exact C2
  rw [hsg, hsn] at heq
  obtain ⟨m, hm⟩ : ∃ m, w.heap.size = m := ⟨_, rfl⟩
  clear C1 C2 hsg hsn hbs hb0 hc hg hn
  go_enter Tryz.func131, Tryz.ntmps131
  go_wp2_with fail
  (try rw [hm] at S0); (try rw [hm] at hd1); (try rw [hm])
  generalize w.alloc (.cells #[.string g.n, .string g.v] 69) = W0 at S0 hc1 hd1 ⊢
  go_region_held3 (fun W => W.cell? ⟨m, 0, none⟩ = some (.string g.n) ∧ W.cell? ⟨b, 0, none⟩ = some (.string n) ∧ Below w.heap.size w W)
    ((first | assumption | exact twoS_go (by assumption) hb | exact twoS_go S0 (below_drew _) | exact twoS_go (by assumption) (below_drew _)))
    (first | (go_at_call 132; first | ((with_reducible refine (C1'.out _).mono ?_); rintro E w' ⟨rfl, hb⟩) | ((with_reducible refine (C2'.out _).mono ?_); rintro E w' ⟨rfl, hb⟩)))
  all_goals
    go_wp2_with fail
    go_ret
    exact ⟨rfl, twoS_below (by assumption)⟩

set_option maxHeartbeats 1000000 in
set_option maxRecDepth 100000 in
theorem idxNamed_calls (v : Value) (fs : List Fv) (b : Nat) (p : Fv → Bool) (w : World) (h : FieldsAt w v fs) (C : ∀ (W : World) (x : Fv), Below w.heap.size w W → x ∈ fs → Calls Tryz.prog 131 #[.agg #[.string x.n, .string x.v], .pointer (some ⟨b, 0, none⟩)] W (BoolIs (p x) W)) :
    Calls Tryz.prog 169 #[v, .func (.func 131) #[] #[.pointer (some ⟨b, 0, none⟩)]] w (IdxIs (fs.any p) w) := by
  obtain ⟨A, c, hv, hc, hm, hr⟩ := h.open
  subst hv
  obtain ⟨len, hlen⟩ : ∃ len, fs.length = len := ⟨_, rfl⟩
  have HL := Lib.hid hlen
  have HR := Lib.hid hr
  have HC := Lib.hid C
  rw [hlen] at hc hm ⊢
  clear hlen hr C h
  go_enter Tryz.func169, Tryz.ntmps169
  go_wp2_with fail
  go_loopw [8] (fun i wr => ∃ k : Nat, k ≤ len ∧ i = .int .i64 k ∧ Hid ((fs.take k).any p = false) ∧ Below w.heap.size w wr) (fun i _ => len - (intOf i).toNat)
  case atStart => exact ⟨0, Nat.zero_le _, rfl, rfl, Below.refl _ _⟩
  case round =>
    obtain ⟨k, hk, rfl, hall, hB⟩ := hrel
    by_cases hlt : k < len
    · have hne : fs ≠ [] := by
        intro e
        have := HL.out
        rw [e] at this
        simp at this
        omega
      obtain ⟨f, ht⟩ : ∃ f, fs[k]? = some f := ⟨fs[k]'(by have := HL.out; omega), List.getElem?_eq_getElem _⟩
      obtain ⟨b', off, rfl, hi⟩ := HR.out hne
      obtain ⟨c0, c1⟩ := hi k f ht
      replace c0 := kept hB c0
      replace c1 := kept hB c1
      have HT := Lib.hid ht
      have H := Lib.hid (HC.out wr f hB (List.mem_of_getElem? ht))
      obtain ⟨pb, hpb⟩ : ∃ pb, p f = pb := ⟨_, rfl⟩
      have HP := Lib.hid hpb
      rw [hpb] at H
      clear ht hi hne hpb
      go_wp2_with fail
      refine H.out.mono ?_
      rintro E w1 ⟨rfl, hb⟩
      have hB := step_below hB hb
      clear hb c0 c1 H
      cases pb with
      | true =>
        go_wp2_with fail
        go_ret
        exact ⟨_, rfl, by rw [any_stop HT.out HP.out]; simp, hB⟩
      | false =>
        go_wp2_with fail
        go_roundw
        case rel => exact ⟨k + 1, by omega, by go_num, Lib.hid (any_take_succ hall.out HT.out HP.out), hB⟩
        case measure => simp [intOf]; omega
    · obtain rfl : k = len := by omega
      go_wp2_with fail
      go_ret
      exact ⟨_, rfl, by have := hall.out; rw [← HL.out] at this; rw [any_done this]; simp, hB⟩

set_option maxRecDepth 100000 in
theorem hasNamed_calls (v : Value) (fs : List Fv) (b : Nat) (p : Fv → Bool) (w : World) (h : FieldsAt w v fs) (C : ∀ (W : World) (x : Fv), Below w.heap.size w W → x ∈ fs → Calls Tryz.prog 131 #[.agg #[.string x.n, .string x.v], .pointer (some ⟨b, 0, none⟩)] W (BoolIs (p x) W)) :
    Calls Tryz.prog 130 #[v, .func (.func 131) #[] #[.pointer (some ⟨b, 0, none⟩)]] w (BoolIs (fs.any p) w) := by
  have H := Lib.hid (idxNamed_calls v fs b p w h C)
  clear h C
  go_enter Tryz.func130, Tryz.ntmps130
  go_wp2_with fail
  refine H.out.mono ?_
  rintro E w1 ⟨i, rfl, hi, hb⟩
  have HI := Lib.hid hi
  clear hi
  by_cases h0 : 0 ≤ i
  · go_wp2_with fail
    go_ret
    exact ⟨ret_bool (by rw [← HI.out]; simp [h0]), hb⟩
  · go_wp2_with fail
    go_ret
    exact ⟨ret_bool HI.out, hb⟩
end Go.Proofs.YtodbbfgkclkpgaaGreatDoor

namespace Go.Proofs.YtodbbfgkclkpgaaGreatDoor
open Go.RowKit

theorem indexB_one (s : ByteArray) (c : UInt8) : Lib.indexB s ⟨#[c]⟩ = Lib.indexByte s.data.toList c := Lib.index_one _ _

theorem splitB_pieces (c : UInt8) : ∀ (n : Nat) (s : ByteArray), s.size ≤ n → Lib.splitB ⟨#[c]⟩ 0 (Lib.countB s ⟨#[c]⟩) s = piecesB c s
  | n, s, hn => by
    cases hc : VP.cutAt c s.data.toList with
    | none =>
      have hi : Lib.indexB s ⟨#[c]⟩ = -1 := by rw [indexB_one]; exact indexB_none hc
      rw [Lib.countB_miss _ _ hi, Lib.splitB_miss _ _ _ _ hi, piecesB_none hc]
    | some p =>
      obtain ⟨a, b⟩ := p
      have hi : Lib.indexB s ⟨#[c]⟩ = a.length := by rw [indexB_one]; exact indexB_some hc
      have hz := (cut_sizes hc).2.2
      rw [Lib.countB_hit s ⟨#[c]⟩ _ (Nat.le_refl 1) hi, Nat.add_comm, Lib.splitB_hit _ _ _ _ _ hi, piecesB_some hc]
      cases n with
      | zero => omega
      | succ n => exact congrArg _ (splitB_pieces c n _ (by show (s.extract (a.length + 1) s.size).size ≤ n; simp; omega))

def SplitIs (s : ByteArray) (c : UInt8) (w : World) (E : Ending) (w' : World) : Prop :=
  ∃ n, E = .returned (.slice (some ⟨w.heap.size, 0, none⟩) n n) ∧ n = (piecesB c s).length ∧ Below w.heap.size w w' ∧ ∀ (i : Nat) (x : ByteArray), (piecesB c s)[i]? = some x → w'.cell? ⟨w.heap.size, i, none⟩ = some (.string x)

theorem call_split (s : ByteArray) (c : UInt8) (w : World) (hE : Env w) (hs : s.size ≤ 1000000) : Calls Tryz.prog 94 #[.string s, .string ⟨#[c]⟩] w (SplitIs s c w) := by
  obtain ⟨m, hm⟩ := hE.1
  refine (Tryz.strings_Split s ⟨#[c]⟩ m w (by omega) hm (Nat.le_refl 1)).mono fun E w' ⟨he, hw⟩ => ?_
  have hp := splitB_pieces c s.size s (Nat.le_refl _)
  have hlen := Lib.splitB_all ⟨#[c]⟩ (Nat.le_refl 1) 0 _ s rfl
  rw [hp] at hw hlen
  refine ⟨_, he, hlen.symm, by rw [hw]; exact below_alloc _ _, fun i x hx => ?_⟩
  rw [hw, World.cell?_alloc_at _ _ _ _ rfl]
  simp [hx]
end Go.Proofs.YtodbbfgkclkpgaaGreatDoor

namespace Go.Proofs.YtodbbfgkclkpgaaGreatDoor.VP
theorem allAt_succ (n : Nat) (p : Nat → Bool) : allAt (n + 1) p = (p 0 && allAt n fun i => p (i + 1)) := by
  unfold allAt
  rw [List.range_succ_eq_map, List.all_cons, List.all_map]
  rfl
def getOk {α : Type} (q : α → Bool) (l : List α) (j : Nat) : Bool :=
  match l[j]? with
  | none => true
  | some x => q x
theorem allAt_list {α : Type} (q : α → Bool) (l : List α) : allAt l.length (getOk q l) = l.all q := by
  induction l with
  | nil => rfl
  | cons a l ih =>
    rw [List.length_cons, allAt_succ, List.all_cons, ← ih]
    rfl
theorem pieces_count (c : UInt8) (l : List UInt8) : ((pieces c l).flatMap id).length + (pieces c l).length = l.length + 1 := by
  induction l with
  | nil => rfl
  | cons x l ih =>
    rw [pieces]
    by_cases hx : x = c
    · rw [if_pos hx, List.flatMap_cons, List.length_append, List.length_cons, List.length_cons]
      simp only [id, List.length_nil]
      omega
    · rw [if_neg hx]
      cases hp : pieces c l with
      | nil => exact absurd hp (pieces_ne c l)
      | cons p ps =>
        rw [hp] at ih
        simp only [List.flatMap_cons, List.length_append, List.length_cons, id] at ih ⊢
        omega
theorem restL_len (s : List UInt8) : (restL s).length ≤ s.length + 3 := by
  unfold restL
  split <;> simp
theorem linesL_len (ps : List (List UInt8)) : (linesL ps).length ≤ (ps.flatMap id).length + 3 * ps.length := by
  cases ps with
  | nil => simp [linesL]
  | cons a r =>
    have h1 : (firstL2 a).length ≤ a.length + 2 := by unfold firstL2; split <;> simp
    have h2 : ∀ r : List (List UInt8), (r.flatMap restL).length ≤ (r.flatMap id).length + 3 * r.length := by
      intro r
      induction r with
      | nil => simp
      | cons b r ih =>
        have := restL_len b
        simp only [List.flatMap_cons, List.length_append, List.length_cons, id]
        omega
    have h3 := h2 r
    simp only [linesL, List.flatMap_cons, List.length_append, List.length_cons, id]
    omega
theorem fieldL_len (f : Fd) : (fieldL f).length ≤ f.n.length + 4 * (f.v.length + 1) := by
  have h1 := linesL_len (pieces 10 f.v)
  have h2 := pieces_count 10 f.v
  unfold fieldL
  simp only [List.length_append, List.length_cons]
  omega
theorem textL_len (B : Nat) : ∀ l : List Fd, (∀ f ∈ l, f.n.length ≤ B ∧ f.v.length ≤ B) → (textL l).length ≤ l.length * (5 * B + 4)
  | [], _ => by simp [textL]
  | f :: l, h => by
    have ih := textL_len B l (fun g hg => h g (.tail _ hg))
    have h1 := fieldL_len f
    obtain ⟨h2, h3⟩ := h f (.head _)
    have e : textL (f :: l) = fieldL f ++ textL l := by unfold textL; rw [List.flatMap_cons]
    rw [e, List.length_append, List.length_cons, Nat.succ_mul]
    omega
end Go.Proofs.YtodbbfgkclkpgaaGreatDoor.VP
namespace Go.Proofs.YtodbbfgkclkpgaaGreatDoor
open Go Go.RowKit

def lineOk (ls : List ByteArray) (j : Nat) : Bool :=
  match ls[j]? with
  | none => true
  | some s => VP.flineP s.data.toList && (decide (j = 0) || !decide (s.size = 0))
theorem size_zero_iff (s : ByteArray) : decide (s.size = 0) = s.data.toList.isEmpty := by
  rw [size_eq_length]
  cases s.data.toList <;> simp
theorem valueP_eq (v : ByteArray) : VP.valueP v.data.toList = VP.allAt (piecesB 10 v).length (lineOk (piecesB 10 v)) := by
  unfold VP.valueP piecesB
  cases hp : VP.pieces 10 v.data.toList with
  | nil => exact absurd hp (VP.pieces_ne _ _)
  | cons a r =>
    rw [List.map_cons, List.length_cons, VP.allAt_succ]
    have e0 : lineOk (⟨a.toArray⟩ :: r.map fun l => ⟨l.toArray⟩) 0 = VP.flineP a := by
      show (VP.flineP a && (true || _)) = _
      rw [Bool.true_or, Bool.and_true]
    have e1 : (VP.allAt (r.map fun l => (⟨l.toArray⟩ : ByteArray)).length fun i => lineOk (⟨a.toArray⟩ :: r.map fun l => ⟨l.toArray⟩) (i + 1)) = r.all fun s => VP.flineP s && !s.isEmpty := by
      have h := VP.allAt_list (fun s : ByteArray => VP.flineP s.data.toList && !decide (s.size = 0)) (r.map fun l => (⟨l.toArray⟩ : ByteArray))
      have h' : (VP.allAt (r.map fun l => (⟨l.toArray⟩ : ByteArray)).length fun i => lineOk (⟨a.toArray⟩ :: r.map fun l => ⟨l.toArray⟩) (i + 1)) = VP.allAt (r.map fun l => (⟨l.toArray⟩ : ByteArray)).length (VP.getOk (fun s : ByteArray => VP.flineP s.data.toList && !decide (s.size = 0)) (r.map fun l => (⟨l.toArray⟩ : ByteArray))) := by
        congr 1
        funext j
        unfold lineOk VP.getOk
        rw [List.getElem?_cons_succ]
        cases (r.map fun l => (⟨l.toArray⟩ : ByteArray))[j]? with
        | none => rfl
        | some x =>
          show (_ && (decide (j + 1 = 0) || _)) = _
          rw [decide_eq_false (by omega : ¬ j + 1 = 0), Bool.false_or]
      refine (h'.trans h).trans ?_
      rw [List.all_map]
      congr 1
      funext s
      show (VP.flineP s && !decide ((⟨s.toArray⟩ : ByteArray).size = 0)) = _
      rw [size_zero_iff]
    rw [e0, e1]

theorem lineOk_at {ls : List ByteArray} {j : Nat} {s : ByteArray} (h : ls[j]? = some s) : lineOk ls j = (VP.flineP s.data.toList && (decide (j = 0) || !decide (s.size = 0))) := by
  unfold lineOk
  rw [h]

/-- the fields so far are well -/
def FieldsTo (fs : List Fv) (k : Nat) : Prop := ∀ i, i < k → VP.fieldOk (fs.map Fv.fd) i = true
theorem any_named (fs : List Fv) (k : Nat) (n : ByteArray) : (((fs.map Fv.fd).take k).any fun g => decide (VP.smallP g.n = VP.smallP n.data.toList)) = (fs.take k).any (fun g => sameN g.n n) := by
  rw [← List.map_take, List.any_map]
  rfl
theorem fieldOk_at {fs : List Fv} {k : Nat} {f : Fv} (h : fs[k]? = some f) : VP.fieldOk (fs.map Fv.fd) k = (VP.fnameP f.n.data.toList && !((fs.take k).any fun g => sameN g.n f.n) && VP.valueP f.v.data.toList) := by
  unfold VP.fieldOk
  rw [List.getElem?_map, h, ← any_named]
  rfl
def stanzaB (fs : List Fv) : Bool := VP.stanzaP (fs.map Fv.fd)
theorem stanzaB_false {fs : List Fv} {k : Nat} {f : Fv} (h : fs[k]? = some f) (hb : (VP.fnameP f.n.data.toList && !((fs.take k).any fun g => sameN g.n f.n) && VP.valueP f.v.data.toList) = false) : stanzaB fs = false := by
  unfold stanzaB VP.stanzaP
  rw [VP.allAt_false (i := k) (by rw [List.length_map]; exact (List.getElem?_eq_some_iff.1 h).1) ((fieldOk_at h).trans hb)]
  simp
theorem FieldsTo.succ {fs : List Fv} {k : Nat} {f : Fv} (h : FieldsTo fs k) (hf : fs[k]? = some f) (hb : (VP.fnameP f.n.data.toList && !((fs.take k).any fun g => sameN g.n f.n) && VP.valueP f.v.data.toList) = true) : FieldsTo fs (k + 1) := fun i hi => by
  rcases Nat.lt_or_ge i k with h' | h'
  · exact h i h'
  · obtain rfl : i = k := by omega
    exact (fieldOk_at hf).trans hb
theorem FieldsTo.done {fs : List Fv} (h : FieldsTo fs fs.length) (h1 : 1 ≤ fs.length) (h40 : fs.length ≤ 40) : stanzaB fs = decide ((VP.textL (fs.map Fv.fd)).length ≤ 4000) := by
  unfold stanzaB VP.stanzaP
  rw [VP.allAt_true (by rw [List.length_map]; exact h), List.length_map, decide_eq_true h1, decide_eq_true h40]
  rfl
theorem FieldsTo.full {fs : List Fv} (h : FieldsTo fs fs.length) : RestFull fs := by
  intro f hf a r hp t ht
  obtain ⟨i, hi⟩ := List.getElem?_of_mem hf
  have h1 := h i (List.getElem?_eq_some_iff.1 hi).1
  rw [fieldOk_at hi, Bool.and_eq_true] at h1
  have h2 := h1.2
  unfold VP.valueP at h2
  rw [hp] at h2
  simp only [Bool.and_eq_true, List.all_eq_true] at h2
  have h3 := (h2.2 t ht).2
  intro e
  rw [e] at h3
  cases h3
theorem text_bound {fs : List Fv} (hs : ∀ f ∈ fs, f.n.size ≤ 1000000 ∧ f.v.size ≤ 1000000) (h40 : fs.length ≤ 1000) : (VP.textL (fs.map Fv.fd)).length ≤ 100000000000 := by
  have h := VP.textL_len 1000000 (fs.map Fv.fd) (fun f hf => by
    obtain ⟨g, hg, rfl⟩ := List.mem_map.1 hf
    have := hs g hg
    rw [size_eq_length, size_eq_length] at this
    exact this)
  rw [List.length_map] at h
  have : fs.length * (5 * 1000000 + 4) ≤ 1000 * (5 * 1000000 + 4) := Nat.mul_le_mul_right _ h40
  omega
end Go.Proofs.YtodbbfgkclkpgaaGreatDoor

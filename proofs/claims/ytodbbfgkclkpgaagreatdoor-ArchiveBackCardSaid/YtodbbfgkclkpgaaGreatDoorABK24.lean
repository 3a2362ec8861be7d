/- Stanzas, read line by line: plain. · stanza.Parse: is there a field of this name: its closure. -/
import Derived.Test.YtodbbfgkclkpgaaGreatDoorABK23
import Derived.Test.YtodbbfgkclkpgaaGreatDoorABK17
import Derived.Test.YtodbbfgkclkpgaaGreatDoorABK15
namespace Go.Proofs.YtodbbfgkclkpgaaGreatDoor
open Go Go.RowKit

def trimB (x : ByteArray) : ByteArray := ⟨(VP.cutBoth VP.bl x.data.toList).toArray⟩
/-- a line that goes on with a field, trimmed: what it says -/
def contOf (t : ByteArray) : Option ByteArray :=
  if VP.flineP t.data.toList then
    if t.data.toList.head? = some 46 then (if t.data.toList.tail.head? = some 46 then some ⟨t.data.toList.tail.toArray⟩ else none) else some t
  else none
def addLast (fs : List Fv) (t : ByteArray) : List Fv := match fs.getLast? with
  | none => fs
  | some f => fs.dropLast ++ [⟨f.n, ⟨(f.v.data.toList ++ 10 :: t.data.toList).toArray⟩⟩]
/-- a line that begins a field -/
def fieldOf (x : ByteArray) : Option Fv := match VP.cutAt 58 x.data.toList with
  | none => none
  | some (a, b) => if VP.fnameP a && VP.flineP (VP.cutBoth VP.bl b) then some ⟨⟨a.toArray⟩, ⟨(VP.cutBoth VP.bl b).toArray⟩⟩ else none
def headIs (p : UInt8 → Bool) (x : ByteArray) : Bool := (x.data.toList.head?.map p).getD false
abbrev PSt := List (List Fv) × List Fv
def flushP (st : PSt) : PSt := if st.2 = [] then st else (st.1 ++ [st.2], [])
def pstep (st : PSt) (x : ByteArray) : Option PSt :=
  if headIs (fun c => c == 35) x then some st
  else if VP.cutBoth VP.bl x.data.toList = [] then some (flushP st)
  else if headIs VP.bl x then (if st.2 = [] then none else (contOf (trimB x)).map fun t => (st.1, addLast st.2 t))
  else match fieldOf x with
    | none => none
    | some f => if decide (40 ≤ st.2.length) || st.2.any (fun g => sameN g.n f.n) then none else some (st.1, st.2 ++ [f])
def pfold (n : Nat) : List ByteArray → PSt → Except Nat PSt
  | [], st => .ok st
  | x :: xs, st => match pstep st x with
    | none => .error n
    | some st' => pfold (n + 1) xs st'
/-- the stanzas that a text is, or which line is none -/
def parseS (s : ByteArray) : Except Nat (List (List Fv)) := match pfold 0 (piecesB 10 s) ([], []) with
  | .error n => .error n
  | .ok st => .ok (flushP st).1

theorem pfold_append (xs ys : List ByteArray) : ∀ (n : Nat) (st : PSt), pfold n (xs ++ ys) st = match pfold n xs st with
    | .error e => .error e
    | .ok st' => pfold (n + xs.length) ys st' := by
  induction xs with
  | nil => intro n st; rfl
  | cons x xs ih =>
    intro n st
    show (match pstep st x with | none => Except.error n | some st' => pfold (n + 1) (xs ++ ys) st') = match (match pstep st x with | none => Except.error n | some st' => pfold (n + 1) xs st') with
      | .error e => .error e
      | .ok st' => pfold (n + (x :: xs).length) ys st'
    cases pstep st x with
    | none => rfl
    | some st' =>
      dsimp only
      rw [ih, show n + 1 + xs.length = n + (x :: xs).length by simp; omega]
theorem pfold_take_succ {ls : List ByteArray} {k : Nat} {x : ByteArray} {st : PSt} (h : pfold 0 (ls.take k) ([], []) = .ok st) (hx : ls[k]? = some x) :
    pfold 0 (ls.take (k + 1)) ([], []) = match pstep st x with | none => .error k | some st' => .ok st' := by
  have hlt := (List.getElem?_eq_some_iff.1 hx).1
  rw [List.take_add_one, hx, pfold_append, h]
  dsimp only
  rw [List.length_take, Nat.min_eq_left (by omega), Nat.zero_add]
  show (match pstep st x with | none => Except.error k | some st' => pfold (k + 1) [] st') = _
  cases pstep st x <;> rfl
theorem pfold_yes {ls : List ByteArray} {k : Nat} {x : ByteArray} {st st' : PSt} (h : pfold 0 (ls.take k) ([], []) = .ok st) (hx : ls[k]? = some x) (hs : pstep st x = some st') : pfold 0 (ls.take (k + 1)) ([], []) = .ok st' := by
  rw [pfold_take_succ h hx, hs]
theorem pfold_no {ls : List ByteArray} {k : Nat} {x : ByteArray} {st : PSt} (h : pfold 0 (ls.take k) ([], []) = .ok st) (hx : ls[k]? = some x) (hs : pstep st x = none) : pfold 0 ls ([], []) = .error k := by
  have h1 := pfold_take_succ h hx
  rw [hs] at h1
  have h2 := pfold_append (ls.take (k + 1)) (ls.drop (k + 1)) 0 ([], [])
  rw [List.take_append_drop, h1] at h2
  exact h2
/-! the ways of a line -/
theorem pstep_note {st : PSt} {x : ByteArray} (h : headIs (fun c => c == 35) x = true) : pstep st x = some st := by unfold pstep; rw [if_pos h]
theorem pstep_gap {st : PSt} {x : ByteArray} (h0 : headIs (fun c => c == 35) x = false) (h : VP.cutBoth VP.bl x.data.toList = []) : pstep st x = some (flushP st) := by
  unfold pstep; rw [if_neg (by rw [h0]; simp), if_pos h]
theorem pstep_cont {st : PSt} {x : ByteArray} (h0 : headIs (fun c => c == 35) x = false) (h1 : VP.cutBoth VP.bl x.data.toList ≠ []) (h2 : headIs VP.bl x = true) :
    pstep st x = if st.2 = [] then none else (contOf (trimB x)).map fun t => (st.1, addLast st.2 t) := by
  unfold pstep; rw [if_neg (by rw [h0]; simp), if_neg h1, if_pos h2]
theorem pstep_field {st : PSt} {x : ByteArray} (h0 : headIs (fun c => c == 35) x = false) (h1 : VP.cutBoth VP.bl x.data.toList ≠ []) (h2 : headIs VP.bl x = false) :
    pstep st x = match fieldOf x with
      | none => none
      | some f => if decide (40 ≤ st.2.length) || st.2.any (fun g => sameN g.n f.n) then none else some (st.1, st.2 ++ [f]) := by
  unfold pstep; rw [if_neg (by rw [h0]; simp), if_neg h1, if_neg (by rw [h2]; simp)]

/-! how long they are -/
def lsum (ls : List ByteArray) : Nat := (ls.map fun x => x.size + 1).sum
def StFits (B : Nat) (st : PSt) : Prop := (∀ l ∈ st.1, ∀ f ∈ l, f.n.size ≤ B ∧ f.v.size ≤ B) ∧ ∀ f ∈ st.2, f.n.size ≤ B ∧ f.v.size ≤ B
theorem dropWhile_len (p : UInt8 → Bool) (l : List UInt8) : (l.dropWhile p).length ≤ l.length := by
  induction l with
  | nil => simp
  | cons a l ih =>
    rw [List.dropWhile_cons]
    split
    · simp only [List.length_cons]; omega
    · exact Nat.le_refl _
theorem cutBoth_len (p : UInt8 → Bool) (l : List UInt8) : (VP.cutBoth p l).length ≤ l.length := by
  unfold VP.cutBoth
  have h1 := dropWhile_len p (l.reverse.dropWhile p).reverse
  have h2 := dropWhile_len p l.reverse
  rw [List.length_reverse] at h1 h2
  omega
theorem contOf_size {t u : ByteArray} (h : contOf t = some u) : u.size ≤ t.size := by
  unfold contOf at h
  split at h
  · split at h
    · split at h
      · obtain rfl := Option.some.inj h
        rw [size_eq_length, size_eq_length]
        simp
      · cases h
    · obtain rfl := Option.some.inj h
      exact Nat.le_refl _
  · cases h
theorem cutAt_len {c : UInt8} : ∀ {l a b : List UInt8}, VP.cutAt c l = some (a, b) → a.length + b.length + 1 = l.length := by
  intro l a b h
  have := (VP.cutAt_some h).1
  rw [this]
  simp only [List.length_append, List.length_cons]
  omega
theorem fieldOf_size {x : ByteArray} {f : Fv} (h : fieldOf x = some f) : f.n.size ≤ x.size ∧ f.v.size ≤ x.size := by
  unfold fieldOf at h
  cases hc : VP.cutAt 58 x.data.toList with
  | none => rw [hc] at h; cases h
  | some p =>
    obtain ⟨a, b⟩ := p
    rw [hc] at h
    dsimp only at h
    split at h
    · obtain rfl := Option.some.inj h
      have h1 := cutAt_len hc
      have h2 := cutBoth_len VP.bl b
      rw [size_eq_length, size_eq_length, size_eq_length]
      exact ⟨by show a.length ≤ _; omega, by show (VP.cutBoth VP.bl b).length ≤ _; omega⟩
    · cases h
theorem flush_fits {B : Nat} {st : PSt} (h : StFits B st) : StFits B (flushP st) := by
  unfold flushP
  split
  · exact h
  · refine ⟨fun l hl => ?_, fun f hf => by cases hf⟩
    rcases List.mem_append.1 hl with hl | hl
    · exact h.1 l hl
    · obtain rfl := List.mem_singleton.1 hl
      exact h.2
theorem addLast_fits {B k : Nat} {fs : List Fv} {t : ByteArray} (h : ∀ f ∈ fs, f.n.size ≤ B ∧ f.v.size ≤ B) (ht : t.size ≤ k) : ∀ f ∈ addLast fs t, f.n.size ≤ B + (k + 1) ∧ f.v.size ≤ B + (k + 1) := by
  intro f hf
  unfold addLast at hf
  cases hg : fs.getLast? with
  | none =>
    rw [hg] at hf
    have := h f hf
    omega
  | some g =>
    rw [hg] at hf
    rcases List.mem_append.1 hf with hf | hf
    · have := h f (List.dropLast_subset _ hf)
      omega
    · obtain rfl := List.mem_singleton.1 hf
      have := h g (List.mem_of_getLast? hg)
      refine ⟨by show g.n.size ≤ _; omega, ?_⟩
      rw [size_eq_length]
      show (g.v.data.toList ++ 10 :: t.data.toList).length ≤ _
      rw [List.length_append, List.length_cons, ← size_eq_length, ← size_eq_length]
      omega
theorem pstep_fits {B : Nat} {st st' : PSt} {x : ByteArray} (h : StFits B st) (hs : pstep st x = some st') : StFits (B + (x.size + 1)) st' := by
  have hup : StFits (B + (x.size + 1)) st := ⟨fun l hl f hf => by have := h.1 l hl f hf; omega, fun f hf => by have := h.2 f hf; omega⟩
  unfold pstep at hs
  split at hs
  · obtain rfl := Option.some.inj hs
    exact hup
  split at hs
  · obtain rfl := Option.some.inj hs
    exact flush_fits hup
  split at hs
  · split at hs
    · cases hs
    · cases hc : contOf (trimB x) with
      | none => rw [hc] at hs; cases hs
      | some t =>
        rw [hc] at hs
        obtain rfl := Option.some.inj hs
        have h1 := contOf_size hc
        have h2 : (trimB x).size ≤ x.size := by
          rw [size_eq_length, size_eq_length]
          exact cutBoth_len _ _
        exact ⟨hup.1, addLast_fits h.2 (Nat.le_trans h1 h2)⟩
  · cases hf : fieldOf x with
    | none => rw [hf] at hs; cases hs
    | some f =>
      rw [hf] at hs
      dsimp only at hs
      split at hs
      · cases hs
      · obtain rfl := Option.some.inj hs
        refine ⟨hup.1, fun g hg => ?_⟩
        rcases List.mem_append.1 hg with hg | hg
        · exact hup.2 g hg
        · obtain rfl := List.mem_singleton.1 hg
          have := fieldOf_size hf
          omega
theorem pfold_fits : ∀ (ls : List ByteArray) {n B : Nat} {st st' : PSt}, StFits B st → pfold n ls st = .ok st' → StFits (B + lsum ls) st'
  | [], n, B, st, st', h, hs => by
    injection hs with hs
    subst hs
    exact h
  | x :: ls, n, B, st, st', h, hs => by
    unfold pfold at hs
    cases hp : pstep st x with
    | none => rw [hp] at hs; cases hs
    | some s1 =>
      rw [hp] at hs
      have := pfold_fits ls (pstep_fits h hp) hs
      rw [show B + lsum (x :: ls) = B + (x.size + 1) + lsum ls by unfold lsum; rw [List.map_cons, List.sum_cons]; omega]
      exact this
theorem lsum_pieces (c : UInt8) (s : ByteArray) : lsum (piecesB c s) = s.size + 1 := by
  unfold lsum piecesB
  rw [List.map_map, size_eq_length]
  have key : ∀ l : List UInt8, ((VP.pieces c l).map ((fun x : ByteArray => x.size + 1) ∘ fun l => (⟨l.toArray⟩ : ByteArray))).sum = l.length + 1 := by
    intro l
    have h := VP.pieces_count c l
    have : ∀ ps : List (List UInt8), (ps.map ((fun x : ByteArray => x.size + 1) ∘ fun l => (⟨l.toArray⟩ : ByteArray))).sum = (ps.flatMap id).length + ps.length := by
      intro ps
      induction ps with
      | nil => rfl
      | cons p ps ih =>
        rw [List.map_cons, List.sum_cons, ih, List.flatMap_cons, List.length_append, List.length_cons]
        show (p.toArray.size + 1) + _ = _
        simp
        omega
    rw [this, h]
  exact key _
theorem parseS_fits {s : ByteArray} {L : List (List Fv)} (h : parseS s = .ok L) : ∀ l ∈ L, ∀ f ∈ l, f.n.size ≤ s.size + 1 ∧ f.v.size ≤ s.size + 1 := by
  unfold parseS at h
  cases hp : pfold 0 (piecesB 10 s) ([], []) with
  | error n => rw [hp] at h; cases h
  | ok st =>
    rw [hp] at h
    injection h with h
    subst h
    have h1 := pfold_fits (piecesB 10 s) (B := 0) (st := ([], [])) ⟨fun l hl => (by cases hl), fun f hf => (by cases hf)⟩ hp
    rw [lsum_pieces, Nat.zero_add] at h1
    exact (flush_fits h1).1
end Go.Proofs.YtodbbfgkclkpgaaGreatDoor

namespace Go.Proofs.YtodbbfgkclkpgaaGreatDoor
open Go Go.RowKit

set_option maxHeartbeats 2000000 in
set_option maxRecDepth 100000 in
theorem sameP1_calls (g : Fv) (b : Nat) (n : ByteArray) (w : World) (hc : w.cell? ⟨b, 0, none⟩ = some (.string n)) (hg : g.n.size ≤ 1000000) (hn : n.size ≤ 1000000) :
    Calls Tryz.prog 159 #[.agg #[.string g.n, .string g.v], .pointer (some ⟨b, 0, none⟩)] w (BoolIs (sameN g.n n) w) := by
  have hb0 := below_alloc w (.cells #[.string g.n, .string g.v] 69)
  have hc1 := kept hb0 hc
  have hd1 : (w.alloc (.cells #[.string g.n, .string g.v] 69)).cell? ⟨w.heap.size, 0, none⟩ = some (.string g.n) := by go_cell
  have S0 : TwoS w w.heap.size b g.n n (w.alloc (.cells #[.string g.n, .string g.v] 69)) := ⟨hd1, hc1, hb0⟩
  obtain ⟨bs, hbs⟩ : ∃ x, sameN g.n n = x := ⟨_, rfl⟩
  have heq := (smallB_eq g.n n).trans hbs
  have C1 := Lib.hid (fun (W : World) => small_calls g.n W hg)
  have C2 := Lib.hid (fun (W : World) => small_calls n W hn)
  rw [hbs]
  obtain ⟨sg, hsg⟩ : ∃ x, smallB g.n = x := ⟨_, rfl⟩
  obtain ⟨sn, hsn⟩ : ∃ x, smallB n = x := ⟨_, rfl⟩
  have C1' : Hid (∀ W : World, Calls Tryz.prog 132 #[.string g.n] W fun E w' => E = .returned (.string sg) ∧ Below W.heap.size W w') := by rw [← hsg]; exact C1
  have C2' : Hid (∀ W : World, Calls Tryz.prog 132 #[.string n] W fun E w' => E = .returned (.string sn) ∧ Below W.heap.size W w') := by rw [← hsn]; exact C2
  rw [hsg, hsn] at heq
  obtain ⟨m, hm⟩ : ∃ m, w.heap.size = m := ⟨_, rfl⟩
  clear C1 C2 hsg hsn hbs hb0 hc hg hn
  go_enter Tryz.func159, Tryz.ntmps159
  go_wp2_with fail
  (try rw [hm] at S0); (try rw [hm] at hd1); (try rw [hm])
  generalize w.alloc (.cells #[.string g.n, .string g.v] 69) = W0 at S0 hc1 hd1 ⊢
  go_region_held3 (fun W => W.cell? ⟨m, 0, none⟩ = some (.string g.n) ∧ W.cell? ⟨b, 0, none⟩ = some (.string n) ∧ Below w.heap.size w W)
    ((first | assumption | exact twoS_go (by assumption) hb | exact twoS_go S0 (below_drew _) | exact twoS_go (by assumption) (below_drew _)))
    (first | (go_at_call 132; first | ((with_reducible refine (C1'.out _).mono ?_); rintro E w' ⟨rfl, hb⟩) | ((with_reducible refine (C2'.out _).mono ?_); rintro E w' ⟨rfl, hb⟩)))
  all_goals
    go_wp2_with fail
    go_ret
    exact ⟨rfl, twoS_below (by assumption)⟩

set_option maxHeartbeats 1000000 in
set_option maxRecDepth 100000 in
theorem idxPar_calls (v : Value) (fs : List Fv) (b : Nat) (p : Fv → Bool) (w : World) (h : FieldsAt w v fs) (C : ∀ (W : World) (x : Fv), Below w.heap.size w W → x ∈ fs → Calls Tryz.prog 159 #[.agg #[.string x.n, .string x.v], .pointer (some ⟨b, 0, none⟩)] W (BoolIs (p x) W)) :
    Calls Tryz.prog 169 #[v, .func (.func 159) #[] #[.pointer (some ⟨b, 0, none⟩)]] w (IdxIs (fs.any p) w) := by
  obtain ⟨A, c, hv, hc, hm, hr⟩ := h.open
  subst hv
  obtain ⟨len, hlen⟩ : ∃ len, fs.length = len := ⟨_, rfl⟩
  have HL := Lib.hid hlen
  have HR := Lib.hid hr
  have HC := Lib.hid C
  rw [hlen] at hc hm ⊢
  clear hlen hr C h
  go_enter Tryz.func169, Tryz.ntmps169
  go_wp2_with fail
  go_loopw [8] (fun i wr => ∃ k : Nat, k ≤ len ∧ i = .int .i64 k ∧ Hid ((fs.take k).any p = false) ∧ Below w.heap.size w wr) (fun i _ => len - (intOf i).toNat)
  case atStart => exact ⟨0, Nat.zero_le _, rfl, rfl, Below.refl _ _⟩
  case round =>
    obtain ⟨k, hk, rfl, hall, hB⟩ := hrel
    by_cases hlt : k < len
    · have hne : fs ≠ [] := by
        intro e
        have := HL.out
        rw [e] at this
        simp at this
        omega
      obtain ⟨f, ht⟩ : ∃ f, fs[k]? = some f := ⟨fs[k]'(by have := HL.out; omega), List.getElem?_eq_getElem _⟩
      obtain ⟨b', off, rfl, hi⟩ := HR.out hne
      obtain ⟨c0, c1⟩ := hi k f ht
      replace c0 := kept hB c0
      replace c1 := kept hB c1
      have HT := Lib.hid ht
      have H := Lib.hid (HC.out wr f hB (List.mem_of_getElem? ht))
      obtain ⟨pb, hpb⟩ : ∃ pb, p f = pb := ⟨_, rfl⟩
      have HP := Lib.hid hpb
      rw [hpb] at H
      clear ht hi hne hpb
      go_wp2_with fail
      refine H.out.mono ?_
      rintro E w1 ⟨rfl, hb⟩
      have hB := step_below hB hb
      clear hb c0 c1 H
      cases pb with
      | true =>
        go_wp2_with fail
        go_ret
        exact ⟨_, rfl, by rw [any_stop HT.out HP.out]; simp, hB⟩
      | false =>
        go_wp2_with fail
        go_roundw
        case rel => exact ⟨k + 1, by omega, by go_num, Lib.hid (any_take_succ hall.out HT.out HP.out), hB⟩
        case measure => simp [intOf]; omega
    · obtain rfl : k = len := by omega
      go_wp2_with fail
      go_ret
      exact ⟨_, rfl, by have := hall.out; rw [← HL.out] at this; rw [any_done this]; simp, hB⟩

set_option maxRecDepth 100000 in
theorem hasPar_calls (v : Value) (fs : List Fv) (b : Nat) (p : Fv → Bool) (w : World) (h : FieldsAt w v fs) (C : ∀ (W : World) (x : Fv), Below w.heap.size w W → x ∈ fs → Calls Tryz.prog 159 #[.agg #[.string x.n, .string x.v], .pointer (some ⟨b, 0, none⟩)] W (BoolIs (p x) W)) :
    Calls Tryz.prog 130 #[v, .func (.func 159) #[] #[.pointer (some ⟨b, 0, none⟩)]] w (BoolIs (fs.any p) w) := by
  have H := Lib.hid (idxPar_calls v fs b p w h C)
  clear h C
  go_enter Tryz.func130, Tryz.ntmps130
  go_wp2_with fail
  refine H.out.mono ?_
  rintro E w1 ⟨i, rfl, hi, hb⟩
  have HI := Lib.hid hi
  clear hi
  by_cases h0 : 0 ≤ i
  · go_wp2_with fail
    go_ret
    exact ⟨ret_bool (by rw [← HI.out]; simp [h0]), hb⟩
  · go_wp2_with fail
    go_ret
    exact ⟨ret_bool HI.out, hb⟩
end Go.Proofs.YtodbbfgkclkpgaaGreatDoor

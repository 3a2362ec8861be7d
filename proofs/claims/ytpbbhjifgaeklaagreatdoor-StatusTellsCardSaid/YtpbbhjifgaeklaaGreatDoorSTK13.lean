/- How packages stand: which statuses may be, how they are written and read: plain lists; no program in sight. -/
import Derived.Test.YtpbbhjifgaeklaaGreatDoorSTK11
import Derived.Test.YtpbbhjifgaeklaaGreatDoorSTK12
namespace Go.Proofs.YtpbbhjifgaeklaaGreatDoor
open Go Go.RowKit

/-! neighbours -/
def adj {α : Type} (p : α → α → Bool) : List α → Bool
  | a :: b :: l => p a b && adj p (b :: l)
  | _ => true

theorem adj_iff {α : Type} (p : α → α → Bool) (l : List α) : adj p l = true ↔ ∀ (i : Nat) (a b : α), l[i]? = some a → l[i + 1]? = some b → p a b = true := by
  induction l with
  | nil => exact ⟨fun _ i a b h => by simp at h, fun _ => rfl⟩
  | cons x l ih =>
    cases l with
    | nil => exact ⟨fun _ i a b h h1 => by simp at h1, fun _ => rfl⟩
    | cons y l =>
      rw [adj, Bool.and_eq_true, ih]
      constructor
      · rintro ⟨h0, h1⟩ i a b ha hb
        cases i with
        | zero => simp at ha hb; subst ha; subst hb; exact h0
        | succ i => exact h1 i a b (by simpa using ha) (by simpa using hb)
      · intro h
        exact ⟨h 0 x y rfl rfl, fun i a b ha hb => h (i + 1) a b (by simpa using ha) (by simpa using hb)⟩

theorem adj_and {α : Type} (p q r : α → α → Bool) (h : ∀ a b, r a b = (p a b && q a b)) (l : List α) : adj r l = (adj p l && adj q l) := by
  rw [Bool.eq_iff_iff, Bool.and_eq_true, adj_iff, adj_iff, adj_iff]
  constructor
  · intro H
    exact ⟨fun i a b ha hb => (Bool.and_eq_true _ _ ▸ h a b ▸ H i a b ha hb).1, fun i a b ha hb => (Bool.and_eq_true _ _ ▸ h a b ▸ H i a b ha hb).2⟩
  · rintro ⟨h1, h2⟩ i a b ha hb
    rw [h, h1 i a b ha hb, h2 i a b ha hb]; rfl

/-! the order of texts -/
def ltS (a b : ByteArray) : Bool := Op.bytesLess a.toList b.toList
def risesB (l : List ByteArray) : Bool := adj ltS l
def sortedS (l : List ByteArray) : Bool := adj (fun a b => !ltS b a) l
def apartS (l : List ByteArray) : Bool := adj (fun a b => decide (a ≠ b)) l

theorem less_lt : ∀ (x y : List UInt8), Op.bytesLess x y = decide (x < y)
  | [], [] => by simp [Op.bytesLess]
  | [], _ :: _ => by simp [Op.bytesLess]
  | _ :: _, [] => by simp [Op.bytesLess]
  | a :: x, b :: y => by
    rw [Op.bytesLess, less_lt x y]
    simp only [List.cons_lt_cons_iff]
    by_cases h1 : a < b <;> by_cases h2 : a = b <;> by_cases h3 : x < y <;> simp [h1, h2, h3]

theorem ltS_iff (a b : ByteArray) : ltS a b = true ↔ a.data.toList < b.data.toList := by
  unfold ltS
  rw [less_lt, decide_eq_true_iff, Lib.toList_data, Lib.toList_data]

theorem ltS_split (a b : ByteArray) : ltS a b = (!ltS b a && decide (a ≠ b)) := by
  rw [Bool.eq_iff_iff, Bool.and_eq_true, ltS_iff, Bool.not_eq_true', decide_eq_true_iff]
  constructor
  · intro h
    refine ⟨Bool.eq_false_iff.2 fun h' => ?_, fun e => ?_⟩
    · exact List.lt_irrefl _ (List.lt_trans h ((ltS_iff _ _).1 h'))
    · subst e; exact List.lt_irrefl _ h
  · rintro ⟨h1, h2⟩
    have h1' : ¬ b.data.toList < a.data.toList := fun h => by rw [(ltS_iff _ _).2 h] at h1; cases h1
    rcases Classical.em (a.data.toList < b.data.toList) with h | h
    · exact h
    · refine absurd ?_ h2
      have e := List.le_antisymm (List.not_lt.1 h1') (List.not_lt.1 h)
      rw [← Lib.mk_data a, ← Lib.mk_data b, e]

theorem rises_eq (l : List ByteArray) : risesB l = (sortedS l && apartS l) := adj_and _ _ _ ltS_split l

/-! statuses -/
structure St where
  n : Int
  e : Int
  u : ByteArray
  r : ByteArray
  h : Bool
  ws : List ByteArray
  ts : List ByteArray

def taskC (c : UInt8) : Bool := decide (33 ≤ c.toNat) && decide (c.toNat ≤ 126) && !(c == 44)
def taskP (l : List UInt8) : Bool := l.all taskC && !(l == []) && !(l == [45]) && decide (l.length ≤ 60)
def namesB (l : List ByteArray) : Bool := l.all fun s => VP.nameP s.data.toList
def tasksB (l : List ByteArray) : Bool := l.all fun s => taskP s.data.toList
/-- nothing: the version of none -/
def nov (z : St) : Bool := decide (z.e = 0) && decide (z.u = ⟨#[]⟩) && decide (z.r = ⟨#[]⟩)

def rightS (z : St) : Bool :=
  decide (0 ≤ z.n) && decide (z.n ≤ 7) &&
    if z.n = 0 then nov z && !z.h && z.ws.isEmpty && z.ts.isEmpty
    else VP.rightP z.e z.u.data.toList z.r.data.toList && risesB z.ws && risesB z.ts && decide (z.ws.length ≤ 4) && decide (z.ts.length ≤ 2) && namesB z.ws && tasksB z.ts
      && !(decide (z.n = 6) && z.ts.isEmpty) && !(decide (z.n = 5) && z.ws.isEmpty) && (z.ws.isEmpty || decide (z.n = 5)) && (z.ts.isEmpty || decide (z.n = 6) || decide (z.n = 5))

theorem rightS_iff (z : St) : rightS z = true ↔ 0 ≤ z.n ∧ z.n ≤ 7 ∧ ((z.n = 0 ∧ nov z = true ∧ z.h = false ∧ z.ws = [] ∧ z.ts = []) ∨
    (z.n ≠ 0 ∧ VP.rightP z.e z.u.data.toList z.r.data.toList = true ∧ risesB z.ws = true ∧ risesB z.ts = true ∧ z.ws.length ≤ 4 ∧ z.ts.length ≤ 2 ∧ namesB z.ws = true ∧ tasksB z.ts = true
      ∧ ¬ (z.n = 6 ∧ z.ts = []) ∧ ¬ (z.n = 5 ∧ z.ws = []) ∧ (z.ws = [] ∨ z.n = 5) ∧ (z.ts = [] ∨ z.n = 6 ∨ z.n = 5))) := by
  unfold rightS
  by_cases h : z.n = 0
  · rw [if_pos h]
    simp only [Bool.and_eq_true, decide_eq_true_eq, Bool.not_eq_true', List.isEmpty_iff, h, true_and, ne_eq, not_true_eq_false, false_and, or_false, and_assoc]
  · rw [if_neg h]
    simp only [Bool.and_eq_true, decide_eq_true_eq, Bool.not_eq_true', Bool.and_eq_false_iff, decide_eq_false_iff_not, List.isEmpty_iff, Bool.or_eq_true, h, ne_eq, not_false_eq_true, false_and, false_or, true_and, and_assoc, Classical.not_and_iff_not_or_not, or_assoc, List.isEmpty_eq_false_iff]

/-! as text -/
def heldB : ByteArray := ⟨#[104, 101, 108, 100]⟩
def dashB : ByteArray := ⟨#[45]⟩
def joinC (l : List ByteArray) : List UInt8 := VP.joinP [44] (l.map (·.data.toList))
def listT (l : List ByteArray) : List UInt8 := if l = [] then [45] else joinC l
def verT (z : St) : List UInt8 := if z.n = 0 then [45] else VP.printP z.e z.u.data.toList z.r.data.toList
def heldT (b : Bool) : List UInt8 := if b then [104, 101, 108, 100] else [102, 114, 101, 101]
def wordsS (z : St) : List (List UInt8) := [Lib.itoa z.n, verT z, heldT z.h, listT z.ws, listT z.ts]
def printS (z : St) : List UInt8 := VP.joinP [32] (wordsS z)

theorem rightP_nil : VP.rightP 0 [] [] = false := by decide +kernel

theorem small_itoa : ∀ i : Fin 8, Lib.itoa (i.val : Int) = [UInt8.ofNat (48 + i.val)] := by
  intro i
  obtain ⟨k, hk⟩ := i
  show Lib.itoa (k : Int) = _
  unfold Lib.itoa
  rw [if_neg (by omega), Int.toNat_natCast, Lib.decDigits, dif_pos (by omega)]

theorem itoa_one {n : Int} (h0 : 0 ≤ n) (h7 : n ≤ 7) : Lib.itoa n = [UInt8.ofNat (48 + n.toNat)] := by
  obtain ⟨k, rfl⟩ : ∃ k : Nat, n = k := ⟨n.toNat, by omega⟩
  have := small_itoa ⟨k, by omega⟩
  rw [Int.toNat_natCast]
  exact this

theorem itoa_dec {n : Int} (h0 : 0 ≤ n) : Lib.itoa n = Lib.decDigits n.toNat := by
  unfold Lib.itoa
  rw [if_neg (by omega)]

theorem joinC_no {l : List ByteArray} {c : UInt8} (hc : c ≠ 44) (h : ∀ s ∈ l, c ∉ s.data.toList) : c ∉ joinC l := by
  refine VP.join_no c [44] (by simpa using hc) _ fun x hx => ?_
  obtain ⟨s, hs, rfl⟩ := List.mem_map.1 hx
  exact h s hs

theorem name_no {s : ByteArray} (h : VP.nameP s.data.toList = true) : 32 ∉ s.data.toList ∧ 44 ∉ s.data.toList := by
  have H := (VP.nameP_iff _).1 h
  refine ⟨fun e => ?_, fun e => ?_⟩
  · have := (H.no e).1
    revert this; decide
  · exact (H.no e).2.2.2.1 rfl

theorem task_no {s : ByteArray} (h : taskP s.data.toList = true) : 32 ∉ s.data.toList ∧ 44 ∉ s.data.toList := by
  unfold taskP at h
  simp only [Bool.and_eq_true] at h
  have ha := List.all_eq_true.1 h.1.1.1
  refine ⟨fun e => ?_, fun e => ?_⟩
  · have := ha _ e
    revert this; decide
  · have := ha _ e
    revert this; decide

theorem listT_no {l : List ByteArray} (h : ∀ s ∈ l, 32 ∉ s.data.toList) : 32 ∉ listT l := by
  unfold listT
  split
  · decide
  · exact joinC_no (by decide) h

theorem names_mem {l : List ByteArray} (h : namesB l = true) : ∀ s ∈ l, 32 ∉ s.data.toList ∧ 44 ∉ s.data.toList := fun s hs => name_no (List.all_eq_true.1 h s hs)
theorem tasks_mem {l : List ByteArray} (h : tasksB l = true) : ∀ s ∈ l, 32 ∉ s.data.toList ∧ 44 ∉ s.data.toList := fun s hs => task_no (List.all_eq_true.1 h s hs)

theorem words_no {z : St} (h : rightS z = true) : ∀ x ∈ wordsS z, 32 ∉ x := by
  obtain ⟨h0, h7, H⟩ := (rightS_iff z).1 h
  have hn : 32 ∉ Lib.itoa z.n := by
    rw [itoa_one h0 h7]
    intro e
    have e' := congrArg UInt8.toNat (List.mem_singleton.1 e)
    rw [VP.byte_toNat _ (by omega)] at e'
    revert e'
    show 32 = _ → False
    omega
  have hh : 32 ∉ heldT z.h := by unfold heldT; split <;> decide
  have hv : 32 ∉ verT z := by
    unfold verT
    split
    · decide
    · rename_i hne
      rcases H with ⟨hz, _⟩ | ⟨_, hr, _⟩
      · exact absurd hz hne
      · intro e
        have := (VP.ok1_no _ (List.all_eq_true.1 (VP.printP_all ((VP.rightP_iff _ _ _).1 hr)) _ e)).1
        revert this; decide
  have hw : 32 ∉ listT z.ws ∧ 32 ∉ listT z.ts := by
    rcases H with ⟨_, _, _, e1, e2⟩ | ⟨_, _, _, _, _, _, k1, k2, _⟩
    · rw [e1, e2]; exact ⟨by decide, by decide⟩
    · exact ⟨listT_no fun s hs => (names_mem k1 s hs).1, listT_no fun s hs => (tasks_mem k2 s hs).1⟩
  intro x hx
  unfold wordsS at hx
  simp only [List.mem_cons, List.not_mem_nil, or_false] at hx
  rcases hx with rfl | rfl | rfl | rfl | rfl
  · exact hn
  · exact hv
  · exact hh
  · exact hw.1
  · exact hw.2

theorem padP_nil : ∀ l : List (List UInt8), VP.padP [] [] [] l = l
  | [] => rfl
  | [x] => rfl
  | x :: y :: r => by rw [VP.padP, padP_nil (y :: r)]; simp

theorem pieces_plain (c : UInt8) (xs : List (List UInt8)) (hne : xs ≠ []) (h : ∀ x ∈ xs, c ∉ x) : VP.pieces c (VP.joinP [c] xs) = xs := by
  have := VP.pieces_join c [] [] (by simp) (by simp) [] xs hne (by simp) h
  rw [padP_nil] at this
  exact this

theorem pieces_print {z : St} (h : rightS z = true) : VP.pieces 32 (printS z) = wordsS z := pieces_plain 32 _ (by simp [wordsS]) (words_no h)

/-! reading -/
def listOf (b : ByteArray) : List ByteArray := if b = dashB then [] else piecesB 44 b
def verOf (b : ByteArray) : Option (Int × List UInt8 × List UInt8) := if b = dashB then some (0, [], []) else VP.parseP b.data.toList
def verR (b : ByteArray) : Option (Int × List UInt8 × List UInt8) := some ((verOf b).getD (0, [], []))
def atoiO (b : ByteArray) : Option Int := match Lib.atoiAll b.data.toList with | .ok v => some v | _ => none
def numO (b : ByteArray) : Option Int := (VP.number 1 b.data.toList).map fun n => (n : Int)
def mkSt (n : Int) (v : Int × List UInt8 × List UInt8) (c d e : ByteArray) : St := ⟨n, v.1, ⟨v.2.1.toArray⟩, ⟨v.2.2.toArray⟩, decide (c = heldB), listOf d, listOf e⟩
def okS (z : St) (s : ByteArray) : Bool := rightS z && decide (printS z = s.data.toList)
def readS (num : ByteArray → Option Int) (ver : ByteArray → Option (Int × List UInt8 × List UInt8)) (s a b c d e : ByteArray) : Option St :=
  match num a, ver b with
  | some n, some v => if okS (mkSt n v c d e) s then some (mkSt n v c d e) else none
  | _, _ => none
def parseS (num : ByteArray → Option Int) (ver : ByteArray → Option (Int × List UInt8 × List UInt8)) (s : ByteArray) : Option St :=
  match piecesB 32 s with
  | [a, b, c, d, e] => readS num ver s a b c d e
  | _ => none

theorem okS_iff (z : St) (s : ByteArray) : okS z s = true ↔ rightS z = true ∧ printS z = s.data.toList := by
  unfold okS
  rw [Bool.and_eq_true, decide_eq_true_eq]

/-- a status that is written as the text has the text's words -/
theorem ok_words {z : St} {s a b c d e : ByteArray} (h : okS z s = true) (hp : piecesB 32 s = [a, b, c, d, e]) :
    a.data.toList = Lib.itoa z.n ∧ b.data.toList = verT z ∧ c.data.toList = heldT z.h ∧ d.data.toList = listT z.ws ∧ e.data.toList = listT z.ts := by
  obtain ⟨h1, h2⟩ := (okS_iff z s).1 h
  unfold piecesB at hp
  rw [← h2, pieces_print h1] at hp
  unfold wordsS at hp
  simp only [List.map_cons, List.map_nil, List.cons.injEq, and_true] at hp
  obtain ⟨rfl, rfl, rfl, rfl, rfl⟩ := hp
  exact ⟨rfl, rfl, rfl, rfl, rfl⟩

theorem num_dec (n : Int) (h0 : 0 ≤ n) (h7 : n ≤ 7) (a : ByteArray) (h : a.data.toList = Lib.itoa n) : numO a = some n ∧ atoiO a = some n := by
  obtain ⟨k, rfl⟩ : ∃ k : Nat, n = k := ⟨n.toNat, by omega⟩
  rw [itoa_dec h0, Int.toNat_natCast] at h
  refine ⟨?_, ?_⟩
  · unfold numO
    rw [h, VP.number_decDigits k 1 (by omega) (by omega)]
    rfl
  · unfold atoiO
    rw [h, VP.atoi_dec k (by omega)]

/-- whoever reads a number as the other one, reads what it is written as -/
theorem read_num {num num' : ByteArray → Option Int} {ver : ByteArray → Option (Int × List UInt8 × List UInt8)} {s a b c d e : ByteArray} {z : St} (hp : piecesB 32 s = [a, b, c, d, e])
    (hk : ∀ (n : Int), 0 ≤ n → n ≤ 7 → a.data.toList = Lib.itoa n → num' a = some n) (h : readS num ver s a b c d e = some z) : readS num' ver s a b c d e = some z := by
  unfold readS at h ⊢
  cases hn : num a with
  | none => rw [hn] at h; simp at h
  | some n =>
    cases hv : ver b with
    | none => rw [hn, hv] at h; simp at h
    | some v =>
      rw [hn, hv] at h
      simp only at h ⊢
      split at h
      · rename_i hok
        have W := ok_words hok hp
        have R := (rightS_iff _).1 ((okS_iff _ _).1 hok).1
        rw [hk n R.1 R.2.1 W.1]
        simp only
        rw [if_pos hok]
        exact h
      · cases h

theorem read_ver {num : ByteArray → Option Int} {s a b c d e : ByteArray} (hp : piecesB 32 s = [a, b, c, d, e]) : readS num verR s a b c d e = readS num verOf s a b c d e := by
  unfold readS
  cases hn : num a with
  | none => simp
  | some n =>
    unfold verR
    cases hv : verOf b with
    | some v => rfl
    | none =>
      simp only [Option.getD]
      refine if_neg fun hok => ?_
      have W := ok_words hok hp
      have R := (rightS_iff _).1 ((okS_iff _ _).1 hok).1
      rcases R.2.2 with ⟨h0, _⟩ | ⟨_, hr, _⟩
      · have hb := W.2.1
        unfold verT at hb
        rw [if_pos h0] at hb
        have : b = dashB := by rw [← Lib.mk_data b, hb]; rfl
        unfold verOf at hv
        rw [if_pos this] at hv
        cases hv
      · exact Bool.noConfusion (rightP_nil.symm.trans hr)

theorem parse_eq (s : ByteArray) : parseS atoiO verOf s = parseS numO verR s := by
  unfold parseS
  split
  · rename_i a b c d e hp
    rw [read_ver hp]
    cases h1 : readS atoiO verOf s a b c d e with
    | some z => exact (read_num hp (fun n h0 h7 h => (num_dec n h0 h7 a h).1) h1).symm
    | none =>
      cases h2 : readS numO verOf s a b c d e with
      | none => rfl
      | some z =>
        have := read_num (num' := atoiO) hp (fun n h0 h7 h => (num_dec n h0 h7 a h).2) h2
        rw [h1] at this
        cases this
  · rfl

end Go.Proofs.YtpbbhjifgaeklaaGreatDoor

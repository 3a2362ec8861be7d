/- The reference's Right says what the program's does: the plain part. · The reference's Right: the walk. · The reference's Parse: the version that a text is, or that it is none. · The reference's Parse: the walk. · What packages ask for: how it is read and written: plain lists of bytes; no program in sight. · What is asked for is written, and read, as it is; what is read may be written: plain lists of bytes; no program in sight. · The reference reads what is asked for in another way, and comes to the same: plain lists of bytes; no program in sight. · Reading, piece by piece: plain lists; no program in sight. · Packages that are asked for, in memory: a slice of terms, a slice of such slices. · Rows of the call's own: what keeps them; a row of slices of terms. · append(dst, src...) on a row of the call's own, from a slice that may be nil. -/
import Derived.Test.YtofogjfemlhffaaGreatDoorSPK2
import Derived.Deep.RegionHeld3
import Derived.Deep.DeepCutAuto
import Derived.Test.YtofogjfemlhffaaGreatDoorSPK1
import Derived.Maps.AppendAt
import Derived.OwnWalk
import Derived.Laws.AppendOwn
import Derived.Deep.AppendSrc
namespace Go.Proofs.YtofogjfemlhffaaGreatDoor
open Go.RowKit

/-- which letters besides the reference lets by -/
def moreP (e : Int) (r : List UInt8) : List UInt8 := ([46, 43, 126] ++ (if 0 < e then [58] else [])) ++ (if r = [] then [] else [45])

theorem fin_all {p q : UInt8 → Bool} (h : ∀ i : Fin 256, p (UInt8.ofNat i.val) = q (UInt8.ofNat i.val)) : p = q := by
  funext c
  have := h ⟨c.toNat, c.toNat_lt⟩
  simpa using this
theorem allP_base : allP [46, 43, 126] = VP.ok0 := fin_all (by decide +kernel)
theorem allP_11 : allP (([46, 43, 126] ++ [58]) ++ [45]) = fun c => VP.ok0 c || c == 45 || (true && c == 58) := fin_all (by decide +kernel)
theorem allP_01 : allP (([46, 43, 126] ++ []) ++ [45]) = fun c => VP.ok0 c || c == 45 || (false && c == 58) := fin_all (by decide +kernel)
theorem allP_10 : allP (([46, 43, 126] ++ [58]) ++ []) = fun c => (VP.ok0 c || c == 45 || (true && c == 58)) && !(c == 45) := fin_all (by decide +kernel)
theorem allP_00 : allP (([46, 43, 126] ++ []) ++ []) = fun c => (VP.ok0 c || c == 45 || (false && c == 58)) && !(c == 45) := fin_all (by decide +kernel)

theorem all_and_not (p : UInt8 → Bool) (l : List UInt8) : (l.all fun c => p c && !(c == 45)) = (l.all p && !l.contains 45) := by
  induction l with
  | nil => rfl
  | cons c l ih =>
    rw [List.all_cons, List.all_cons, List.contains_cons, ih]
    have : ((45 : UInt8) == c) = (c == 45) := by rw [Bool.eq_iff_iff, beq_iff_eq, beq_iff_eq]; exact eq_comm
    rw [this]
    cases p c <;> cases (c == 45) <;> cases l.all p <;> cases l.contains 45 <;> rfl

theorem moreP_all (e : Int) (u r : List UInt8) : u.all (allP (moreP e r)) = (u.all (VP.ok1 e) && (r != [] || !u.contains 45)) := by
  unfold moreP
  by_cases he : 0 < e
  · have h1 : VP.ok1 e = fun c => VP.ok0 c || c == 45 || (true && c == 58) := by funext c; unfold VP.ok1; rw [decide_eq_true he]
    rw [if_pos he, h1]
    by_cases hr : r = []
    · rw [if_pos hr, allP_10, all_and_not, hr]; rfl
    · rw [if_neg hr, allP_11]
      have : (r != []) = true := by simpa using hr
      rw [this, Bool.true_or, Bool.and_true]
  · have h1 : VP.ok1 e = fun c => VP.ok0 c || c == 45 || (false && c == 58) := by funext c; unfold VP.ok1; rw [decide_eq_false he]
    rw [if_neg he, h1]
    by_cases hr : r = []
    · rw [if_pos hr, allP_00, all_and_not, hr]; rfl
    · rw [if_neg hr, allP_01]
      have : (r != []) = true := by simpa using hr
      rw [this, Bool.true_or, Bool.and_true]

/-- THE REFERENCE's RIGHT, test by test. -/
theorem right_ref (e : Int) (u r : List UInt8) : VP.rightP e u r = (inB e 0 999999999 && VP.startsDig u && u.all (allP (moreP e r)) && r.all (allP [46, 43, 126]) && decide ((VP.printP e u r).length ≤ 40)) := by
  rw [moreP_all, allP_base]
  unfold VP.rightP inB
  have : decide (e < 1000000000) = decide (e ≤ 999999999) := decide_eq_decide.2 (by omega)
  rw [this]
  cases decide (0 ≤ e) <;> cases decide (e ≤ 999999999) <;> cases VP.startsDig u <;> cases u.all (VP.ok1 e) <;> cases r.all VP.ok0 <;> cases (r != [] || !u.contains 45) <;> cases decide ((VP.printP e u r).length ≤ 40) <;> rfl
end Go.Proofs.YtofogjfemlhffaaGreatDoor

namespace Go.Proofs.YtofogjfemlhffaaGreatDoor
open Go.RowKit

def allB (s : ByteArray) (more : List UInt8) : Bool := s.data.toList.all (allP more)
theorem all_calls' (s m : ByteArray) (more : List UInt8) (h : m.data.toList = more) (w : World) (hs : s.size ≤ 1000000) : Calls Tryz.prog 131 #[.string s, .string m] w fun E w' => E = .returned (.bool (allB s more)) ∧ w = w' := by
  subst h
  exact all_calls s m w hs

set_option maxHeartbeats 1000000 in
set_option maxRecDepth 100000 in
theorem refRight_calls (e : Int) (u r : ByteArray) (w : World) (hE : Env w) (h0 : -9223372036854775808 ≤ e) (h1 : e ≤ 9223372036854775807) (hu : u.size ≤ 1000000) (hr : r.size ≤ 1000000) :
    Calls Tryz.prog 91 #[.agg #[.int .i64 e, .string u, .string r]] w (RightIs e u r w) := by
  have hb0 := below_alloc w (.cells #[.int .i64 e, .string u, .string r] 37)
  have hE1 := hE.below hb0
  clear hE
  have hR := Lib.hid (right_ref e u.data.toList r.data.toList)
  have A1 := Lib.hid (fun (m : ByteArray) (h : m.data.toList = moreP e r.data.toList) (w : World) => all_calls' u m _ h w hu)
  have A2 := Lib.hid (fun (m : ByteArray) (h : m.data.toList = [46, 43, 126]) (w : World) => all_calls' r m _ h w hr)
  have P := Lib.hid (fun (w : World) (h : Env w) => refPrint_calls e u r w h h0 h1 hu hr)
  have D1 : 0 < e ∨ e ≤ 0 := by omega
  have D2 : 0 < r.size ∨ r.size = 0 := by omega
  have D3 : inB e 0 999999999 = true ∨ inB e 0 999999999 = false := by cases inB e 0 999999999 <;> simp
  have hm : (0 < e ∧ r.toList.isEmpty = false ∧ Hid (moreP e r.data.toList = ([46, 43, 126] ++ [58]) ++ [45])) ∨ (0 < e ∧ r.toList.isEmpty = true ∧ Hid (moreP e r.data.toList = ([46, 43, 126] ++ [58]) ++ [])) ∨
      (e ≤ 0 ∧ r.toList.isEmpty = false ∧ Hid (moreP e r.data.toList = ([46, 43, 126] ++ []) ++ [45])) ∨ (e ≤ 0 ∧ r.toList.isEmpty = true ∧ Hid (moreP e r.data.toList = ([46, 43, 126] ++ []) ++ [])) := by
    rcases D1 with hp | hp <;> rcases D2 with hz | hz
    · exact .inl ⟨hp, isEmpty_false r hz, Lib.hid (by unfold moreP; rw [if_pos hp, if_neg (printP_rev r hz)])⟩
    · exact .inr (.inl ⟨hp, isEmpty_true r hz, Lib.hid (by unfold moreP; rw [if_pos hp, if_pos (by rw [eq_empty r hz])])⟩)
    · exact .inr (.inr (.inl ⟨hp, isEmpty_false r hz, Lib.hid (by unfold moreP; rw [if_neg (by omega), if_neg (printP_rev r hz)])⟩))
    · exact .inr (.inr (.inr ⟨hp, isEmpty_true r hz, Lib.hid (by unfold moreP; rw [if_neg (by omega), if_pos (by rw [eq_empty r hz])])⟩))
  clear D1 D2
  have D4 : u.size = 0 ∨ 0 < u.size := by omega
  rcases hm with ⟨hp, hzr, hm⟩ | ⟨hp, hzr, hm⟩ | ⟨hp, hzr, hm⟩ | ⟨hp, hzr, hm⟩
  all_goals
    rcases D3 with d3 | d3
    · rcases D4 with hu0 | hu1
      · have hue := isEmpty_true u hu0
        have hst : Hid (VP.startsDig u.data.toList = false) := by rw [eq_empty u hu0]; exact rfl
        go_enter Tryz.func91, Tryz.ntmps91
        go_wp2_with (go_at_call 95; refine (in_calls _ _ _ _).mono ?_; rintro E w' ⟨rfl, rfl⟩)
        go_ret
        refine ⟨ret_bool ?_, hb0⟩
        rw [hR.out, d3, hst.out]
        rfl
      · have hue := isEmpty_false u hu1
        have hst := Lib.hid (startsDig_eq u hu1)
        have d4 : VP.dig u[0] = true ∨ VP.dig u[0] = false := by cases VP.dig u[0] <;> simp
        rcases d4 with d4 | d4
        · have d5 : allB u (moreP e r.data.toList) = true ∨ allB u (moreP e r.data.toList) = false := by cases allB u (moreP e r.data.toList) <;> simp
          have d6 : allB r [46, 43, 126] = true ∨ allB r [46, 43, 126] = false := by cases allB r [46, 43, 126] <;> simp
          go_enter Tryz.func91, Tryz.ntmps91
          go_wp2_with (first | (go_at_call 95; refine (in_calls _ _ _ _).mono ?_; rintro E w' ⟨rfl, rfl⟩) | (go_at_call 96; refine (digit_calls _ _).mono ?_; rintro E w' ⟨rfl, rfl⟩))
          refine (A1.out _ (by rw [hm.out]; first | (rw [append_data, append_data]; rfl) | (rw [append_data]; rfl) | rfl) _).mono ?_
          rintro E w1 ⟨rfl, rfl⟩
          rcases d5 with d5 | d5
          · go_wp2_with fail
            refine (A2.out _ rfl _).mono ?_
            rintro E w1 ⟨rfl, rfl⟩
            rcases d6 with d6 | d6
            · go_wp2_with fail
              refine (P.out _ hE1).mono ?_
              rintro E w1 ⟨t, rfl, ht, hb⟩
              have hB := step_below hb0 hb
              have HT := Lib.hid ht
              clear hb ht
              go_wp2_with fail
              go_ret
              refine ⟨ret_bool ?_, hB⟩
              have e5 : u.data.toList.all (allP (moreP e r.data.toList)) = true := d5
              have e6 : r.data.toList.all (allP [46, 43, 126]) = true := d6
              rw [hR.out, d3, hst.out, d4, e5, e6, ← HT.out, ← size_eq_length]
              simp
              omega
            · go_wp2_with fail
              go_ret
              refine ⟨ret_bool ?_, hb0⟩
              have e5 : u.data.toList.all (allP (moreP e r.data.toList)) = true := d5
              have e6 : r.data.toList.all (allP [46, 43, 126]) = false := d6
              rw [hR.out, d3, hst.out, d4, e5, e6]
              rfl
          · go_wp2_with fail
            go_ret
            refine ⟨ret_bool ?_, hb0⟩
            have e5 : u.data.toList.all (allP (moreP e r.data.toList)) = false := d5
            rw [hR.out, d3, hst.out, d4, e5]
            rfl
        · go_enter Tryz.func91, Tryz.ntmps91
          go_wp2_with (first | (go_at_call 95; refine (in_calls _ _ _ _).mono ?_; rintro E w' ⟨rfl, rfl⟩) | (go_at_call 96; refine (digit_calls _ _).mono ?_; rintro E w' ⟨rfl, rfl⟩))
          go_ret
          refine ⟨ret_bool ?_, hb0⟩
          rw [hR.out, d3, hst.out, d4]
          rfl
    · go_enter Tryz.func91, Tryz.ntmps91
      go_wp2_with (go_at_call 95; refine (in_calls _ _ _ _).mono ?_; rintro E w' ⟨rfl, rfl⟩)
      go_ret
      refine ⟨ret_bool ?_, hb0⟩
      rw [hR.out, d3]
      rfl
end Go.Proofs.YtofogjfemlhffaaGreatDoor

namespace Go.Proofs.YtofogjfemlhffaaGreatDoor
open Go.RowKit

theorem indexB_none {c : UInt8} {l : List UInt8} (h : VP.cutAt c l = none) : Lib.indexByte l c = -1 := by
  have hn := (VP.cutAt_none c l).1 h
  have := indexByte_mem l c
  have h2 : l.contains c = false := by simpa using hn
  rw [h2] at this
  have h3 := of_decide_eq_false this
  have h4 := Lib.indexByte_ge l c
  omega

theorem indexB_some {c : UInt8} {l a b : List UInt8} (h : VP.cutAt c l = some (a, b)) : Lib.indexByte l c = a.length := by
  induction l generalizing a b with
  | nil => simp [VP.cutAt] at h
  | cons x l ih =>
    by_cases hx : x = c
    · subst hx
      simp [VP.cutAt] at h
      obtain ⟨rfl, rfl⟩ := h
      simp [Lib.indexByte]
    · simp [VP.cutAt, hx] at h
      obtain ⟨a', h, rfl⟩ := h
      have := ih h
      simp [Lib.indexByte, hx, this]

/-- the result's cells (at b, noughts) and the version's (at b + 1) -/
structure Two (b : Nat) (w : World) (e : Int) (u r : ByteArray) : Prop where
  k0 : w.cell? ⟨b, 0, none⟩ = some (.int .i64 0)
  k1 : w.cell? ⟨b, 1, none⟩ = some (.string ⟨#[]⟩)
  k2 : w.cell? ⟨b, 2, none⟩ = some (.string ⟨#[]⟩)
  f0 : w.frozen? ⟨b, 0, none⟩ = false
  f1 : w.frozen? ⟨b, 1, none⟩ = false
  f2 : w.frozen? ⟨b, 2, none⟩ = false
  c0 : w.cell? ⟨b + 1, 0, none⟩ = some (.int .i64 e)
  c1 : w.cell? ⟨b + 1, 1, none⟩ = some (.string u)
  c2 : w.cell? ⟨b + 1, 2, none⟩ = some (.string r)
  g0 : w.frozen? ⟨b + 1, 0, none⟩ = false
  g1 : w.frozen? ⟨b + 1, 1, none⟩ = false
  g2 : w.frozen? ⟨b + 1, 2, none⟩ = false

theorem Two.step {b : Nat} {w w1 : World} {e : Int} {u r : ByteArray} (h : Two b w e u r) (hb : Below w.heap.size w w1) : Two b w1 e u r :=
  have hz0 : b < w.heap.size := cell_lt h.k0
  have hz1 : b + 1 < w.heap.size := cell_lt h.c0
  ⟨kept hb h.k0, kept hb h.k1, kept hb h.k2, keptf hb hz0 h.f0, keptf hb hz0 h.f1, keptf hb hz0 h.f2,
   kept hb h.c0, kept hb h.c1, kept hb h.c2, keptf hb hz1 h.g0, keptf hb hz1 h.g1, keptf hb hz1 h.g2⟩
end Go.Proofs.YtofogjfemlhffaaGreatDoor

namespace Go.Proofs.YtofogjfemlhffaaGreatDoor
open Go.RowKit

theorem Two.start (w : World) : Two w.heap.size ((w.alloc (.cells #[.int .i64 0, .string ⟨#[]⟩, .string ⟨#[]⟩] 37)).alloc (.cells #[.int .i64 0, .string ⟨#[]⟩, .string ⟨#[]⟩] 37)) 0 ⟨#[]⟩ ⟨#[]⟩ := by
  constructor
  all_goals first | go_cell | (simp [go_sem])

end Go.Proofs.YtofogjfemlhffaaGreatDoor

namespace Go.Proofs.YtofogjfemlhffaaGreatDoor.VP

/-! names -/
def low (c : UInt8) : Bool := decide (97 ≤ c.toNat) && decide (c.toNat ≤ 122)
def nm0 (c : UInt8) : Bool := low c || dig c
def nm1 (c : UInt8) : Bool := nm0 c || c == 43 || c == 45 || c == 46
def startsNm : List UInt8 → Bool
  | [] => false
  | c :: _ => nm0 c
def nameP (l : List UInt8) : Bool := decide (2 ≤ l.length) && decide (l.length ≤ 24) && startsNm l && l.all nm1

/-! blanks, tabs and line feeds at both ends -/
def gap (c : UInt8) : Bool := c == 32 || c == 9 || c == 10
/-- a package that is asked for: its name, what is asked of its version, the version -/
structure Tm where
  n : List UInt8
  op : Int
  e : Int
  u : List UInt8
  r : List UInt8
deriving DecidableEq

/-! texts apart at a byte -/
def pieces (c : UInt8) : List UInt8 → List (List UInt8)
  | [] => [[]]
  | x :: l => if x = c then [] :: pieces c l else match pieces c l with
    | [] => [[x]]
    | p :: ps => (x :: p) :: ps

theorem pieces_ne (c : UInt8) (l : List UInt8) : pieces c l ≠ [] := by
  cases l with
  | nil => simp [pieces]
  | cons x l =>
    rw [pieces]
    split
    · simp
    · split <;> simp

theorem pieces_none {c : UInt8} {l : List UInt8} (h : cutAt c l = none) : pieces c l = [l] := by
  induction l with
  | nil => rfl
  | cons x l ih =>
    by_cases hx : x = c
    · subst hx; simp [cutAt] at h
    · simp [cutAt, hx] at h
      rw [pieces, if_neg hx, ih h]

theorem pieces_some {c : UInt8} {l a b : List UInt8} (h : cutAt c l = some (a, b)) : pieces c l = a :: pieces c b := by
  induction l generalizing a b with
  | nil => simp [cutAt] at h
  | cons x l ih =>
    by_cases hx : x = c
    · subst hx
      simp [cutAt] at h
      obtain ⟨rfl, rfl⟩ := h
      rw [pieces, if_pos rfl]
    · simp [cutAt, hx] at h
      obtain ⟨a', h, rfl⟩ := h
      rw [pieces, if_neg hx, ih h]

theorem pieces_mid (c : UInt8) (a b : List UInt8) (h : c ∉ a) : pieces c (a ++ c :: b) = a :: pieces c b := pieces_some (cutAt_mid c a b h)
theorem pieces_one (c : UInt8) (a : List UInt8) (h : c ∉ a) : pieces c a = [a] := pieces_none ((cutAt_none c a).2 h)

/-! writing -/
def rightT (t : Tm) : Bool := nameP t.n && (if t.op = 0 then decide (t.e = 0) && decide (t.u = []) && decide (t.r = []) else decide (0 ≤ t.op) && decide (t.op ≤ 5) && rightP t.e t.u t.r)
def total (L : List (List Tm)) : Nat := (L.map List.length).sum
def askedP (L : List (List Tm)) : Bool := (L.all fun x => !x.isEmpty && x.all rightT) && decide (total L ≤ 30)
def joinP (sep : List UInt8) : List (List UInt8) → List UInt8
  | [] => []
  | [x] => x
  | x :: y :: r => x ++ (sep ++ joinP sep (y :: r))
end Go.Proofs.YtofogjfemlhffaaGreatDoor.VP

namespace Go.Proofs.YtofogjfemlhffaaGreatDoor.VP

theorem fin_imp {p : UInt8 → Prop} [DecidablePred p] (h : ∀ i : Fin 256, p (UInt8.ofNat i.val)) (c : UInt8) : p c := by
  have := h ⟨c.toNat, c.toNat_lt⟩
  simpa using this

theorem nm1_no (c : UInt8) (h : nm1 c = true) : gap c = false ∧ c ≠ 40 ∧ c ≠ 41 ∧ c ≠ 44 ∧ c ≠ 124 := by
  have : ∀ c : UInt8, nm1 c = true → gap c = false ∧ c ≠ 40 ∧ c ≠ 41 ∧ c ≠ 44 ∧ c ≠ 124 := fin_imp (by decide +kernel)
  exact this c h
structure NameP (l : List UInt8) : Prop where
  lo : 2 ≤ l.length
  hi : l.length ≤ 24
  st : startsNm l = true
  al : l.all nm1 = true
theorem NameP.no {l : List UInt8} (h : NameP l) {c : UInt8} (hc : c ∈ l) : gap c = false ∧ c ≠ 40 ∧ c ≠ 41 ∧ c ≠ 44 ∧ c ≠ 124 := nm1_no c (List.all_eq_true.1 h.al c hc)
theorem NameP.ne {l : List UInt8} (h : NameP l) : l ≠ [] := by
  have := h.lo
  intro e; subst e; simp at this

structure RightT (t : Tm) : Prop where
  nm : NameP t.n
  k : (t.op = 0 ∧ t.e = 0 ∧ t.u = [] ∧ t.r = []) ∨ ((t.op = 1 ∨ t.op = 2 ∨ t.op = 3 ∨ t.op = 4 ∨ t.op = 5) ∧ RightP t.e t.u t.r)
structure AskedP (L : List (List Tm)) : Prop where
  each : ∀ x ∈ L, x ≠ [] ∧ ∀ t ∈ x, RightT t
  few : total L ≤ 30
/-! what is joined comes apart -/
def padP (pre post : List UInt8) : List UInt8 → List (List UInt8) → List (List UInt8)
  | _, [] => []
  | lead, [x] => [lead ++ x]
  | lead, x :: y :: r => (lead ++ x ++ pre) :: padP pre post post (y :: r)

theorem pieces_join (c : UInt8) (pre post : List UInt8) (h1 : c ∉ pre) (h2 : c ∉ post) : ∀ (lead : List UInt8) (xs : List (List UInt8)), xs ≠ [] → c ∉ lead → (∀ x ∈ xs, c ∉ x) →
    pieces c (lead ++ joinP (pre ++ c :: post) xs) = padP pre post lead xs
  | lead, [], h, _, _ => absurd rfl h
  | lead, [x], _, hl, hx => by
    rw [joinP, padP, pieces_one]
    rw [List.mem_append, not_or]
    exact ⟨hl, hx x (.head _)⟩
  | lead, x :: y :: r, _, hl, hx => by
    rw [joinP, padP]
    have e : lead ++ (x ++ (pre ++ c :: post ++ joinP (pre ++ c :: post) (y :: r))) = (lead ++ x ++ pre) ++ c :: (post ++ joinP (pre ++ c :: post) (y :: r)) := by simp
    rw [e, pieces_mid c _ _ (by
      rw [List.mem_append, List.mem_append, not_or, not_or]
      exact ⟨⟨hl, hx x (.head _)⟩, h1⟩), pieces_join c pre post h1 h2 post (y :: r) (by simp) h2 (fun z hz => hx z (.tail _ hz))]

end Go.Proofs.YtofogjfemlhffaaGreatDoor.VP

namespace Go.Proofs.YtofogjfemlhffaaGreatDoor.VP

end Go.Proofs.YtofogjfemlhffaaGreatDoor.VP

namespace Go.Proofs.YtofogjfemlhffaaGreatDoor.VP

end Go.Proofs.YtofogjfemlhffaaGreatDoor.VP

namespace Go.Proofs.YtofogjfemlhffaaGreatDoor
open Go.RowKit

/-- a term, as it lies in memory -/
structure Tv where
  n : ByteArray
  op : Int
  e : Int
  u : ByteArray
  r : ByteArray

def Tv.val (t : Tv) : Value := .agg #[.string t.n, .int .i64 t.op, .int .i64 t.e, .string t.u, .string t.r]
def Tv.tm (t : Tv) : VP.Tm := ⟨t.n.data.toList, t.op, t.e, t.u.data.toList, t.r.data.toList⟩
/-- its numbers are int's -/
def Tv.ok (t : Tv) : Prop := -9223372036854775808 ≤ t.e ∧ t.e ≤ 9223372036854775807 ∧ -9223372036854775808 ≤ t.op ∧ t.op ≤ 9223372036854775807

/-- at this address lies this term -/
structure TermAt (w : World) (b off : Nat) (t : Tv) : Prop where
  c0 : w.cell? ⟨b, off, none⟩ = some (.string t.n)
  c1 : w.cell? ⟨b, off + 1, none⟩ = some (.int .i64 t.op)
  c2 : w.cell? ⟨b, off + 2, none⟩ = some (.int .i64 t.e)
  c3 : w.cell? ⟨b, off + 3, none⟩ = some (.string t.u)
  c4 : w.cell? ⟨b, off + 4, none⟩ = some (.string t.r)

theorem TermAt.below {w w' : World} {b off : Nat} {t : Tv} (h : TermAt w b off t) (hb : Below w.heap.size w w') : TermAt w' b off t := ⟨kept hb h.c0, kept hb h.c1, kept hb h.c2, kept hb h.c3, kept hb h.c4⟩

/-- this value is a slice that reads as these terms -/
def TermsAt (w : World) (v : Value) (ts : List Tv) : Prop :=
  ∃ A c, v = .slice A ts.length c ∧ ts.length ≤ c ∧ ts.length ≤ 9223372036854775807 ∧ (ts ≠ [] → ∃ b off, A = some ⟨b, off, none⟩ ∧ ∀ i t, ts[i]? = some t → TermAt w b (off + i * 5) t ∧ t.ok)

theorem TermsAt.below {w w' : World} {v : Value} {ts : List Tv} (h : TermsAt w v ts) (hb : Below w.heap.size w w') : TermsAt w' v ts := by
  obtain ⟨A, c, hv, hc, hm, h⟩ := h
  refine ⟨A, c, hv, hc, hm, fun hn => ?_⟩
  obtain ⟨b, off, hA, hi⟩ := h hn
  exact ⟨b, off, hA, fun i t ht => ⟨(hi i t ht).1.below hb, (hi i t ht).2⟩⟩

/-- this value is a slice that reads as these lists of terms -/
def AskedAt (w : World) (v : Value) (L : List (List Tv)) : Prop :=
  ∃ A c, v = .slice A L.length c ∧ L.length ≤ c ∧ L.length ≤ 9223372036854775807 ∧ (L ≠ [] → ∃ b off, A = some ⟨b, off, none⟩ ∧ ∀ i x, L[i]? = some x → ∃ vx, w.cell? ⟨b, off + i, none⟩ = some vx ∧ TermsAt w vx x)

theorem AskedAt.below {w w' : World} {v : Value} {L : List (List Tv)} (h : AskedAt w v L) (hb : Below w.heap.size w w') : AskedAt w' v L := by
  obtain ⟨A, c, hv, hc, hm, h⟩ := h
  refine ⟨A, c, hv, hc, hm, fun hn => ?_⟩
  obtain ⟨b, off, hA, hi⟩ := h hn
  refine ⟨b, off, hA, fun i x hx => ?_⟩
  obtain ⟨vx, h1, h2⟩ := hi i x hx
  exact ⟨vx, kept hb h1, h2.below hb⟩

def flatT (t : Tv) : Bool := decide (t.n.size ≤ 60) && shortB t.u t.r
def flatB (ts : List Tv) : Bool := decide (ts.length ≤ 40) && ts.all flatT
def termsB (L : List (List Tv)) : Bool := decide (L.length ≤ 40) && L.all flatB

theorem all_take_succ {α : Type} {p : α → Bool} {l : List α} {k : Nat} {x : α} (h : (l.take k).all p = true) (hx : l[k]? = some x) (hp : p x = true) : (l.take (k + 1)).all p = true := by
  rw [List.take_add_one, hx, List.all_append, h]
  simp [hp]
theorem all_stop {α : Type} {p : α → Bool} {l : List α} {k : Nat} {x : α} (hx : l[k]? = some x) (hp : p x = false) : l.all p = false := by
  rw [List.all_eq_false]
  exact ⟨x, List.mem_of_getElem? hx, by simp [hp]⟩
theorem all_done {α : Type} {p : α → Bool} {l : List α} (h : (l.take l.length).all p = true) : l.all p = true := by rwa [List.take_length] at h
end Go.Proofs.YtofogjfemlhffaaGreatDoor

namespace Go.Proofs.YtofogjfemlhffaaGreatDoor
open Go.RowKit

theorem info_terms : (Tryz.prog.info? 39).map (fun i => (i.zero, i.size, i.bytes)) = some (some (.slice none 0 0), 1, 24) := by kernel_rfl

/-- a slice of slices of the call's own, each of which reads as terms -/
theorem asked_of_own {w : World} {base : Nat} {v : Value} {n : Nat} {vs : List Value} {L : List (List Tv)} (h : w.ownsRow base 39 1 v n vs) (hn : n = L.length) (hb : n ≤ 9223372036854775807)
    (hi : ∀ (i : Nat) (x : List Tv), L[i]? = some x → ∃ vx, vs[i]? = some vx ∧ TermsAt w vx x) : AskedAt w v L := by
  subst hn
  rcases h.2 with ⟨rfl, h0⟩ | ⟨g, cap, cur, rfl, hg, hk, hc, hm, hs, ht⟩
  · refine ⟨none, 0, by rw [h0], by omega, hb, fun hne => ?_⟩
    exact absurd (List.eq_nil_of_length_eq_zero h0) hne
  · refine ⟨some ⟨g, 0, none⟩, cap, rfl, hc, hb, fun _ => ⟨g, 0, rfl, fun i x hx => ?_⟩⟩
    obtain ⟨vx, h1, h2⟩ := hi i x hx
    have := h.cells (g := g) rfl i vx h1
    rw [Go.WideShapes.add_plain] at this
    exact ⟨vx, this, h2⟩
end Go.Proofs.YtofogjfemlhffaaGreatDoor

namespace Go.Proofs.YtofogjfemlhffaaGreatDoor
open Go Go.RowKit

/-- this value is a slice of m elements that yields these cells -/
def SrcIs (w : World) (y : Value) (m : Nat) (news : List Value) : Prop := ∃ A c, y = .slice A m c ∧ (m ≠ 0 → ∃ b off, A = some ⟨b, off, none⟩ ∧ ∀ j u, news[j]? = some u → w.cell? ⟨b, off + j, none⟩ = some u)
theorem SrcIs.below {w w' : World} {y : Value} {m : Nat} {news : List Value} (h : SrcIs w y m news) (hb : Below w.heap.size w w') : SrcIs w' y m news := by
  obtain ⟨A, c, hy, h1⟩ := h
  refine ⟨A, c, hy, fun hm => ?_⟩
  obtain ⟨b, off, hA, hc⟩ := h1 hm
  exact ⟨b, off, hA, fun j u hj => kept hb (hc j u hj)⟩

section
variable {P : Program} (w : World)
theorem setCells_nil (b off : Nat) : w.setCells b off [] = w := rfl

/-- appended whatever comes: a row of the call's own -/
theorem wpList_append_src {ops : Array Oper} {rest : List Oper} {o : Oper} {a : Act} {Q : Exit → Act → World → Prop} (hgd : o.guard = none) (s x : Operand) (t : TypeId)
    (ho : o.op = .call { callee := .builtin .append, args := #[s, x], argTypes := #[t, t] })
    (base : Nat) (e : TypeId) (i : TypeInfo) (z : Value) (size bytes : Nat) (ht : P.underlying t = some (.slice e)) (hi : P.info? e = some i) (hz : i.zero = some z)
    (hsize : i.size = size) (hby : i.bytes = bytes) (hzs : z.cells.size = size) (hsz : 0 < size)
    (v : Value) (n : Nat) (xs : List Value) (hs : a.eval s = v) (hown : w.ownsRow base e size v n xs)
    (y : Value) (m : Nat) (news : List Value) (hx : a.eval x = y) (hsrc : SrcIs w y m news) (hl : news.length = m * size) (h1 : ∀ u ∈ news, u.oneCell' = true)
    (h63 : n + m ≤ maxLen) (hbytes : (n + m) * bytes ≤ 140737488355328) (hbase : base ≤ w.heap.size)
    (h : ∀ v' w', w'.ownsRow base e size v' (n + m) (xs ++ news) → w.grownBy w' v.ownBlock → wpList P ops Q rest (a.put o.dst v') w') : wpList P ops Q (o :: rest) a w := by
  obtain ⟨A, c, hy, hc⟩ := hsrc
  cases A with
  | some ad =>
    refine wpList_append_own w hgd s x t ho base e i z size bytes ht hi hz hsize hby hzs hsz v n xs hs hown ad m c news (hx.trans hy) hl ?_ h1 h63 hbytes hbase fun v' w' h2 h3 _ => h v' w' h2 h3
    intro j u hj
    by_cases hm : m = 0
    · subst hm
      rw [Nat.zero_mul] at hl
      rw [List.eq_nil_of_length_eq_zero hl] at hj
      cases hj
    · obtain ⟨b, off, hA, hcc⟩ := hc hm
      obtain rfl := Option.some.inj hA
      rw [Go.WideShapes.add_plain]
      exact hcc j u hj
  | none =>
    have hm0 : m = 0 := by
      by_cases hm : m = 0
      · exact hm
      · obtain ⟨b, off, hA, _⟩ := hc hm
        cases hA
    subst hm0
    rw [Nat.zero_mul] at hl
    obtain rfl := List.eq_nil_of_length_eq_zero hl
    rcases id hown.2 with ⟨rfl, rfl⟩ | ⟨g, cap, cur, rfl, hbg, hg, hnc, hcm, hcs, htake⟩
    · refine wpList_plain hgd fun K hK => ?_
      have hr : (Builtin.append_ #[t, t] o.type #[.slice none 0 0, .slice none 0 c]).run P w = .ok (.slice none 0 0) w := by
        simp [Builtin.append_, run_underlying ht, sizeOf, typeInfo, hi, Builtin.lenOf, Builtin.firstCells]
      unfold Oper.wp execOp
      simp only [ho, resolve, invoke, builtin, Sem.run_bind, Sem.run_pure, Result.andThen_ok, List.map_toArray, List.map_cons, List.map_nil, hs, hx.trans hy, hr]
      refine hK _ _ (h _ _ ?_ (World.grownBy.refl _ _))
      rw [List.append_nil]; exact hown
    · refine wpList_plain hgd fun K hK => ?_
      have hr := run_append_room_src (P := P) w t t o.type e i ht hi g 0 n cap (.slice none 0 c) 0 [] (Src.ofNil w ht c) (by omega) (fun j hj => by cases hj) (fun j hj => by cases hj)
      rw [setCells_nil] at hr
      unfold Oper.wp execOp
      simp only [ho, resolve, invoke, builtin, Sem.run_bind, Sem.run_pure, Result.andThen_ok, List.map_toArray, List.map_cons, List.map_nil, hs, hx.trans hy, hr]
      refine hK _ _ (h _ _ ?_ (World.grownBy.refl _ _))
      rw [List.append_nil]; exact hown
end

theorem below_grown {w0 w w' : World} {e : TypeId} {size n : Nat} {v : Value} {xs : List Value} (hB : Below w0.heap.size w0 w) (ho : w.ownsRow w0.heap.size e size v n xs) (hg : w.grownBy w' v.ownBlock) : Below w0.heap.size w0 w' :=
  hB.grown hg hB.size (fun g e => (ho.lt g e).1)
end Go.Proofs.YtofogjfemlhffaaGreatDoor

/- What the walks over terms share: short texts, what is asked for as lists, one of some. · A package, as it lies in memory. · depend.right: may a term be. · depend.Right: may what is asked for be. · depend.signs: the table of signs, as it lies. -/
import Derived.Test.YtodbbfgkclkpgaaGreatDoorABK7
import Derived.Test.YtodbbfgkclkpgaaGreatDoorABK6
import Derived.Deep.RegionHeld3
import Derived.Deep.DeepCutAuto
namespace Go.Proofs.YtodbbfgkclkpgaaGreatDoor
open Go.RowKit

/-- texts short enough for all that reads them -/
structure Tv.small (t : Tv) : Prop where
  n : t.n.size ≤ 1000
  u : t.u.size ≤ 1000
  r : t.r.size ≤ 1000
  ok : t.ok

theorem box5 {w w1 : World} {a b c d e : Value} {t : TypeId} (hb : Below (w.alloc (.cells #[a, b, c, d, e] t)).heap.size (w.alloc (.cells #[a, b, c, d, e] t)) w1) :
    w1.cell? ⟨w.heap.size, 0, none⟩ = some a ∧ w1.cell? ⟨w.heap.size, 1, none⟩ = some b ∧ w1.cell? ⟨w.heap.size, 2, none⟩ = some c ∧ w1.cell? ⟨w.heap.size, 3, none⟩ = some d ∧ w1.cell? ⟨w.heap.size, 4, none⟩ = some e :=
  ⟨kept hb (by go_cell), kept hb (by go_cell), kept hb (by go_cell), kept hb (by go_cell), kept hb (by go_cell)⟩

theorem any_stop {α : Type} {p : α → Bool} {l : List α} {k : Nat} {x : α} (hx : l[k]? = some x) (hp : p x = true) : l.any p = true := by
  rw [List.any_eq_true]
  exact ⟨x, List.mem_of_getElem? hx, hp⟩
theorem any_take_succ {α : Type} {p : α → Bool} {l : List α} {k : Nat} {x : α} (h : (l.take k).any p = false) (hx : l[k]? = some x) (hp : p x = false) : (l.take (k + 1)).any p = false := by
  rw [List.take_add_one, hx, List.any_append, h]
  simp [hp]
theorem any_done {α : Type} {p : α → Bool} {l : List α} (h : (l.take l.length).any p = false) : l.any p = false := by rwa [List.take_length] at h

def wrongT (t : Tv) : Bool := !VP.rightT t.tm
def IdxIs (b : Bool) (w : World) (E : Ending) (w' : World) : Prop := ∃ i : Int, E = .returned (.int .i64 i) ∧ decide (0 ≤ i) = b ∧ Below w.heap.size w w'

def tmL (L : List (List Tv)) : List (List VP.Tm) := L.map fun x => x.map Tv.tm
def sumL (L : List (List Tv)) : Nat := (L.map List.length).sum
def goodL (x : List Tv) : Bool := !x.isEmpty && !x.any wrongT

theorem asked_eq (L : List (List Tv)) : VP.askedP (tmL L) = (L.all goodL && decide (sumL L ≤ 30)) := by
  unfold VP.askedP tmL
  rw [List.all_map]
  have e1 : VP.total (L.map fun x => x.map Tv.tm) = sumL L := by
    unfold VP.total sumL
    rw [List.map_map]
    congr 1
    apply List.map_congr_left
    intro x _
    simp
  rw [e1]
  congr 2
  funext x
  show (!(x.map Tv.tm).isEmpty && (x.map Tv.tm).all VP.rightT) = goodL x
  unfold goodL
  have e2 : (x.map Tv.tm).isEmpty = x.isEmpty := by cases x <;> rfl
  have e3 : (x.map Tv.tm).all VP.rightT = !x.any wrongT := by
    rw [List.all_map]
    induction x with
    | nil => rfl
    | cons t x ih =>
      have ih' := ih (by cases x <;> rfl)
      rw [List.all_cons, List.any_cons, ih', Bool.not_or]
      congr 1
      unfold wrongT
      rw [Bool.not_not]
      rfl
  rw [e2, e3]

theorem sumL_take_succ {L : List (List Tv)} {k : Nat} {x : List Tv} (hx : L[k]? = some x) : sumL (L.take (k + 1)) = sumL (L.take k) + x.length := by
  unfold sumL
  rw [List.take_add_one, hx, List.map_append, List.sum_append]
  simp
theorem sumL_take_le (L : List (List Tv)) (k : Nat) : sumL (L.take k) ≤ sumL L := by
  conv => rhs; rw [← List.take_append_drop k L]
  unfold sumL
  rw [List.map_append, List.sum_append]
  omega
end Go.Proofs.YtodbbfgkclkpgaaGreatDoor

namespace Go.Proofs.YtodbbfgkclkpgaaGreatDoor
open Go Go.RowKit

structure Pv where
  n : ByteArray
  e : Int
  u : ByteArray
  r : ByteArray
  dep : List (List Tv)
  ahead : List (List Tv)
  ag : List Tv
  br : List Tv
  re : List Tv
  pr : List Tv
  se : List ByteArray
  li : List ByteArray
  fi : List Fv

/-- this value is a package that reads as p -/
def PackAt (w : World) (v : Value) (p : Pv) : Prop := ∃ v1 v2 v3 v4 v5 v6 v7 v8 v9 : Value,
  v = .agg #[.string p.n, .int .i64 p.e, .string p.u, .string p.r, v1, v2, v3, v4, v5, v6, v7, v8, v9] ∧
  AskedAt w v1 p.dep ∧ AskedAt w v2 p.ahead ∧ TermsAt w v3 p.ag ∧ TermsAt w v4 p.br ∧ TermsAt w v5 p.re ∧ TermsAt w v6 p.pr ∧ StrsAt w v7 p.se ∧ StrsAt w v8 p.li ∧ FieldsAt w v9 p.fi ∧
  -9223372036854775808 ≤ p.e ∧ p.e ≤ 9223372036854775807
theorem PackAt.below {w w' : World} {v : Value} {p : Pv} (h : PackAt w v p) (hb : Below w.heap.size w w') : PackAt w' v p := by
  obtain ⟨v1, v2, v3, v4, v5, v6, v7, v8, v9, hv, h1, h2, h3, h4, h5, h6, h7, h8, h9, hlo, hhi⟩ := h
  exact ⟨v1, v2, v3, v4, v5, v6, v7, v8, v9, hv, h1.below hb, h2.below hb, h3.below hb, h4.below hb, h5.below hb, h6.below hb, h7.below hb, h8.below hb, h9.below hb, hlo, hhi⟩

/-- what it says, as lists of bytes -/
def Pv.pk (p : Pv) : VP.Pk := ⟨p.n.data.toList, p.e, p.u.data.toList, p.r.data.toList, tmL p.dep, tmL p.ahead, p.ag.map Tv.tm, p.br.map Tv.tm, p.re.map Tv.tm, p.pr.map Tv.tm, p.se.map (·.data.toList), p.li.map (·.data.toList)⟩

/-! short enough to be held -/
def textsB (ss : List ByteArray) : Bool := decide (ss.length ≤ 40) && ss.all fun s => decide (s.size ≤ 100)
def filesB (fs : List Fv) : Bool := decide (fs.length ≤ 30) && fs.all fun f => decide (f.n.size ≤ 100) && decide (f.v.size ≤ 500)
def saysB (p : Pv) : Bool :=
  decide (p.n.size ≤ 60) && (shortB p.u p.r && (termsB p.dep && (termsB p.ahead && (flatB p.ag && (flatB p.br && (flatB p.re && (flatB p.pr && (textsB p.se && (textsB p.li && filesB p.fi)))))))))
end Go.Proofs.YtodbbfgkclkpgaaGreatDoor

namespace Go.Proofs.YtodbbfgkclkpgaaGreatDoor
open Go.RowKit

set_option maxHeartbeats 1000000 in
set_option maxRecDepth 100000 in
theorem right0_calls (t : Tv) (w : World) (h0 : t.op = 0) : Calls Tryz.prog 141 #[t.val] w (BoolIs (VP.rightT t.tm) w) := by
  obtain ⟨n, op, e, u, r⟩ := t
  obtain rfl : op = 0 := h0
  have F := Lib.hid (show VP.rightT (Tv.tm ⟨n, 0, e, u, r⟩) = (VP.nameP n.data.toList && (decide (e = 0) && decide (u.data.toList = []) && decide (r.data.toList = []))) by unfold VP.rightT Tv.tm; rw [if_pos rfl])
  unfold Tv.val
  dsimp only
  have hb0 := below_alloc w (.cells #[.string n, .int .i64 0, .int .i64 e, .string u, .string r] 99)
  have hd : VP.nameP n.data.toList = true ∨ VP.nameP n.data.toList = false := by cases VP.nameP n.data.toList <;> simp
  go_enter Tryz.func141, Tryz.ntmps141
  go_wp2_with fail
  refine (name_calls n _).mono ?_
  rintro E w1 ⟨rfl, hb⟩
  have hB := step_below hb0 hb
  obtain ⟨c0, c1, c2, c3, c4⟩ := box5 hb
  clear hb hb0
  rcases hd with hd | hd
  · have HD := Lib.hid hd
    rw [hd]
    clear hd
    go_wp2_with fail
    all_goals
      go_ret
      exact ⟨ret_bool (by rw [F.out, HD.out, ← Lib.toList_data, ← Lib.toList_data]; simp [*]), hB⟩
  · have HD := Lib.hid hd
    rw [hd]
    clear hd
    go_wp2_with fail
    go_ret
    exact ⟨ret_bool (by rw [F.out, HD.out]; rfl), hB⟩

set_option maxHeartbeats 1000000 in
set_option maxRecDepth 100000 in
theorem right1_calls (t : Tv) (w : World) (hE : Env w) (hs : t.small) (h0 : t.op < 0 ∨ 0 < t.op) : Calls Tryz.prog 141 #[t.val] w (BoolIs (VP.rightT t.tm) w) := by
  obtain ⟨n, op, e, u, r⟩ := t
  obtain ⟨hs1, hs2, hs3, _⟩ := hs
  have F := Lib.hid (show VP.rightT (Tv.tm ⟨n, op, e, u, r⟩) = (VP.nameP n.data.toList && (decide (0 ≤ op) && decide (op ≤ 5) && VP.rightP e u.data.toList r.data.toList)) by unfold VP.rightT Tv.tm; rw [if_neg (show ¬ op = 0 by have := h0; dsimp only at this; omega)])
  unfold Tv.val
  dsimp only at h0 hs1 hs2 hs3 ⊢
  have hb0 := below_alloc w (.cells #[.string n, .int .i64 op, .int .i64 e, .string u, .string r] 99)
  have hE1 := hE.below hb0
  have hd : VP.nameP n.data.toList = true ∨ VP.nameP n.data.toList = false := by cases VP.nameP n.data.toList <;> simp
  have hz : (op == 0) = false := by rw [beq_eq_false_iff_ne]; omega
  go_enter Tryz.func141, Tryz.ntmps141
  go_wp2_with fail
  refine (name_calls n _).mono ?_
  rintro E w1 ⟨rfl, hb⟩
  have hB := step_below hb0 hb
  obtain ⟨c0, c1, c2, c3, c4⟩ := box5 hb
  replace hE1 := hE1.below hb
  clear hb hb0
  rcases hd with hd | hd
  · have HD := Lib.hid hd
    rw [hd]
    clear hd
    rcases h0 with h0 | h0
    · go_wp2_with fail
      go_ret
      exact ⟨ret_bool (by rw [F.out, HD.out, decide_eq_false (show ¬ 0 ≤ op by omega)]; rfl), hB⟩
    · by_cases h5 : op ≤ 5
      · go_wp2_with fail
        refine (right_calls e u r _ hE1 (by omega) (by omega)).mono ?_
        rintro E w2 ⟨rfl, hb⟩
        have hB := step_below hB hb
        clear hb
        go_wp2_with fail
        go_ret
        exact ⟨ret_bool (by rw [F.out, HD.out, decide_eq_true (show 0 ≤ op by omega), decide_eq_true h5]; rfl), hB⟩
      · go_wp2_with fail
        go_ret
        exact ⟨ret_bool (by rw [F.out, HD.out, decide_eq_false (show ¬ op ≤ 5 by omega)]; simp), hB⟩
  · have HD := Lib.hid hd
    rw [hd]
    clear hd
    go_wp2_with fail
    go_ret
    exact ⟨ret_bool (by rw [F.out, HD.out]; rfl), hB⟩

theorem rightTerm_calls (t : Tv) (w : World) (hE : Env w) (hs : t.small) : Calls Tryz.prog 141 #[t.val] w (BoolIs (VP.rightT t.tm) w) := by
  rcases Int.lt_trichotomy t.op 0 with h | h | h
  · exact right1_calls t w hE hs (.inl h)
  · exact right0_calls t w h
  · exact right1_calls t w hE hs (.inr h)

set_option maxRecDepth 100000 in
/-- the function value: is a term one that may not be -/
theorem wrong_calls (t : Tv) (w : World) (hE : Env w) (hs : t.small) : Calls Tryz.prog 140 #[t.val] w (BoolIs (!VP.rightT t.tm) w) := by
  have H := Lib.hid (fun (W : World) (h : Env W) => rightTerm_calls t W h hs)
  obtain ⟨n, op, e, u, r⟩ := t
  obtain ⟨b, hb'⟩ : ∃ b, VP.rightT (Tv.tm ⟨n, op, e, u, r⟩) = b := ⟨_, rfl⟩
  rw [hb'] at H ⊢
  clear hs hb'
  unfold Tv.val at H ⊢
  dsimp only at H ⊢
  have hb0 := below_alloc w (.cells #[.string n, .int .i64 op, .int .i64 e, .string u, .string r] 99)
  have hE1 := hE.below hb0
  go_enter Tryz.func140, Tryz.ntmps140
  go_wp2_with fail
  refine (H.out _ hE1).mono ?_
  rintro E w1 ⟨rfl, hb⟩
  have hB := step_below hb0 hb
  clear hb
  go_wp2_with fail
  go_ret
  exact ⟨rfl, hB⟩
end Go.Proofs.YtodbbfgkclkpgaaGreatDoor

namespace Go.Proofs.YtodbbfgkclkpgaaGreatDoor
open Go.RowKit

set_option maxHeartbeats 1000000 in
set_option maxRecDepth 100000 in
theorem idxWrong_calls (v : Value) (ts : List Tv) (w : World) (hE : Env w) (h : TermsAt w v ts) (hs : ∀ t ∈ ts, t.small) :
    Calls Tryz.prog 178 #[v, .func (.func 140) #[] #[]] w (IdxIs (ts.any wrongT) w) := by
  obtain ⟨A, c, rfl, hc, hm, hr⟩ := h
  obtain ⟨len, hlen⟩ : ∃ len, ts.length = len := ⟨_, rfl⟩
  have HL := Lib.hid hlen
  have HS := Lib.hid hs
  have HR := Lib.hid hr
  rw [hlen] at hc hm ⊢
  clear hlen hr hs
  go_enter Tryz.func178, Tryz.ntmps178
  go_wp2_with fail
  go_loopw [8] (fun i wr => ∃ k : Nat, k ≤ len ∧ i = .int .i64 k ∧ Hid ((ts.take k).any wrongT = false) ∧ Below w.heap.size w wr) (fun i _ => len - (intOf i).toNat)
  case atStart => exact ⟨0, Nat.zero_le _, rfl, rfl, Below.refl _ _⟩
  case round =>
    obtain ⟨k, hk, rfl, hall, hB⟩ := hrel
    by_cases hlt : k < len
    · have hne : ts ≠ [] := by
        intro e
        have := HL.out
        rw [e] at this
        simp at this
        omega
      obtain ⟨t, ht⟩ : ∃ t, ts[k]? = some t := ⟨ts[k]'(by have := HL.out; omega), List.getElem?_eq_getElem _⟩
      obtain ⟨b, off, rfl, hi⟩ := HR.out hne
      obtain ⟨hT0, hok⟩ := hi k t ht
      clear hi hne
      have hT := hT0.below hB
      obtain ⟨c0, c1, c2, c3, c4⟩ := hT
      have hsm := HS.out t (List.mem_of_getElem? ht)
      have HT := Lib.hid ht
      have hE1 := hE.below hB
      have H := Lib.hid (wrong_calls t wr hE1 hsm)
      clear ht hT0 hok hsm hE1
      have hp : wrongT t = true ∨ wrongT t = false := by cases wrongT t <;> simp
      go_wp2_with fail
      refine H.out.mono ?_
      rintro E w1 ⟨rfl, hb⟩
      have hB := step_below hB hb
      clear hb c0 c1 c2 c3 c4
      rcases hp with hp | hp
      · have HP := Lib.hid hp
        have hp' : (!VP.rightT t.tm) = true := hp
        rw [hp']
        clear hp hp'
        go_wp2_with fail
        go_ret
        exact ⟨_, rfl, by rw [any_stop HT.out HP.out]; simp, hB⟩
      · have HP := Lib.hid hp
        have hp' : (!VP.rightT t.tm) = false := hp
        rw [hp']
        clear hp hp'
        go_wp2_with fail
        go_roundw
        case rel => exact ⟨k + 1, by omega, by go_num, Lib.hid (any_take_succ hall.out HT.out HP.out), hB⟩
        case measure => simp [intOf]; omega
    · obtain rfl : k = len := by omega
      go_wp2_with fail
      go_ret
      exact ⟨_, rfl, by have := hall.out; rw [← HL.out] at this; rw [any_done this]; simp, hB⟩

set_option maxRecDepth 100000 in
theorem hasWrong_calls (v : Value) (ts : List Tv) (w : World) (hE : Env w) (h : TermsAt w v ts) (hs : ∀ t ∈ ts, t.small) :
    Calls Tryz.prog 139 #[v, .func (.func 140) #[] #[]] w (BoolIs (ts.any wrongT) w) := by
  have H := Lib.hid (idxWrong_calls v ts w hE h hs)
  clear h hs hE
  go_enter Tryz.func139, Tryz.ntmps139
  go_wp2_with fail
  refine H.out.mono ?_
  rintro E w1 ⟨i, rfl, hi, hb⟩
  have HI := Lib.hid hi
  clear hi
  by_cases h0 : 0 ≤ i
  · go_wp2_with fail
    go_ret
    exact ⟨ret_bool (by rw [← HI.out]; simp [h0]), hb⟩
  · go_wp2_with fail
    go_ret
    exact ⟨ret_bool HI.out, hb⟩

set_option maxHeartbeats 1000000 in
set_option maxRecDepth 100000 in
theorem asked_calls (v : Value) (L : List (List Tv)) (w : World) (hE : Env w) (h : AskedAt w v L) (hs : ∀ x ∈ L, ∀ t ∈ x, t.small) (h40 : ∀ x ∈ L, x.length ≤ 1000) :
    Calls Tryz.prog 67 #[v] w (BoolIs (VP.askedP (tmL L)) w) := by
  have F := Lib.hid (asked_eq L)
  obtain ⟨A, c, rfl, hc, hm, hr⟩ := h
  obtain ⟨len, hlen⟩ : ∃ len, L.length = len := ⟨_, rfl⟩
  have HL := Lib.hid hlen
  have HS := Lib.hid hs
  have H40 := Lib.hid h40
  have HR := Lib.hid hr
  rw [hlen] at hc hm ⊢
  clear hlen hr hs h40
  go_enter Tryz.func67, Tryz.ntmps67
  go_wp2_with fail
  go_loopw [3, 8] (fun n i wr => ∃ k m : Nat, k ≤ len ∧ i = .int .i64 k ∧ n = .int .i64 m ∧ m ≤ 30 ∧ Hid (m = sumL (L.take k)) ∧ Hid ((L.take k).all goodL = true) ∧ Below w.heap.size w wr) (fun _ i _ => len - (intOf i).toNat)
  case atStart => exact ⟨0, 0, Nat.zero_le _, rfl, rfl, by omega, rfl, rfl, Below.refl _ _⟩
  case round =>
    obtain ⟨k, m, hk, rfl, rfl, hm30, hsum, hall, hB⟩ := hrel
    by_cases hlt : k < len
    · have hne : L ≠ [] := by
        intro e
        have := HL.out
        rw [e] at this
        simp at this
        omega
      obtain ⟨x, hx⟩ : ∃ x, L[k]? = some x := ⟨L[k]'(by have := HL.out; omega), List.getElem?_eq_getElem _⟩
      obtain ⟨b, off, rfl, hi⟩ := HR.out hne
      obtain ⟨vx, hc0, hT⟩ := hi k x hx
      clear hi hne
      have hT1 := hT.below hB
      have c0 := kept hB hc0
      have hsm := HS.out x (List.mem_of_getElem? hx)
      have HX := Lib.hid hx
      have hE1 := hE.below hB
      have H := Lib.hid (hasWrong_calls vx x wr hE1 hT1 hsm)
      have HN := Lib.hid (sumL_take_succ hx)
      have HN2 := Lib.hid (sumL_take_le L (k + 1))
      obtain ⟨A', c', rfl, hc', hm', _⟩ := hT1
      clear hx hc0 hT hsm hE1
      have hx1000 := H40.out x (List.mem_of_getElem? HX.out)
      obtain ⟨xl, hxl⟩ : ∃ xl, x.length = xl := ⟨_, rfl⟩
      have HXL := Lib.hid hxl
      rw [hxl] at H hc' hm' hx1000 c0
      clear hxl hm'
      by_cases hx0 : xl = 0
      · have HB : Hid (goodL x = false) := by
          have e : x = [] := List.eq_nil_of_length_eq_zero (HXL.out.trans hx0)
          unfold goodL
          rw [e]; exact rfl
        have hxb : ((xl : Int) == 0) = true := by rw [beq_iff_eq]; omega
        clear hx0
        go_wp2_with fail
        go_ret
        exact ⟨ret_bool (by rw [F.out, all_stop HX.out HB.out]; rfl), hB⟩
      · have hxb : ((xl : Int) == 0) = false := by rw [beq_eq_false_iff_ne]; omega
        have HNE : Hid (x.isEmpty = false) := by
          cases x with
          | nil => exact absurd HXL.out.symm hx0
          | cons _ _ => exact rfl
        clear hx0
        by_cases hn : 30 < m + xl
        · have hnb : decide ((30 : Int) < (m : Int) + (xl : Int)) = true := decide_eq_true (by omega)
          have hover : Hid (sumL L ≤ 30 → False) := fun h => by
            have h1 := HN.out
            have h2 := HN2.out
            have h3 := hsum.out
            have h4 := HXL.out
            omega
          go_wp2_with fail
          go_ret
          exact ⟨ret_bool (by rw [F.out, decide_eq_false (fun h => hover.out h)]; simp), hB⟩
        · have hnb : decide ((30 : Int) < (m : Int) + (xl : Int)) = false := decide_eq_false (by omega)
          have hp : x.any wrongT = true ∨ x.any wrongT = false := by cases x.any wrongT <;> simp
          go_wp2_with fail
          refine H.out.mono ?_
          rintro E w1 ⟨rfl, hb⟩
          have hB := step_below hB hb
          clear hb c0
          rcases hp with hp | hp
          · have HB : Hid (goodL x = false) := by unfold goodL; rw [hp]; simp; exact trivial
            rw [hp]
            clear hp
            go_wp2_with fail
            go_ret
            exact ⟨ret_bool (by rw [F.out, all_stop HX.out HB.out]; rfl), hB⟩
          · have HB : Hid (goodL x = true) := by unfold goodL; rw [hp, HNE.out]; exact rfl
            rw [hp]
            clear hp
            go_wp2_with fail
            go_roundw
            case rel => exact ⟨k + 1, m + xl, by omega, by go_num, by go_num, by omega, Lib.hid (by rw [HN.out, ← hsum.out, HXL.out]), Lib.hid (all_take_succ hall.out HX.out HB.out), hB⟩
            case measure => simp [intOf]; omega
    · obtain rfl : k = len := by omega
      go_wp2_with fail
      go_ret
      refine ⟨ret_bool ?_, hB⟩
      have h1 := hall.out
      have h2 := hsum.out
      rw [← HL.out] at h1
      rw [← HL.out, List.take_length] at h2
      rw [F.out, all_done h1, decide_eq_true (by omega)]
      rfl
end Go.Proofs.YtodbbfgkclkpgaaGreatDoor

namespace Go.Proofs.YtodbbfgkclkpgaaGreatDoor
open Go.RowKit

/-- the signs of what is asked of versions, as they lie -/
def signS (k : Nat) : ByteArray := ⟨(VP.signP (k : Int)).toArray⟩
def EnvS (w : World) : Prop := ∀ k, k < 6 → w.cell? ⟨3, k, none⟩ = some (.string (signS k))
theorem EnvS.below {w w' : World} (h : EnvS w) (hb : Below w.heap.size w w') : EnvS w' := fun k hk => kept hb (h k hk)

theorem arrLen : Tryz.prog.arrayLen 199 = 6 := by kernel_rfl
theorem arrSize (W : World) : (sizeOf (Tryz.prog.elem 199)).run Tryz.prog W = .ok 1 W := by kernel_rfl
theorem signs_at (W : World) (k : Nat) (h6 : k < 6) : (Instr.indexAt 199 (.pointer (some ⟨3, 0, none⟩)) (.int .i64 (k : Int))).run Tryz.prog W = .ok (.pointer (some ⟨3, k, none⟩)) W := by
  have h := run_indexAt_array (P := Tryz.prog) (w := W) 199 ⟨3, 0, none⟩ .i64 (k : Int) (by kernel_rfl)
  rw [arrLen, if_pos ⟨by omega, by omega⟩, arrSize] at h
  refine h.trans ?_
  show Result.ok (Value.pointer (some ((⟨3, 0, none⟩ : Addr).add (((k : Nat) : Int).toNat * 1)))) W = _
  rw [Int.toNat_natCast, Nat.mul_one, Go.WideShapes.add_plain, Nat.zero_add]

theorem signS_size (k : Nat) : (signS k).size ≤ 2 := by
  rw [size_eq_length]
  show (VP.signP (k : Int)).length ≤ 2
  unfold VP.signP
  (repeat' split) <;> simp
end Go.Proofs.YtodbbfgkclkpgaaGreatDoor

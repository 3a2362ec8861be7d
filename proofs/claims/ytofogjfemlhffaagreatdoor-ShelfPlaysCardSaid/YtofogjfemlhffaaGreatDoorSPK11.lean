/- depend.right: may a term be. · depend.Right: may what is asked for be. · depend.Print: how what is asked for is written. · A shelf over a disk: what it has; names, Owners. · What the disk's calls keep of its state: plain. · How packages stand: which statuses may be, how they are written and read: plain lists; no program in sight. · A package, as it lies in memory. -/
import Derived.Test.YtofogjfemlhffaaGreatDoorSPK5
import Derived.Deep.RegionHeld3
import Derived.Deep.DeepCutAuto
import Derived.Test.YtofogjfemlhffaaGreatDoorSPK7
import Derived.Test.YtofogjfemlhffaaGreatDoorSPK3
import Derived.Maps.AppendAt
import Derived.OwnWalk
import Derived.Laws.AppendOwn
import Derived.Test.YtofogjfemlhffaaGreatDoorSPK10
import Derived.Test.YtofogjfemlhffaaGreatDoorSPK9
import Derived.Test.YtofogjfemlhffaaGreatDoorSPK4
import Derived.Test.YtofogjfemlhffaaGreatDoorSPK1
import Derived.Lib.AtoiTie
import Derived.Lib.ItoaMem
namespace Go.Proofs.YtofogjfemlhffaaGreatDoor
open Go.RowKit

set_option maxHeartbeats 1000000 in
set_option maxRecDepth 100000 in
theorem right0_calls (t : Tv) (w : World) (h0 : t.op = 0) : Calls Tryz.prog 118 #[t.val] w (BoolIs (VP.rightT t.tm) w) := by
  obtain ⟨n, op, e, u, r⟩ := t
  obtain rfl : op = 0 := h0
  have F := Lib.hid (show VP.rightT (Tv.tm ⟨n, 0, e, u, r⟩) = (VP.nameP n.data.toList && (decide (e = 0) && decide (u.data.toList = []) && decide (r.data.toList = []))) by unfold VP.rightT Tv.tm; rw [if_pos rfl])
  unfold Tv.val
  dsimp only
  have hb0 := below_alloc w (.cells #[.string n, .int .i64 0, .int .i64 e, .string u, .string r] 96)
  have hd : VP.nameP n.data.toList = true ∨ VP.nameP n.data.toList = false := by cases VP.nameP n.data.toList <;> simp
  go_enter Tryz.func118, Tryz.ntmps118
  go_wp2_with fail
  refine (name_calls n _).mono ?_
  rintro E w1 ⟨rfl, hb⟩
  have hB := step_below hb0 hb
  obtain ⟨c0, c1, c2, c3, c4⟩ := box5 hb
  clear hb hb0
  rcases hd with hd | hd
  · have HD := Lib.hid hd
    rw [hd]
    clear hd
    go_wp2_with fail
    all_goals
      go_ret
      exact ⟨ret_bool (by rw [F.out, HD.out, ← Lib.toList_data, ← Lib.toList_data]; simp [*]), hB⟩
  · have HD := Lib.hid hd
    rw [hd]
    clear hd
    go_wp2_with fail
    go_ret
    exact ⟨ret_bool (by rw [F.out, HD.out]; rfl), hB⟩

set_option maxHeartbeats 1000000 in
set_option maxRecDepth 100000 in
theorem right1_calls (t : Tv) (w : World) (hE : Env w) (hs : t.small) (h0 : t.op < 0 ∨ 0 < t.op) : Calls Tryz.prog 118 #[t.val] w (BoolIs (VP.rightT t.tm) w) := by
  obtain ⟨n, op, e, u, r⟩ := t
  obtain ⟨hs1, hs2, hs3, _⟩ := hs
  have F := Lib.hid (show VP.rightT (Tv.tm ⟨n, op, e, u, r⟩) = (VP.nameP n.data.toList && (decide (0 ≤ op) && decide (op ≤ 5) && VP.rightP e u.data.toList r.data.toList)) by unfold VP.rightT Tv.tm; rw [if_neg (show ¬ op = 0 by have := h0; dsimp only at this; omega)])
  unfold Tv.val
  dsimp only at h0 hs1 hs2 hs3 ⊢
  have hb0 := below_alloc w (.cells #[.string n, .int .i64 op, .int .i64 e, .string u, .string r] 96)
  have hE1 := hE.below hb0
  have hd : VP.nameP n.data.toList = true ∨ VP.nameP n.data.toList = false := by cases VP.nameP n.data.toList <;> simp
  have hz : (op == 0) = false := by rw [beq_eq_false_iff_ne]; omega
  go_enter Tryz.func118, Tryz.ntmps118
  go_wp2_with fail
  refine (name_calls n _).mono ?_
  rintro E w1 ⟨rfl, hb⟩
  have hB := step_below hb0 hb
  obtain ⟨c0, c1, c2, c3, c4⟩ := box5 hb
  replace hE1 := hE1.below hb
  clear hb hb0
  rcases hd with hd | hd
  · have HD := Lib.hid hd
    rw [hd]
    clear hd
    rcases h0 with h0 | h0
    · go_wp2_with fail
      go_ret
      exact ⟨ret_bool (by rw [F.out, HD.out, decide_eq_false (show ¬ 0 ≤ op by omega)]; rfl), hB⟩
    · by_cases h5 : op ≤ 5
      · go_wp2_with fail
        refine (right_calls e u r _ hE1 (by omega) (by omega)).mono ?_
        rintro E w2 ⟨rfl, hb⟩
        have hB := step_below hB hb
        clear hb
        go_wp2_with fail
        go_ret
        exact ⟨ret_bool (by rw [F.out, HD.out, decide_eq_true (show 0 ≤ op by omega), decide_eq_true h5]; rfl), hB⟩
      · go_wp2_with fail
        go_ret
        exact ⟨ret_bool (by rw [F.out, HD.out, decide_eq_false (show ¬ op ≤ 5 by omega)]; simp), hB⟩
  · have HD := Lib.hid hd
    rw [hd]
    clear hd
    go_wp2_with fail
    go_ret
    exact ⟨ret_bool (by rw [F.out, HD.out]; rfl), hB⟩

theorem rightTerm_calls (t : Tv) (w : World) (hE : Env w) (hs : t.small) : Calls Tryz.prog 118 #[t.val] w (BoolIs (VP.rightT t.tm) w) := by
  rcases Int.lt_trichotomy t.op 0 with h | h | h
  · exact right1_calls t w hE hs (.inl h)
  · exact right0_calls t w h
  · exact right1_calls t w hE hs (.inr h)

set_option maxRecDepth 100000 in
/-- the function value: is a term one that may not be -/
theorem wrong_calls (t : Tv) (w : World) (hE : Env w) (hs : t.small) : Calls Tryz.prog 117 #[t.val] w (BoolIs (!VP.rightT t.tm) w) := by
  have H := Lib.hid (fun (W : World) (h : Env W) => rightTerm_calls t W h hs)
  obtain ⟨n, op, e, u, r⟩ := t
  obtain ⟨b, hb'⟩ : ∃ b, VP.rightT (Tv.tm ⟨n, op, e, u, r⟩) = b := ⟨_, rfl⟩
  rw [hb'] at H ⊢
  clear hs hb'
  unfold Tv.val at H ⊢
  dsimp only at H ⊢
  have hb0 := below_alloc w (.cells #[.string n, .int .i64 op, .int .i64 e, .string u, .string r] 96)
  have hE1 := hE.below hb0
  go_enter Tryz.func117, Tryz.ntmps117
  go_wp2_with fail
  refine (H.out _ hE1).mono ?_
  rintro E w1 ⟨rfl, hb⟩
  have hB := step_below hb0 hb
  clear hb
  go_wp2_with fail
  go_ret
  exact ⟨rfl, hB⟩
end Go.Proofs.YtofogjfemlhffaaGreatDoor

namespace Go.Proofs.YtofogjfemlhffaaGreatDoor
open Go.RowKit

set_option maxHeartbeats 1000000 in
set_option maxRecDepth 100000 in
theorem idxWrong_calls (v : Value) (ts : List Tv) (w : World) (hE : Env w) (h : TermsAt w v ts) (hs : ∀ t ∈ ts, t.small) :
    Calls Tryz.prog 153 #[v, .func (.func 117) #[] #[]] w (IdxIs (ts.any wrongT) w) := by
  obtain ⟨A, c, rfl, hc, hm, hr⟩ := h
  obtain ⟨len, hlen⟩ : ∃ len, ts.length = len := ⟨_, rfl⟩
  have HL := Lib.hid hlen
  have HS := Lib.hid hs
  have HR := Lib.hid hr
  rw [hlen] at hc hm ⊢
  clear hlen hr hs
  go_enter Tryz.func153, Tryz.ntmps153
  go_wp2_with fail
  go_loopw [8] (fun i wr => ∃ k : Nat, k ≤ len ∧ i = .int .i64 k ∧ Hid ((ts.take k).any wrongT = false) ∧ Below w.heap.size w wr) (fun i _ => len - (intOf i).toNat)
  case atStart => exact ⟨0, Nat.zero_le _, rfl, rfl, Below.refl _ _⟩
  case round =>
    obtain ⟨k, hk, rfl, hall, hB⟩ := hrel
    by_cases hlt : k < len
    · have hne : ts ≠ [] := by
        intro e
        have := HL.out
        rw [e] at this
        simp at this
        omega
      obtain ⟨t, ht⟩ : ∃ t, ts[k]? = some t := ⟨ts[k]'(by have := HL.out; omega), List.getElem?_eq_getElem _⟩
      obtain ⟨b, off, rfl, hi⟩ := HR.out hne
      obtain ⟨hT0, hok⟩ := hi k t ht
      clear hi hne
      have hT := hT0.below hB
      obtain ⟨c0, c1, c2, c3, c4⟩ := hT
      have hsm := HS.out t (List.mem_of_getElem? ht)
      have HT := Lib.hid ht
      have hE1 := hE.below hB
      have H := Lib.hid (wrong_calls t wr hE1 hsm)
      clear ht hT0 hok hsm hE1
      have hp : wrongT t = true ∨ wrongT t = false := by cases wrongT t <;> simp
      go_wp2_with fail
      refine H.out.mono ?_
      rintro E w1 ⟨rfl, hb⟩
      have hB := step_below hB hb
      clear hb c0 c1 c2 c3 c4
      rcases hp with hp | hp
      · have HP := Lib.hid hp
        have hp' : (!VP.rightT t.tm) = true := hp
        rw [hp']
        clear hp hp'
        go_wp2_with fail
        go_ret
        exact ⟨_, rfl, by rw [any_stop HT.out HP.out]; simp, hB⟩
      · have HP := Lib.hid hp
        have hp' : (!VP.rightT t.tm) = false := hp
        rw [hp']
        clear hp hp'
        go_wp2_with fail
        go_roundw
        case rel => exact ⟨k + 1, by omega, by go_num, Lib.hid (any_take_succ hall.out HT.out HP.out), hB⟩
        case measure => simp [intOf]; omega
    · obtain rfl : k = len := by omega
      go_wp2_with fail
      go_ret
      exact ⟨_, rfl, by have := hall.out; rw [← HL.out] at this; rw [any_done this]; simp, hB⟩

set_option maxRecDepth 100000 in
theorem hasWrong_calls (v : Value) (ts : List Tv) (w : World) (hE : Env w) (h : TermsAt w v ts) (hs : ∀ t ∈ ts, t.small) :
    Calls Tryz.prog 116 #[v, .func (.func 117) #[] #[]] w (BoolIs (ts.any wrongT) w) := by
  have H := Lib.hid (idxWrong_calls v ts w hE h hs)
  clear h hs hE
  go_enter Tryz.func116, Tryz.ntmps116
  go_wp2_with fail
  refine H.out.mono ?_
  rintro E w1 ⟨i, rfl, hi, hb⟩
  have HI := Lib.hid hi
  clear hi
  by_cases h0 : 0 ≤ i
  · go_wp2_with fail
    go_ret
    exact ⟨ret_bool (by rw [← HI.out]; simp [h0]), hb⟩
  · go_wp2_with fail
    go_ret
    exact ⟨ret_bool HI.out, hb⟩

set_option maxHeartbeats 1000000 in
set_option maxRecDepth 100000 in
theorem asked_calls (v : Value) (L : List (List Tv)) (w : World) (hE : Env w) (h : AskedAt w v L) (hs : ∀ x ∈ L, ∀ t ∈ x, t.small) (h40 : ∀ x ∈ L, x.length ≤ 1000) :
    Calls Tryz.prog 80 #[v] w (BoolIs (VP.askedP (tmL L)) w) := by
  have F := Lib.hid (asked_eq L)
  obtain ⟨A, c, rfl, hc, hm, hr⟩ := h
  obtain ⟨len, hlen⟩ : ∃ len, L.length = len := ⟨_, rfl⟩
  have HL := Lib.hid hlen
  have HS := Lib.hid hs
  have H40 := Lib.hid h40
  have HR := Lib.hid hr
  rw [hlen] at hc hm ⊢
  clear hlen hr hs h40
  go_enter Tryz.func80, Tryz.ntmps80
  go_wp2_with fail
  go_loopw [3, 8] (fun n i wr => ∃ k m : Nat, k ≤ len ∧ i = .int .i64 k ∧ n = .int .i64 m ∧ m ≤ 30 ∧ Hid (m = sumL (L.take k)) ∧ Hid ((L.take k).all goodL = true) ∧ Below w.heap.size w wr) (fun _ i _ => len - (intOf i).toNat)
  case atStart => exact ⟨0, 0, Nat.zero_le _, rfl, rfl, by omega, rfl, rfl, Below.refl _ _⟩
  case round =>
    obtain ⟨k, m, hk, rfl, rfl, hm30, hsum, hall, hB⟩ := hrel
    by_cases hlt : k < len
    · have hne : L ≠ [] := by
        intro e
        have := HL.out
        rw [e] at this
        simp at this
        omega
      obtain ⟨x, hx⟩ : ∃ x, L[k]? = some x := ⟨L[k]'(by have := HL.out; omega), List.getElem?_eq_getElem _⟩
      obtain ⟨b, off, rfl, hi⟩ := HR.out hne
      obtain ⟨vx, hc0, hT⟩ := hi k x hx
      clear hi hne
      have hT1 := hT.below hB
      have c0 := kept hB hc0
      have hsm := HS.out x (List.mem_of_getElem? hx)
      have HX := Lib.hid hx
      have hE1 := hE.below hB
      have H := Lib.hid (hasWrong_calls vx x wr hE1 hT1 hsm)
      have HN := Lib.hid (sumL_take_succ hx)
      have HN2 := Lib.hid (sumL_take_le L (k + 1))
      obtain ⟨A', c', rfl, hc', hm', _⟩ := hT1
      clear hx hc0 hT hsm hE1
      have hx1000 := H40.out x (List.mem_of_getElem? HX.out)
      obtain ⟨xl, hxl⟩ : ∃ xl, x.length = xl := ⟨_, rfl⟩
      have HXL := Lib.hid hxl
      rw [hxl] at H hc' hm' hx1000 c0
      clear hxl hm'
      by_cases hx0 : xl = 0
      · have HB : Hid (goodL x = false) := by
          have e : x = [] := List.eq_nil_of_length_eq_zero (HXL.out.trans hx0)
          unfold goodL
          rw [e]; exact rfl
        have hxb : ((xl : Int) == 0) = true := by rw [beq_iff_eq]; omega
        clear hx0
        go_wp2_with fail
        go_ret
        exact ⟨ret_bool (by rw [F.out, all_stop HX.out HB.out]; rfl), hB⟩
      · have hxb : ((xl : Int) == 0) = false := by rw [beq_eq_false_iff_ne]; omega
        have HNE : Hid (x.isEmpty = false) := by
          cases x with
          | nil => exact absurd HXL.out.symm hx0
          | cons _ _ => exact rfl
        clear hx0
        by_cases hn : 30 < m + xl
        · have hnb : decide ((30 : Int) < (m : Int) + (xl : Int)) = true := decide_eq_true (by omega)
          have hover : Hid (sumL L ≤ 30 → False) := fun h => by
            have h1 := HN.out
            have h2 := HN2.out
            have h3 := hsum.out
            have h4 := HXL.out
            omega
          go_wp2_with fail
          go_ret
          exact ⟨ret_bool (by rw [F.out, decide_eq_false (fun h => hover.out h)]; simp), hB⟩
        · have hnb : decide ((30 : Int) < (m : Int) + (xl : Int)) = false := decide_eq_false (by omega)
          have hp : x.any wrongT = true ∨ x.any wrongT = false := by cases x.any wrongT <;> simp
          go_wp2_with fail
          refine H.out.mono ?_
          rintro E w1 ⟨rfl, hb⟩
          have hB := step_below hB hb
          clear hb c0
          rcases hp with hp | hp
          · have HB : Hid (goodL x = false) := by unfold goodL; rw [hp]; simp; exact trivial
            rw [hp]
            clear hp
            go_wp2_with fail
            go_ret
            exact ⟨ret_bool (by rw [F.out, all_stop HX.out HB.out]; rfl), hB⟩
          · have HB : Hid (goodL x = true) := by unfold goodL; rw [hp, HNE.out]; exact rfl
            rw [hp]
            clear hp
            go_wp2_with fail
            go_roundw
            case rel => exact ⟨k + 1, m + xl, by omega, by go_num, by go_num, by omega, Lib.hid (by rw [HN.out, ← hsum.out, HXL.out]), Lib.hid (all_take_succ hall.out HX.out HB.out), hB⟩
            case measure => simp [intOf]; omega
    · obtain rfl : k = len := by omega
      go_wp2_with fail
      go_ret
      refine ⟨ret_bool ?_, hB⟩
      have h1 := hall.out
      have h2 := hsum.out
      rw [← HL.out] at h1
      rw [← HL.out, List.take_length] at h2
      rw [F.out, all_done h1, decide_eq_true (by omega)]
      rfl
end Go.Proofs.YtofogjfemlhffaaGreatDoor

namespace Go.Proofs.YtofogjfemlhffaaGreatDoor
open Go.RowKit

theorem info_str : (Tryz.prog.info? 9).map (fun i => (i.zero, i.size, i.bytes)) = some (some (.string ⟨#[]⟩), 1, 16) := by kernel_rfl

/-! what is joined -/
theorem joinP_eq (sep : List UInt8) : ∀ xs : List (List UInt8), Lib.join xs sep = VP.joinP sep xs
  | [] => rfl
  | [x] => by rw [Lib.join_one]; rfl
  | x :: y :: r => by
    have ih := joinP_eq sep (y :: r)
    rw [Lib.join_cons, VP.joinP, ← ih, Lib.join_cons]
    simp [Lib.joinTail]

theorem joinP_len (sep : List UInt8) (B : Nat) : ∀ xs : List (List UInt8), (∀ x ∈ xs, x.length ≤ B) → (VP.joinP sep xs).length ≤ xs.length * (B + sep.length)
  | [], _ => by simp [VP.joinP]
  | [x], h => by
    have := h x (.head _)
    rw [VP.joinP, List.length_singleton, Nat.one_mul]; omega
  | x :: y :: r, h => by
    have ih := joinP_len sep B (y :: r) (fun z hz => h z (.tail _ hz))
    have := h x (.head _)
    rw [VP.joinP, List.length_append, List.length_append]
    rw [List.length_cons (a := x), Nat.add_mul, Nat.one_mul]
    omega

end Go.Proofs.YtofogjfemlhffaaGreatDoor

namespace Go.Proofs.YtofogjfemlhffaaGreatDoor
open Go Go.RowKit Go.Maps

def thP : ByteArray := ⟨#[102, 47]⟩
def cmP : ByteArray := ⟨#[110, 47]⟩
def spP : ByteArray := ⟨#[111, 47]⟩
def owP : ByteArray := ⟨#[119, 47]⟩
def cwP : ByteArray := ⟨#[110, 47, 119, 47]⟩
def restB (p s : ByteArray) : ByteArray := ⟨(Lib.trimPrefix s.data.toList p.data.toList).toArray⟩
def hasP (p s : ByteArray) : Bool := Lib.hasPrefix s.data.toList p.data.toList
def namesL (p : ByteArray) (L : List ByteArray) : List ByteArray := (L.filter (hasP p)).map (restB p)
def namesD (D : Dk) (p : ByteArray) : List ByteArray := namesL p (keysF D.now)
def ownersD (D : Dk) : List ByteArray := namesD D owP
def pathsT (t : ByteArray) : List ByteArray := if t.size = 0 then [] else piecesB 10 t
def pathsD (D : Dk) (n : ByteArray) : List ByteArray := match getF D.now (owP ++ n) with | some t => pathsT t | none => []

/-- a shelf in block sh, over the disk in block d -/
structure ShAt (W : World) (sh d : Nat) (D : Dk) : Prop where
  c : W.cell? ⟨sh, 0, none⟩ = some (.pointer (some ⟨d, 0, none⟩))
  off : ¬ foot W d sh
  dk : DiskAt W d D
theorem ShAt.keep {W W' : World} {sh d : Nat} {D : Dk} (h : ShAt W sh d D) (hb : Below W.heap.size W W') : ShAt W' sh d D :=
  ⟨kept hb h.c, fun hf => h.off ((foot_kept hb h.dk.lt).1 hf), h.dk.keep hb⟩
theorem ShAt.go {W W' : World} {sh d : Nat} {D D' : Dk} (h : ShAt W sh d D) (ho : Off d W W') (hd : DiskAt W' d D') : ShAt W' sh d D' :=
  ⟨keptO ho h.off h.c, not_foot ho (cell_lt h.c) h.off, hd⟩

theorem namesL_snoc (p : ByteArray) (L : List ByteArray) (x : ByteArray) : namesL p (L ++ [x]) = if hasP p x then namesL p L ++ [restB p x] else namesL p L := by
  unfold namesL
  rw [List.filter_append, List.map_append]
  cases h : hasP p x <;> simp [h]
theorem namesL_take {p : ByteArray} {L : List ByteArray} {k : Nat} {x : ByteArray} (h : L[k]? = some x) : namesL p (L.take (k + 1)) = if hasP p x then namesL p (L.take k) ++ [restB p x] else namesL p (L.take k) := by
  rw [List.take_add_one, h]
  exact namesL_snoc p _ x
theorem namesL_len (p : ByteArray) (L : List ByteArray) : (namesL p L).length ≤ L.length := by
  unfold namesL
  rw [List.length_map]
  exact List.length_filter_le _ _
theorem cutP_calls (s p : ByteArray) (w : World) : Calls Tryz.prog 75 #[.string s, .string p] w fun E w' => E = .returned (.tuple #[.string (restB p s), .bool (hasP p s)]) ∧ w = w' :=
  (Tryz.strings_CutPrefix s p w).mono fun _ _ ⟨he, hw⟩ => ⟨he, hw.symm⟩
theorem keys_len (D : Dk) : (keysF D.now).length = D.now.length := List.length_map _

set_option maxHeartbeats 1000000 in
set_option maxRecDepth 100000 in
theorem names_calls (sh d : Nat) (D : Dk) (p : ByteArray) (w : World) (h : ShAt w sh d D) (hk : DkOk D) : Calls Tryz.prog 50 #[.pointer (some ⟨sh, 0, none⟩), .string p] w fun E w' => ∃ v, E = .returned v ∧ StrsUp w.heap.size w' v (namesD D p) ∧ Below w.heap.size w w' := by
  have c0 := h.c
  have CL := Lib.hid (dlist_calls d D w h.dk hk)
  have hl5 : (keysF D.now).length ≤ 5000 := by rw [keys_len]; exact hk.len
  unfold namesD
  obtain ⟨L, hL⟩ : ∃ L, keysF D.now = L := ⟨_, rfl⟩
  rw [hL] at CL hl5 ⊢
  have H5 := Lib.hid hl5
  obtain ⟨i0, hi, hz0, hz1, hz2⟩ := info_parts info_str
  clear h hk hL hl5
  go_enter Tryz.func50, Tryz.ntmps50
  go_wp2_with fail
  refine CL.out.mono ?_
  rintro E w1 ⟨vL, rfl, hU, hb⟩
  have HB1 := Lib.hid hb
  obtain ⟨A, cc, rfl, hc, hm, hr⟩ := hU.1.open
  obtain ⟨len, hlen⟩ : ∃ len, L.length = len := ⟨_, rfl⟩
  have HL := Lib.hid hlen
  have HR := Lib.hid hr
  have H5' := Lib.hid (show len ≤ 5000 from hlen ▸ H5.out)
  rw [hlen] at hc hm ⊢
  clear hU hb CL hr hlen H5 c0
  go_wp2_with fail
  go_loopw [5, 16] (fun v i wr => ∃ k : Nat, k ≤ len ∧ i = .int .i64 k ∧ wr.ownsRow w1.heap.size 9 1 v (namesL p (L.take k)).length ((namesL p (L.take k)).map Value.string) ∧ Below w1.heap.size w1 wr) (fun _ i _ => len - (intOf i).toNat)
  case atStart => exact ⟨0, Nat.zero_le _, rfl, ⟨rfl, .inl ⟨rfl, rfl⟩⟩, Below.refl _ _⟩
  case round =>
    obtain ⟨k, hk, rfl, hown, hB⟩ := hrel
    by_cases hlt : k < len
    · have hne : L ≠ [] := by
        intro e
        have := HL.out
        rw [e] at this
        simp at this
        omega
      obtain ⟨x, ht⟩ : ∃ x, L[k]? = some x := ⟨L[k]'(by have := HL.out; omega), List.getElem?_eq_getElem _⟩
      obtain ⟨b, off, rfl, hi'⟩ := HR.out hne
      have c0 := kept hB (hi' k x ht)
      have HT := Lib.hid (namesL_take (p := p) ht)
      have hlk : (namesL p (L.take k)).length ≤ 5000 := Nat.le_trans (namesL_len _ _) (Nat.le_trans (by rw [List.length_take]; exact Nat.min_le_left _ _) (show k ≤ 5000 from Nat.le_trans hk H5'.out))
      obtain ⟨hp, hhp⟩ : ∃ hp, hasP p x = hp := ⟨_, rfl⟩
      rw [hhp] at HT
      have CC := Lib.hid (fun W => cutP_calls x p W)
      rw [hhp] at CC
      obtain ⟨y, hy⟩ : ∃ y, restB p x = y := ⟨_, rfl⟩
      rw [hy] at CC HT
      have HO := Lib.hid hown
      have hz := hB.size
      clear ht hi' hne hhp hy
      cases hp with
      | false =>
        clear hown
        go_wp2_with (go_at_call 75; refine (CC.out _).mono ?_; rintro E w' ⟨rfl, rfl⟩)
        go_roundw
        case rel => exact ⟨k + 1, by omega, by go_num, by rw [HT.out]; exact HO.out, hB⟩
        case measure => simp [intOf]; omega
      | true =>
        go_wp2_with (first | (go_at_call 75; refine (CC.out _).mono ?_; rintro E w' ⟨rfl, rfl⟩) | (at_builtin; refine wpList_append_own _ rfl _ _ 40 rfl w1.heap.size 9 i0 (.string ⟨#[]⟩) 1 16 Tryz.underlying40 hi hz0 hz1 hz2 rfl (by decide) _ _ _ rfl (hown.alloc _) ⟨wr.heap.size, 0, none⟩ 1 1 [.string y] rfl rfl (cell_one_new _ _ _) (by simp [Value.oneCell']) (by simp only [maxLen]; omega) (by omega) (by simp; omega) ?_; intro v' w3 hown3 hgrow hnil))
        have HOW := Lib.hid hown3
        have HG := Lib.hid hgrow
        clear hown3 hgrow hnil hown
        go_roundw
        case rel =>
          refine ⟨k + 1, by omega, by go_num, ?_, (hB.alloc hB.size _).grown HG.out (by simp; omega) (fun g e => (HO.out.lt g e).1)⟩
          rw [HT.out]
          have h := HOW.out
          simpa using h
        case measure => simp [intOf]; omega
    · obtain rfl : k = len := by omega
      go_wp2_with fail
      go_ret
      have hLk : L.take k = L := by rw [← HL.out, List.take_length]
      rw [hLk] at hown
      have hln : (namesL p L).length ≤ 5000 := Nat.le_trans (namesL_len _ _) (by have := HL.out; have := H5'.out; omega)
      rw [← flat_strs] at hown
      exact ⟨_, rfl, (strsUp_own hown rfl (by omega)).low HB1.out.size, step_below HB1.out hB⟩

set_option maxRecDepth 100000 in
theorem owners_calls (sh d : Nat) (D : Dk) (w : World) (h : ShAt w sh d D) (hk : DkOk D) : Calls Tryz.prog 27 #[.pointer (some ⟨sh, 0, none⟩)] w fun E w' => ∃ v, E = .returned v ∧ StrsUp w.heap.size w' v (ownersD D) ∧ Below w.heap.size w w' := by
  have C := Lib.hid (names_calls sh d D owP w h hk)
  clear h hk
  go_enter Tryz.func27, Tryz.ntmps27
  go_wp2_with fail
  refine C.out.mono ?_
  rintro E w1 ⟨v, rfl, hU, hb⟩
  have HU := Lib.hid hU
  clear hU
  go_wp2_with fail
  go_ret
  exact ⟨v, rfl, HU.out, hb⟩
end Go.Proofs.YtofogjfemlhffaaGreatDoor

namespace Go.Proofs.YtofogjfemlhffaaGreatDoor
open Go Go.RowKit

theorem stepD_ok {D : Dk} (h : DkOk D) (hp : powerD D = true) : DkOk (stepD D) := by
  refine ⟨?_, ?_, h.len, h.ris, h.sris, h.sub⟩
  · show 0 ≤ if D.cut = true then D.left - 1 else D.left
    unfold powerD at hp
    split
    · rename_i hc
      rw [hc] at hp
      simp at hp
      omega
    · exact h.l0
  · show (if D.cut = true then D.left - 1 else D.left) ≤ _
    have := h.l1
    split <;> omega
theorem writeD_ok {D : Dk} (h : DkOk D) (f s : ByteArray) : DkOk (writeD D f s).2 := by
  unfold writeD
  split
  · exact h
  · split
    · exact h
    · rename_i hp
      have hs := stepD_ok h (by simpa using hp)
      split
      · exact hs
      · rename_i hn
        refine ⟨hs.l0, hs.l1, ?_, ris_put h.ris f s, hs.sris, fun k hk => ?_⟩
        · show (putF D.now f s).length ≤ 5000
          by_cases hg : getF D.now f = none
          · have := len_put_le D.now f s
            have : D.now.length < 5000 := by
              rcases Nat.lt_or_ge D.now.length 5000 with h' | h'
              · exact h'
              · exact absurd ⟨hg, h'⟩ hn
            omega
          · exact Nat.le_trans (len_put_old hg s) h.len
        · show getF (putF D.now f s) k ≠ none
          rw [getF_put]
          split
          · simp
          · exact h.sub k hk
theorem syncD_ok {D : Dk} (h : DkOk D) (f : ByteArray) : DkOk (syncD D f).2 := by
  unfold syncD
  split
  · exact h
  · rename_i s hg
    split
    · exact h
    · rename_i hp
      have hs := stepD_ok h (by simpa using hp)
      refine ⟨hs.l0, hs.l1, hs.len, hs.ris, ris_put h.sris f s, fun k hk => ?_⟩
      have hk' : getF (putF D.safe f s) k ≠ none := hk
      rw [getF_put] at hk'
      show getF D.now k ≠ none
      split at hk'
      · rename_i e
        rw [e, hg]; simp
      · exact h.sub k hk'
theorem ris_moved {S : Fm} (h : RisF S) (f g : ByteArray) : RisF (movedS S f g) := by
  unfold movedS
  split
  · exact ris_put (ris_del (ris_del h f) g) g _
  · exact ris_del (ris_del h f) g
theorem getF_moved (S : Fm) (f g k : ByteArray) : getF (movedS S f g) k = if k = g then getF S f else if k = f then none else getF S k := by
  unfold movedS
  cases hs : getF S f with
  | none =>
    simp only
    rw [getF_del, getF_del]
  | some old =>
    simp only
    rw [getF_put, getF_del, getF_del]
    by_cases e : k = g
    · rw [if_pos e, if_pos e]
    · rw [if_neg e, if_neg e, if_neg e]
theorem moveD_ok {D : Dk} (h : DkOk D) (f g : ByteArray) : DkOk (moveD D f g).2 := by
  unfold moveD
  split
  · exact h
  · split
    · exact h
    · rename_i s hg
      split
      · exact h
      · rename_i hp
        have hs := stepD_ok h (by simpa using hp)
        refine ⟨hs.l0, hs.l1, ?_, ris_put (ris_del h.ris f) g s, ris_moved h.sris f g, fun k hk => ?_⟩
        · show (putF (delF D.now f) g s).length ≤ 5000
          have h1 := len_put_le (delF D.now f) g s
          have h2 := len_del_lt (M := D.now) (k := f) (by rw [hg]; simp)
          have := h.len
          omega
        · have hk' : getF (movedS D.safe f g) k ≠ none := hk
          rw [getF_moved] at hk'
          show getF (putF (delF D.now f) g s) k ≠ none
          rw [getF_put, getF_del]
          by_cases e : k = g
          · rw [if_pos e]; simp
          · rw [if_neg e] at hk' ⊢
            by_cases e2 : k = f
            · rw [if_pos e2] at hk'; exact absurd rfl hk'
            · rw [if_neg e2] at hk' ⊢
              exact h.sub k hk'
theorem removeD_ok {D : Dk} (h : DkOk D) (f : ByteArray) : DkOk (removeD D f).2 := by
  unfold removeD
  split
  · exact h
  · split
    · exact h
    · rename_i hp
      have hs := stepD_ok h (by simpa using hp)
      refine ⟨hs.l0, hs.l1, Nat.le_trans (len_del_le D.now f) h.len, ris_del h.ris f, ris_del h.sris f, fun k hk => ?_⟩
      have hk' : getF (delF D.safe f) k ≠ none := hk
      rw [getF_del] at hk'
      show getF (delF D.now f) k ≠ none
      rw [getF_del]
      by_cases e : k = f
      · rw [if_pos e] at hk'; exact absurd rfl hk'
      · rw [if_neg e] at hk' ⊢
        exact h.sub k hk'

/-! names and texts of bounded size -/
theorem nameD_le {s : ByteArray} (h : ¬ nameD s = false) : s.size ≤ 80 := by
  unfold nameD at h
  simp only [Bool.and_eq_false_iff, decide_eq_false_iff_not, not_or, Classical.not_not] at h
  exact h.2
def FitD (X : Nat) (D : Dk) : Prop := ∀ k v, getF D.now k = some v → k.size ≤ 80 ∧ v.size ≤ X
theorem FitD.mono {X Y : Nat} {D : Dk} (h : FitD X D) (hx : X ≤ Y) : FitD Y D := fun k v hv => ⟨(h k v hv).1, Nat.le_trans (h k v hv).2 hx⟩
theorem writeD_fit {X : Nat} {D : Dk} (h : FitD X D) (f s : ByteArray) (hs : s.size ≤ X) : FitD X (writeD D f s).2 := by
  unfold writeD
  split
  · exact h
  · rename_i hn
    split
    · exact h
    · split
      · exact h
      · intro k v hv
        have hv' : getF (putF D.now f s) k = some v := hv
        rw [getF_put] at hv'
        split at hv'
        · rename_i e
          injection hv' with hv'
          rw [← hv', e]; exact ⟨nameD_le hn, hs⟩
        · exact h k v hv'
theorem syncD_fit {X : Nat} {D : Dk} (h : FitD X D) (f : ByteArray) : FitD X (syncD D f).2 := by
  unfold syncD
  split
  · exact h
  · split
    · exact h
    · exact h
theorem moveD_fit {X : Nat} {D : Dk} (h : FitD X D) (f g : ByteArray) : FitD X (moveD D f g).2 := by
  unfold moveD
  split
  · exact h
  · rename_i hn
    split
    · exact h
    · rename_i s hg
      split
      · exact h
      · intro k v hv
        have hv' : getF (putF (delF D.now f) g s) k = some v := hv
        rw [getF_put, getF_del] at hv'
        split at hv'
        · rename_i e
          injection hv' with hv'
          rw [← hv', e]; exact ⟨nameD_le hn, (h f s hg).2⟩
        · split at hv'
          · cases hv'
          · exact h k v hv'
theorem removeD_fit {X : Nat} {D : Dk} (h : FitD X D) (f : ByteArray) : FitD X (removeD D f).2 := by
  unfold removeD
  split
  · exact h
  · split
    · exact h
    · intro k v hv
      have hv' : getF (delF D.now f) k = some v := hv
      rw [getF_del] at hv'
      split at hv'
      · cases hv'
      · exact h k v hv'
end Go.Proofs.YtofogjfemlhffaaGreatDoor

namespace Go.Proofs.YtofogjfemlhffaaGreatDoor
open Go Go.RowKit

/-! statuses -/
structure St where
  n : Int
  e : Int
  u : ByteArray
  r : ByteArray
  h : Bool
  ws : List ByteArray
  ts : List ByteArray

end Go.Proofs.YtofogjfemlhffaaGreatDoor

namespace Go.Proofs.YtofogjfemlhffaaGreatDoor
open Go Go.RowKit

structure Pv where
  n : ByteArray
  e : Int
  u : ByteArray
  r : ByteArray
  dep : List (List Tv)
  ahead : List (List Tv)
  ag : List Tv
  br : List Tv
  re : List Tv
  pr : List Tv
  se : List ByteArray
  li : List ByteArray
  fi : List Fv

/-- this value is a package that reads as p -/
def PackAt (w : World) (v : Value) (p : Pv) : Prop := ∃ v1 v2 v3 v4 v5 v6 v7 v8 v9 : Value,
  v = .agg #[.string p.n, .int .i64 p.e, .string p.u, .string p.r, v1, v2, v3, v4, v5, v6, v7, v8, v9] ∧
  AskedAt w v1 p.dep ∧ AskedAt w v2 p.ahead ∧ TermsAt w v3 p.ag ∧ TermsAt w v4 p.br ∧ TermsAt w v5 p.re ∧ TermsAt w v6 p.pr ∧ StrsAt w v7 p.se ∧ StrsAt w v8 p.li ∧ FieldsAt w v9 p.fi ∧
  -9223372036854775808 ≤ p.e ∧ p.e ≤ 9223372036854775807
theorem PackAt.below {w w' : World} {v : Value} {p : Pv} (h : PackAt w v p) (hb : Below w.heap.size w w') : PackAt w' v p := by
  obtain ⟨v1, v2, v3, v4, v5, v6, v7, v8, v9, hv, h1, h2, h3, h4, h5, h6, h7, h8, h9, hlo, hhi⟩ := h
  exact ⟨v1, v2, v3, v4, v5, v6, v7, v8, v9, hv, h1.below hb, h2.below hb, h3.below hb, h4.below hb, h5.below hb, h6.below hb, h7.below hb, h8.below hb, h9.below hb, hlo, hhi⟩

/-- what it says, as lists of bytes -/
def Pv.pk (p : Pv) : VP.Pk := ⟨p.n.data.toList, p.e, p.u.data.toList, p.r.data.toList, tmL p.dep, tmL p.ahead, p.ag.map Tv.tm, p.br.map Tv.tm, p.re.map Tv.tm, p.pr.map Tv.tm, p.se.map (·.data.toList), p.li.map (·.data.toList)⟩

/-! short enough to be held -/
def textsB (ss : List ByteArray) : Bool := decide (ss.length ≤ 40) && ss.all fun s => decide (s.size ≤ 100)
def filesB (fs : List Fv) : Bool := decide (fs.length ≤ 30) && fs.all fun f => decide (f.n.size ≤ 100) && decide (f.v.size ≤ 500)
def saysB (p : Pv) : Bool :=
  decide (p.n.size ≤ 60) && (shortB p.u p.r && (termsB p.dep && (termsB p.ahead && (flatB p.ag && (flatB p.br && (flatB p.re && (flatB p.pr && (textsB p.se && (textsB p.li && filesB p.fi)))))))))
end Go.Proofs.YtofogjfemlhffaaGreatDoor

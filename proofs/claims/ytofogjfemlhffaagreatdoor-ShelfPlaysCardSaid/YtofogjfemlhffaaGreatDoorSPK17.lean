/- The shelf's Drop. -/
import Derived.Test.YtofogjfemlhffaaGreatDoorSPK16
namespace Go.Proofs.YtofogjfemlhffaaGreatDoor
open Go Go.RowKit Go.Maps

def dropQ (D : Dk) (q : ByteArray) : Int × Dk := thenD (goneD D (thP ++ q)) fun D => goneD D (spP ++ q)
def dropL (all : Bool) : List ByteArray → List ByteArray → Dk → Int × Dk × List ByteArray
  | [], left, D => (0, D, left)
  | q :: r, left, D => if (!noSet D q && !all) = true then dropL all r (left ++ [q]) D else if (dropQ D q).1 = 0 then dropL all r left (dropQ D q).2 else ((dropQ D q).1, (dropQ D q).2, left)
def dropD (D : Dk) (n : ByteArray) (all : Bool) : Int × Dk := if (dropL all (pathsD D n) [] D).1 = 0 then setD (dropL all (pathsD D n) [] D).2.1 n (dropL all (pathsD D n) [] D).2.2 else ((dropL all (pathsD D n) [] D).1, (dropL all (pathsD D n) [] D).2.1)
theorem dropQ_fit {X : Nat} {D : Dk} (h : FitD X D) (q : ByteArray) : FitD X (dropQ D q).2 := thenD_fit (goneD_fit h _) fun _ h => goneD_fit h _
theorem dropL_cons {α : Type} {l : List α} {k : Nat} {x : α} (h : l[k]? = some x) : l.drop k = x :: l.drop (k + 1) := by
  obtain ⟨hlt, e⟩ := List.getElem?_eq_some_iff.1 h
  rw [List.drop_eq_getElem_cons hlt, e]
theorem lines_le (X : Nat) (l : List ByteArray) (h : ∀ s ∈ l, s.size ≤ X) : (linesT l).size ≤ l.length * (X + 1) := by
  rw [size_eq_length]
  have := joinP_len [10] X (l.map (·.data.toList)) (fun x hx => by
    obtain ⟨s, hs, rfl⟩ := List.mem_map.1 hx
    rw [← size_eq_length]; exact h s hs)
  rw [List.length_map] at this
  exact this
/-- what is left of some lines is no longer than they were -/
theorem lines_sub {l L : List ByteArray} (h : l.Sublist L) : (linesT l).size ≤ (linesT L).size := by
  have key : ∀ {a b : List (List UInt8)}, a.Sublist b → (VP.joinP [10] a).length ≤ (VP.joinP [10] b).length := by
    intro a b hs
    induction hs with
    | slnil => exact Nat.le_refl _
    | cons x hs ih =>
      rename_i a b
      cases b with
      | nil =>
        cases hs
        simp [VP.joinP]
      | cons y r =>
        rw [show VP.joinP [10] (x :: y :: r) = x ++ ([10] ++ VP.joinP [10] (y :: r)) from rfl, List.length_append, List.length_append]
        omega
    | cons_cons x hs ih =>
      rename_i a b
      cases a with
      | nil =>
        cases b with
        | nil => exact Nat.le_refl _
        | cons y r =>
          rw [show VP.joinP [10] (x :: y :: r) = x ++ ([10] ++ VP.joinP [10] (y :: r)) from rfl, List.length_append, List.length_append]
          show x.length ≤ _
          omega
      | cons z s =>
        cases b with
        | nil => cases hs
        | cons y r =>
          rw [show VP.joinP [10] (x :: y :: r) = x ++ ([10] ++ VP.joinP [10] (y :: r)) from rfl, show VP.joinP [10] (x :: z :: s) = x ++ ([10] ++ VP.joinP [10] (z :: s)) from rfl, List.length_append, List.length_append, List.length_append, List.length_append]
          omega
  rw [size_eq_length, size_eq_length]
  exact key (h.map _)
theorem join_pieces_of (c : UInt8) : ∀ l : List UInt8, VP.joinP [c] (VP.pieces c l) = l
  | [] => rfl
  | x :: l => by
    have ih := join_pieces_of c l
    rw [VP.pieces]
    split
    · rename_i hx
      cases hp : VP.pieces c l with
      | nil => exact absurd hp (VP.pieces_ne c l)
      | cons y r =>
        rw [hp] at ih
        rw [VP.joinP, ih, hx]
        rfl
    · cases hp : VP.pieces c l with
      | nil => exact absurd hp (VP.pieces_ne c l)
      | cons y r =>
        rw [hp] at ih
        simp only
        cases r with
        | nil =>
          show x :: y = x :: l
          rw [show y = l from ih]
        | cons z s =>
          show x :: (y ++ ([c] ++ VP.joinP [c] (z :: s))) = x :: l
          rw [show y ++ ([c] ++ VP.joinP [c] (z :: s)) = l from ih]
theorem lines_pieces (t : ByteArray) : linesT (piecesB 10 t) = t := by
  unfold linesT piecesB
  rw [List.map_map, show ((fun x : ByteArray => x.data.toList) ∘ fun l : List UInt8 => (⟨l.toArray⟩ : ByteArray)) = id from rfl, List.map_id, join_pieces_of]
  (try exact Lib.mk_data t)
theorem lines_paths {X : Nat} {D : Dk} (hf : FitD X D) (n : ByteArray) : (linesT (pathsD D n)).size ≤ X := by
  unfold pathsD
  cases hg : getF D.now (owP ++ n) with
  | none => exact Nat.zero_le _
  | some t =>
    show (linesT (pathsT t)).size ≤ X
    unfold pathsT
    split
    · exact Nat.zero_le _
    · rw [lines_pieces]
      exact (hf _ _ hg).2

/-! what is left is some of what was -/
theorem dropL_sub (all : Bool) : ∀ (L left : List ByteArray) (D : Dk), ∃ K, K.Sublist L ∧ (dropL all L left D).2.2 = left ++ K
  | [], left, _ => ⟨[], List.Sublist.slnil, by simp [dropL]⟩
  | q :: r, left, D => by
    rw [dropL]
    split
    · obtain ⟨K, h1, h2⟩ := dropL_sub all r (left ++ [q]) D
      exact ⟨q :: K, h1.cons_cons q, by rw [h2]; simp⟩
    · split
      · obtain ⟨K, h1, h2⟩ := dropL_sub all r left (dropQ D q).2
        exact ⟨K, h1.cons q, h2⟩
      · exact ⟨[], List.nil_sublist _, by simp⟩
theorem dropL_fit {X : Nat} (all : Bool) : ∀ (L left : List ByteArray) (D : Dk), FitD X D → FitD X (dropL all L left D).2.1
  | [], _, _, h => h
  | q :: r, left, D, h => by
    rw [dropL]
    split
    · exact dropL_fit all r _ D h
    · split
      · exact dropL_fit all r left _ (dropQ_fit h q)
      · exact dropQ_fit h q
theorem left_lines {X : Nat} {D : Dk} (hf : FitD X D) (n : ByteArray) (all : Bool) : (linesT (dropL all (pathsD D n) [] D).2.2).size ≤ X := by
  obtain ⟨K, h1, h2⟩ := dropL_sub all (pathsD D n) [] D
  rw [h2, List.nil_append]
  exact Nat.le_trans (lines_sub h1) (lines_paths hf n)
theorem dropD_fit {X : Nat} {D : Dk} (h : FitD X D) (n : ByteArray) (all : Bool) : FitD X (dropD D n all).2 := by
  unfold dropD
  split
  · exact setD_fit (dropL_fit all _ _ D h) _ _ (left_lines h n all)
  · exact dropL_fit all _ _ D h

/-! the walk -/
theorem gone2_lookup (D : Dk) (q : ByteArray) : dropQ D q = if (goneD D (thP ++ q)).1 = 0 then goneD (goneD D (thP ++ q)).2 (spP ++ q) else goneD D (thP ++ q) := rfl
theorem RowD.slice {d B : Nat} {W : World} {v : Value} {L : List ByteArray} (h : RowD d B W v L) : ∃ A n c, v = .slice A n c := by
  rcases h.1.2 with ⟨rfl, _⟩ | ⟨g, cap, cur, rfl, _⟩
  · exact ⟨_, _, _, rfl⟩
  · exact ⟨_, _, _, rfl⟩
theorem RowOf.blk {B : Nat} {W : World} {v : Value} {L : List ByteArray} (h : RowOf B W v L) {k : Nat} {x : ByteArray} (hx : L[k]? = some x) : ∃ g, v = .slice (some ⟨g, 0, none⟩) L.length L.length ∧ B ≤ g ∧ Blk 9 W g (L.map Value.string).toArray := by
  rcases h with ⟨rfl, _⟩ | h
  · cases hx
  · exact h
/-- the paths' row stays: the addresses, and what lies there -/
def RowQ (d n m : Nat) (A : Option Addr) (L : List ByteArray) (W : World) : Prop := ∀ (k : Nat) (x : ByteArray), L[k]? = some x → ∃ g, A = some ⟨g, 0, none⟩ ∧ Blk 9 W g (L.map Value.string).toArray ∧ ¬ foot W d g ∧ n ≤ g ∧ g < m
theorem RowQ.off {d n m : Nat} {A : Option Addr} {L : List ByteArray} {W W' : World} (h : RowQ d n m A L W) (ho : Off d W W') : RowQ d n m A L W' := fun k x hx => by
  obtain ⟨g, hA, hb, hf, h1, h2⟩ := h k x hx
  exact ⟨g, hA, hb.off ho hf, not_foot ho hb.lt hf, h1, h2⟩
theorem RowQ.grown {d n m : Nat} {A : Option Addr} {L : List ByteArray} {W W' : World} {r : Option Nat} (h : RowQ d n m A L W) (hg : W.grownBy W' r) (hd : d < W.heap.size) (hr : ∀ g, r = some g → m ≤ g ∧ ¬ foot W d g) : RowQ d n m A L W' := fun k x hx => by
  obtain ⟨g, hA, hb, hf, h1, h2⟩ := h k x hx
  refine ⟨g, hA, hb.grown hg fun e => ?_, fun hf' => hf ((foot_grown hg hd fun g e => (hr g e).2).1 hf'), h1, h2⟩
  have := (hr g e).1
  omega
theorem row_cell {L : List ByteArray} {W : World} {g k : Nat} {x : ByteArray} (hb : Blk 9 W g (L.map Value.string).toArray) (hx : L[k]? = some x) : W.cell? ⟨g, k, none⟩ = some (.string x) := hb.cell (by rw [List.getElem?_toArray, List.getElem?_map, hx]; rfl)
theorem dropL_keep {all : Bool} {L left : List ByteArray} {D : Dk} {k : Nat} {x : ByteArray} (hx : L[k]? = some x) (h1 : noSet D x = false) (h2 : all = false) : dropL all (L.drop k) left D = dropL all (L.drop (k + 1)) (left ++ [x]) D := by
  rw [dropL_cons hx, dropL, h1, h2]
  exact if_pos rfl
def GoneQ (D : Dk) (x : ByteArray) (all : Bool) : Prop := noSet D x = true ∨ all = true
theorem dropL_go {all : Bool} {L left : List ByteArray} {D D1 D2 : Dk} {k : Nat} {x : ByteArray} (hx : L[k]? = some x) (h : GoneQ D x all) (h1 : goneD D (thP ++ x) = (0, D1)) (h2 : goneD D1 (spP ++ x) = (0, D2)) : dropL all (L.drop k) left D = dropL all (L.drop (k + 1)) left D2 := by
  have hq : dropQ D x = (0, D2) := by rw [gone2_lookup, h1, if_pos rfl]; exact h2
  rw [dropL_cons hx, dropL, if_neg, hq]
  · exact if_pos rfl
  · rcases h with h | h <;> simp [h]
theorem dropL_err {all : Bool} {L left : List ByteArray} {D Dn : Dk} {n : Int} {k : Nat} {x : ByteArray} (hx : L[k]? = some x) (h : GoneQ D x all) (hq : dropQ D x = (n, Dn)) (hn : n ≠ 0) : dropL all (L.drop k) left D = (n, Dn, left) := by
  rw [dropL_cons hx, dropL, if_neg, hq]
  · exact if_neg hn
  · rcases h with h | h <;> simp [h]
theorem dropL_done {all : Bool} {L left : List ByteArray} {D : Dk} {k : Nat} (h : L.length ≤ k) : dropL all (L.drop k) left D = (0, D, left) := by
  rw [List.drop_of_length_le h]
  rfl

set_option maxHeartbeats 4000000 in
set_option maxRecDepth 100000 in
theorem drop_calls (sh d X : Nat) (D : Dk) (n : ByteArray) (all : Bool) (w : World) (hE : Env w) (h : ShAt w sh d D) (hk : DkOk D) (hf : FitD X D) (hX : X ≤ 900000) (hn : n.size ≤ 1000) : Calls Tryz.prog 14 #[.pointer (some ⟨sh, 0, none⟩), .string n, .bool all] w (SDone sh d (dropD D n all) w) := by
  have CP := Lib.hid (paths_row sh d D n w hE h (hf.mono (by omega)) hn)
  have HLX := Lib.hid (Nat.le_trans (left_lines hf n all) hX)
  have HPL := Lib.hid (show (pathsD D n).length ≤ 900001 from by
    have hp := VP.pieces_count 10
    unfold pathsD
    cases hg : getF D.now (owP ++ n) with
    | none => exact Nat.zero_le _
    | some t =>
      show (pathsT t).length ≤ _
      unfold pathsT
      split
      · exact Nat.zero_le _
      · have hpc := hp t.data.toList
        have h1 := size_eq_length t
        have h2 := (hf _ _ hg).2
        unfold piecesB
        rw [List.length_map]
        omega)
  have HZ := Lib.hid (pathsD_size hf n)
  have F := Lib.hid (show dropD D n all = if (dropL all (pathsD D n) [] D).1 = 0 then setD (dropL all (pathsD D n) [] D).2.1 n (dropL all (pathsD D n) [] D).2.2 else ((dropL all (pathsD D n) [] D).1, (dropL all (pathsD D n) [] D).2.1) from rfl)
  have HFL := Lib.hid (show ∃ K, K.Sublist (pathsD D n) ∧ (dropL all (pathsD D n) [] D).2.2 = [] ++ K from dropL_sub all (pathsD D n) [] D)
  obtain ⟨i0, hi, hz0, hz1, hz2⟩ := info_parts info_str
  have H := Lib.hid h
  have HK := Lib.hid hk
  have HFit := Lib.hid hf
  have HX := Lib.hid hX
  have HN := Lib.hid hn
  have HSL := Lib.hid (show sh < w.heap.size from cell_lt h.c)
  obtain ⟨L, hL⟩ : ∃ L, pathsD D n = L := ⟨_, rfl⟩
  rw [hL] at CP HPL HZ F HFL HLX
  clear h hk hf hn hL hE hX
  go_enter Tryz.func14, Tryz.ntmps14
  go_wp2_with fail
  refine CP.out.mono ?_
  rintro E w1 ⟨v1, rfl, hro, hb⟩
  have HO1 := Lib.hid (OffN.of (n := w.heap.size) (Off.of_below (d := d) hb H.out.dk.lt) (Nat.le_refl _))
  have H1 := Lib.hid (H.out.keep hb)
  have HZ1 := Lib.hid hb.size
  obtain ⟨A1, c1, hv1, hc1, hm1, hr1⟩ := (hro.strs (by have := HPL.out; omega)).1.open
  obtain ⟨len, hlen⟩ : ∃ len, L.length = len := ⟨_, rfl⟩
  have HL := Lib.hid hlen
  have HRow : Hid (RowQ d w.heap.size w1.heap.size A1 L w1) := Lib.hid (fun k x hx => by
    obtain ⟨g, hv, hg, hk⟩ := hro.blk hx
    rw [hv1] at hv
    injection hv with hv _ _
    exact ⟨g, hv, hk, new_not_foot H.out.dk hb hg, hg, hk.lt⟩)
  rw [hlen] at hv1 hc1 hm1 HPL
  have HV := Lib.hid hv1
  subst hv1
  clear hro hr1 hb CP hlen hc1 hm1
  go_wp2_with fail
  go_loopw [7, 17] (fun v i wr => ∃ (k : Nat) (left : List ByteArray) (D' : Dk), k ≤ len ∧ i = .int .i64 k ∧ Hid (dropL all L [] D = dropL all (L.drop k) left D') ∧ Hid (left.length ≤ k) ∧ Hid (w1.heap.size ≤ wr.heap.size) ∧ Hid (RowD d w1.heap.size wr v left) ∧ Hid (ShAt wr sh d D') ∧ Hid (DkOk D') ∧ Hid (FitD X D') ∧ Hid (OffN w.heap.size d w wr) ∧ Hid (RowQ d w.heap.size w1.heap.size A1 L wr)) (fun _ i _ => len - (intOf i).toNat)
  case atStart => exact ⟨0, [], D, Nat.zero_le _, rfl, Lib.hid rfl, Lib.hid (Nat.le_refl _), Lib.hid (Nat.le_refl _), Lib.hid (RowD.nil _ _ _), H1, HK, HFit, HO1, HRow⟩
  case round =>
    obtain ⟨k, left, D1, hk, rfl, hdl, hll, hmm, hrow, hsh, hok, hfit, hoff, hrq⟩ := hrel
    have hl9 : len ≤ 900001 := HPL.out
    have hnw : Hid (w.heap.size ≤ wr.heap.size) := Lib.hid hoff.out.size
    by_cases hlt : k < len
    · obtain ⟨x, ht⟩ : ∃ x, L[k]? = some x := ⟨L[k]'(by have := HL.out; omega), List.getElem?_eq_getElem _⟩
      obtain ⟨g, rfl, hbk, hfg, hng, hgm⟩ := hrq.out k x ht
      have c0 := row_cell hbk ht
      have HT := Lib.hid ht
      have hxs : x.size ≤ 900000 := Nat.le_trans (HZ.out x (List.mem_of_getElem? ht)) HX.out
      have z1 : ¬ 9223372036854775807 < 2 + x.size := by omega
      have hz2 : (spP ++ x).size ≤ 1000000 := by rw [cat_size]; show 2 + _ ≤ _; omega
      have hz3 : (thP ++ x).size ≤ 1000000 := by rw [cat_size]; show 2 + _ ≤ _; omega
      have CG := Lib.hid (shget_calls sh d D1 (spP ++ x) wr hsh.out hz2)
      have C1 := Lib.hid (fun (W : World) (hs : ShAt W sh d D1) => gone_calls sh d D1 (thP ++ x) W hs hok.out hz3)
      obtain ⟨n1, D2, hr1⟩ : ∃ n' D', goneD D1 (thP ++ x) = (n', D') := ⟨_, _, rfl⟩
      have hok2 : DkOk D2 := by have := goneD_ok hok.out (thP ++ x); rwa [hr1] at this
      have hfit2 : FitD X D2 := by have := goneD_fit hfit.out (thP ++ x); rwa [hr1] at this
      have C2 := Lib.hid (fun (W : World) (hs : ShAt W sh d D2) => gone_calls sh d D2 (spP ++ x) W hs hok2 hz2)
      obtain ⟨n2, D3, hr2⟩ : ∃ n' D', goneD D2 (spP ++ x) = (n', D') := ⟨_, _, rfl⟩
      have hok3 : DkOk D3 := by have := goneD_ok hok2 (spP ++ x); rwa [hr2] at this
      have hfit3 : FitD X D3 := by have := goneD_fit hfit2 (spP ++ x); rwa [hr2] at this
      unfold SDone at C1 C2
      rw [hr1] at C1
      rw [hr2] at C2
      simp only at C1 C2
      have HR1 := Lib.hid hr1
      have HR2 := Lib.hid hr2
      have HOK3 := Lib.hid hok3
      have HF3 := Lib.hid hfit3
      have HNS : Hid (noSet D1 x = (getF D1.now (spP ++ x)).isNone) := Lib.hid rfl
      obtain ⟨o, hoo⟩ : ∃ o, getF D1.now (spP ++ x) = o := ⟨_, rfl⟩
      rw [hoo] at CG HNS
      unfold spP at CG C2
      unfold thP at C1
      clear ht hbk hfg hr1 hr2 hok2 hfit2 hok3 hfit3 hz2 hz3 hoo
      go_wp2_with fail
      refine CG.out.mono ?_
      rintro E w2 ⟨pv, rfl, hp, hb⟩
      have hof2 := Off.of_below (d := d) hb hsh.out.dk.lt
      have HRow2 := Lib.hid (hrow.out.off hof2)
      have HSh2 := Lib.hid (hsh.out.keep hb)
      have HO2 := Lib.hid (hoff.out.go hof2 hnw.out)
      have HQ2 := Lib.hid (hrq.out.off hof2)
      have HN2 := Lib.hid (show w.heap.size ≤ w2.heap.size from Nat.le_trans hnw.out hb.size)
      have HQW := Lib.hid (show w1.heap.size ≤ w2.heap.size from Nat.le_trans hmm.out hb.size)
      clear hb hof2 CG c0
      by_cases hkeep : o.isSome = true ∧ all = false
      · obtain ⟨ho, rfl⟩ := hkeep
        obtain ⟨s, rfl⟩ := Option.isSome_iff_exists.1 ho
        obtain ⟨gp, rfl, _, _⟩ := hp
        have HDL := Lib.hid (dropL_keep (left := left) HT.out HNS.out rfl)
        have own2 := HRow2.out.1
        have hll1 : left.length ≤ 900001 := Nat.le_trans hll.out (by have := HPL.out; omega)
        have hw12 : w1.heap.size ≤ w2.heap.size := HQW.out
        clear ho C1 C2
        go_wp2_with (at_builtin; refine wpList_append_own_at _ rfl _ _ 40 rfl w1.heap.size 9 i0 (.string ⟨#[]⟩) 1 16 Tryz.underlying40 hi hz0 hz1 hz2 rfl (by decide) _ _ _ rfl (own2.alloc _) ⟨w2.heap.size, 0, none⟩ 1 1 [.string x] rfl rfl (cell_one_new _ _ _) (by simp [Value.oneCell']) (by simp only [maxLen]; omega) (by omega) (by simp; omega) ?_; intro v' w3 hown3 hgrow hnil hloc)
        have HAP := Lib.hid (rowD_app (n := w.heap.size) HRow2.out HSh2.out (by have := HSL.out; have := HZ1.out; omega) HZ1.out HN2.out HO2.out hown3 hgrow hloc)
        have HQ3 := Lib.hid (HQ2.out.grown HAP.out.2.2.2 HSh2.out.dk.lt fun g e => ⟨(HRow2.out.base e).1, HRow2.out.2 g e⟩)
        clear hown3 hgrow hnil hloc own2
        go_roundw
        case rel => first | exact ⟨k + 1, left ++ [x], D1, by omega, by go_num, Lib.hid (hdl.out.trans HDL.out), Lib.hid (by rw [List.length_append, List.length_singleton]; have := hll.out; omega), Lib.hid (Nat.le_trans HQW.out HAP.out.2.2.2.size), Lib.hid HAP.out.1, Lib.hid HAP.out.2.1, hok, hfit, Lib.hid HAP.out.2.2.1, HQ3⟩ | ((repeat apply Exists.intro); exact ⟨⟨k + 1, left ++ [x], D1, by omega, by go_num, Lib.hid (hdl.out.trans HDL.out), Lib.hid (by rw [List.length_append, List.length_singleton]; have := hll.out; omega), Lib.hid (Nat.le_trans HQW.out HAP.out.2.2.2.size), Lib.hid HAP.out.1, Lib.hid HAP.out.2.1, hok, hfit, Lib.hid HAP.out.2.2.1, HQ3⟩, rfl⟩)
        case measure => simp [intOf]; omega
      · have hno : GoneQ D1 x all := by
          unfold GoneQ
          rw [HNS.out]
          cases o <;> cases all <;> simp_all
        have HNO := Lib.hid hno
        have hbx := below_alloc w2 (.cells #[.string (thP ++ x), .string (spP ++ x)] 9)
        have hof3 := Off.of_below (d := d) hbx HSh2.out.dk.lt
        have HRow3 := Lib.hid (HRow2.out.off hof3)
        have HSh3 := Lib.hid (HSh2.out.keep hbx)
        have HO3 := Lib.hid (HO2.out.go hof3 HN2.out)
        have HQ3 := Lib.hid (HQ2.out.off hof3)
        have HN3 := Lib.hid (Nat.le_trans HN2.out hbx.size)
        have HQW3 := Lib.hid (Nat.le_trans HQW.out hbx.size)
        have hbb := blk_new 9 w2 #[.string (thP ++ x), .string (spP ++ x)]
        have hfb : ¬ foot (w2.alloc (.cells #[.string (thP ++ x), .string (spP ++ x)] 9)) d w2.heap.size := new_not_foot HSh2.out.dk hbx (Nat.le_refl _)
        have HBB := Lib.hid hbb
        have HFB := Lib.hid hfb
        clear hbx hof3 hbb hfb HRow2 HSh2 HO2 HQ2 HN2 HQW
        unfold thP spP at HBB HFB HRow3 HSh3 HO3 HQ3 HN3 HQW3
        cases o with
        | none =>
          obtain rfl : pv = .pointer none := hp
          go_wp2_with fail
          refine wp_loop_rounds 3 ?_
          rw [rounds_succ]
          go_wp2_with fail
          refine (C1.out _ HSh3.out).mono ?_
          rintro E w4 ⟨rfl, h4, ho⟩
          have HB4 := Lib.hid (HBB.out.off ho HFB.out)
          have HFB4 := Lib.hid (not_foot ho HBB.out.lt HFB.out)
          have HRow4 := Lib.hid (HRow3.out.off ho)
          have HSh4 := Lib.hid h4
          have HO4 := Lib.hid (HO3.out.go ho HN3.out)
          have HQ4 := Lib.hid (HQ3.out.off ho)
          have HN4 := Lib.hid (Nat.le_trans HN3.out ho.size)
          have HQW4 := Lib.hid (Nat.le_trans HQW3.out ho.size)
          clear h4 ho HBB HFB HRow3 HSh3 HO3 HQ3 HN3 HQW3 C1
          by_cases hn1 : n1 = 0
          · subst hn1
            rw [errV_0]
            have e1 := HB4.out.cell (i := 1) rfl
            have HQQ : Hid (dropQ D1 x = (n2, D3)) := Lib.hid (by rw [gone2_lookup, HR1.out, if_pos rfl]; exact HR2.out)
            go_wp2_with fail
            rw [rounds_succ]
            go_wp2_with fail
            refine (C2.out _ HSh4.out).mono ?_
            rintro E w5 ⟨rfl, h5, ho⟩
            have HRow5 := Lib.hid (HRow4.out.off ho)
            have HSh5 := Lib.hid h5
            have HO5 := Lib.hid (HO4.out.go ho HN4.out)
            have HQ5 := Lib.hid (HQ4.out.off ho)
            have HQW5 := Lib.hid (Nat.le_trans HQW4.out ho.size)
            clear h5 ho HB4 HFB4 HRow4 HSh4 HO4 HQ4 HN4 HQW4 C2 e1
            by_cases hn2 : n2 = 0
            · subst hn2
              rw [errV_0]
              have HDL := Lib.hid (dropL_go (left := left) HT.out HNO.out HR1.out HR2.out)
              go_wp2_with fail
              rw [rounds_succ]
              go_wp2_with fail
              go_roundw
              case rel => first | exact ⟨k + 1, left, D3, by omega, by go_num, Lib.hid (hdl.out.trans HDL.out), Lib.hid (by have := hll.out; omega), HQW5, HRow5, HSh5, HOK3, HF3, HO5, HQ5⟩ | ((repeat apply Exists.intro); exact ⟨⟨k + 1, left, D3, by omega, by go_num, Lib.hid (hdl.out.trans HDL.out), Lib.hid (by have := hll.out; omega), HQW5, HRow5, HSh5, HOK3, HF3, HO5, HQ5⟩, rfl⟩)
              case measure => simp [intOf]; omega
            · rw [errV_n hn2]
              have HDL := Lib.hid (hdl.out.trans (dropL_err (left := left) HT.out HNO.out HQQ.out hn2))
              have HNN := Lib.hid hn2
              clear hn2
              go_wp2_with fail
              go_ret
              exact sdone_err (by rw [F.out, HDL.out, if_neg HNN.out]) HNN.out HSh5.out HO5.out.off
          · rw [errV_n hn1]
            have HQQ : Hid (dropQ D1 x = (n1, D2)) := Lib.hid (by rw [gone2_lookup, HR1.out]; exact if_neg hn1)
            have HDL := Lib.hid (hdl.out.trans (dropL_err (left := left) HT.out HNO.out HQQ.out hn1))
            have HNN := Lib.hid hn1
            clear hn1 C2
            go_wp2_with fail
            go_ret
            exact sdone_err (by rw [F.out, HDL.out, if_neg HNN.out]) HNN.out HSh4.out HO4.out.off
        | some s =>
          obtain rfl : all = true := by
            cases all with
            | true => rfl
            | false => exact absurd ⟨rfl, rfl⟩ hkeep
          obtain ⟨gp, rfl, _, _⟩ := hp
          go_wp2_with fail
          refine wp_loop_rounds 3 ?_
          rw [rounds_succ]
          go_wp2_with fail
          refine (C1.out _ HSh3.out).mono ?_
          rintro E w4 ⟨rfl, h4, ho⟩
          have HB4 := Lib.hid (HBB.out.off ho HFB.out)
          have HFB4 := Lib.hid (not_foot ho HBB.out.lt HFB.out)
          have HRow4 := Lib.hid (HRow3.out.off ho)
          have HSh4 := Lib.hid h4
          have HO4 := Lib.hid (HO3.out.go ho HN3.out)
          have HQ4 := Lib.hid (HQ3.out.off ho)
          have HN4 := Lib.hid (Nat.le_trans HN3.out ho.size)
          have HQW4 := Lib.hid (Nat.le_trans HQW3.out ho.size)
          clear h4 ho HBB HFB HRow3 HSh3 HO3 HQ3 HN3 HQW3 C1
          by_cases hn1 : n1 = 0
          · subst hn1
            rw [errV_0]
            have e1 := HB4.out.cell (i := 1) rfl
            have HQQ : Hid (dropQ D1 x = (n2, D3)) := Lib.hid (by rw [gone2_lookup, HR1.out, if_pos rfl]; exact HR2.out)
            go_wp2_with fail
            rw [rounds_succ]
            go_wp2_with fail
            refine (C2.out _ HSh4.out).mono ?_
            rintro E w5 ⟨rfl, h5, ho⟩
            have HRow5 := Lib.hid (HRow4.out.off ho)
            have HSh5 := Lib.hid h5
            have HO5 := Lib.hid (HO4.out.go ho HN4.out)
            have HQ5 := Lib.hid (HQ4.out.off ho)
            have HQW5 := Lib.hid (Nat.le_trans HQW4.out ho.size)
            clear h5 ho HB4 HFB4 HRow4 HSh4 HO4 HQ4 HN4 HQW4 C2 e1
            by_cases hn2 : n2 = 0
            · subst hn2
              rw [errV_0]
              have HDL := Lib.hid (dropL_go (left := left) HT.out HNO.out HR1.out HR2.out)
              go_wp2_with fail
              rw [rounds_succ]
              go_wp2_with fail
              go_roundw
              case rel => first | exact ⟨k + 1, left, D3, by omega, by go_num, Lib.hid (hdl.out.trans HDL.out), Lib.hid (by have := hll.out; omega), HQW5, HRow5, HSh5, HOK3, HF3, HO5, HQ5⟩ | ((repeat apply Exists.intro); exact ⟨⟨k + 1, left, D3, by omega, by go_num, Lib.hid (hdl.out.trans HDL.out), Lib.hid (by have := hll.out; omega), HQW5, HRow5, HSh5, HOK3, HF3, HO5, HQ5⟩, rfl⟩)
              case measure => simp [intOf]; omega
            · rw [errV_n hn2]
              have HDL := Lib.hid (hdl.out.trans (dropL_err (left := left) HT.out HNO.out HQQ.out hn2))
              have HNN := Lib.hid hn2
              clear hn2
              go_wp2_with fail
              go_ret
              exact sdone_err (by rw [F.out, HDL.out, if_neg HNN.out]) HNN.out HSh5.out HO5.out.off
          · rw [errV_n hn1]
            have HQQ : Hid (dropQ D1 x = (n1, D2)) := Lib.hid (by rw [gone2_lookup, HR1.out]; exact if_neg hn1)
            have HDL := Lib.hid (hdl.out.trans (dropL_err (left := left) HT.out HNO.out HQQ.out hn1))
            have HNN := Lib.hid hn1
            clear hn1 C2
            go_wp2_with fail
            go_ret
            exact sdone_err (by rw [F.out, HDL.out, if_neg HNN.out]) HNN.out HSh4.out HO4.out.off
    · obtain rfl : k = len := by omega
      have HDL := Lib.hid (hdl.out.trans (dropL_done (L := L) (by have := HL.out; omega)))
      have hlx : (linesT left).size ≤ 1000000 := by have := HLX.out; rw [HDL.out] at this; exact Nat.le_trans this (by omega)
      have CS := Lib.hid (set_calls sh d D1 n _ left wr hsh.out hok.out HN.out (hrow.out.strs (by have := hll.out; have := HPL.out; omega)) hlx (by have := hll.out; have := HPL.out; omega))
      have F2 : Hid (dropD D n all = setD D1 n left) := Lib.hid (by rw [F.out, HDL.out]; exact if_pos rfl)
      unfold SDone at CS
      obtain ⟨n2, D2, hr2⟩ : ∃ n' D', setD D1 n left = (n', D') := ⟨_, _, rfl⟩
      rw [hr2] at CS F2
      simp only at CS
      obtain ⟨Av, kv, cv, hvv⟩ := hrow.out.slice
      subst hvv
      clear hr2 hlx
      go_wp2_with fail
      refine CS.out.mono ?_
      rintro E w5 ⟨rfl, h5, ho⟩
      have H5 := Lib.hid h5
      have HO5 := Lib.hid (hoff.out.go ho hnw.out)
      clear h5 ho CS
      obtain ⟨ev, hev⟩ : ∃ ev, errV n2 = ev := ⟨_, rfl⟩
      rw [hev]
      have HEV := Lib.hid hev
      clear hev
      go_wp2_with fail
      go_ret
      exact sdone_ret F2.out HEV.out H5.out HO5.out.off
end Go.Proofs.YtofogjfemlhffaaGreatDoor

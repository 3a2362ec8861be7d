/- shelf.Choice: plain, and walked. · The shelf's owned: plain; and what its parts need. · The paths sorted: plain, and slices.Sort at a row of the call's own. -/
import Derived.Test.YtpbbhjifgaeklaaGreatDoorSOK21
import Derived.BigQuiet
import Derived.Test.YtpbbhjifgaeklaaGreatDoorSOK12
import Derived.Sort.OwnSorted
namespace Go.Proofs.YtpbbhjifgaeklaaGreatDoor
open Go Go.RowKit Go.Maps

def sameO (a b : Option ByteArray) : Bool := match a, b with | some x, some y => decide (x = y) | _, _ => false
/-- 0 takes, 1 leaves, 2 asks -/
def choiceD (old now : Option ByteArray) (next : ByteArray) : Nat :=
  match old, now with
  | none, none => 0
  | old, now => if sameO now (some next) then 1 else match old with
    | none => 2
    | some o => if decide (o = next) then 1 else if sameO now (some o) then 0 else 2

theorem same_calls (B : Nat) (a b : Option ByteArray) (va vb : Value) (w : World) (ha : PtrAt B w va a) (hb : PtrAt B w vb b) : Calls Tryz.prog 153 #[va, vb] w (BoolIs (sameO a b) w) := by
  cases a with
  | none =>
    obtain rfl : va = .pointer none := ha
    obtain ⟨p, rfl⟩ : ∃ p, vb = .pointer p := by
      cases b with
      | none => exact ⟨_, hb⟩
      | some y => obtain ⟨g, h, _⟩ := hb; exact ⟨_, h⟩
    clear hb
    have hs : sameO none b = false := rfl
    rw [hs]
    go_enter Tryz.func153, Tryz.ntmps153
    go_wp2_with fail
    go_quiet (fail)
    go_wp2_with fail
    go_ret
    exact ⟨rfl, below_drewN _ _ _⟩
  | some x =>
    obtain ⟨ga, rfl, _, ca⟩ := ha
    cases b with
    | none =>
      obtain rfl : vb = .pointer none := hb
      have hs : sameO (some x) none = false := rfl
      rw [hs]
      go_enter Tryz.func153, Tryz.ntmps153
      go_wp2_with fail
      go_quiet (fail)
      go_wp2_with fail
      go_ret
      exact ⟨rfl, below_drewN _ _ _⟩
    | some y =>
      obtain ⟨gb, rfl, _, cb⟩ := hb
      have hs : sameO (some x) (some y) = decide (x = y) := rfl
      rw [hs]
      obtain ⟨b3, hb3⟩ : ∃ b3, decide (x = y) = b3 := ⟨_, rfl⟩
      have hqf : (x.toList == y.toList) = b3 := by rw [← hb3]; exact name_eq x y
      rw [hb3]
      clear hb3 hs
      go_enter Tryz.func153, Tryz.ntmps153
      go_wp2_with fail
      go_quiet (fail)
      go_wp2_with fail
      go_ret
      exact ⟨rfl, below_drewN _ _ _⟩
theorem choice_calls (B : Nat) (old now : Option ByteArray) (next : ByteArray) (vo vn vx : Value) (w : World) (ho : PtrAt B w vo old) (hn : PtrAt B w vn now) (hx : PtrAt B w vx (some next)) : Calls Tryz.prog 87 #[vo, vn, vx] w fun E w' => E = .returned (.int .i64 (choiceD old now next)) ∧ Below w.heap.size w w' := by
  have S1 := Lib.hid (fun (W : World) (hb : Below w.heap.size w W) => same_calls B now (some next) vn vx W (hn.below hb) (hx.below hb))
  have S2 := Lib.hid (fun (W : World) (hb : Below w.heap.size w W) => same_calls B old (some next) vo vx W (ho.below hb) (hx.below hb))
  have S3 := Lib.hid (fun (W : World) (hb : Below w.heap.size w W) => same_calls B now old vn vo W (hn.below hb) (ho.below hb))
  obtain ⟨gx, rfl, -, -⟩ := hx
  cases old with
  | none =>
    obtain rfl : vo = .pointer none := ho
    cases now with
    | none =>
      obtain rfl : vn = .pointer none := hn
      have hs : choiceD none none next = 0 := rfl
      rw [hs]
      clear S1 S2 S3 hs
      go_enter Tryz.func87, Tryz.ntmps87
      go_wp2_with fail
      go_ret
      exact ⟨rfl, Below.refl _ _⟩
    | some y =>
      obtain ⟨gn, rfl, -, -⟩ := hn
      obtain ⟨b1, hb1⟩ : ∃ b1, sameO (some y) (some next) = b1 := ⟨_, rfl⟩
      have hs : choiceD none (some y) next = if b1 then 1 else 2 := by rw [← hb1]; rfl
      rw [hb1] at S1
      rw [hs]
      clear S2 S3 hs hb1
      go_enter Tryz.func87, Tryz.ntmps87
      go_wp2_with fail
      refine (S1.out _ (Below.refl _ _)).mono ?_
      rintro E wz ⟨rfl, hb⟩
      have HB := Lib.hid hb
      clear hb
      cases b1
      · go_wp2_with fail
        go_ret
        exact ⟨rfl, HB.out⟩
      · go_wp2_with fail
        go_ret
        exact ⟨rfl, HB.out⟩
  | some x =>
    obtain ⟨go, rfl, -, -⟩ := ho
    obtain ⟨b1, hb1⟩ : ∃ b1, sameO now (some next) = b1 := ⟨_, rfl⟩
    obtain ⟨b2, hb2⟩ : ∃ b2, sameO (some x) (some next) = b2 := ⟨_, rfl⟩
    obtain ⟨b3, hb3⟩ : ∃ b3, sameO now (some x) = b3 := ⟨_, rfl⟩
    have hs : choiceD (some x) now next = if b1 then 1 else if b2 then 1 else if b3 then 0 else 2 := by
      rw [← hb1, ← hb2, ← hb3]
      cases now <;> rfl
    rw [hb1] at S1
    rw [hb2] at S2
    rw [hb3] at S3
    rw [hs]
    clear hb1 hb2 hb3 hs
    go_enter Tryz.func87, Tryz.ntmps87
    go_wp2_with fail
    refine (S1.out _ (Below.refl _ _)).mono ?_
    rintro E wz ⟨rfl, hb⟩
    have HB := Lib.hid hb
    clear hb
    cases b1
    · go_wp2_with fail
      refine (S2.out _ HB.out).mono ?_
      rintro E wz ⟨rfl, hb⟩
      replace HB := Lib.hid (step_below HB.out hb)
      clear hb
      cases b2
      · go_wp2_with fail
        refine (S3.out _ HB.out).mono ?_
        rintro E wz ⟨rfl, hb⟩
        replace HB := Lib.hid (step_below HB.out hb)
        clear hb
        cases b3
        · go_wp2_with fail
          go_ret
          exact ⟨rfl, HB.out⟩
        · go_wp2_with fail
          go_ret
          exact ⟨rfl, HB.out⟩
      · go_wp2_with fail
        go_ret
        exact ⟨rfl, HB.out⟩
    · go_wp2_with fail
      go_ret
      exact ⟨rfl, HB.out⟩
end Go.Proofs.YtpbbhjifgaeklaaGreatDoor

namespace Go.Proofs.YtpbbhjifgaeklaaGreatDoor
open Go Go.RowKit Go.Maps

def leftO (D : Dk) (ps : List ByteArray) (n : ByteArray) : List ByteArray := (pathsD D n).filter fun q => !hasB ps q
def own1 (pn : ByteArray) (ps : List ByteArray) : List ByteArray → Dk → Int × Dk
  | [], D => (0, D)
  | n :: r, D => if n = pn ∨ (leftO D ps n).length = (pathsD D n).length then own1 pn ps r D else thenD (setD D n (leftO D ps n)) (own1 pn ps r)
def own2 : List ByteArray → List ByteArray → Dk → Int × Dk × List ByteArray
  | [], ps, D => (0, D, ps)
  | q :: r, ps, D => if hasB ps q then own2 r ps D else if noSet D q then (if (goneD D (thP ++ q)).1 = 0 then own2 r ps (goneD D (thP ++ q)).2 else ((goneD D (thP ++ q)).1, (goneD D (thP ++ q)).2, ps)) else own2 r (ps ++ [q]) D
theorem lines_left {X : Nat} {D : Dk} (hf : FitD X D) (ps : List ByteArray) (n : ByteArray) : (linesT (leftO D ps n)).size ≤ X := Nat.le_trans (lines_sub List.filter_sublist) (lines_paths hf n)
theorem own1_fit {X : Nat} (pn : ByteArray) (ps : List ByteArray) : ∀ (l : List ByteArray) (D : Dk), FitD X D → FitD X (own1 pn ps l D).2
  | [], _, h => h
  | n :: r, D, h => by
    rw [own1]
    split
    · exact own1_fit pn ps r D h
    · exact thenD_fit (setD_fit h n _ (lines_left h ps n)) fun D h => own1_fit pn ps r D h
theorem own2_fit {X : Nat} : ∀ (l ps : List ByteArray) (D : Dk), FitD X D → FitD X (own2 l ps D).2.1
  | [], _, _, h => h
  | q :: r, ps, D, h => by
    rw [own2]
    split
    · exact own2_fit r ps D h
    · split
      · split
        · exact own2_fit r ps _ (goneD_fit h _)
        · exact goneD_fit h _
      · exact own2_fit r _ D h
theorem own2_sub : ∀ (l ps : List ByteArray) (D : Dk), ∃ K, K.Sublist l ∧ (own2 l ps D).2.2 = ps ++ K
  | [], ps, _ => ⟨[], List.Sublist.slnil, (List.append_nil ps).symm⟩
  | q :: r, ps, D => by
    rw [own2]
    split
    · obtain ⟨K, h, e⟩ := own2_sub r ps D
      exact ⟨K, h.cons _, e⟩
    · split
      · split
        · obtain ⟨K, h, e⟩ := own2_sub r ps (goneD D (thP ++ q)).2
          exact ⟨K, h.cons _, e⟩
        · exact ⟨[], List.nil_sublist _, (List.append_nil ps).symm⟩
      · obtain ⟨K, h, e⟩ := own2_sub r (ps ++ [q]) D
        exact ⟨q :: K, h.cons_cons _, by rw [e, List.append_assoc]; rfl⟩
theorem own1_skip {pn : ByteArray} {ps L : List ByteArray} {D : Dk} {k : Nat} {n : ByteArray} (hx : L[k]? = some n) (h : n = pn ∨ (leftO D ps n).length = (pathsD D n).length) : own1 pn ps (L.drop k) D = own1 pn ps (L.drop (k + 1)) D := by
  rw [dropL_cons hx, own1, if_pos h]
theorem own1_set {pn : ByteArray} {ps L : List ByteArray} {D : Dk} {k : Nat} {n : ByteArray} (hx : L[k]? = some n) (h1 : n ≠ pn) (h2 : (leftO D ps n).length ≠ (pathsD D n).length) : own1 pn ps (L.drop k) D = thenD (setD D n (leftO D ps n)) (own1 pn ps (L.drop (k + 1))) := by
  rw [dropL_cons hx, own1, if_neg (by intro h; rcases h with h | h <;> contradiction)]
theorem own1_end {pn : ByteArray} {ps L : List ByteArray} {D : Dk} {k : Nat} (h : L.length ≤ k) : own1 pn ps (L.drop k) D = (0, D) := by
  rw [List.drop_of_length_le h]; rfl

theorem paths_few {D : Dk} (hf : FitD 900000 D) (n : ByteArray) : (pathsD D n).length ≤ 900001 := by
  have hp := VP.pieces_count 10
  unfold pathsD
  cases hg : getF D.now (owP ++ n) with
  | none => exact Nat.zero_le _
  | some t =>
    show (pathsT t).length ≤ _
    unfold pathsT
    split
    · exact Nat.zero_le _
    · have hpc := hp t.data.toList
      have h1 := size_eq_length t
      have h2 := (hf _ _ hg).2
      unfold piecesB
      rw [List.length_map]
      omega
/-- texts whose row is no part of the disk -/
def RowS (d : Nat) (W : World) (v : Value) (L : List ByteArray) : Prop := StrsAt W v L ∧ (L ≠ [] → ∀ b off n c, v = .slice (some ⟨b, off, none⟩) n c → ¬ foot W d b)
theorem RowS.off {d : Nat} {W W' : World} {v : Value} {L : List ByteArray} (h : RowS d W v L) (ho : Off d W W') : RowS d W' v L := by
  obtain ⟨⟨A, c, rfl, hc, hm, hr⟩, ht⟩ := h
  have hcell : L ≠ [] → ∀ b off n c', Value.slice A L.length c = .slice (some ⟨b, off, none⟩) n c' → b < W.heap.size := fun hn b off n c' e => by
    cases L with
    | nil => exact absurd rfl hn
    | cons x r =>
      have hn' : (x :: r).flatMap strC ≠ [] := by rw [flat_strs]; exact List.cons_ne_nil _ _
      obtain ⟨b', off', hA, hi⟩ := hr (by first | exact hn' | exact hn)
      injection e with e1 _ _
      rw [e1] at hA
      injection hA with hA
      injection hA with hA _
      subst hA
      exact cell_lt (hi 0 (.string x) rfl)
  refine ⟨⟨A, c, rfl, hc, hm, fun hn => ?_⟩, fun hn b off n c' e => not_foot ho (hcell hn b off n c' e) (ht hn b off n c' e)⟩
  obtain ⟨b, off, rfl, hi⟩ := hr hn
  exact ⟨b, off, rfl, fun j u hj => keptO ho (ht (by first | exact hn | (intro e; subst e; exact hn rfl)) b off _ _ rfl) (hi j u hj)⟩
theorem RowS.new {d : Nat} {W W' : World} {v : Value} {L : List ByteArray} {D : Dk} (h : StrsUp W.heap.size W' v L) (hd : DiskAt W d D) (hb : Below W.heap.size W W') : RowS d W' v L :=
  ⟨h.1, fun _ b off n c e => new_not_foot hd hb (h.2 b off n c e)⟩
theorem RowS.at {d : Nat} {W : World} {A : Option Addr} {n c k : Nat} {L : List ByteArray} {x : ByteArray} (h : RowS d W (.slice A n c) L) (hx : L[k]? = some x) : ∃ b off, A = some ⟨b, off, none⟩ ∧ W.cell? ⟨b, off + k, none⟩ = some (.string x) := by
  obtain ⟨A', c', e, _, _, hr⟩ := h.1.open
  injection e with e1 _ _
  subst e1
  obtain ⟨b, off, hA, hi⟩ := hr (fun e => by rw [e] at hx; cases hx)
  exact ⟨b, off, hA, hi k x hx⟩

set_option maxRecDepth 100000 in
theorem del_nilO (cq : Nat) (w : World) : Calls Tryz.prog 157 #[.slice none 0 0, .func (.func 158) #[] #[.pointer (some ⟨cq, 0, none⟩)]] w fun E w' => E = .returned (.slice none 0 0) ∧ w = w' := by
  have CI : Calls Tryz.prog 144 #[.slice none 0 0, .func (.func 158) #[] #[.pointer (some ⟨cq, 0, none⟩)]] w fun E w' => E = .returned (.int .i64 (-1)) ∧ w = w' := by
    go_enter Tryz.func144, Tryz.ntmps144
    go_wp2_with fail
    refine wp_loop_rounds 1 ?_
    rw [rounds_succ]
    go_wp2_with fail
    go_ret
    exact ⟨rfl, rfl⟩
  have CI := Lib.hid CI
  go_enter Tryz.func157, Tryz.ntmps157
  go_wp2_with fail
  refine CI.out.mono ?_
  rintro E w1 ⟨rfl, rfl⟩
  go_wp2_with fail
  go_ret
  exact ⟨rfl, rfl⟩
/-- what an owner keeps: from the row of its paths -/
theorem delO_any (cq : Nat) (vp v1 : Value) (ps L : List ByteArray) (w w1 : World) (hro : RowOf w.heap.size w1 v1 L) (hb : Below w.heap.size w w1) (hl : L.length ≤ 900001) (hC : ∀ W, Below w.heap.size w W → W.cell? ⟨cq, 0, none⟩ = some vp ∧ StrsAt W vp ps) :
    Calls Tryz.prog 157 #[v1, .func (.func 158) #[] #[.pointer (some ⟨cq, 0, none⟩)]] w1 fun E w' => ∃ v', E = .returned v' ∧ StrsUp w.heap.size w' v' (L.filter fun q => !hasB ps q) ∧ Below w.heap.size w w' := by
  rcases hro with ⟨rfl, rfl⟩ | ⟨g, rfl, hg, hbg⟩
  · exact (del_nilO cq w1).mono fun E w' ⟨he, hw⟩ => ⟨_, he, strsUp_nil _ _ _, by subst hw; exact hb⟩
  · refine (delO_row w.heap.size g L.length cq L (hasB ps) _ w1 hg hbg (delSt_start (hasB ps) hbg) (Nat.le_refl _) (by unfold maxLen; omega) (by omega) fun W x hW hx => ?_).mono ?_
    · have hbW := below_grownBy hb hW hb.size hg
      exact owned1_calls cq vp ps x W (hC W hbW).1 (hC W hbW).2
    · rintro E w2 ⟨v2, rfl, ho, hgr⟩
      exact ⟨v2, rfl, row_strsUp ho (Nat.le_trans (List.length_filter_le _ _) (by omega)), below_grownBy hb hgr hb.size hg⟩
end Go.Proofs.YtpbbhjifgaeklaaGreatDoor

namespace Go.Proofs.YtpbbhjifgaeklaaGreatDoor
open Go Go.RowKit Go.Maps

def sortB (ps : List ByteArray) : List ByteArray := ((ps.map fun s => s.data.toList).mergeSort fun x y => decide (x ≤ y)).map fun l => ⟨l.toArray⟩
theorem sortB_perm (ps : List ByteArray) : (sortB ps).Perm ps := by
  have h := (List.mergeSort_perm (ps.map fun s => s.data.toList) fun x y => decide (x ≤ y)).map fun l => (⟨l.toArray⟩ : ByteArray)
  rw [List.map_map] at h
  have e : ps.map ((fun l => (⟨l.toArray⟩ : ByteArray)) ∘ fun s => s.data.toList) = ps := by
    conv => rhs; rw [← List.map_id ps]
    exact List.map_congr_left fun s _ => by cases s; simp
  rw [e] at h
  exact h
theorem sortB_len (ps : List ByteArray) : (sortB ps).length = ps.length := (sortB_perm ps).length_eq
theorem perm_sum {l L : List Nat} (h : l.Perm L) : l.sum = L.sum := by
  induction h with
  | nil => rfl
  | cons x _ ih => simp [ih]
  | swap x y l => simp; omega
  | trans _ _ a b => exact a.trans b
theorem joinP_sum : ∀ l : List (List UInt8), (VP.joinP [10] l).length + (if l = [] then 0 else 1) = (l.map fun s => s.length + 1).sum
  | [] => rfl
  | [x] => by simp [VP.joinP]
  | x :: y :: r => by
    have := joinP_sum (y :: r)
    rw [show VP.joinP [10] (x :: y :: r) = x ++ ([10] ++ VP.joinP [10] (y :: r)) from rfl, List.length_append, List.length_append]
    simp at this ⊢
    omega
def sumB (l : List ByteArray) : Nat := (l.map fun s => s.size + 1).sum
theorem lines_sum (l : List ByteArray) : (linesT l).size + (if l = [] then 0 else 1) = sumB l := by
  have := joinP_sum (l.map (·.data.toList))
  rw [size_eq_length]
  unfold sumB
  have e : (l.map (·.data.toList)).map (fun s => s.length + 1) = l.map fun s => s.size + 1 := by
    rw [List.map_map]
    exact List.map_congr_left fun s _ => by rw [size_eq_length]; rfl
  rw [e] at this
  rw [← this]
  show (VP.joinP [10] (l.map (·.data.toList))).length + _ = _
  cases l <;> simp
theorem lines_sort (l : List ByteArray) : (linesT (sortB l)).size = (linesT l).size := by
  have h := sortB_perm l
  have h1 := lines_sum l
  have h2 := lines_sum (sortB l)
  have h3 : sumB (sortB l) = sumB l := perm_sum (h.map _)
  have h4 : sortB l = [] ↔ l = [] := ⟨fun e => by rw [e] at h; exact h.nil_eq.symm, fun e => by rw [e] at h; rw [e]; exact h.eq_nil⟩
  by_cases hl : l = []
  · rw [if_pos hl] at h1
    rw [if_pos (h4.2 hl)] at h2
    omega
  · rw [if_neg hl] at h1
    rw [if_neg fun e => hl (h4.1 e)] at h2
    omega
theorem lines_app (a b : List ByteArray) : (linesT (a ++ b)).size ≤ (linesT a).size + (linesT b).size + 2 := by
  have h1 := lines_sum a
  have h2 := lines_sum b
  have h3 := lines_sum (a ++ b)
  have h4 : sumB (a ++ b) = sumB a + sumB b := by unfold sumB; rw [List.map_append, List.sum_append]
  split at h1 <;> split at h2 <;> omega

theorem sort_row (d B : Nat) (v : Value) (L : List ByteArray) (w : World) (h : RowD d B w v L) (hl : L.length ≤ 2000000) :
    Calls Tryz.prog 159 #[v] w fun E W => E = .returned (.tuple #[]) ∧ StrsAt W v (sortB L) ∧ w.grownBy W v.ownBlock := by
  rcases h.1.2 with ⟨rfl, he⟩ | ⟨g, cap, cur, rfl, hB, hb, h1, h2, h3, h4⟩
  · have hL : L = [] := by
      exact List.eq_nil_of_length_eq_zero he
    subst hL
    refine (Tryz.slices_Sort_string_none none 0 w).mono ?_
    rintro E W ⟨he, hw⟩
    subst hw
    exact ⟨he, by rw [show sortB [] = [] from (sortB_perm []).eq_nil]; exact SlC.nil _ _ _, rfl, rfl, rfl, Nat.le_refl _, fun _ _ _ => rfl⟩
  · have e1 : (L.map fun s => s.data.toList).map encStr = L.flatMap strC := by
      rw [flat_strs, List.map_map]
      exact List.map_congr_left fun s _ => by cases s; simp [encStr]
    have hlen : (L.map fun s => s.data.toList).length = L.length := List.length_map _
    have hH := holds_of_block (ss := L.map fun s => s.data.toList) hb (by rw [e1, hlen]; simpa using h4)
    refine ((hlen ▸ Tryz.slices_Sort_string g 0 cap (L.map fun s : ByteArray => s.data.toList) w hH (Array.getElem?_eq_some_iff.1 hb).1 (by rw [hlen]; omega))).mono ?_
    rintro E W ⟨he, n, os, hw⟩
    subst hw
    have ho := ownsRow_sorted (w := w) (n := n) (os := os) (ss := L.map fun s => s.data.toList) (ts := (L.map fun s => s.data.toList).mergeSort fun x y => decide (x ≤ y)) (List.length_mergeSort _) hB hb (by rw [hlen]; exact h1) h2 h3
    have e2 : ((L.map fun s => s.data.toList).mergeSort fun x y => decide (x ≤ y)).map encStr = (sortB L).flatMap strC := by
      rw [flat_strs]
      unfold sortB
      rw [List.map_map]
      exact List.map_congr_left fun s _ => rfl
    rw [e2, hlen, ← sortB_len L] at ho
    refine ⟨he, ?_, grownBy_sorted _⟩
    have := (row_strsUp ho (by rw [sortB_len]; omega)).1
    rwa [sortB_len] at this
end Go.Proofs.YtpbbhjifgaeklaaGreatDoor

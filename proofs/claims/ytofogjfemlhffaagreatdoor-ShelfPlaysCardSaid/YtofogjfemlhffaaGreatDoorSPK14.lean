/- The shelf's small calls: Read, Paths, get, keeps, gone, comes, set. · The shelf's calls: Paths, get, comes, set. -/
import Derived.Test.YtofogjfemlhffaaGreatDoorSPK11
import Derived.Test.YtofogjfemlhffaaGreatDoorSPK13
namespace Go.Proofs.YtofogjfemlhffaaGreatDoor
open Go Go.RowKit Go.Maps

def SDone (sh d : Nat) (r : Int × Dk) (w : World) (E : Ending) (w' : World) : Prop := E = .returned (errV r.1) ∧ ShAt w' sh d r.2 ∧ Off d w w'
theorem errV_0 : errV 0 = .nilIface := rfl
theorem errV_n {n : Int} (h : n ≠ 0) : errV n = .iface 33 (.int .i64 n) := if_neg h
/-- one call, and behind it another one, if it answered none -/
def thenD (r : Int × Dk) (k : Dk → Int × Dk) : Int × Dk := if r.1 = 0 then k r.2 else r
def keepsD (D : Dk) (f s : ByteArray) : Int × Dk := thenD (writeD D f s) fun D => syncD D f
def goneD (D : Dk) (f : ByteArray) : Int × Dk := if getF D.now f = none then (0, D) else removeD D f
def comesD (D : Dk) (p s : ByteArray) : Int × Dk := thenD (keepsD D (cmP ++ p) s) fun D => moveD D (cmP ++ p) (thP ++ p)
def linesT (l : List ByteArray) : ByteArray := ⟨(VP.joinP [10] (l.map (·.data.toList))).toArray⟩
def setD (D : Dk) (n : ByteArray) (l : List ByteArray) : Int × Dk := if l = [] then goneD D (owP ++ n) else thenD (keepsD D (cwP ++ n) (linesT l)) fun D => moveD D (cwP ++ n) (owP ++ n)

theorem thenD_ok {r : Int × Dk} {k : Dk → Int × Dk} (h : DkOk r.2) (hk : ∀ D, DkOk D → DkOk (k D).2) : DkOk (thenD r k).2 := by
  unfold thenD
  split
  · exact hk _ h
  · exact h
theorem thenD_fit {X : Nat} {r : Int × Dk} {k : Dk → Int × Dk} (h : FitD X r.2) (hk : ∀ D, FitD X D → FitD X (k D).2) : FitD X (thenD r k).2 := by
  unfold thenD
  split
  · exact hk _ h
  · exact h
theorem keepsD_ok {D : Dk} (h : DkOk D) (f s : ByteArray) : DkOk (keepsD D f s).2 := thenD_ok (writeD_ok h f s) fun _ h => syncD_ok h f
theorem keepsD_fit {X : Nat} {D : Dk} (h : FitD X D) (f s : ByteArray) (hs : s.size ≤ X) : FitD X (keepsD D f s).2 := thenD_fit (writeD_fit h f s hs) fun _ h => syncD_fit h f
theorem goneD_ok {D : Dk} (h : DkOk D) (f : ByteArray) : DkOk (goneD D f).2 := by
  unfold goneD; split
  · exact h
  · exact removeD_ok h f
theorem goneD_fit {X : Nat} {D : Dk} (h : FitD X D) (f : ByteArray) : FitD X (goneD D f).2 := by
  unfold goneD; split
  · exact h
  · exact removeD_fit h f
theorem comesD_ok {D : Dk} (h : DkOk D) (p s : ByteArray) : DkOk (comesD D p s).2 := thenD_ok (keepsD_ok h _ s) fun _ h => moveD_ok h _ _
theorem comesD_fit {X : Nat} {D : Dk} (h : FitD X D) (p s : ByteArray) (hs : s.size ≤ X) : FitD X (comesD D p s).2 := thenD_fit (keepsD_fit h _ s hs) fun _ h => moveD_fit h _ _
theorem setD_ok {D : Dk} (h : DkOk D) (n : ByteArray) (l : List ByteArray) : DkOk (setD D n l).2 := by
  unfold setD; split
  · exact goneD_ok h _
  · exact thenD_ok (keepsD_ok h _ _) fun _ h => moveD_ok h _ _
theorem setD_fit {X : Nat} {D : Dk} (h : FitD X D) (n : ByteArray) (l : List ByteArray) (hs : (linesT l).size ≤ X) : FitD X (setD D n l).2 := by
  unfold setD; split
  · exact goneD_fit h _
  · exact thenD_fit (keepsD_fit h _ _ hs) fun _ h => moveD_fit h _ _

theorem cat_size (a b : ByteArray) : (a ++ b).size = a.size + b.size := ByteArray.size_append

/-! Read -/
set_option maxRecDepth 100000 in
theorem shread_calls (sh d : Nat) (D : Dk) (p : ByteArray) (w : World) (h : ShAt w sh d D) (hp : p.size ≤ 1000) : Calls Tryz.prog 47 #[.pointer (some ⟨sh, 0, none⟩), .string p] w fun E w' => E = .returned (readV D (thP ++ p)) ∧ w = w' := by
  have c0 := h.c
  have hsz : (thP ++ p).size ≤ 1000000 := by rw [cat_size]; show 2 + _ ≤ _; omega
  have g : ¬ 9223372036854775807 < 2 + p.size := by omega
  have C := Lib.hid (dread_calls d D (thP ++ p) w h.dk hsz)
  unfold readV at C ⊢
  clear h hp hsz
  rcases hg : getF D.now (thP ++ p) with _ | s
  all_goals
    rw [hg] at C
    simp only at C ⊢
    unfold thP at C
    clear hg
    go_enter Tryz.func47, Tryz.ntmps47
    go_wp2_with fail
    refine C.out.mono ?_
    rintro E w1 ⟨rfl, rfl⟩
    go_wp2_with fail
    go_ret2
    exact ⟨rfl, rfl⟩

/-! keeps, gone -/
set_option maxRecDepth 100000 in
theorem keeps_calls (sh d : Nat) (D : Dk) (f s : ByteArray) (w : World) (h : ShAt w sh d D) (hk : DkOk D) (hf : f.size ≤ 1000000) (hs : s.size ≤ 1000000) : Calls Tryz.prog 35 #[.pointer (some ⟨sh, 0, none⟩), .string f, .string s] w (SDone sh d (keepsD D f s) w) := by
  have c0 := h.c
  have C := Lib.hid (dwrite_calls d D f s w h.dk hk hf hs)
  unfold DiskDone at C
  have C2 := Lib.hid (fun (W : World) (hd : DiskAt W d (writeD D f s).2) => dsync_calls d (writeD D f s).2 f W hd (writeD_ok hk f s) hf)
  unfold DiskDone at C2
  have H := Lib.hid h
  have F := Lib.hid (show keepsD D f s = if (writeD D f s).1 = 0 then syncD (writeD D f s).2 f else writeD D f s from rfl)
  obtain ⟨r1, hr1⟩ : ∃ r, writeD D f s = r := ⟨_, rfl⟩
  rw [hr1] at C C2 F
  obtain ⟨n1, D1⟩ := r1
  simp only at C C2 F
  obtain ⟨n2, D2, hr2⟩ : ∃ n D', syncD D1 f = (n, D') := ⟨_, _, rfl⟩
  rw [hr2] at C2 F
  simp only at C2
  clear h hk hf hs hr1 hr2
  go_enter Tryz.func35, Tryz.ntmps35
  go_wp2_with fail
  refine C.out.mono ?_
  rintro E w1 ⟨rfl, hd, ho⟩
  have H1 := Lib.hid (H.out.go ho hd)
  have HO := Lib.hid ho
  clear hd ho C c0
  by_cases hn : n1 = 0
  · subst hn
    rw [errV_0]
    rw [if_pos rfl] at F
    have c1 := H1.out.c
    go_wp2_with fail
    refine (C2.out _ H1.out.dk).mono ?_
    rintro E w2 ⟨rfl, hd, ho⟩
    have H2 := Lib.hid (H1.out.go ho hd)
    have HO2 := Lib.hid (HO.out.trans ho)
    clear hd ho C2 c1
    obtain ⟨ev, hev⟩ : ∃ ev, errV n2 = ev := ⟨_, rfl⟩
    rw [hev]
    have HEV := Lib.hid hev
    clear hev
    go_wp2_with fail
    go_ret
    unfold SDone
    rw [F.out]
    exact ⟨by show _ = Ending.returned (errV n2); rw [HEV.out]; rfl, H2.out, HO2.out⟩
  · rw [errV_n hn]
    have HN := Lib.hid hn
    rw [if_neg hn] at F
    clear hn
    go_wp2_with fail
    go_ret
    unfold SDone
    rw [F.out]
    exact ⟨by show _ = Ending.returned (errV n1); rw [errV_n HN.out]; rfl, H1.out, HO.out⟩

set_option maxRecDepth 100000 in
theorem gone_calls (sh d : Nat) (D : Dk) (f : ByteArray) (w : World) (h : ShAt w sh d D) (hk : DkOk D) (hf : f.size ≤ 1000000) : Calls Tryz.prog 36 #[.pointer (some ⟨sh, 0, none⟩), .string f] w (SDone sh d (goneD D f) w) := by
  have c0 := h.c
  have C := Lib.hid (dread_calls d D f w h.dk hf)
  have H := Lib.hid h
  cases hg : getF D.now f with
  | none =>
    have F := Lib.hid (show goneD D f = (0, D) from if_pos hg)
    unfold readV at C
    rw [hg] at C
    simp only at C
    clear h hk hf hg
    go_enter Tryz.func36, Tryz.ntmps36
    go_wp2_with fail
    refine C.out.mono ?_
    rintro E w1 ⟨rfl, rfl⟩
    go_wp2_with fail
    go_ret
    unfold SDone
    rw [F.out]
    exact ⟨rfl, H.out, Off.refl _ _⟩
  | some s =>
    have F := Lib.hid (show goneD D f = removeD D f from if_neg (by rw [hg]; simp))
    unfold readV at C
    rw [hg] at C
    simp only at C
    have C2 := Lib.hid (dremove_calls d D f w h.dk hk hf)
    unfold DiskDone at C2
    obtain ⟨n2, D2, hr2⟩ : ∃ n D', removeD D f = (n, D') := ⟨_, _, rfl⟩
    rw [hr2] at C2 F
    simp only at C2
    clear h hk hf hg hr2
    obtain ⟨ev, hev⟩ : ∃ ev, errV n2 = ev := ⟨_, rfl⟩
    rw [hev] at C2
    have HEV := Lib.hid hev
    clear hev
    go_enter Tryz.func36, Tryz.ntmps36
    go_wp2_with fail
    refine C.out.mono ?_
    rintro E w1 ⟨rfl, rfl⟩
    go_wp2_with fail
    refine C2.out.mono ?_
    rintro E w2 ⟨rfl, hd, ho⟩
    have H2 := Lib.hid (H.out.go ho hd)
    have HO := Lib.hid ho
    clear hd ho C2 C c0
    go_wp2_with fail
    go_ret
    unfold SDone
    rw [F.out]
    exact ⟨by show _ = Ending.returned (errV n2); rw [HEV.out]; rfl, H2.out, HO.out⟩
end Go.Proofs.YtofogjfemlhffaaGreatDoor

namespace Go.Proofs.YtofogjfemlhffaaGreatDoor
open Go Go.RowKit Go.Maps

/-! get -/
/-- a pointer to a text of its own, or nil -/
def PtrAt (B : Nat) (W : World) (v : Value) (o : Option ByteArray) : Prop := match o with | none => v = .pointer none | some s => ∃ g, v = .pointer (some ⟨g, 0, none⟩) ∧ B ≤ g ∧ W.cell? ⟨g, 0, none⟩ = some (.string s)
theorem PtrAt.below {B : Nat} {W W' : World} {v : Value} {o : Option ByteArray} (h : PtrAt B W v o) (hb : Below W.heap.size W W') : PtrAt B W' v o := by
  cases o with
  | none => exact h
  | some s =>
    obtain ⟨g, hv, hg, hc⟩ := h
    exact ⟨g, hv, hg, kept hb hc⟩
set_option maxRecDepth 100000 in
theorem shget_calls (sh d : Nat) (D : Dk) (f : ByteArray) (w : World) (h : ShAt w sh d D) (hf : f.size ≤ 1000000) : Calls Tryz.prog 33 #[.pointer (some ⟨sh, 0, none⟩), .string f] w fun E w' => ∃ v, E = .returned v ∧ PtrAt w.heap.size w' v (getF D.now f) ∧ Below w.heap.size w w' := by
  have c0 := h.c
  have C := Lib.hid (dread_calls d D f w h.dk hf)
  unfold readV at C
  cases hg : getF D.now f with
  | none =>
    rw [hg] at C
    simp only at C
    have HB := Lib.hid (below_alloc w (.cells #[.string ⟨#[]⟩] 9))
    clear h hf hg
    go_enter Tryz.func33, Tryz.ntmps33
    go_wp2_with fail
    refine C.out.mono ?_
    rintro E w1 ⟨rfl, rfl⟩
    go_wp2_with fail
    go_ret
    exact ⟨_, rfl, rfl, HB.out⟩
  | some s =>
    rw [hg] at C
    simp only at C
    have HB := Lib.hid (below_alloc w (.cells #[.string s] 9))
    clear h hf hg
    go_enter Tryz.func33, Tryz.ntmps33
    go_wp2_with fail
    refine C.out.mono ?_
    rintro E w1 ⟨rfl, rfl⟩
    go_wp2_with fail
    go_ret
    exact ⟨_, rfl, ⟨w.heap.size, rfl, Nat.le_refl _, by go_cell⟩, HB.out⟩

/-! comes, set -/
theorem sdone_err {sh d : Nat} {n : Int} {D1 : Dk} {r : Int × Dk} {w W : World} (hr : r = (n, D1)) (hn : n ≠ 0) (h : ShAt W sh d D1) (ho : Off d w W) : SDone sh d r w (.returned (.iface 33 (.int .i64 n))) W := by
  subst hr
  exact ⟨by rw [errV_n hn], h, ho⟩
theorem sdone_ret {sh d : Nat} {n : Int} {D1 : Dk} {r : Int × Dk} {ev : Value} {w W : World} (hr : r = (n, D1)) (he : errV n = ev) (h : ShAt W sh d D1) (ho : Off d w W) : SDone sh d r w (.returned ev) W := by
  subst hr he
  exact ⟨rfl, h, ho⟩

set_option maxRecDepth 100000 in
theorem comes_calls (sh d : Nat) (D : Dk) (p s : ByteArray) (w : World) (h : ShAt w sh d D) (hk : DkOk D) (hp : p.size ≤ 1000) (hs : s.size ≤ 1000000) : Calls Tryz.prog 34 #[.pointer (some ⟨sh, 0, none⟩), .string p, .string s] w (SDone sh d (comesD D p s) w) := by
  have c0 := h.c
  have hz1 : (cmP ++ p).size ≤ 1000000 := by rw [cat_size]; show 2 + _ ≤ _; omega
  have hz2 : (thP ++ p).size ≤ 1000000 := by rw [cat_size]; show 2 + _ ≤ _; omega
  have g : ¬ 9223372036854775807 < 2 + p.size := by omega
  have C := Lib.hid (keeps_calls sh d D (cmP ++ p) s w h hk hz1 hs)
  unfold SDone at C
  have C2 := Lib.hid (fun (W : World) (hd : DiskAt W d (keepsD D (cmP ++ p) s).2) => dmove_calls d (keepsD D (cmP ++ p) s).2 (cmP ++ p) (thP ++ p) W hd (keepsD_ok hk _ s) hz1 hz2)
  unfold DiskDone at C2
  have H := Lib.hid h
  have F := Lib.hid (show comesD D p s = if (keepsD D (cmP ++ p) s).1 = 0 then moveD (keepsD D (cmP ++ p) s).2 (cmP ++ p) (thP ++ p) else keepsD D (cmP ++ p) s from rfl)
  obtain ⟨r1, hr1⟩ : ∃ r, keepsD D (cmP ++ p) s = r := ⟨_, rfl⟩
  rw [hr1] at C C2 F
  obtain ⟨n1, D1⟩ := r1
  simp only at C C2 F
  obtain ⟨n2, D2, hr2⟩ : ∃ n D', moveD D1 (cmP ++ p) (thP ++ p) = (n, D') := ⟨_, _, rfl⟩
  rw [hr2] at C2 F
  simp only at C2
  unfold cmP at C C2
  unfold thP at C2
  clear h hk hp hs hr1 hr2 hz1 hz2
  go_enter Tryz.func34, Tryz.ntmps34
  go_wp2_with fail
  refine C.out.mono ?_
  rintro E w1 ⟨rfl, h1, ho⟩
  have H1 := Lib.hid h1
  have HO := Lib.hid ho
  clear h1 ho C c0
  by_cases hn : n1 = 0
  · subst hn
    rw [errV_0]
    rw [if_pos rfl] at F
    have c1 := H1.out.c
    go_wp2_with fail
    refine (C2.out _ H1.out.dk).mono ?_
    rintro E w2 ⟨rfl, hd, ho⟩
    have H2 := Lib.hid (H1.out.go ho hd)
    have HO2 := Lib.hid (HO.out.trans ho)
    clear hd ho C2 c1
    obtain ⟨ev, hev⟩ : ∃ ev, errV n2 = ev := ⟨_, rfl⟩
    rw [hev]
    have HEV := Lib.hid hev
    clear hev
    go_wp2_with fail
    go_ret
    exact sdone_ret F.out HEV.out H2.out HO2.out
  · rw [errV_n hn]
    have HN := Lib.hid hn
    rw [if_neg hn] at F
    clear hn
    go_wp2_with fail
    go_ret
    exact sdone_err F.out HN.out H1.out HO.out

set_option maxHeartbeats 1000000 in
set_option maxRecDepth 100000 in
theorem set_calls (sh d : Nat) (D : Dk) (n : ByteArray) (v : Value) (l : List ByteArray) (w : World) (h : ShAt w sh d D) (hk : DkOk D) (hn : n.size ≤ 1000) (hv : StrsAt w v l) (hl : (linesT l).size ≤ 1000000) (hm : l.length ≤ 1000000) : Calls Tryz.prog 41 #[.pointer (some ⟨sh, 0, none⟩), .string n, v] w (SDone sh d (setD D n l) w) := by
  have c0 := h.c
  have hz0 : (owP ++ n).size ≤ 1000000 := by rw [cat_size]; show 2 + _ ≤ _; omega
  have hz1 : (cwP ++ n).size ≤ 1000000 := by rw [cat_size]; show 4 + _ ≤ _; omega
  have g : ¬ 9223372036854775807 < 2 + n.size := by omega
  have g' : ¬ 9223372036854775807 < 4 + n.size := by omega
  by_cases hne : l = []
  · subst hne
    obtain ⟨A, c, rfl, _⟩ := hv.open
    have F := Lib.hid (show setD D n [] = goneD D (owP ++ n) from if_pos rfl)
    have C := Lib.hid (gone_calls sh d D (owP ++ n) w h hk hz0)
    unfold SDone at C
    obtain ⟨n1, D1, hr1⟩ : ∃ n' D', goneD D (owP ++ n) = (n', D') := ⟨_, _, rfl⟩
    rw [hr1] at C F
    simp only at C
    unfold owP at C
    clear h hk hn hv hl hm hz0 hz1 hr1
    go_enter Tryz.func41, Tryz.ntmps41
    go_wp2_with fail
    refine C.out.mono ?_
    rintro E w1 ⟨rfl, h1, ho⟩
    have H1 := Lib.hid h1
    have HO := Lib.hid ho
    clear h1 ho C c0
    obtain ⟨ev, hev⟩ : ∃ ev, errV n1 = ev := ⟨_, rfl⟩
    rw [hev]
    have HEV := Lib.hid hev
    clear hev
    go_wp2_with fail
    go_ret
    exact sdone_ret F.out HEV.out H1.out HO.out
  · have hj := joinP_eq [10] (l.map (·.data.toList))
    have hlj : (VP.joinP [10] (l.map (·.data.toList))).length ≤ 1000000 := by rw [size_eq_length] at hl; exact hl
    have CJ := call_joinAt w v l ⟨#[10]⟩ hv hne hm (by
      show (Lib.join (l.map (·.data.toList)) [10]).length ≤ 1000000
      rw [hj]; exact hlj)
    have e : (⟨(Lib.join (l.map (·.data.toList)) (⟨#[10]⟩ : ByteArray).data.toList).toArray⟩ : ByteArray) = linesT l := by
      show (⟨(Lib.join (l.map (·.data.toList)) [10]).toArray⟩ : ByteArray) = linesT l
      rw [hj]; rfl
    rw [e] at CJ
    have CJ := Lib.hid CJ
    have F := Lib.hid (show setD D n l = if (keepsD D (cwP ++ n) (linesT l)).1 = 0 then moveD (keepsD D (cwP ++ n) (linesT l)).2 (cwP ++ n) (owP ++ n) else keepsD D (cwP ++ n) (linesT l) from if_neg hne)
    have C := Lib.hid (fun (W : World) (hs : ShAt W sh d D) => keeps_calls sh d D (cwP ++ n) (linesT l) W hs hk hz1 hl)
    unfold SDone at C
    have C2 := Lib.hid (fun (W : World) (hd : DiskAt W d (keepsD D (cwP ++ n) (linesT l)).2) => dmove_calls d (keepsD D (cwP ++ n) (linesT l)).2 (cwP ++ n) (owP ++ n) W hd (keepsD_ok hk _ _) hz1 hz0)
    unfold DiskDone at C2
    have H := Lib.hid h
    obtain ⟨r1, hr1⟩ : ∃ r, keepsD D (cwP ++ n) (linesT l) = r := ⟨_, rfl⟩
    rw [hr1] at C C2 F
    obtain ⟨n1, D1⟩ := r1
    simp only at C C2 F
    obtain ⟨n2, D2, hr2⟩ : ∃ n' D', moveD D1 (cwP ++ n) (owP ++ n) = (n', D') := ⟨_, _, rfl⟩
    rw [hr2] at C2 F
    simp only at C2
    obtain ⟨T, hT⟩ : ∃ T, linesT l = T := ⟨_, rfl⟩
    rw [hT] at CJ C
    unfold cwP at C C2
    unfold owP at C2
    obtain ⟨A, c, rfl, _⟩ := hv.open
    have hlen : l.length ≠ 0 := fun e => hne (List.eq_nil_of_length_eq_zero e)
    obtain ⟨len, hlen2⟩ : ∃ len, l.length = len := ⟨_, rfl⟩
    rw [hlen2] at hlen CJ ⊢
    have HF : Hid (setD D n l = if n1 = 0 then (n2, D2) else (n1, D1)) := F
    obtain ⟨R, hR⟩ : ∃ R, setD D n l = R := ⟨_, rfl⟩
    rw [hR] at HF ⊢
    clear F h hk hn hv hl hm hr1 hr2 hz0 hz1 hj hlj e hne hlen2 hT hR
    go_enter Tryz.func41, Tryz.ntmps41
    go_wp2_with fail
    refine CJ.out.mono ?_
    rintro E w0 ⟨rfl, hb⟩
    have H0 := Lib.hid (H.out.keep hb)
    have HB := Lib.hid (Off.of_below (d := d) hb H.out.dk.lt)
    clear hb CJ c0
    go_wp2_with fail
    refine (C.out _ H0.out).mono ?_
    rintro E w1 ⟨rfl, h1, ho⟩
    have H1 := Lib.hid h1
    have HO := Lib.hid (HB.out.trans ho)
    clear h1 ho C H0 HB H
    by_cases hn : n1 = 0
    · subst hn
      rw [errV_0]
      rw [if_pos rfl] at HF
      have c1 := H1.out.c
      go_wp2_with fail
      refine (C2.out _ H1.out.dk).mono ?_
      rintro E w2 ⟨rfl, hd, ho⟩
      have H2 := Lib.hid (H1.out.go ho hd)
      have HO2 := Lib.hid (HO.out.trans ho)
      clear hd ho C2 c1
      obtain ⟨ev, hev⟩ : ∃ ev, errV n2 = ev := ⟨_, rfl⟩
      rw [hev]
      have HEV := Lib.hid hev
      clear hev
      go_wp2_with fail
      go_ret
      exact sdone_ret HF.out HEV.out H2.out HO2.out
    · rw [errV_n hn]
      have HN := Lib.hid hn
      rw [if_neg hn] at HF
      clear hn
      go_wp2_with fail
      go_ret
      exact sdone_err HF.out HN.out H1.out HO.out
end Go.Proofs.YtofogjfemlhffaaGreatDoor

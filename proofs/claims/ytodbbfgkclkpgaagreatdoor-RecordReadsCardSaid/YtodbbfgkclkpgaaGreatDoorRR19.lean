/- stanza.Get, the reference's Get: what a field says. -/
import Derived.Test.YtodbbfgkclkpgaaGreatDoorRR15
import Derived.Test.YtodbbfgkclkpgaaGreatDoorRR18
namespace Go.Proofs.YtodbbfgkclkpgaaGreatDoor
open Go Go.RowKit

/-- what the field of this name says, if there is one -/
def getB (fs : List Fv) (s : ByteArray) : Option ByteArray := (fs.find? fun f => sameN f.n s).map (·.v)
def GetIs (fs : List Fv) (s : ByteArray) (w : World) (E : Ending) (w' : World) : Prop := E = .returned (.tuple #[.string ((getB fs s).getD ⟨#[]⟩), .bool (getB fs s).isSome]) ∧ Below w.heap.size w w'
theorem getB_hit {fs : List Fv} {s : ByteArray} {k : Nat} {f : Fv} (hno : (fs.take k).any (fun g => sameN g.n s) = false) (h : fs[k]? = some f) (hy : sameN f.n s = true) : getB fs s = some f.v := by
  unfold getB
  have hlt := (List.getElem?_eq_some_iff.1 h).1
  have e : fs = fs.take k ++ f :: fs.drop (k + 1) := by
    have h2 := List.getElem?_eq_getElem hlt
    rw [h] at h2
    rw [Option.some.inj h2, ← List.drop_eq_getElem_cons hlt, List.take_append_drop]
  rw [e, List.find?_append, List.find?_eq_none.2 (fun x hx => by
    have := List.any_eq_false.1 hno x hx
    simpa using this)]
  simp [hy]
theorem getB_none {fs : List Fv} {s : ByteArray} (hno : fs.any (fun g => sameN g.n s) = false) : getB fs s = none := by
  unfold getB
  rw [List.find?_eq_none.2 (fun x hx => by
    have := List.any_eq_false.1 hno x hx
    simpa using this)]
  rfl
theorem getB_size {fs : List Fv} {s : ByteArray} {B : Nat} (h : ∀ f ∈ fs, f.v.size ≤ B) : ((getB fs s).getD ⟨#[]⟩).size ≤ B := by
  unfold getB
  cases hf : fs.find? fun f => sameN f.n s with
  | none => exact Nat.zero_le _
  | some f => exact h f (List.mem_of_find?_eq_some hf)
/-- a name, and it in small letters, are the same to Get -/
theorem getB_small {fs : List Fv} {s t : ByteArray} (h : VP.smallP s.data.toList = VP.smallP t.data.toList) : getB fs s = getB fs t := by
  unfold getB sameN
  rw [h]
set_option maxHeartbeats 2000000 in
set_option maxRecDepth 100000 in
theorem get_calls (v : Value) (fs : List Fv) (s : ByteArray) (w : World) (h : FieldsAt w v fs) (hs : ∀ f ∈ fs, f.n.size ≤ 1000000) (hz : s.size ≤ 1000000) : Calls Tryz.prog 95 #[v, .string s] w (GetIs fs s w) := by
  obtain ⟨A, c, hv, hc, hm, hr⟩ := h.open
  subst hv
  obtain ⟨len, hlen⟩ : ∃ len, fs.length = len := ⟨_, rfl⟩
  have HL := Lib.hid hlen
  have HR := Lib.hid hr
  have HS := Lib.hid hs
  have CN := Lib.hid (fun (W : World) => small_calls s W hz)
  obtain ⟨sn, hsn⟩ : ∃ x, smallB s = x := ⟨_, rfl⟩
  have HSN := Lib.hid hsn
  have CN' : Hid (∀ W : World, Calls Tryz.prog 132 #[.string s] W fun E w' => E = .returned (.string sn) ∧ Below W.heap.size W w') := by rw [← hsn]; exact CN
  rw [hlen] at hc hm ⊢
  clear hlen hr hs h hz CN hsn
  go_enter Tryz.func95, Tryz.ntmps95
  go_wp2_with fail
  go_loopw [10] (fun i wr => ∃ k : Nat, k ≤ len ∧ i = .int .i64 k ∧ Hid ((fs.take k).any (fun g => sameN g.n s) = false) ∧ Below w.heap.size w wr) (fun i _ => len - (intOf i).toNat)
  case atStart => exact ⟨0, Nat.zero_le _, rfl, Lib.hid rfl, Below.refl _ _⟩
  case round =>
    obtain ⟨k, hk, rfl, hno, hB⟩ := hrel
    by_cases hlt : k < len
    · have hne : fs ≠ [] := by
        intro e
        have := HL.out
        rw [e] at this
        simp at this
        omega
      obtain ⟨f, ht⟩ : ∃ f, fs[k]? = some f := ⟨fs[k]'(by have := HL.out; omega), List.getElem?_eq_getElem _⟩
      obtain ⟨b, off, rfl, hi⟩ := HR.out hne
      obtain ⟨c0, c1⟩ := hi k f ht
      replace c0 := kept hB c0
      replace c1 := kept hB c1
      have HT := Lib.hid ht
      have CF := Lib.hid (fun (W : World) => small_calls f.n W (HS.out f (List.mem_of_getElem? ht)))
      obtain ⟨sf, hsf⟩ : ∃ x, smallB f.n = x := ⟨_, rfl⟩
      have CF' : Hid (∀ W : World, Calls Tryz.prog 132 #[.string f.n] W fun E w' => E = .returned (.string sf) ∧ Below W.heap.size W w') := by rw [← hsf]; exact CF
      obtain ⟨bs, hbs⟩ : ∃ x, sameN f.n s = x := ⟨_, rfl⟩
      have HBS := Lib.hid hbs
      have heq : (sf.toList == sn.toList) = bs := by rw [← hsf, ← HSN.out, smallB_eq]; exact hbs
      have ha := below_alloc wr (.cells #[.string f.n, .string f.v] 69)
      have d1 : (wr.alloc (.cells #[.string f.n, .string f.v] 69)).cell? ⟨wr.heap.size, 1, none⟩ = some (.string f.v) := by go_cell
      have HBa := Lib.hid (step_below hB ha)
      clear hi hne ht CF hsf hbs ha hB
      go_wp2_with fail
      refine (CF'.out _).mono ?_
      rintro E w1 ⟨rfl, hb1⟩
      have e1 := kept hb1 d1
      have HB1 := Lib.hid (step_below HBa.out hb1)
      clear hb1 d1 CF' c0 c1 HBa
      obtain ⟨mf, hmf⟩ : ∃ mf, wr.heap.size = mf := ⟨_, rfl⟩
      rw [hmf] at e1
      (try rw [hmf])
      clear hmf
      go_wp2_with fail
      refine (CN'.out _).mono ?_
      rintro E w2 ⟨rfl, hb2⟩
      have e2 := kept hb2 e1
      have HB2 := Lib.hid (step_below HB1.out hb2)
      clear hb2 e1 HB1
      cases bs with
      | true =>
        have HG := Lib.hid (getB_hit hno.out HT.out HBS.out)
        go_wp2_with fail
        go_ret2
        exact ⟨by rw [HG.out]; rfl, HB2.out⟩
      | false =>
        go_wp2_with fail
        go_roundw
        case rel => exact ⟨k + 1, by omega, by go_num, Lib.hid (any_take_succ hno.out HT.out HBS.out), HB2.out⟩
        case measure => simp [intOf]; omega
    · obtain rfl : k = len := by omega
      have HG := Lib.hid (getB_none (any_done (by have := hno.out; rw [← HL.out] at this; exact this)))
      go_wp2_with fail
      go_ret2
      exact ⟨by rw [HG.out]; rfl, hB⟩

set_option maxHeartbeats 2000000 in
set_option maxRecDepth 100000 in
theorem refGet_calls (v : Value) (fs : List Fv) (s : ByteArray) (w : World) (h : FieldsAt w v fs) (hs : ∀ f ∈ fs, f.n.size ≤ 1000000) (hz : s.size ≤ 1000000) : Calls Tryz.prog 89 #[v, .string s] w (GetIs fs s w) := by
  obtain ⟨A, c, hv, hc, hm, hr⟩ := h.open
  subst hv
  obtain ⟨len, hlen⟩ : ∃ len, fs.length = len := ⟨_, rfl⟩
  have HL := Lib.hid hlen
  have HR := Lib.hid hr
  have HS := Lib.hid hs
  have CN := Lib.hid (fun (W : World) => refSmall_calls s W hz)
  obtain ⟨sn, hsn⟩ : ∃ x, smallB s = x := ⟨_, rfl⟩
  have HSN := Lib.hid hsn
  have CN' : Hid (∀ W : World, Calls Tryz.prog 125 #[.string s] W fun E w' => E = .returned (.string sn) ∧ Below W.heap.size W w') := by rw [← hsn]; exact CN
  rw [hlen] at hc hm ⊢
  clear hlen hr hs h hz CN hsn
  go_enter Tryz.func89, Tryz.ntmps89
  go_wp2_with fail
  go_loopw [10] (fun i wr => ∃ k : Nat, k ≤ len ∧ i = .int .i64 k ∧ Hid ((fs.take k).any (fun g => sameN g.n s) = false) ∧ Below w.heap.size w wr) (fun i _ => len - (intOf i).toNat)
  case atStart => exact ⟨0, Nat.zero_le _, rfl, Lib.hid rfl, Below.refl _ _⟩
  case round =>
    obtain ⟨k, hk, rfl, hno, hB⟩ := hrel
    by_cases hlt : k < len
    · have hne : fs ≠ [] := by
        intro e
        have := HL.out
        rw [e] at this
        simp at this
        omega
      obtain ⟨f, ht⟩ : ∃ f, fs[k]? = some f := ⟨fs[k]'(by have := HL.out; omega), List.getElem?_eq_getElem _⟩
      obtain ⟨b, off, rfl, hi⟩ := HR.out hne
      obtain ⟨c0, c1⟩ := hi k f ht
      replace c0 := kept hB c0
      replace c1 := kept hB c1
      have HT := Lib.hid ht
      have CF := Lib.hid (fun (W : World) => refSmall_calls f.n W (HS.out f (List.mem_of_getElem? ht)))
      obtain ⟨sf, hsf⟩ : ∃ x, smallB f.n = x := ⟨_, rfl⟩
      have CF' : Hid (∀ W : World, Calls Tryz.prog 125 #[.string f.n] W fun E w' => E = .returned (.string sf) ∧ Below W.heap.size W w') := by rw [← hsf]; exact CF
      obtain ⟨bs, hbs⟩ : ∃ x, sameN f.n s = x := ⟨_, rfl⟩
      have HBS := Lib.hid hbs
      have heq : (sf.toList == sn.toList) = bs := by rw [← hsf, ← HSN.out, smallB_eq]; exact hbs
      have ha := below_alloc wr (.cells #[.string f.n, .string f.v] 69)
      have d1 : (wr.alloc (.cells #[.string f.n, .string f.v] 69)).cell? ⟨wr.heap.size, 1, none⟩ = some (.string f.v) := by go_cell
      have HBa := Lib.hid (step_below hB ha)
      clear hi hne ht CF hsf hbs ha hB
      go_wp2_with fail
      refine (CF'.out _).mono ?_
      rintro E w1 ⟨rfl, hb1⟩
      have e1 := kept hb1 d1
      have HB1 := Lib.hid (step_below HBa.out hb1)
      clear hb1 d1 CF' c0 c1 HBa
      obtain ⟨mf, hmf⟩ : ∃ mf, wr.heap.size = mf := ⟨_, rfl⟩
      rw [hmf] at e1
      (try rw [hmf])
      clear hmf
      go_wp2_with fail
      refine (CN'.out _).mono ?_
      rintro E w2 ⟨rfl, hb2⟩
      have e2 := kept hb2 e1
      have HB2 := Lib.hid (step_below HB1.out hb2)
      clear hb2 e1 HB1
      cases bs with
      | true =>
        have HG := Lib.hid (getB_hit hno.out HT.out HBS.out)
        go_wp2_with fail
        go_ret2
        exact ⟨by rw [HG.out]; rfl, HB2.out⟩
      | false =>
        go_wp2_with fail
        go_roundw
        case rel => exact ⟨k + 1, by omega, by go_num, Lib.hid (any_take_succ hno.out HT.out HBS.out), HB2.out⟩
        case measure => simp [intOf]; omega
    · obtain rfl : k = len := by omega
      have HG := Lib.hid (getB_none (any_done (by have := hno.out; rw [← HL.out] at this; exact this)))
      go_wp2_with fail
      go_ret2
      exact ⟨by rw [HG.out]; rfl, hB⟩
end Go.Proofs.YtodbbfgkclkpgaaGreatDoor

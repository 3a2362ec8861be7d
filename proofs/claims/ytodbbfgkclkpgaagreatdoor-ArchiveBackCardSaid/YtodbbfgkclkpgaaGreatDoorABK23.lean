/- A package's bytes: plain; the builder, when something else is made; stanza.Print. · stanza.Get, the reference's Get: what a field says. -/
import Derived.Test.YtodbbfgkclkpgaaGreatDoorABK18
import Derived.Test.YtodbbfgkclkpgaaGreatDoorABK22
import Derived.Test.YtodbbfgkclkpgaaGreatDoorABK17
import Derived.Lib.OthersKept
import Derived.Shelf.Strings.BuilderK
import Derived.Test.YtodbbfgkclkpgaaGreatDoorABK15
namespace Go.Proofs.YtodbbfgkclkpgaaGreatDoor
open Go Go.RowKit

def itoaS (n : Int) : ByteArray := ⟨(Lib.itoa n).toArray⟩
/-- a file, as it is written -/
def fileS (f : Fv) : ByteArray := ((((f.n ++ ⟨#[32]⟩) ++ itoaS f.v.size) ++ ⟨#[10]⟩) ++ f.v) ++ ⟨#[10]⟩
def fileL (f : Fv) : List UInt8 := (fileS f).data.toList
def textS (p : Pv) : List UInt8 := VP.textL ((fldB p).map Fv.fd)
def bodyL (p : Pv) : List UInt8 := textS p ++ ([10] ++ p.fi.flatMap fileL)
def arcOk (p : Pv) : Bool := archB p && (stanzaB (fldB p) && decide ((bodyL p).length ≤ 4000))
def arcE (p : Pv) : Int := if archB p then (if stanzaB (fldB p) && decide ((bodyL p).length ≤ 4000) then 0 else 4) else 1
def arcS (p : Pv) : ByteArray := if arcOk p then ⟨(bodyL p).toArray⟩ else ⟨#[]⟩
def ArcWIs (p : Pv) (w : World) (E : Ending) (w' : World) : Prop := E = .returned (.tuple #[.string (arcS p), errV (arcE p)]) ∧ Below w.heap.size w w'
theorem arc_no {p : Pv} (h : archB p = false) : arcE p = 1 ∧ arcS p = ⟨#[]⟩ := by
  unfold arcE arcS arcOk; rw [h]; exact ⟨rfl, rfl⟩
theorem arc_limit {p : Pv} (h : archB p = true) (hs : stanzaB (fldB p) = false) : arcE p = 4 ∧ arcS p = ⟨#[]⟩ := by
  unfold arcE arcS arcOk; rw [h, hs]; exact ⟨rfl, rfl⟩
theorem arc_long {p : Pv} (h : archB p = true) (hl : ¬ (bodyL p).length ≤ 4000) : arcE p = 4 ∧ arcS p = ⟨#[]⟩ := by
  unfold arcE arcS arcOk; rw [h, show decide ((bodyL p).length ≤ 4000) = false from decide_eq_false hl]
  cases stanzaB (fldB p) <;> exact ⟨rfl, rfl⟩
theorem arc_yes {p : Pv} (h : archB p = true) (hs : stanzaB (fldB p) = true) (hl : (bodyL p).length ≤ 4000) : arcE p = 0 ∧ arcS p = ⟨(bodyL p).toArray⟩ := by
  unfold arcE arcS arcOk; rw [h, hs, show decide ((bodyL p).length ≤ 4000) = true from decide_eq_true hl]; exact ⟨rfl, rfl⟩
theorem arch_parts {p : Pv} (h : archB p = true) : saysOk p = true ∧ p.fi.length ≤ 20 := by
  unfold archB at h
  rw [Bool.and_eq_true, Bool.and_eq_true, decide_eq_true_eq] at h
  exact ⟨h.1, h.2.1⟩
theorem fld_limit {p : Pv} (h : saysOk p = true) (hs : stanzaB (fldB p) = false) : fldE p = 4 := by unfold fldE; rw [h, hs]; rfl
theorem fld_fine {p : Pv} (h : saysOk p = true) (hs : stanzaB (fldB p) = true) : fldE p = 0 ∧ fldR p = fldB p := by unfold fldE fldR; rw [h, hs]; exact ⟨rfl, rfl⟩

theorem stanza_full {fs : List Fv} (h : stanzaB fs = true) : RestFull fs ∧ (VP.textL (fs.map Fv.fd)).length ≤ 4000 := by
  unfold stanzaB VP.stanzaP at h
  rw [Bool.and_eq_true, Bool.and_eq_true, decide_eq_true_eq, List.length_map] at h
  exact ⟨FieldsTo.full (fun i hi => VP.allAt_iff.1 h.1.2 i hi), h.2⟩

theorem itoaS_calls (n : Int) (w : World) (hE : Env w) (h0 : -9223372036854775808 ≤ n) (h1 : n ≤ 9223372036854775807) : Calls Tryz.prog 79 #[.int .i64 n] w fun E w' => E = .returned (.string (itoaS n)) ∧ Below w.heap.size w w' :=
  (call_itoa n w hE h0 h1).mono fun E w' ⟨t, he, ht, _, hb⟩ => ⟨by rw [he]; unfold itoaS; rw [← ht, mk_data], hb⟩
theorem itoaS_size (n : Nat) (h : n ≤ 1000) : (itoaS (n : Int)).size ≤ 21 := by
  unfold itoaS
  rw [size_eq_length]
  have := Lib.itoa_length_le (n : Int) (by omega) (by omega)
  exact this

theorem app_size (a b : ByteArray) : (a ++ b).size = a.size + b.size := by
  rw [size_eq_length, append_data, List.length_append, ← size_eq_length, ← size_eq_length]
theorem fileS_size {f : Fv} (hn : f.n.size ≤ 1000) (hv : f.v.size ≤ 1000) : (fileS f).size ≤ 2100 := by
  have h := itoaS_size f.v.size hv
  unfold fileS
  rw [app_size, app_size, app_size, app_size, app_size]
  show f.n.size + 1 + (itoaS f.v.size).size + 1 + f.v.size + 1 ≤ 2100
  omega
theorem files_len (fs : List Fv) (h : ∀ f ∈ fs, f.n.size ≤ 1000 ∧ f.v.size ≤ 1000) : (fs.flatMap fileL).length ≤ fs.length * 2100 := by
  induction fs with
  | nil => simp
  | cons f fs ih =>
    rw [List.flatMap_cons, List.length_append, List.length_cons]
    have h1 := ih (fun g hg => h g (.tail _ hg))
    have h2 := fileS_size (h f (.head _)).1 (h f (.head _)).2
    have h3 : (fileL f).length ≤ 2100 := by unfold fileL; rw [← size_eq_length]; exact h2
    rw [Nat.succ_mul]
    omega
theorem files_drop {fs : List Fv} {k : Nat} {f : Fv} (h : fs[k]? = some f) : (fs.drop k).flatMap fileL = fileL f ++ (fs.drop (k + 1)).flatMap fileL := by
  have hlt := (List.getElem?_eq_some_iff.1 h).1
  rw [List.drop_eq_getElem_cons hlt, List.flatMap_cons]
  rw [List.getElem?_eq_getElem hlt] at h
  rw [Option.some.inj h]

/-- the texts that a file's line is put together from -/
structure Cats (n t v : ByteArray) : Prop where
  a1 : ∀ W : World, (Op.stringOp .add n (⟨#[32]⟩ : ByteArray)).run Tryz.prog W = .ok (.string (n ++ ⟨#[32]⟩)) W
  a2 : ∀ W : World, (Op.stringOp .add (n ++ ⟨#[32]⟩) t).run Tryz.prog W = .ok (.string ((n ++ ⟨#[32]⟩) ++ t)) W
  a3 : ∀ W : World, (Op.stringOp .add ((n ++ ⟨#[32]⟩) ++ t) (⟨#[10]⟩ : ByteArray)).run Tryz.prog W = .ok (.string (((n ++ ⟨#[32]⟩) ++ t) ++ ⟨#[10]⟩)) W
  a4 : ∀ W : World, (Op.stringOp .add (((n ++ ⟨#[32]⟩) ++ t) ++ ⟨#[10]⟩) v).run Tryz.prog W = .ok (.string ((((n ++ ⟨#[32]⟩) ++ t) ++ ⟨#[10]⟩) ++ v)) W
  a5 : ∀ W : World, (Op.stringOp .add ((((n ++ ⟨#[32]⟩) ++ t) ++ ⟨#[10]⟩) ++ v) (⟨#[10]⟩ : ByteArray)).run Tryz.prog W = .ok (.string (((((n ++ ⟨#[32]⟩) ++ t) ++ ⟨#[10]⟩) ++ v) ++ ⟨#[10]⟩)) W
theorem cats {n t v : ByteArray} (hn : n.size ≤ 1000) (ht : t.size ≤ 21) (hv : v.size ≤ 1000) : Cats n t v := by
  have e1 : (⟨#[32]⟩ : ByteArray).size = 1 := rfl
  have e2 : (⟨#[10]⟩ : ByteArray).size = 1 := rfl
  refine ⟨fun W => run_string_add_sum W _ _ ?_, fun W => run_string_add_sum W _ _ ?_, fun W => run_string_add_sum W _ _ ?_, fun W => run_string_add_sum W _ _ ?_, fun W => run_string_add_sum W _ _ ?_⟩
  · rw [e1]; omega
  · rw [app_size, e1]; omega
  · rw [app_size, app_size, e1, e2]; omega
  · rw [app_size, app_size, app_size, e1, e2]; omega
  · rw [app_size, app_size, app_size, app_size, e1, e2]; omega

theorem two_cells {W : World} {g : Nat} {a b : Value} {t : TypeId} {fz : Nat × Nat} (h : W.heap[g]? = some (.cells #[a, b] t fz)) : W.cell? ⟨g, 0, none⟩ = some a ∧ W.cell? ⟨g, 1, none⟩ = some b := by
  unfold World.cell?
  rw [h]
  exact ⟨rfl, rfl⟩

/-! the builder, when something else is made -/
theorem bldAtF_keeps {T e : TypeId} {B b : Nat} {p : Value} {bs : List Value} {W W' : World} (h : Lib.BuilderAtF T e B b p bs W) (hb : Below W.heap.size W W') : Lib.BuilderAtF T e B b p bs W' := by
  have hlt := h.lt
  obtain ⟨hB, v, hv, ho, hne⟩ := h
  refine ⟨hB, v, (hb.block b hlt).trans hv, ho.kept (row := none) ⟨hb.os, hb.tape, hb.output, hb.size, fun k hk _ => hb.block k hk⟩ ?_, hne⟩
  exact Classical.em _
theorem BldAt.keeps {B b : Nat} {l : List UInt8} {W W' : World} (h : BldAt B b l W) (hb : Below W.heap.size W W') : BldAt B b l W' :=
  h.elim (fun x => .inl (bldAtF_keeps x hb)) (fun x => .inr (bldAtF_keeps x hb))
theorem BldAt.lt {B b : Nat} {l : List UInt8} {W : World} (h : BldAt B b l W) : b < W.heap.size := h.elim (fun x => x.lt) (fun x => x.lt)
theorem WroteAt.keeps {w W W' : World} {T l todo : List UInt8} (h : WroteAt w W T l todo) (hb : Below W.heap.size W W') : WroteAt w W' T l todo :=
  ⟨h.eq, h.bld.keeps hb, h.below.trans (hb.mono h.below.size)⟩
theorem WroteAt.writeK {w w1 : World} {T l a todo : List UInt8} (h : WroteAt w w1 T l (a ++ todo)) (s : ByteArray) (hs : s.data.toList = a) (hT : T.length ≤ 100000000000) (g : Nat) (cs : Array Value) (t : TypeId) (fz : Nat × Nat) (hg : w1.heap[g]? = some (.cells cs t fz)) (ht : t ≠ 5) (hne : g ≠ w.heap.size) :
    Calls Tryz.prog 81 #[.pointer (some ⟨w.heap.size, 0, none⟩), .string s] w1 fun e w' => ∃ r, e = .returned r ∧ WroteAt w w' T (l ++ a) todo ∧ w'.heap[g]? = some (.cells cs t fz) := by
  have hl := h.len
  rw [List.length_append] at hl
  have hz : s.size = a.length := by rw [size_eq_length, hs]
  refine (Any.Builder_WriteString_k { Tryz.lays156 with } Tryz.Builder_Extra_156 w.heap.size w.heap.size (Lib.byteCells l) s w1 h.bld (by rw [Lib.byteCells_length]; omega) h.below.size).mono fun e w' ⟨he, hb, hB, ho⟩ => ⟨_, he, ⟨?_, ?_, ?_⟩, ?_⟩
  · rw [List.append_assoc]; exact h.eq
  · unfold BldAt
    rw [← hs, Lib.byteCells_append, ← Lib.strCells_eq]
    exact Or.inr hb
  · exact h.below.trans hB
  · exact ho g _ hg (fun e => hne (by injection e)) (fun c fz' e => ht (by injection e))
theorem bld_len (B b : Nat) (l : List UInt8) (w : World) (h : BldAt B b l w) :
    Calls Tryz.prog 82 #[.pointer (some ⟨b, 0, none⟩)] w fun e w' => e = .returned (.int .i64 l.length) ∧ w = w' :=
  (Tryz.Builder_Len_f B b (Lib.byteCells l) w h).mono fun e w' ⟨he, hw⟩ => ⟨by rw [he, Lib.byteCells_length], hw.symm⟩

set_option maxRecDepth 100000 in
/-- stanza.Print, of fields that may be a stanza -/
theorem stanzaPrint_yes (v : Value) (fs : List Fv) (w : World) (hE : Env w) (h : FieldsAt w v fs) (hs : ∀ f ∈ fs, f.n.size ≤ 1000000 ∧ f.v.size ≤ 1000000) (hy : stanzaB fs = true) :
    Calls Tryz.prog 80 #[v] w fun E w' => E = .returned (.tuple #[.string ⟨(VP.textL (fs.map Fv.fd)).toArray⟩, .nilIface]) ∧ Below w.heap.size w w' := by
  have C1 := Lib.hid (stanza_calls v fs w hE h hs)
  rw [hy] at C1
  obtain ⟨hr, hT⟩ := stanza_full hy
  have C2 := Lib.hid (fun (W : World) (hb : Below w.heap.size w W) => text_calls v fs W (hE.below hb) (h.below hb) hs hr (by omega))
  clear hE h hs hy hr hT
  go_enter Tryz.func80, Tryz.ntmps80
  go_wp2_with fail
  refine C1.out.mono ?_
  rintro E w1 ⟨rfl, hb⟩
  have D := Lib.hid (C2.out w1 hb)
  clear C1 C2
  go_wp2_with fail
  refine D.out.mono ?_
  rintro E w2 ⟨rfl, hb2⟩
  have hB := step_below hb hb2
  clear D hb hb2
  go_wp2_with fail
  go_ret2
  exact ⟨rfl, hB⟩
end Go.Proofs.YtodbbfgkclkpgaaGreatDoor

namespace Go.Proofs.YtodbbfgkclkpgaaGreatDoor
open Go Go.RowKit

/-- what the field of this name says, if there is one -/
def getB (fs : List Fv) (s : ByteArray) : Option ByteArray := (fs.find? fun f => sameN f.n s).map (·.v)
def GetIs (fs : List Fv) (s : ByteArray) (w : World) (E : Ending) (w' : World) : Prop := E = .returned (.tuple #[.string ((getB fs s).getD ⟨#[]⟩), .bool (getB fs s).isSome]) ∧ Below w.heap.size w w'
theorem getB_hit {fs : List Fv} {s : ByteArray} {k : Nat} {f : Fv} (hno : (fs.take k).any (fun g => sameN g.n s) = false) (h : fs[k]? = some f) (hy : sameN f.n s = true) : getB fs s = some f.v := by
  unfold getB
  have hlt := (List.getElem?_eq_some_iff.1 h).1
  have e : fs = fs.take k ++ f :: fs.drop (k + 1) := by
    have h2 := List.getElem?_eq_getElem hlt
    rw [h] at h2
    rw [Option.some.inj h2, ← List.drop_eq_getElem_cons hlt, List.take_append_drop]
  rw [e, List.find?_append, List.find?_eq_none.2 (fun x hx => by
    have := List.any_eq_false.1 hno x hx
    simpa using this)]
  simp [hy]
theorem getB_none {fs : List Fv} {s : ByteArray} (hno : fs.any (fun g => sameN g.n s) = false) : getB fs s = none := by
  unfold getB
  rw [List.find?_eq_none.2 (fun x hx => by
    have := List.any_eq_false.1 hno x hx
    simpa using this)]
  rfl
theorem getB_size {fs : List Fv} {s : ByteArray} {B : Nat} (h : ∀ f ∈ fs, f.v.size ≤ B) : ((getB fs s).getD ⟨#[]⟩).size ≤ B := by
  unfold getB
  cases hf : fs.find? fun f => sameN f.n s with
  | none => exact Nat.zero_le _
  | some f => exact h f (List.mem_of_find?_eq_some hf)
/-- a name, and it in small letters, are the same to Get -/
theorem getB_small {fs : List Fv} {s t : ByteArray} (h : VP.smallP s.data.toList = VP.smallP t.data.toList) : getB fs s = getB fs t := by
  unfold getB sameN
  rw [h]
set_option maxHeartbeats 2000000 in
set_option maxRecDepth 100000 in
theorem get_calls (v : Value) (fs : List Fv) (s : ByteArray) (w : World) (h : FieldsAt w v fs) (hs : ∀ f ∈ fs, f.n.size ≤ 1000000) (hz : s.size ≤ 1000000) : Calls Tryz.prog 95 #[v, .string s] w (GetIs fs s w) := by
  obtain ⟨A, c, hv, hc, hm, hr⟩ := h.open
  subst hv
  obtain ⟨len, hlen⟩ : ∃ len, fs.length = len := ⟨_, rfl⟩
  have HL := Lib.hid hlen
  have HR := Lib.hid hr
  have HS := Lib.hid hs
  have CN := Lib.hid (fun (W : World) => small_calls s W hz)
  obtain ⟨sn, hsn⟩ : ∃ x, smallB s = x := ⟨_, rfl⟩
  have HSN := Lib.hid hsn
  have CN' : Hid (∀ W : World, Calls Tryz.prog 132 #[.string s] W fun E w' => E = .returned (.string sn) ∧ Below W.heap.size W w') := by rw [← hsn]; exact CN
  rw [hlen] at hc hm ⊢
  clear hlen hr hs h hz CN hsn
  go_enter Tryz.func95, Tryz.ntmps95
  go_wp2_with fail
  go_loopw [10] (fun i wr => ∃ k : Nat, k ≤ len ∧ i = .int .i64 k ∧ Hid ((fs.take k).any (fun g => sameN g.n s) = false) ∧ Below w.heap.size w wr) (fun i _ => len - (intOf i).toNat)
  case atStart => exact ⟨0, Nat.zero_le _, rfl, Lib.hid rfl, Below.refl _ _⟩
  case round =>
    obtain ⟨k, hk, rfl, hno, hB⟩ := hrel
    by_cases hlt : k < len
    · have hne : fs ≠ [] := by
        intro e
        have := HL.out
        rw [e] at this
        simp at this
        omega
      obtain ⟨f, ht⟩ : ∃ f, fs[k]? = some f := ⟨fs[k]'(by have := HL.out; omega), List.getElem?_eq_getElem _⟩
      obtain ⟨b, off, rfl, hi⟩ := HR.out hne
      obtain ⟨c0, c1⟩ := hi k f ht
      replace c0 := kept hB c0
      replace c1 := kept hB c1
      have HT := Lib.hid ht
      have CF := Lib.hid (fun (W : World) => small_calls f.n W (HS.out f (List.mem_of_getElem? ht)))
      obtain ⟨sf, hsf⟩ : ∃ x, smallB f.n = x := ⟨_, rfl⟩
      have CF' : Hid (∀ W : World, Calls Tryz.prog 132 #[.string f.n] W fun E w' => E = .returned (.string sf) ∧ Below W.heap.size W w') := by rw [← hsf]; exact CF
      obtain ⟨bs, hbs⟩ : ∃ x, sameN f.n s = x := ⟨_, rfl⟩
      have HBS := Lib.hid hbs
      have heq : (sf.toList == sn.toList) = bs := by rw [← hsf, ← HSN.out, smallB_eq]; exact hbs
      have ha := below_alloc wr (.cells #[.string f.n, .string f.v] 69)
      have d1 : (wr.alloc (.cells #[.string f.n, .string f.v] 69)).cell? ⟨wr.heap.size, 1, none⟩ = some (.string f.v) := by go_cell
      have HBa := Lib.hid (step_below hB ha)
      clear hi hne ht CF hsf hbs ha hB
      go_wp2_with fail
      refine (CF'.out _).mono ?_
      rintro E w1 ⟨rfl, hb1⟩
      have e1 := kept hb1 d1
      have HB1 := Lib.hid (step_below HBa.out hb1)
      clear hb1 d1 CF' c0 c1 HBa
      obtain ⟨mf, hmf⟩ : ∃ mf, wr.heap.size = mf := ⟨_, rfl⟩
      rw [hmf] at e1
      (try rw [hmf])
      clear hmf
      go_wp2_with fail
      refine (CN'.out _).mono ?_
      rintro E w2 ⟨rfl, hb2⟩
      have e2 := kept hb2 e1
      have HB2 := Lib.hid (step_below HB1.out hb2)
      clear hb2 e1 HB1
      cases bs with
      | true =>
        have HG := Lib.hid (getB_hit hno.out HT.out HBS.out)
        go_wp2_with fail
        go_ret2
        exact ⟨by rw [HG.out]; rfl, HB2.out⟩
      | false =>
        go_wp2_with fail
        go_roundw
        case rel => exact ⟨k + 1, by omega, by go_num, Lib.hid (any_take_succ hno.out HT.out HBS.out), HB2.out⟩
        case measure => simp [intOf]; omega
    · obtain rfl : k = len := by omega
      have HG := Lib.hid (getB_none (any_done (by have := hno.out; rw [← HL.out] at this; exact this)))
      go_wp2_with fail
      go_ret2
      exact ⟨by rw [HG.out]; rfl, hB⟩

end Go.Proofs.YtodbbfgkclkpgaaGreatDoor

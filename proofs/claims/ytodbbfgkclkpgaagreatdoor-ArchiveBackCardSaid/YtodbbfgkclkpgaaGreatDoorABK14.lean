/- stanza.text: fields, written: the walk. · Which packages may be with their files: plain; two paths that clash. -/
import Derived.Test.YtodbbfgkclkpgaaGreatDoorABK13
import Derived.Test.YtodbbfgkclkpgaaGreatDoorABK7
import Derived.Test.YtodbbfgkclkpgaaGreatDoorABK4
import Derived.Deep.DeepCutAuto
import Derived.Test.YtodbbfgkclkpgaaGreatDoorABK11
namespace Go.Proofs.YtodbbfgkclkpgaaGreatDoor
open Go Go.RowKit

/-- cut at the first line feed -/
structure Cut10 (s A R : ByteArray) (m : Bool) (todo : List (List UInt8)) : Prop where
  pcs : VP.pieces 10 s.data.toList = A.data.toList :: todo
  more : m = true → VP.pieces 10 R.data.toList = todo
  none : m = false → todo = []
  small : A.size ≤ s.size
  less : m = true → R.size < s.size
def CutIs (s : ByteArray) (w : World) (E : Ending) (w' : World) : Prop := ∃ (A R : ByteArray) (m : Bool) (todo : List (List UInt8)) (n : Nat), E = .returned (.tuple #[.string A, .string R, .bool m]) ∧ Cut10 s A R m todo ∧ w' = w.drewN n
theorem call_cut10 (s : ByteArray) (w : World) (hE : Env w) (hs : s.size ≤ 1000000) : Calls Tryz.prog 121 #[.string s, .string ⟨#[10]⟩] w (CutIs s w) := by
  obtain ⟨⟨m, hm⟩, _⟩ := hE
  refine (Tryz.strings_Cut s ⟨#[10]⟩ m w (by omega) hm).mono fun e w' ⟨he, n, hw⟩ => ?_
  have e1 : (⟨#[10]⟩ : ByteArray).data.toList = [10] := rfl
  rw [e1, cut_one] at he
  cases hc : VP.cutAt 10 s.data.toList with
  | none =>
    rw [hc] at he
    exact ⟨s, ⟨#[]⟩, false, [], n, he, ⟨VP.pieces_none hc, fun h => (by cases h), fun _ => rfl, Nat.le_refl _, fun h => (by cases h)⟩, hw⟩
  | some p =>
    obtain ⟨a, b⟩ := p
    rw [hc] at he
    obtain ⟨e2, _⟩ := VP.cutAt_some hc
    have hl : s.size = a.length + 1 + b.length := by rw [size_eq_length, e2]; simp; omega
    exact ⟨⟨a.toArray⟩, ⟨b.toArray⟩, true, VP.pieces 10 b, n, he, ⟨VP.pieces_some hc, fun _ => rfl, fun h => (by cases h), (by rw [size_eq_length]; simp; omega), fun _ => (by rw [size_eq_length]; simp; omega)⟩, hw⟩

theorem textL_drop {fs : List Fv} {k : Nat} {f : Fv} (h : fs[k]? = some f) : VP.textL ((fs.drop k).map Fv.fd) = (f.n.data.toList ++ 58 :: VP.linesL (VP.pieces 10 f.v.data.toList)) ++ VP.textL ((fs.drop (k + 1)).map Fv.fd) := by
  have hlt := (List.getElem?_eq_some_iff.1 h).1
  have e : fs.drop k = f :: fs.drop (k + 1) := by
    rw [List.drop_eq_getElem_cons hlt]
    congr 1
    rw [List.getElem?_eq_getElem hlt] at h
    exact Option.some.inj h
  rw [e, List.map_cons]
  unfold VP.textL
  rw [List.flatMap_cons]
  rfl

/-- no line behind the first one is empty -/
def RestFull (fs : List Fv) : Prop := ∀ f ∈ fs, ∀ a r, VP.pieces 10 f.v.data.toList = a :: r → ∀ t ∈ r, t ≠ []

def moreSize (r m : Value) : Nat := match r, m with
  | .string s, .bool true => s.size + 1
  | _, _ => 0

def TextIs (fs : List Fv) (w : World) (E : Ending) (w' : World) : Prop := E = .returned (.string ⟨(VP.textL (fs.map Fv.fd)).toArray⟩) ∧ Below w.heap.size w w'

/-- what is written so far, and what is to come -/
structure WroteAt (w w' : World) (T l todo : List UInt8) : Prop where
  eq : l ++ todo = T
  bld : BldAt w.heap.size w.heap.size l w'
  below : Below w.heap.size w w'
theorem WroteAt.len {w w' : World} {T l todo : List UInt8} (h : WroteAt w w' T l todo) : l.length + todo.length = T.length := by rw [← h.eq, List.length_append]
theorem WroteAt.write {w w1 : World} {T l a todo : List UInt8} (h : WroteAt w w1 T l (a ++ todo)) (s : ByteArray) (hs : s.data.toList = a) (hT : T.length ≤ 100000000000) :
    Calls Tryz.prog 81 #[.pointer (some ⟨w.heap.size, 0, none⟩), .string s] w1 fun e w' => ∃ r, e = .returned r ∧ WroteAt w w' T (l ++ a) todo := by
  have hl := h.len
  rw [List.length_append] at hl
  have hz : s.size = a.length := by rw [size_eq_length, hs]
  refine (bld_write w.heap.size w.heap.size l s w1 h.bld (by omega) h.below.size).mono fun e w' ⟨he, hb, hB⟩ => ⟨_, he, ?_, ?_, ?_⟩
  · rw [List.append_assoc]; exact h.eq
  · rw [← hs]; exact hb
  · exact h.below.trans hB

set_option maxHeartbeats 4000000 in
set_option maxRecDepth 100000 in
theorem text_calls (v : Value) (fs : List Fv) (w : World) (hE : Env w) (h : FieldsAt w v fs) (hs : ∀ f ∈ fs, f.n.size ≤ 1000000 ∧ f.v.size ≤ 1000000) (hr0 : RestFull fs) (hT : (VP.textL (fs.map Fv.fd)).length ≤ 100000000000) :
    Calls Tryz.prog 134 #[v] w (TextIs fs w) := by
  obtain ⟨A, c, hv, hc, hm, hr⟩ := h.open
  subst hv
  obtain ⟨len, hlen⟩ : ∃ len, fs.length = len := ⟨_, rfl⟩
  have HL := Lib.hid hlen
  have HR := Lib.hid hr
  have HS := Lib.hid hs
  have HE := Lib.hid hE
  have HF := Lib.hid hr0
  obtain ⟨T, hTe⟩ : ∃ T, VP.textL (fs.map Fv.fd) = T := ⟨_, rfl⟩
  have HTe := Lib.hid hTe
  rw [hTe] at hT
  have HT := Lib.hid hT
  have H0 := Lib.hid (show WroteAt w (w.alloc (.cells #[.pointer none, .slice none 0 0] 108)) T [] (VP.textL ((fs.drop 0).map Fv.fd)) from ⟨by rw [List.drop_zero, hTe]; rfl, bld_fresh w, below_alloc _ _⟩)
  rw [hlen] at hc hm ⊢
  clear hlen hr hs h hE hr0 hTe hT
  go_enter Tryz.func134, Tryz.ntmps134
  go_wp2_with fail
  go_loopw [12] (fun i wr => ∃ (k : Nat) (l : List UInt8), k ≤ len ∧ i = .int .i64 k ∧ Hid (WroteAt w wr T l (VP.textL ((fs.drop k).map Fv.fd)))) (fun i _ => len - (intOf i).toNat)
  case atStart => exact ⟨0, [], Nat.zero_le _, rfl, H0⟩
  case round =>
    obtain ⟨k, l, hk, rfl, hw⟩ := hrel
    by_cases hlt : k < len
    · have hne : fs ≠ [] := by
        intro e
        have := HL.out
        rw [e] at this
        simp at this
        omega
      obtain ⟨f, ht⟩ : ∃ f, fs[k]? = some f := ⟨fs[k]'(by have := HL.out; omega), List.getElem?_eq_getElem _⟩
      obtain ⟨b, off, rfl, hi⟩ := HR.out hne
      obtain ⟨c0, c1⟩ := hi k f ht
      replace c0 := kept hw.out.below c0
      replace c1 := kept hw.out.below c1
      obtain ⟨z0, z1⟩ := HS.out f (List.mem_of_getElem? ht)
      have hw1 := hw.out
      rw [textL_drop ht] at hw1
      have HFull := Lib.hid (HF.out f (List.mem_of_getElem? ht))
      have hE1 := HE.out.below (hw1.below.trans ((below_alloc wr (.cells #[.string f.n, .string f.v] 69)).mono hw1.below.size))
      have CC := Lib.hid (call_cut10 f.v _ hE1 z1)
      have HW := Lib.hid hw1
      have hsz := hw1.below.size
      obtain ⟨B, hB⟩ : ∃ B, w.heap.size = B := ⟨_, rfl⟩
      clear hi hne ht hw1 hw hE1
      go_wp2_with fail
      refine CC.out.mono ?_
      rintro E w1 ⟨A0, R0, m0, todo, n, rfl, hcut, rfl⟩
      have HW1 : Hid (WroteAt w ((wr.alloc (.cells #[.string f.n, .string f.v] 69)).drewN n) T l (f.n.data.toList ++ 58 :: VP.linesL (VP.pieces 10 f.v.data.toList) ++ VP.textL ((fs.drop (k + 1)).map Fv.fd))) :=
        Lib.hid ⟨HW.out.eq, (HW.out.bld.alloc _).drewN n, (HW.out.below.trans ((below_alloc wr (.cells #[.string f.n, .string f.v] 69)).mono HW.out.below.size)).trans (below_drewN _ _ _)⟩
      have d0 : ((wr.alloc (.cells #[.string f.n, .string f.v] 69)).drewN n).cell? ⟨wr.heap.size, 0, none⟩ = some (.string f.n) := kept (below_drewN _ _ _) (by go_cell)
      have HC := Lib.hid hcut
      clear hcut CC HW c0 c1
      generalize (wr.alloc (.cells #[.string f.n, .string f.v] 69)).drewN n = w2 at HW1 d0 ⊢
      obtain ⟨Z, hZ⟩ : ∃ Z, VP.textL ((fs.drop (k + 1)).map Fv.fd) = Z := ⟨_, rfl⟩
      have HZ := Lib.hid hZ
      rw [hZ, HC.out.pcs] at HW1
      clear hZ
      have HFl := Lib.hid (HFull.out _ _ HC.out.pcs)
      have HM := Lib.hid HC.out.more
      have HN := Lib.hid HC.out.none
      have hRz : m0 = true → R0.size ≤ 1000000 := fun h => by have := HC.out.less h; omega
      have hAz : A0.size ≤ 1000000 := by have := HC.out.small; omega
      have HRz := Lib.hid hRz
      clear HFull HC hRz hB
      have hz0 : A0.size = 0 ∨ 0 < A0.size := by omega
      have h1 := HW1.out
      rw [show f.n.data.toList ++ 58 :: VP.linesL (A0.data.toList :: todo) ++ Z = (f.n.data.toList ++ [58]) ++ (VP.firstL2 A0.data.toList ++ (todo.flatMap VP.restL ++ Z)) by simp [VP.linesL]] at h1
      have C1 := Lib.hid (h1.write (f.n ++ ⟨#[58]⟩) (append_data _ _) HT.out)
      clear h1 HW1
      go_wp2_with fail
      refine C1.out.mono ?_
      rintro E w3 ⟨r3, rfl, h3⟩
      have H3 := Lib.hid h3
      clear h3 C1 d0
      go_upto_if 28 with fail
      go_cut [6, 7, 8] (fun s6 s7 s8 wx => s6 = .string A0 ∧ s7 = .string R0 ∧ s8 = .bool m0 ∧ ∃ l', Hid (WroteAt w wx T l' ([10] ++ (todo.flatMap VP.restL ++ Z))))
      case first =>
        rcases hz0 with hz | hz
        · have hem := isEmpty_true A0 hz
          have h3 := H3.out
          rw [show VP.firstL2 A0.data.toList = [10] by
            have e : A0.data.toList = [] := List.eq_nil_of_length_eq_zero (by rw [← size_eq_length]; exact hz)
            rw [e]; rfl] at h3
          have H4 := Lib.hid h3
          clear h3 H3
          rw [hem, show (!true) = false from rfl]
          go_wp2_with fail
          go_meet
          exact ⟨rfl, rfl, rfl, _, H4⟩
        · have hem := isEmpty_false A0 hz
          have h3 := H3.out
          rw [show VP.firstL2 A0.data.toList ++ (todo.flatMap VP.restL ++ Z) = (32 :: A0.data.toList) ++ ([10] ++ (todo.flatMap VP.restL ++ Z)) by
            have e : A0.data.toList ≠ [] := fun e => by
              have := size_eq_length A0
              rw [e, List.length_nil] at this
              omega
            simp [VP.firstL2, e]] at h3
          have C2 := Lib.hid (h3.write (⟨#[32]⟩ ++ A0) (append_data _ _) HT.out)
          clear h3 H3
          rw [hem, show (!false) = true from rfl]
          go_wp2_with fail
          refine C2.out.mono ?_
          rintro E w4 ⟨r4, rfl, h4⟩
          have H4 := Lib.hid h4
          clear h4 C2
          go_wp2_with fail
          go_meet
          exact ⟨rfl, rfl, rfl, _, H4⟩
      case rest =>
        obtain ⟨rfl, rfl, rfl, l4, H4⟩ := hcut
        clear H3 hz0
        have C3 := Lib.hid (H4.out.write ⟨#[10]⟩ rfl HT.out)
        clear H4
        go_wp2_with fail
        refine C3.out.mono ?_
        rintro E w5 ⟨r5, rfl, h5⟩
        have H5 := Lib.hid h5
        clear h5 C3
        go_wp2_with fail
        go_loopw [7, 8] (fun r m wx => ∃ (R : ByteArray) (mm : Bool) (l' : List UInt8) (td : List (List UInt8)), r = .string R ∧ m = .bool mm ∧ Hid (mm = true → R.size ≤ 1000000) ∧ Hid (mm = true → VP.pieces 10 R.data.toList = td) ∧ Hid (mm = false → td = []) ∧ Hid (∀ t ∈ td, t ≠ []) ∧ Hid (WroteAt w wx T l' (td.flatMap VP.restL ++ Z))) (fun r m _ => moreSize r m)
        case atStart => exact ⟨R0, m0, _, todo, rfl, rfl, HRz, HM, HN, HFl, H5⟩
        case round =>
          clear H5 HRz HM HN HFl
          obtain ⟨R, mm, l', td, rfl, rfl, HRz, HM, HN, HFl, HW⟩ := hrel
          cases mm with
          | false =>
            have hnil := HN.out rfl
            subst hnil
            have HW' := Lib.hid (show WroteAt w wr T l' (VP.textL ((fs.drop (k + 1)).map Fv.fd)) by have := HW.out; rw [HZ.out]; simpa using this)
            clear HW HN HM HRz HFl
            go_wp2_with fail
            go_roundw
            case rel => exact ⟨k + 1, l', by omega, by go_num, HW'⟩
            case measure => simp [intOf]; omega
          | true =>
            have hR := HRz.out rfl
            have hP := HM.out rfl
            have CC := Lib.hid (call_cut10 R wr (HE.out.below HW.out.below) hR)
            have HP := Lib.hid hP
            clear HRz HM HN hP
            go_wp2_with fail
            refine CC.out.mono ?_
            rintro E w6 ⟨A1, R1, m1, td2, n1, rfl, hcut, rfl⟩
            have hne1 : A1.data.toList ≠ [] := HFl.out _ (by rw [← HP.out, hcut.pcs]; exact .head _)
            have hz1 : 0 < A1.size := by
              rcases Nat.eq_zero_or_pos A1.size with e | e
              · exact absurd (List.eq_nil_of_length_eq_zero (by rw [← size_eq_length]; exact e)) hne1
              · exact e
            have hA1 : A1.size ≤ 1000000 := by have := hcut.small; omega
            have h7 : WroteAt w (wr.drewN n1) T l' (VP.restL A1.data.toList ++ (td2.flatMap VP.restL ++ Z)) := ⟨by
              have := HW.out.eq
              rw [← HP.out, hcut.pcs] at this
              simpa using this, HW.out.bld.drewN n1, HW.out.below.trans (below_drewN _ _ _)⟩
            have HFl2 : Hid (∀ t ∈ td2, t ≠ []) := Lib.hid (fun t ht => HFl.out t (by rw [← HP.out, hcut.pcs]; exact .tail _ ht))
            have HRz2 : Hid (m1 = true → R1.size ≤ 1000000) := Lib.hid (fun h => by have := hcut.less h; omega)
            have HLess := Lib.hid hcut.less
            have HM2 := Lib.hid hcut.more
            have HN2 := Lib.hid hcut.none
            have hbt : A1[0].toNat < 256 := A1[0].toNat_lt
            have hhd : A1.data.toList.head? = some A1[0] := by rw [list_cons A1 hz1]; rfl
            clear CC HW HP HFl hcut hne1
            generalize wr.drewN n1 = w7 at h7 ⊢
            by_cases h46 : A1[0].toNat = 46
            · have e46 := beqI 46 rfl h46
              rw [show VP.restL A1.data.toList = 32 :: 46 :: (A1.data.toList ++ [10]) by
                unfold VP.restL
                rw [hhd, show A1[0] = 46 from UInt8.toNat_inj.1 h46]
                rfl] at h7
              have C7 := Lib.hid (h7.write ((⟨#[32]⟩ ++ (⟨#[46]⟩ ++ A1)) ++ ⟨#[10]⟩) (by rw [append_data, append_data, append_data]; simp) HT.out)
              clear h7 h46 hhd
              go_wp2_with fail
              refine C7.out.mono ?_
              rintro E w8 ⟨r8, rfl, h8⟩
              have H8 := Lib.hid h8
              clear h8 C7
              go_wp2_with fail
              go_roundw
              case rel => exact ⟨R1, m1, _, td2, rfl, rfl, HRz2, HM2, HN2, HFl2, H8⟩
              case measure => cases m1 with
                | false => simp [moreSize]
                | true => have := HLess.out rfl; simp [moreSize]; omega
            · have e46 := beqI_ne 46 rfl h46
              rw [show VP.restL A1.data.toList = 32 :: (A1.data.toList ++ [10]) by
                unfold VP.restL
                rw [hhd, if_neg (fun e => h46 (by injection e with e; rw [e]; rfl))]] at h7
              have C7 := Lib.hid (h7.write ((⟨#[32]⟩ ++ A1) ++ ⟨#[10]⟩) (by rw [append_data, append_data]; simp) HT.out)
              clear h7 h46 hhd
              go_wp2_with fail
              refine C7.out.mono ?_
              rintro E w8 ⟨r8, rfl, h8⟩
              have H8 := Lib.hid h8
              clear h8 C7
              go_wp2_with fail
              go_roundw
              case rel => exact ⟨R1, m1, _, td2, rfl, rfl, HRz2, HM2, HN2, HFl2, H8⟩
              case measure => cases m1 with
                | false => simp [moreSize]
                | true => have := HLess.out rfl; simp [moreSize]; omega
    · obtain rfl : len = k := by omega
      have hw1 := hw.out
      rw [← HL.out, List.drop_length] at hw1
      have hl : l = T := by
        have := hw1.eq
        simpa [VP.textL] using this
      have C9 := Lib.hid (bld_string w.heap.size w.heap.size l wr hw1.bld hw1.below.size)
      have HBL := Lib.hid hw1.below
      clear hw hw1
      go_wp2_with fail
      refine C9.out.mono ?_
      rintro E w9 ⟨rfl, _, hb9⟩
      have HB9 := Lib.hid (HBL.out.trans hb9)
      clear hb9 C9
      go_wp2_with fail
      go_ret
      exact ⟨by rw [HTe.out]; rfl, HB9.out⟩
end Go.Proofs.YtodbbfgkclkpgaaGreatDoor

namespace Go.Proofs.YtodbbfgkclkpgaaGreatDoor
open Go Go.RowKit

/-- g has f's path, or lies beneath it -/
def underB (f g : Fv) : Bool := Lib.hasPrefix g.n.data.toList (f.n ++ ⟨#[47]⟩).data.toList
def clashB (f g : Fv) : Bool := decide (g.n = f.n) || underB f g
def pairOk (f : Fv) (i : Nat) (g : Fv) (k : Nat) : Bool := decide (k = i) || !clashB f g
def fileAt (fs : List Fv) (i : Nat) : Bool :=
  match fs[i]? with
  | none => true
  | some f => VP.pathP f.n.data.toList && VP.allAt fs.length fun k => match fs[k]? with | none => true | some g => pairOk f i g k
def filesOk (fs : List Fv) : Bool := VP.allAt fs.length (fileAt fs)
def hasFile (fs : List Fv) (s : ByteArray) : Bool := fs.any fun f => decide (f.n = s)
def setOk (p : Pv) : Bool := p.se.all (hasFile p.fi)
def archB (p : Pv) : Bool := saysOk p && (decide (p.fi.length ≤ 20) && (filesOk p.fi && setOk p))

theorem fileAt_path {fs : List Fv} {i : Nat} {f : Fv} (h : fs[i]? = some f) (hp : VP.pathP f.n.data.toList = false) : fileAt fs i = false := by
  unfold fileAt; rw [h]; dsimp only; rw [hp]; rfl
theorem fileAt_clash {fs : List Fv} {i k : Nat} {f g : Fv} (h : fs[i]? = some f) (hg : fs[k]? = some g) (hp : pairOk f i g k = false) : fileAt fs i = false := by
  unfold fileAt; rw [h]; dsimp only
  rw [VP.allAt_false (List.getElem?_eq_some_iff.1 hg).1 (by rw [hg]; exact hp), Bool.and_false]
/-- so far the files do not clash with f -/
def PairsTo (fs : List Fv) (f : Fv) (i n : Nat) : Prop := ∀ k, k < n → ∀ g, fs[k]? = some g → pairOk f i g k = true
theorem PairsTo.zero (fs : List Fv) (f : Fv) (i : Nat) : PairsTo fs f i 0 := fun _ h => absurd h (Nat.not_lt_zero _)
theorem PairsTo.succ {fs : List Fv} {f g : Fv} {i n : Nat} (h : PairsTo fs f i n) (hg : fs[n]? = some g) (hp : pairOk f i g n = true) : PairsTo fs f i (n + 1) := fun k hk g' hg' => by
  rcases Nat.lt_or_ge k n with h1 | h1
  · exact h k h1 g' hg'
  · obtain rfl : k = n := by omega
    rw [hg] at hg'
    rw [← Option.some.inj hg']; exact hp
theorem fileAt_true {fs : List Fv} {i : Nat} {f : Fv} (h : fs[i]? = some f) (hp : VP.pathP f.n.data.toList = true) (ha : PairsTo fs f i fs.length) : fileAt fs i = true := by
  unfold fileAt; rw [h]; dsimp only
  rw [hp, Bool.true_and]
  refine VP.allAt_true fun k hk => ?_
  rw [List.getElem?_eq_getElem hk]
  exact ha k hk _ (List.getElem?_eq_getElem hk)
def FilesTo (fs : List Fv) (n : Nat) : Prop := ∀ i, i < n → fileAt fs i = true
theorem FilesTo.zero (fs : List Fv) : FilesTo fs 0 := fun _ h => absurd h (Nat.not_lt_zero _)
theorem FilesTo.succ {fs : List Fv} {n : Nat} (h : FilesTo fs n) (hp : fileAt fs n = true) : FilesTo fs (n + 1) := fun i hi => by
  rcases Nat.lt_or_ge i n with h1 | h1
  · exact h i h1
  · obtain rfl : i = n := by omega
    exact hp
theorem FilesTo.done {fs : List Fv} (h : FilesTo fs fs.length) : filesOk fs = true := VP.allAt_true h
theorem files_bad {fs : List Fv} {i : Nat} (hi : i < fs.length) (h : fileAt fs i = false) : filesOk fs = false := VP.allAt_false hi h
theorem arch_says {p : Pv} (h : saysOk p = false) : archB p = false := by unfold archB; rw [h]; rfl
theorem arch_many {p : Pv} (h : ¬ p.fi.length ≤ 20) : archB p = false := by
  unfold archB
  rw [show decide (p.fi.length ≤ 20) = false from decide_eq_false h]
  cases saysOk p <;> rfl
theorem arch_files {p : Pv} (h : filesOk p.fi = false) : archB p = false := by
  unfold archB
  rw [h]
  cases saysOk p <;> cases decide (p.fi.length ≤ 20) <;> rfl
theorem arch_rest {p : Pv} (h1 : saysOk p = true) (h2 : p.fi.length ≤ 20) (h3 : filesOk p.fi = true) : archB p = setOk p := by
  unfold archB
  rw [h1, h3, show decide (p.fi.length ≤ 20) = true from decide_eq_true h2]; rfl
theorem name_eq (a b : ByteArray) : (a.toList == b.toList) = decide (a = b) := by
  rw [Lib.toList_data, Lib.toList_data, Bool.eq_iff_iff, beq_iff_eq, decide_eq_true_iff]
  exact ⟨fun h => data_inj h, fun h => by rw [h]⟩
theorem name_eq' (a b : ByteArray) : (b.toList == a.toList) = decide (a = b) := by
  rw [name_eq, Bool.eq_iff_iff, decide_eq_true_iff, decide_eq_true_iff]
  exact ⟨fun h => h.symm, fun h => h.symm⟩
end Go.Proofs.YtodbbfgkclkpgaaGreatDoor

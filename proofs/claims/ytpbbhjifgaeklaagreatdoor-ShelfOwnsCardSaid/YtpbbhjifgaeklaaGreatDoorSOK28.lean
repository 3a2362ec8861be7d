/- The shelf and the reference's: what they have in common, and that each call keeps it. Plain. · archive.Right's closures: is there a file of this path; is each setting one. · stanza.Right, the reference's Stanza: may fields be a stanza. · The reference's stanzaText: fields, written. · archive.Right: may a package be, with its files. -/
import Derived.Test.YtpbbhjifgaeklaaGreatDoorSOK27
import Derived.Test.YtpbbhjifgaeklaaGreatDoorSOK15
import Derived.Test.YtpbbhjifgaeklaaGreatDoorSOK8
import Derived.Deep.DeepCutAuto
namespace Go.Proofs.YtpbbhjifgaeklaaGreatDoor
open Go Go.RowKit Go.Maps

def SrtB (l : List ByteArray) : Prop := l.Pairwise fun a b => befB a b = true
theorem SrtB.nodup {l : List ByteArray} (h : SrtB l) : l.Nodup := h.imp fun h => befB_ne h
theorem srt_ext : ∀ {l L : List ByteArray}, SrtB l → SrtB L → (∀ x, x ∈ l ↔ x ∈ L) → l = L
  | [], [], _, _, _ => rfl
  | [], y :: L, _, _, h => by have := (h y).2 (List.mem_cons_self ..); cases this
  | x :: l, [], _, _, h => by have := (h x).1 (List.mem_cons_self ..); cases this
  | x :: l, y :: L, h1, h2, h => by
    obtain ⟨hx, k1⟩ := List.pairwise_cons.1 h1
    obtain ⟨hy, k2⟩ := List.pairwise_cons.1 h2
    have e : x = y := by
      rcases List.mem_cons.1 ((h x).1 (List.mem_cons_self ..)) with e | hm
      · exact e
      · rcases List.mem_cons.1 ((h y).2 (List.mem_cons_self ..)) with e | hm2
        · exact e.symm
        · have a := hy x hm
          rw [befB_asym (hx y hm2)] at a
          cases a
    subst e
    refine congrArg (x :: ·) (srt_ext k1 k2 fun z => ⟨fun hz => ?_, fun hz => ?_⟩)
    · rcases List.mem_cons.1 ((h z).1 (List.mem_cons_of_mem _ hz)) with e | hm
      · exact absurd (hx z hz) (by rw [e, befB_irr]; decide)
      · exact hm
    · rcases List.mem_cons.1 ((h z).2 (List.mem_cons_of_mem _ hz)) with e | hm
      · exact absurd (hy z hz) (by rw [e, befB_irr]; decide)
      · exact hm
/-! the reference's maps -/
def pathsR (W : Fm) (n : ByteArray) : List ByteArray := (W.filter fun p => decide (p.2 = n)).map (·.1)
theorem mem_pathsR {W : Fm} (h : RisF W) {n q : ByteArray} : q ∈ pathsR W n ↔ getF W q = some n := by
  unfold pathsR
  rw [List.mem_map, ← getF_mem h]
  constructor
  · rintro ⟨p, hp, rfl⟩
    obtain ⟨h1, h2⟩ := List.mem_filter.1 hp
    rw [← of_decide_eq_true h2]
    exact h1
  · intro hm
    exact ⟨(q, n), List.mem_filter.2 ⟨hm, decide_eq_true rfl⟩, rfl⟩
theorem srt_pathsR {W : Fm} (h : RisF W) (n : ByteArray) : SrtB (pathsR W n) := by
  unfold pathsR SrtB
  rw [List.pairwise_map]
  exact List.Pairwise.sublist List.filter_sublist h
/-- all that have paths -/
def OwnersR (W : Fm) (l : List ByteArray) : Prop := SrtB l ∧ ∀ n, n ∈ l ↔ ∃ q, getF W q = some n

/-- the shelf's map, and the reference's three -/
structure RelS (M W D S : Fm) : Prop where
  inv : OwnInv M
  srt : ∀ n, SrtB (pathsM M n)
  w : RisF W
  d : RisF D
  s : RisF S
  th : ∀ p, getF M (thP ++ p) = getF D p
  sp : ∀ p, getF M (spP ++ p) = getF S p
  ow : ∀ n q, q ∈ pathsM M n ↔ getF W q = some n
theorem RelS.paths {M W D S : Fm} (h : RelS M W D S) (n : ByteArray) : pathsM M n = pathsR W n :=
  srt_ext (h.srt n) (srt_pathsR h.w n) fun q => by rw [h.ow, mem_pathsR h.w]
theorem lt_of_app : ∀ (a : List UInt8) {x y : List UInt8}, a ++ x < a ++ y → x < y
  | [], _, _, h => h
  | c :: a, x, y, h => by
    rw [List.cons_append, List.cons_append, List.cons_lt_cons_iff] at h
    rcases h with h | ⟨_, h⟩
    · exact absurd h (UInt8.lt_irrefl c)
    · exact lt_of_app a h
theorem srt_names {M : Fm} (h : RisF M) (p : ByteArray) : SrtB (namesL p (keysF M)) := by
  have h1 := keys_ris h
  unfold namesL SrtB
  rw [List.pairwise_map]
  have h2 := List.Pairwise.sublist (List.filter_sublist (p := hasP p)) h1
  refine List.Pairwise.imp_of_mem (fun {a b} ha hb hab => ?_) h2
  obtain ⟨x, rfl⟩ := (hasP_iff p a).1 (List.mem_filter.1 ha).2
  obtain ⟨y, rfl⟩ := (hasP_iff p b).1 (List.mem_filter.1 hb).2
  rw [rest_cat, rest_cat]
  rw [befB_iff] at hab ⊢
  rw [append_data, append_data] at hab
  exact lt_of_app _ hab
theorem OwnersR.eq {W : Fm} {l L : List ByteArray} (h1 : OwnersR W l) (h2 : OwnersR W L) : l = L := srt_ext h1.1 h2.1 fun n => by rw [h1.2, h2.2]

end Go.Proofs.YtpbbhjifgaeklaaGreatDoor

namespace Go.Proofs.YtpbbhjifgaeklaaGreatDoor
open Go Go.RowKit

set_option maxRecDepth 100000 in
theorem fileNamed_calls (x : Fv) (b : Nat) (s : ByteArray) (w : World) (hc : w.cell? ⟨b, 0, none⟩ = some (.string s)) :
    Calls Tryz.prog 151 #[.agg #[.string x.n, .string x.v], .pointer (some ⟨b, 0, none⟩)] w (BoolIs (decide (x.n = s)) w) := by
  have hb0 := below_alloc w (.cells #[.string x.n, .string x.v] 62)
  have hc1 := kept hb0 hc
  have hq := name_eq x.n s
  obtain ⟨bq, hbq⟩ : ∃ y, decide (x.n = s) = y := ⟨_, rfl⟩
  rw [hbq] at hq ⊢
  clear hbq hc
  go_enter Tryz.func151, Tryz.ntmps151
  go_wp2_with fail
  go_ret
  exact ⟨ret_bool (by first | rfl | (simp [hq])), hb0⟩

set_option maxHeartbeats 1000000 in
set_option maxRecDepth 100000 in
theorem idxFile_calls (v : Value) (fs : List Fv) (b : Nat) (p : Fv → Bool) (w : World) (h : FieldsAt w v fs) (C : ∀ (W : World) (x : Fv), Below w.heap.size w W → x ∈ fs → Calls Tryz.prog 151 #[.agg #[.string x.n, .string x.v], .pointer (some ⟨b, 0, none⟩)] W (BoolIs (p x) W)) :
    Calls Tryz.prog 218 #[v, .func (.func 151) #[] #[.pointer (some ⟨b, 0, none⟩)]] w (IdxIs (fs.any p) w) := by
  obtain ⟨A, c, hv, hc, hm, hr⟩ := h.open
  subst hv
  obtain ⟨len, hlen⟩ : ∃ len, fs.length = len := ⟨_, rfl⟩
  have HL := Lib.hid hlen
  have HR := Lib.hid hr
  have HC := Lib.hid C
  rw [hlen] at hc hm ⊢
  clear hlen hr C h
  go_enter Tryz.func218, Tryz.ntmps218
  go_wp2_with fail
  go_loopw [8] (fun i wr => ∃ k : Nat, k ≤ len ∧ i = .int .i64 k ∧ Hid ((fs.take k).any p = false) ∧ Below w.heap.size w wr) (fun i _ => len - (intOf i).toNat)
  case atStart => exact ⟨0, Nat.zero_le _, rfl, rfl, Below.refl _ _⟩
  case round =>
    obtain ⟨k, hk, rfl, hall, hB⟩ := hrel
    by_cases hlt : k < len
    · have hne : fs ≠ [] := by
        intro e
        have := HL.out
        rw [e] at this
        simp at this
        omega
      obtain ⟨x, ht⟩ : ∃ x, fs[k]? = some x := ⟨fs[k]'(by have := HL.out; omega), List.getElem?_eq_getElem _⟩
      obtain ⟨b', off, rfl, hi⟩ := HR.out hne
      obtain ⟨c0, c1⟩ := hi k x ht
      replace c0 := kept hB c0
      replace c1 := kept hB c1
      have HT := Lib.hid ht
      have H := Lib.hid (HC.out wr x hB (List.mem_of_getElem? ht))
      obtain ⟨pb, hpb⟩ : ∃ pb, p x = pb := ⟨_, rfl⟩
      have HP := Lib.hid hpb
      rw [hpb] at H
      clear ht hi hne hpb
      go_wp2_with fail
      refine H.out.mono ?_
      rintro E w1 ⟨rfl, hb⟩
      have hB := step_below hB hb
      clear hb H
      cases pb with
      | true =>
        go_wp2_with fail
        go_ret
        exact ⟨_, rfl, by rw [any_stop HT.out HP.out]; simp, hB⟩
      | false =>
        go_wp2_with fail
        go_roundw
        case rel => exact ⟨k + 1, by omega, by go_num, Lib.hid (any_take_succ hall.out HT.out HP.out), hB⟩
        case measure => simp [intOf]; omega
    · obtain rfl : k = len := by omega
      go_wp2_with fail
      go_ret
      exact ⟨_, rfl, by have := hall.out; rw [← HL.out] at this; rw [any_done this]; simp, hB⟩

set_option maxRecDepth 100000 in
theorem hasFile_calls (v : Value) (fs : List Fv) (b : Nat) (p : Fv → Bool) (w : World) (h : FieldsAt w v fs) (C : ∀ (W : World) (x : Fv), Below w.heap.size w W → x ∈ fs → Calls Tryz.prog 151 #[.agg #[.string x.n, .string x.v], .pointer (some ⟨b, 0, none⟩)] W (BoolIs (p x) W)) :
    Calls Tryz.prog 150 #[v, .func (.func 151) #[] #[.pointer (some ⟨b, 0, none⟩)]] w (BoolIs (fs.any p) w) := by
  have H := Lib.hid (idxFile_calls v fs b p w h C)
  clear h C
  go_enter Tryz.func150, Tryz.ntmps150
  go_wp2_with fail
  refine H.out.mono ?_
  rintro E w1 ⟨i, rfl, hi, hb⟩
  have HI := Lib.hid hi
  clear hi
  by_cases h0 : 0 ≤ i
  · go_wp2_with fail
    go_ret
    exact ⟨ret_bool (by rw [← HI.out]; simp [h0]), hb⟩
  · go_wp2_with fail
    go_ret
    exact ⟨ret_bool HI.out, hb⟩

set_option maxRecDepth 100000 in
/-- is this setting no path of the package's files -/
theorem noFile_calls (s : ByteArray) (m : Nat) (v9 : Value) (fs : List Fv) (w : World) (hc : w.cell? ⟨m, 12, none⟩ = some v9) (h9 : FieldsAt w v9 fs) :
    Calls Tryz.prog 149 #[.string s, .pointer (some ⟨m, 0, none⟩)] w (BoolIs (!hasFile fs s) w) := by
  have hb0 := below_alloc w (.cells #[.string s] 9)
  have hc1 := kept hb0 hc
  have hd : (w.alloc (.cells #[.string s] 9)).cell? ⟨w.heap.size, 0, none⟩ = some (.string s) := by go_cell
  have H := Lib.hid (hasFile_calls v9 fs w.heap.size (fun f => decide (f.n = s)) (w.alloc (.cells #[.string s] 9)) (h9.below hb0) (fun W x hb _ => fileNamed_calls x w.heap.size s W (kept hb hd)))
  obtain ⟨A, c, rfl, _⟩ := h9.open
  obtain ⟨bq, hbq⟩ : ∃ y, (fs.any fun f => decide (f.n = s)) = y := ⟨_, rfl⟩
  have HQ := Lib.hid (show hasFile fs s = bq from hbq)
  rw [hbq] at H
  clear hbq h9 hc hd
  go_enter Tryz.func149, Tryz.ntmps149
  go_wp2_with fail
  refine H.out.mono ?_
  rintro E w1 ⟨rfl, hb⟩
  have hB := step_below hb0 hb
  clear hb H hb0 hc1
  go_wp2_with fail
  go_ret
  exact ⟨ret_bool (by rw [HQ.out]), hB⟩

set_option maxHeartbeats 1000000 in
set_option maxRecDepth 100000 in
theorem idxSet_calls (v : Value) (fs : List ByteArray) (b : Nat) (p : ByteArray → Bool) (w : World) (h : StrsAt w v fs) (C : ∀ (W : World) (x : ByteArray), Below w.heap.size w W → x ∈ fs → Calls Tryz.prog 149 #[.string x, .pointer (some ⟨b, 0, none⟩)] W (BoolIs (p x) W)) :
    Calls Tryz.prog 144 #[v, .func (.func 149) #[] #[.pointer (some ⟨b, 0, none⟩)]] w (IdxIs (fs.any p) w) := by
  obtain ⟨A, c, hv, hc, hm, hr⟩ := h.open
  subst hv
  obtain ⟨len, hlen⟩ : ∃ len, fs.length = len := ⟨_, rfl⟩
  have HL := Lib.hid hlen
  have HR := Lib.hid hr
  have HC := Lib.hid C
  rw [hlen] at hc hm ⊢
  clear hlen hr C h
  go_enter Tryz.func144, Tryz.ntmps144
  go_wp2_with fail
  go_loopw [8] (fun i wr => ∃ k : Nat, k ≤ len ∧ i = .int .i64 k ∧ Hid ((fs.take k).any p = false) ∧ Below w.heap.size w wr) (fun i _ => len - (intOf i).toNat)
  case atStart => exact ⟨0, Nat.zero_le _, rfl, rfl, Below.refl _ _⟩
  case round =>
    obtain ⟨k, hk, rfl, hall, hB⟩ := hrel
    by_cases hlt : k < len
    · have hne : fs ≠ [] := by
        intro e
        have := HL.out
        rw [e] at this
        simp at this
        omega
      obtain ⟨x, ht⟩ : ∃ x, fs[k]? = some x := ⟨fs[k]'(by have := HL.out; omega), List.getElem?_eq_getElem _⟩
      obtain ⟨b', off, rfl, hi⟩ := HR.out hne
      have c0 := kept hB (hi k x ht)
      have HT := Lib.hid ht
      have H := Lib.hid (HC.out wr x hB (List.mem_of_getElem? ht))
      obtain ⟨pb, hpb⟩ : ∃ pb, p x = pb := ⟨_, rfl⟩
      have HP := Lib.hid hpb
      rw [hpb] at H
      clear ht hi hne hpb
      go_wp2_with fail
      refine H.out.mono ?_
      rintro E w1 ⟨rfl, hb⟩
      have hB := step_below hB hb
      clear hb H
      cases pb with
      | true =>
        go_wp2_with fail
        go_ret
        exact ⟨_, rfl, by rw [any_stop HT.out HP.out]; simp, hB⟩
      | false =>
        go_wp2_with fail
        go_roundw
        case rel => exact ⟨k + 1, by omega, by go_num, Lib.hid (any_take_succ hall.out HT.out HP.out), hB⟩
        case measure => simp [intOf]; omega
    · obtain rfl : k = len := by omega
      go_wp2_with fail
      go_ret
      exact ⟨_, rfl, by have := hall.out; rw [← HL.out] at this; rw [any_done this]; simp, hB⟩

set_option maxRecDepth 100000 in
theorem hasSet_calls (v : Value) (fs : List ByteArray) (b : Nat) (p : ByteArray → Bool) (w : World) (h : StrsAt w v fs) (C : ∀ (W : World) (x : ByteArray), Below w.heap.size w W → x ∈ fs → Calls Tryz.prog 149 #[.string x, .pointer (some ⟨b, 0, none⟩)] W (BoolIs (p x) W)) :
    Calls Tryz.prog 69 #[v, .func (.func 149) #[] #[.pointer (some ⟨b, 0, none⟩)]] w (BoolIs (fs.any p) w) := by
  have H := Lib.hid (idxSet_calls v fs b p w h C)
  clear h C
  go_enter Tryz.func69, Tryz.ntmps69
  go_wp2_with fail
  refine H.out.mono ?_
  rintro E w1 ⟨i, rfl, hi, hb⟩
  have HI := Lib.hid hi
  clear hi
  by_cases h0 : 0 ≤ i
  · go_wp2_with fail
    go_ret
    exact ⟨ret_bool (by rw [← HI.out]; simp [h0]), hb⟩
  · go_wp2_with fail
    go_ret
    exact ⟨ret_bool HI.out, hb⟩
end Go.Proofs.YtpbbhjifgaeklaaGreatDoor

namespace Go.Proofs.YtpbbhjifgaeklaaGreatDoor
open Go Go.RowKit

/-- the lines so far are well -/
def LinesTo (ls : List ByteArray) (k : Nat) : Prop := ∀ i, i < k → lineOk ls i = true
theorem LinesTo.succ {ls : List ByteArray} {k : Nat} (h : LinesTo ls k) (hb : lineOk ls k = true) : LinesTo ls (k + 1) := fun i hi => by
  rcases Nat.lt_or_ge i k with h' | h'
  · exact h i h'
  · obtain rfl : i = k := by omega
    exact hb
end Go.Proofs.YtpbbhjifgaeklaaGreatDoor

namespace Go.Proofs.YtpbbhjifgaeklaaGreatDoor
open Go Go.RowKit

/-- what is written, and what is to come -/
def SoFar (T : List UInt8) (S : ByteArray) (todo : List UInt8) : Prop := S.data.toList ++ todo = T
theorem SoFar.size {T todo : List UInt8} {S : ByteArray} (h : SoFar T S todo) : S.size + todo.length = T.length := by
  rw [← h, List.length_append, size_eq_length]
theorem SoFar.add {T a todo : List UInt8} {S s : ByteArray} (h : SoFar T S (a ++ todo)) (hs : s.data.toList = a) : SoFar T (S ++ s) todo := by
  unfold SoFar at h ⊢
  rw [append_data, hs, List.append_assoc]; exact h
end Go.Proofs.YtpbbhjifgaeklaaGreatDoor

namespace Go.Proofs.YtpbbhjifgaeklaaGreatDoor
open Go Go.RowKit

theorem sl_slice {α : Type} {cs : α → List Value} {w : World} {v : Value} {xs : List α} (h : SlC cs w v xs) : ∃ A n c, v = .slice A n c := by
  obtain ⟨A, c, hv, _⟩ := h
  exact ⟨A, _, c, hv⟩

set_option maxHeartbeats 4000000 in
set_option maxRecDepth 100000 in
theorem arcRight_calls (v : Value) (p : Pv) (w : World) (hE : Env w) (h : PackAt w v p) (hf : p.Fit) (hz : ∀ f ∈ p.fi, f.n.size ≤ 1000000) : Calls Tryz.prog 85 #[v] w (BoolIs (archB p) w) := by
  obtain ⟨v1, v2, v3, v4, v5, v6, v7, v8, v9, rfl, h1, h2, h3, h4, h5, h6, h7, h8, h9, hlo, hhi⟩ := id h
  obtain ⟨len, hlen⟩ : ∃ len, p.fi.length = len := ⟨_, rfl⟩
  obtain ⟨A9, k9, rfl, hc9, hm9, hr9⟩ := h9.open
  obtain ⟨A7, n7, k7, rfl⟩ := sl_slice h7
  rw [hlen] at hc9 hm9 h h9 ⊢
  have hB0 := below_alloc w (.cells #[.string p.n, .int .i64 p.e, .string p.u, .string p.r, v1, v2, v3, v4, v5, v6, .slice A7 n7 k7, v8, .slice A9 len k9] 67)
  have CR := Lib.hid (recRight_calls _ p _ (hE.below hB0) (h.below hB0) hf)
  obtain ⟨bs, hbs⟩ : ∃ y, saysOk p = y := ⟨_, rfl⟩
  have HBS := Lib.hid hbs
  rw [hbs] at CR
  have X0 := packBox_new w p v1 v2 v3 v4 v5 v6 (.slice A7 n7 k7) v8 (.slice A9 len k9) 67
  obtain ⟨c0, c1, c2, c3, c4, c5, c6, c7, c8, c9, c10, c11, c12⟩ := id X0
  have HL := Lib.hid hlen
  have HR := Lib.hid hr9
  have HEE := Lib.hid hE
  have HZ := Lib.hid hz
  have H7 := Lib.hid h7
  have H9 := Lib.hid h9
  clear h1 h2 h3 h4 h5 h6 h7 h8 h9 h hf hE hz hbs hlen hr9
  go_enter Tryz.func85, Tryz.ntmps85
  go_wp2_with fail
  refine CR.out.mono ?_
  rintro E w1 ⟨rfl, hb⟩
  have X1 := X0.below hb
  have HB1 := Lib.hid (step_below hB0 hb)
  clear c0 c1 c2 c3 c4 c5 c6 c7 c8 c9 c10 c11 c12 X0 CR hb hB0
  obtain ⟨m, hm⟩ : ∃ m, w.heap.size = m := ⟨_, rfl⟩
  rw [hm] at X1
  have HX1 := Lib.hid X1
  have c12 := X1.c12
  cases bs with
  | false =>
    go_wp2_with fail
    go_ret
    exact ⟨ret_bool (by rw [arch_says HBS.out]), HB1.out⟩
  | true =>
  by_cases hmany : len ≤ 20
  case neg =>
    go_wp2_with fail
    go_ret
    exact ⟨ret_bool (by rw [arch_many (by rw [HL.out]; exact hmany)]), HB1.out⟩
  case pos =>
  clear X1
  go_upto_region 3 with fail
  (try rw [hm])
  clear hm
  go_wp2_with fail
  go_loopw [19] (fun i wr => ∃ k : Nat, k ≤ len ∧ i = .int .i64 k ∧ Hid (FilesTo p.fi k) ∧ Below w1.heap.size w1 wr) (fun i _ => len - (intOf i).toNat)
  case atStart => exact ⟨0, Nat.zero_le _, rfl, Lib.hid (FilesTo.zero _), Below.refl _ _⟩
  case round =>
    clear c12
    obtain ⟨k, hk, rfl, hall, hB⟩ := hrel
    by_cases hlt : k < len
    · have hne : p.fi ≠ [] := by
        intro e
        have := HL.out
        rw [e] at this
        simp at this
        omega
      obtain ⟨f, ht⟩ : ∃ f, p.fi[k]? = some f := ⟨p.fi[k]'(by have := HL.out; omega), List.getElem?_eq_getElem _⟩
      obtain ⟨b, off, rfl, hi⟩ := HR.out hne
      obtain ⟨c0, c1⟩ := hi k f ht
      have hBw := step_below HB1.out hB
      replace c0 := kept hBw c0
      replace c1 := kept hBw c1
      have HT := Lib.hid ht
      have HI := Lib.hid hi
      have ha := below_alloc wr (.cells #[.string f.n, .string f.v] 62)
      have d0 : (wr.alloc (.cells #[.string f.n, .string f.v] 62)).cell? ⟨wr.heap.size, 0, none⟩ = some (.string f.n) := by go_cell
      have CP := Lib.hid (pathF_calls f.n (wr.alloc (.cells #[.string f.n, .string f.v] 62)) (HEE.out.below (step_below hBw ha)) (HZ.out f (List.mem_of_getElem? ht)))
      have HBa := Lib.hid (step_below hB ha)
      have c12 := kept (step_below hB ha) HX1.out.c12
      obtain ⟨bp, hbp⟩ : ∃ y, VP.pathP f.n.data.toList = y := ⟨_, rfl⟩
      have HP := Lib.hid hbp
      rw [hbp] at CP
      clear hne hi hBw ha hbp hB
      go_wp2_with fail
      refine CP.out.mono ?_
      rintro E w3 ⟨rfl, hb⟩
      have e0 := kept hb d0
      have c12' := kept hb c12
      have HB3 := Lib.hid (step_below HBa.out hb)
      clear hb d0 c12 CP c0 c1 HBa
      cases bp with
      | false =>
        go_wp2_with fail
        go_ret
        exact ⟨ret_bool (by rw [arch_files (files_bad (by rw [HL.out]; exact hlt) (fileAt_path HT.out HP.out))]), step_below HB1.out HB3.out⟩
      | true =>
      obtain ⟨mf, hmf⟩ : ∃ mf, wr.heap.size = mf := ⟨_, rfl⟩
      rw [hmf] at e0
      (try rw [hmf])
      clear hmf
      go_wp2_with fail
      clear c12'
      have hz3 := Below.refl w3.heap.size w3
      go_loopw [31] (fun i wx => ∃ q : Nat, q ≤ len ∧ i = .int .i64 q ∧ Hid (PairsTo p.fi f k q) ∧ Below w3.heap.size w3 wx) (fun i _ => len - (intOf i).toNat)
      case atStart => exact ⟨0, Nat.zero_le _, rfl, Lib.hid (PairsTo.zero _ _ _), hz3⟩
      case round =>
        clear hz3
        obtain ⟨q, hq, rfl, hpr, hz⟩ := hrel
        by_cases hqt : q < len
        · obtain ⟨g, hg⟩ : ∃ g, p.fi[q]? = some g := ⟨p.fi[q]'(by have := HL.out; omega), List.getElem?_eq_getElem _⟩
          obtain ⟨j0, j1⟩ := HI.out q g hg
          have hBw := step_below HB1.out (step_below HB3.out hz)
          replace j0 := kept hBw j0
          replace j1 := kept hBw j1
          have hag := below_alloc wr (.cells #[.string g.n, .string g.v] 62)
          have e1 := kept (step_below hz hag) e0
          have i0 : (wr.alloc (.cells #[.string g.n, .string g.v] 62)).cell? ⟨wr.heap.size, 0, none⟩ = some (.string g.n) := by go_cell
          have HZG := Lib.hid (step_below hz hag)
          have HG := Lib.hid hg
          clear hBw hag hg hz
          by_cases hqk : q = k
          · subst hqk
            have HK := Lib.hid (hpr.out.succ HG.out (show pairOk f q g q = true by unfold pairOk; simp))
            go_wp2_with fail
            go_roundw
            case rel => exact ⟨q + 1, by omega, by go_num, HK, HZG.out⟩
            case measure => simp [intOf]; omega
          · have hn1 : ((q : Int) == (k : Int)) = false := by rw [beq_eq_false_iff_ne]; omega
            have hn2 : ((q : Int) != (k : Int)) = true := by rw [bne, hn1]; rfl
            have hnq : ¬ (q : Int) = (k : Int) := by omega
            have q1 := name_eq g.n f.n
            have q2 := name_eq' g.n f.n
            obtain ⟨be, hbe⟩ : ∃ y, decide (g.n = f.n) = y := ⟨_, rfl⟩
            have HBE := Lib.hid hbe
            rw [hbe] at q1 q2
            have CH := Lib.hid (fun (W : World) => Tryz.strings_HasPrefix g.n (f.n ++ ⟨#[47]⟩) W)
            obtain ⟨bu, hbu⟩ : ∃ y, underB f g = y := ⟨_, rfl⟩
            have CH' : Hid (∀ W : World, Calls Tryz.prog 119 #[.string g.n, .string (f.n ++ ⟨#[47]⟩)] W fun E W' => E = .returned (.bool bu) ∧ W = W') := fun W => (CH.out W).mono fun E W' ⟨he, hw⟩ => ⟨by rw [he, ← hbu]; rfl, hw.symm⟩
            have HPK := Lib.hid (show pairOk f k g q = !(be || bu) by unfold pairOk clashB; rw [hbe, hbu, show decide (q = k) = false from decide_eq_false hqk, Bool.false_or])
            clear hbe hbu CH
            cases be with
            | true =>
              go_wp2_with fail
              go_ret
              exact ⟨ret_bool (by rw [arch_files (files_bad (by rw [HL.out]; exact hlt) (fileAt_clash HT.out HG.out HPK.out))]), step_below HB1.out (step_below HB3.out HZG.out)⟩
            | false =>
              have hfz : f.n.size ≤ 1000000 := HZ.out f (List.mem_of_getElem? HT.out)
              go_wp2_with fail
              refine (CH'.out _).mono ?_
              rintro E w5 ⟨rfl, rfl⟩
              cases bu with
              | true =>
                go_wp2_with fail
                go_ret
                exact ⟨ret_bool (by rw [arch_files (files_bad (by rw [HL.out]; exact hlt) (fileAt_clash HT.out HG.out HPK.out))]), step_below HB1.out (step_below HB3.out HZG.out)⟩
              | false =>
                have HK := Lib.hid (hpr.out.succ HG.out HPK.out)
                go_wp2_with fail
                go_roundw
                case rel => exact ⟨q + 1, by omega, by go_num, HK, HZG.out⟩
                case measure => simp [intOf]; omega
        · obtain rfl : q = len := by omega
          have HA := Lib.hid (hall.out.succ (fileAt_true HT.out HP.out (by rw [HL.out]; exact hpr.out)))
          have HB4 := Lib.hid (step_below HB3.out hz)
          clear hz hpr
          go_wp2_with fail
          go_roundw
          case rel => exact ⟨k + 1, by omega, by go_num, HA, HB4.out⟩
          case measure => simp [intOf]; omega
    · obtain rfl : k = len := by omega
      have HAR := Lib.hid (arch_rest HBS.out (by rw [HL.out]; exact hmany) (FilesTo.done (by rw [HL.out]; exact hall.out)))
      have c10 := kept hB HX1.out.c10
      have HBB := Lib.hid (step_below HB1.out hB)
      have c12 := kept hB HX1.out.c12
      have C := Lib.hid (hasSet_calls (.slice A7 n7 k7) p.se m (fun s => !hasFile p.fi s) wr (H7.out.below HBB.out) (fun W x hb _ => noFile_calls x m (.slice A9 k k9) p.fi W (kept hb c12) (H9.out.below (step_below HBB.out hb))))
      have HS := Lib.hid (show (p.se.any fun s => !hasFile p.fi s) = !setOk p by unfold setOk; rw [List.not_all_eq_any_not])
      rw [HS.out] at C
      obtain ⟨bz, hbz⟩ : ∃ y, setOk p = y := ⟨_, rfl⟩
      rw [hbz] at C HAR
      clear hB hall hbz c12
      go_wp2_with fail
      refine C.out.mono ?_
      rintro E w9 ⟨rfl, hb⟩
      have hBf := step_below HBB.out hb
      clear C hb
      go_wp2_with fail
      go_ret
      exact ⟨ret_bool (by rw [HAR.out] <;> (cases bz <;> rfl)), hBf⟩
end Go.Proofs.YtpbbhjifgaeklaaGreatDoor

/- The reference's NewShelf, at, Choice. · archive.Right's closures: is there a file of this path; is each setting one. · stanza.Right, the reference's Stanza: may fields be a stanza. · The reference's stanzaText: fields, written. · archive.Right: may a package be, with its files. -/
import Derived.Test.YtofogjfemlhffaaGreatDoorSPK24
import Derived.Test.YtofogjfemlhffaaGreatDoorSPK18
import Derived.Test.YtofogjfemlhffaaGreatDoorSPK13
import Derived.Test.YtofogjfemlhffaaGreatDoorSPK6
import Derived.Deep.DeepCutAuto
namespace Go.Proofs.YtofogjfemlhffaaGreatDoor
open Go Go.RowKit Go.Maps

set_option maxRecDepth 100000 in
theorem rnew_calls (w : World) : Calls Tryz.prog 6 #[] w fun E w' => E = .returned (.pointer (some ⟨w.heap.size + 3, 0, none⟩)) ∧ RShAt w' (w.heap.size + 3) w.heap.size (w.heap.size + 1) (w.heap.size + 2) [] [] [] ∧ Below w.heap.size w w' := by
  have hb1 := below_alloc w (.map #[] 0)
  have hm1 := mapAt_new w
  obtain ⟨W1, hW1⟩ : ∃ W, w.alloc (.map #[] 0) = W := ⟨_, rfl⟩
  have hs1 : W1.heap.size = w.heap.size + 1 := by rw [← hW1]; exact World.size_alloc _ _
  rw [hW1] at hb1 hm1
  have hb2 := below_alloc W1 (.map #[] 0)
  have hm2 := mapAt_new W1
  obtain ⟨W2, hW2⟩ : ∃ W, W1.alloc (.map #[] 0) = W := ⟨_, rfl⟩
  have hs2 : W2.heap.size = w.heap.size + 2 := by rw [← hW2, World.size_alloc, hs1]
  rw [hW2] at hb2 hm2
  have hb3 := below_alloc W2 (.map #[] 0)
  have hm3 := mapAt_new W2
  obtain ⟨W3, hW3⟩ : ∃ W, W2.alloc (.map #[] 0) = W := ⟨_, rfl⟩
  have hs3 : W3.heap.size = w.heap.size + 3 := by rw [← hW3, World.size_alloc, hs2]
  rw [hW3] at hb3 hm3
  rw [hs1] at hm2
  rw [hs2] at hm3
  have hb4 := below_alloc W3 (.cells #[.map (some w.heap.size), .map (some (w.heap.size + 1)), .map (some (w.heap.size + 2))] 66)
  have hx4 := blk_new 66 W3 #[.map (some w.heap.size), .map (some (w.heap.size + 1)), .map (some (w.heap.size + 2))]
  rw [hs3] at hx4
  have hk1 := (((hm1.keep (hb2.block _ hm1.lt)).keep (hb3.block _ (by omega))).keep (hb4.block _ (by omega)))
  have hk2 := ((hm2.keep (hb3.block _ (by omega))).keep (hb4.block _ (by omega)))
  have hk3 := hm3.keep (hb4.block _ (by omega))
  have F := Lib.hid (show RShAt (W3.alloc (.cells #[.map (some w.heap.size), .map (some (w.heap.size + 1)), .map (some (w.heap.size + 2))] 66)) (w.heap.size + 3) w.heap.size (w.heap.size + 1) (w.heap.size + 2) [] [] [] ∧ Below w.heap.size w (W3.alloc (.cells #[.map (some w.heap.size), .map (some (w.heap.size + 1)), .map (some (w.heap.size + 2))] 66)) from
    ⟨⟨hx4, hk1, hk2, hk3, by omega, by omega, by omega⟩, ((hb1.trans (hb2.mono hb1.size)).trans (hb3.mono (by omega))).trans (hb4.mono (by omega))⟩)
  rw [← hW3, ← hW2, ← hW1] at F
  clear hb1 hm1 hs1 hW1 hb2 hm2 hs2 hW2 hb3 hm3 hs3 hW3 hb4 hx4 hk1 hk2 hk3
  have hmm := @run_makeMap Tryz.prog
  go_enter Tryz.func6, Tryz.ntmps6
  go_wp2_with fail
  go_ret
  exact ⟨by simp, F.out.1, F.out.2⟩

set_option maxRecDepth 100000 in
theorem rat_calls (b : Nat) (M : Fm) (k : ByteArray) (w : World) (h : MapAt w b M) (hk : k.size ≤ maxLen) : Calls Tryz.prog 40 #[.map (some b), .string k] w fun E w' => ∃ v, E = .returned v ∧ PtrAt w.heap.size w' v (getF M k) ∧ Below w.heap.size w w' := by
  have hl := (h.look k hk).1
  cases hg : getF M k with
  | none =>
    rw [hg] at hl
    have HB := Lib.hid (below_alloc w (.cells #[.string ⟨#[]⟩] 9))
    clear h hk hg
    simp only [Option.getD_none, Option.isSome_none] at hl
    go_enter Tryz.func40, Tryz.ntmps40
    go_wp2_with fail
    go_ret
    exact ⟨_, rfl, rfl, HB.out⟩
  | some s =>
    rw [hg] at hl
    have HB := Lib.hid (below_alloc w (.cells #[.string s] 9))
    clear h hk hg
    simp only [Option.getD_some, Option.isSome_some] at hl
    go_enter Tryz.func40, Tryz.ntmps40
    go_wp2_with fail
    go_ret
    exact ⟨_, rfl, ⟨w.heap.size, rfl, Nat.le_refl _, by go_cell⟩, HB.out⟩

theorem rsame_calls (B : Nat) (a b : Option ByteArray) (va vb : Value) (w : World) (ha : PtrAt B w va a) (hb : PtrAt B w vb b) : Calls Tryz.prog 70 #[va, vb] w (BoolIs (sameO a b) w) := by
  cases a with
  | none =>
    obtain rfl : va = .pointer none := ha
    obtain ⟨p, rfl⟩ : ∃ p, vb = .pointer p := by
      cases b with
      | none => exact ⟨_, hb⟩
      | some y => obtain ⟨g, h, _⟩ := hb; exact ⟨_, h⟩
    clear hb
    have hs : sameO none b = false := rfl
    rw [hs]
    go_enter Tryz.func70, Tryz.ntmps70
    go_wp2_with fail
    go_ret
    exact ⟨rfl, Below.refl _ _⟩
  | some x =>
    obtain ⟨ga, rfl, _, ca⟩ := ha
    cases b with
    | none =>
      obtain rfl : vb = .pointer none := hb
      have hs : sameO (some x) none = false := rfl
      rw [hs]
      go_enter Tryz.func70, Tryz.ntmps70
      go_wp2_with fail
      go_ret
      exact ⟨rfl, Below.refl _ _⟩
    | some y =>
      obtain ⟨gb, rfl, _, cb⟩ := hb
      have hs : sameO (some x) (some y) = decide (x = y) := rfl
      rw [hs]
      obtain ⟨b3, hb3⟩ : ∃ b3, decide (x = y) = b3 := ⟨_, rfl⟩
      have hqf : (x.toList == y.toList) = b3 := by rw [← hb3]; exact name_eq x y
      rw [hb3]
      clear hb3 hs
      go_enter Tryz.func70, Tryz.ntmps70
      go_wp2_with fail
      go_quiet (fail)
      go_wp2_with fail
      go_ret
      exact ⟨rfl, below_drewN _ _ _⟩
theorem rchoice_calls (B : Nat) (old now : Option ByteArray) (next : ByteArray) (vo vn vx : Value) (w : World) (ho : PtrAt B w vo old) (hn : PtrAt B w vn now) (hx : PtrAt B w vx (some next)) : Calls Tryz.prog 39 #[vo, vn, vx] w fun E w' => E = .returned (.int .i64 (choiceD old now next)) ∧ Below w.heap.size w w' := by
  have S1 := Lib.hid (fun (W : World) (hb : Below w.heap.size w W) => rsame_calls B now (some next) vn vx W (hn.below hb) (hx.below hb))
  have S2 := Lib.hid (fun (W : World) (hb : Below w.heap.size w W) => rsame_calls B old (some next) vo vx W (ho.below hb) (hx.below hb))
  have S3 := Lib.hid (fun (W : World) (hb : Below w.heap.size w W) => rsame_calls B now old vn vo W (hn.below hb) (ho.below hb))
  obtain ⟨gx, rfl, -, -⟩ := hx
  cases old with
  | none =>
    obtain rfl : vo = .pointer none := ho
    cases now with
    | none =>
      obtain rfl : vn = .pointer none := hn
      have hs : choiceD none none next = 0 := rfl
      rw [hs]
      clear S1 S2 S3 hs
      go_enter Tryz.func39, Tryz.ntmps39
      go_wp2_with fail
      go_ret
      exact ⟨rfl, Below.refl _ _⟩
    | some y =>
      obtain ⟨gn, rfl, -, -⟩ := hn
      obtain ⟨b1, hb1⟩ : ∃ b1, sameO (some y) (some next) = b1 := ⟨_, rfl⟩
      have hs : choiceD none (some y) next = if b1 then 1 else 2 := by rw [← hb1]; rfl
      rw [hb1] at S1
      rw [hs]
      clear S2 S3 hs hb1
      go_enter Tryz.func39, Tryz.ntmps39
      go_wp2_with fail
      refine (S1.out _ (Below.refl _ _)).mono ?_
      rintro E wz ⟨rfl, hb⟩
      have HB := Lib.hid hb
      clear hb
      cases b1
      · go_wp2_with fail
        go_ret
        exact ⟨rfl, HB.out⟩
      · go_wp2_with fail
        go_ret
        exact ⟨rfl, HB.out⟩
  | some x =>
    obtain ⟨go, rfl, -, -⟩ := ho
    obtain ⟨b1, hb1⟩ : ∃ b1, sameO now (some next) = b1 := ⟨_, rfl⟩
    obtain ⟨b2, hb2⟩ : ∃ b2, sameO (some x) (some next) = b2 := ⟨_, rfl⟩
    obtain ⟨b3, hb3⟩ : ∃ b3, sameO now (some x) = b3 := ⟨_, rfl⟩
    have hs : choiceD (some x) now next = if b1 then 1 else if b2 then 1 else if b3 then 0 else 2 := by
      rw [← hb1, ← hb2, ← hb3]
      cases now <;> rfl
    rw [hb1] at S1
    rw [hb2] at S2
    rw [hb3] at S3
    rw [hs]
    clear hb1 hb2 hb3 hs
    go_enter Tryz.func39, Tryz.ntmps39
    go_wp2_with fail
    refine (S1.out _ (Below.refl _ _)).mono ?_
    rintro E wz ⟨rfl, hb⟩
    have HB := Lib.hid hb
    clear hb
    cases b1
    · go_wp2_with fail
      refine (S2.out _ HB.out).mono ?_
      rintro E wz ⟨rfl, hb⟩
      replace HB := Lib.hid (step_below HB.out hb)
      clear hb
      cases b2
      · go_wp2_with fail
        refine (S3.out _ HB.out).mono ?_
        rintro E wz ⟨rfl, hb⟩
        replace HB := Lib.hid (step_below HB.out hb)
        clear hb
        cases b3
        · go_wp2_with fail
          go_ret
          exact ⟨rfl, HB.out⟩
        · go_wp2_with fail
          go_ret
          exact ⟨rfl, HB.out⟩
      · go_wp2_with fail
        go_ret
        exact ⟨rfl, HB.out⟩
    · go_wp2_with fail
      go_ret
      exact ⟨rfl, HB.out⟩
end Go.Proofs.YtofogjfemlhffaaGreatDoor

namespace Go.Proofs.YtofogjfemlhffaaGreatDoor
open Go Go.RowKit

set_option maxRecDepth 100000 in
theorem fileNamed_calls (x : Fv) (b : Nat) (s : ByteArray) (w : World) (hc : w.cell? ⟨b, 0, none⟩ = some (.string s)) :
    Calls Tryz.prog 59 #[.agg #[.string x.n, .string x.v], .pointer (some ⟨b, 0, none⟩)] w (BoolIs (decide (x.n = s)) w) := by
  have hb0 := below_alloc w (.cells #[.string x.n, .string x.v] 72)
  have hc1 := kept hb0 hc
  have hq := name_eq x.n s
  obtain ⟨bq, hbq⟩ : ∃ y, decide (x.n = s) = y := ⟨_, rfl⟩
  rw [hbq] at hq ⊢
  clear hbq hc
  go_enter Tryz.func59, Tryz.ntmps59
  go_wp2_with fail
  go_ret
  exact ⟨ret_bool (by first | rfl | (simp [hq])), hb0⟩

set_option maxHeartbeats 1000000 in
set_option maxRecDepth 100000 in
theorem idxFile_calls (v : Value) (fs : List Fv) (b : Nat) (p : Fv → Bool) (w : World) (h : FieldsAt w v fs) (C : ∀ (W : World) (x : Fv), Below w.heap.size w W → x ∈ fs → Calls Tryz.prog 59 #[.agg #[.string x.n, .string x.v], .pointer (some ⟨b, 0, none⟩)] W (BoolIs (p x) W)) :
    Calls Tryz.prog 85 #[v, .func (.func 59) #[] #[.pointer (some ⟨b, 0, none⟩)]] w (IdxIs (fs.any p) w) := by
  obtain ⟨A, c, hv, hc, hm, hr⟩ := h.open
  subst hv
  obtain ⟨len, hlen⟩ : ∃ len, fs.length = len := ⟨_, rfl⟩
  have HL := Lib.hid hlen
  have HR := Lib.hid hr
  have HC := Lib.hid C
  rw [hlen] at hc hm ⊢
  clear hlen hr C h
  go_enter Tryz.func85, Tryz.ntmps85
  go_wp2_with fail
  go_loopw [8] (fun i wr => ∃ k : Nat, k ≤ len ∧ i = .int .i64 k ∧ Hid ((fs.take k).any p = false) ∧ Below w.heap.size w wr) (fun i _ => len - (intOf i).toNat)
  case atStart => exact ⟨0, Nat.zero_le _, rfl, rfl, Below.refl _ _⟩
  case round =>
    obtain ⟨k, hk, rfl, hall, hB⟩ := hrel
    by_cases hlt : k < len
    · have hne : fs ≠ [] := by
        intro e
        have := HL.out
        rw [e] at this
        simp at this
        omega
      obtain ⟨x, ht⟩ : ∃ x, fs[k]? = some x := ⟨fs[k]'(by have := HL.out; omega), List.getElem?_eq_getElem _⟩
      obtain ⟨b', off, rfl, hi⟩ := HR.out hne
      obtain ⟨c0, c1⟩ := hi k x ht
      replace c0 := kept hB c0
      replace c1 := kept hB c1
      have HT := Lib.hid ht
      have H := Lib.hid (HC.out wr x hB (List.mem_of_getElem? ht))
      obtain ⟨pb, hpb⟩ : ∃ pb, p x = pb := ⟨_, rfl⟩
      have HP := Lib.hid hpb
      rw [hpb] at H
      clear ht hi hne hpb
      go_wp2_with fail
      refine H.out.mono ?_
      rintro E w1 ⟨rfl, hb⟩
      have hB := step_below hB hb
      clear hb H
      cases pb with
      | true =>
        go_wp2_with fail
        go_ret
        exact ⟨_, rfl, by rw [any_stop HT.out HP.out]; simp, hB⟩
      | false =>
        go_wp2_with fail
        go_roundw
        case rel => exact ⟨k + 1, by omega, by go_num, Lib.hid (any_take_succ hall.out HT.out HP.out), hB⟩
        case measure => simp [intOf]; omega
    · obtain rfl : k = len := by omega
      go_wp2_with fail
      go_ret
      exact ⟨_, rfl, by have := hall.out; rw [← HL.out] at this; rw [any_done this]; simp, hB⟩

set_option maxRecDepth 100000 in
theorem hasFile_calls (v : Value) (fs : List Fv) (b : Nat) (p : Fv → Bool) (w : World) (h : FieldsAt w v fs) (C : ∀ (W : World) (x : Fv), Below w.heap.size w W → x ∈ fs → Calls Tryz.prog 59 #[.agg #[.string x.n, .string x.v], .pointer (some ⟨b, 0, none⟩)] W (BoolIs (p x) W)) :
    Calls Tryz.prog 58 #[v, .func (.func 59) #[] #[.pointer (some ⟨b, 0, none⟩)]] w (BoolIs (fs.any p) w) := by
  have H := Lib.hid (idxFile_calls v fs b p w h C)
  clear h C
  go_enter Tryz.func58, Tryz.ntmps58
  go_wp2_with fail
  refine H.out.mono ?_
  rintro E w1 ⟨i, rfl, hi, hb⟩
  have HI := Lib.hid hi
  clear hi
  by_cases h0 : 0 ≤ i
  · go_wp2_with fail
    go_ret
    exact ⟨ret_bool (by rw [← HI.out]; simp [h0]), hb⟩
  · go_wp2_with fail
    go_ret
    exact ⟨ret_bool HI.out, hb⟩

set_option maxRecDepth 100000 in
/-- is this setting no path of the package's files -/
theorem noFile_calls (s : ByteArray) (m : Nat) (v9 : Value) (fs : List Fv) (w : World) (hc : w.cell? ⟨m, 12, none⟩ = some v9) (h9 : FieldsAt w v9 fs) :
    Calls Tryz.prog 57 #[.string s, .pointer (some ⟨m, 0, none⟩)] w (BoolIs (!hasFile fs s) w) := by
  have hb0 := below_alloc w (.cells #[.string s] 9)
  have hc1 := kept hb0 hc
  have hd : (w.alloc (.cells #[.string s] 9)).cell? ⟨w.heap.size, 0, none⟩ = some (.string s) := by go_cell
  have H := Lib.hid (hasFile_calls v9 fs w.heap.size (fun f => decide (f.n = s)) (w.alloc (.cells #[.string s] 9)) (h9.below hb0) (fun W x hb _ => fileNamed_calls x w.heap.size s W (kept hb hd)))
  obtain ⟨A, c, rfl, _⟩ := h9.open
  obtain ⟨bq, hbq⟩ : ∃ y, (fs.any fun f => decide (f.n = s)) = y := ⟨_, rfl⟩
  have HQ := Lib.hid (show hasFile fs s = bq from hbq)
  rw [hbq] at H
  clear hbq h9 hc hd
  go_enter Tryz.func57, Tryz.ntmps57
  go_wp2_with fail
  refine H.out.mono ?_
  rintro E w1 ⟨rfl, hb⟩
  have hB := step_below hb0 hb
  clear hb H hb0 hc1
  go_wp2_with fail
  go_ret
  exact ⟨ret_bool (by rw [HQ.out]), hB⟩

set_option maxHeartbeats 1000000 in
set_option maxRecDepth 100000 in
theorem idxSet_calls (v : Value) (fs : List ByteArray) (b : Nat) (p : ByteArray → Bool) (w : World) (h : StrsAt w v fs) (C : ∀ (W : World) (x : ByteArray), Below w.heap.size w W → x ∈ fs → Calls Tryz.prog 57 #[.string x, .pointer (some ⟨b, 0, none⟩)] W (BoolIs (p x) W)) :
    Calls Tryz.prog 84 #[v, .func (.func 57) #[] #[.pointer (some ⟨b, 0, none⟩)]] w (IdxIs (fs.any p) w) := by
  obtain ⟨A, c, hv, hc, hm, hr⟩ := h.open
  subst hv
  obtain ⟨len, hlen⟩ : ∃ len, fs.length = len := ⟨_, rfl⟩
  have HL := Lib.hid hlen
  have HR := Lib.hid hr
  have HC := Lib.hid C
  rw [hlen] at hc hm ⊢
  clear hlen hr C h
  go_enter Tryz.func84, Tryz.ntmps84
  go_wp2_with fail
  go_loopw [8] (fun i wr => ∃ k : Nat, k ≤ len ∧ i = .int .i64 k ∧ Hid ((fs.take k).any p = false) ∧ Below w.heap.size w wr) (fun i _ => len - (intOf i).toNat)
  case atStart => exact ⟨0, Nat.zero_le _, rfl, rfl, Below.refl _ _⟩
  case round =>
    obtain ⟨k, hk, rfl, hall, hB⟩ := hrel
    by_cases hlt : k < len
    · have hne : fs ≠ [] := by
        intro e
        have := HL.out
        rw [e] at this
        simp at this
        omega
      obtain ⟨x, ht⟩ : ∃ x, fs[k]? = some x := ⟨fs[k]'(by have := HL.out; omega), List.getElem?_eq_getElem _⟩
      obtain ⟨b', off, rfl, hi⟩ := HR.out hne
      have c0 := kept hB (hi k x ht)
      have HT := Lib.hid ht
      have H := Lib.hid (HC.out wr x hB (List.mem_of_getElem? ht))
      obtain ⟨pb, hpb⟩ : ∃ pb, p x = pb := ⟨_, rfl⟩
      have HP := Lib.hid hpb
      rw [hpb] at H
      clear ht hi hne hpb
      go_wp2_with fail
      refine H.out.mono ?_
      rintro E w1 ⟨rfl, hb⟩
      have hB := step_below hB hb
      clear hb H
      cases pb with
      | true =>
        go_wp2_with fail
        go_ret
        exact ⟨_, rfl, by rw [any_stop HT.out HP.out]; simp, hB⟩
      | false =>
        go_wp2_with fail
        go_roundw
        case rel => exact ⟨k + 1, by omega, by go_num, Lib.hid (any_take_succ hall.out HT.out HP.out), hB⟩
        case measure => simp [intOf]; omega
    · obtain rfl : k = len := by omega
      go_wp2_with fail
      go_ret
      exact ⟨_, rfl, by have := hall.out; rw [← HL.out] at this; rw [any_done this]; simp, hB⟩

set_option maxRecDepth 100000 in
theorem hasSet_calls (v : Value) (fs : List ByteArray) (b : Nat) (p : ByteArray → Bool) (w : World) (h : StrsAt w v fs) (C : ∀ (W : World) (x : ByteArray), Below w.heap.size w W → x ∈ fs → Calls Tryz.prog 57 #[.string x, .pointer (some ⟨b, 0, none⟩)] W (BoolIs (p x) W)) :
    Calls Tryz.prog 56 #[v, .func (.func 57) #[] #[.pointer (some ⟨b, 0, none⟩)]] w (BoolIs (fs.any p) w) := by
  have H := Lib.hid (idxSet_calls v fs b p w h C)
  clear h C
  go_enter Tryz.func56, Tryz.ntmps56
  go_wp2_with fail
  refine H.out.mono ?_
  rintro E w1 ⟨i, rfl, hi, hb⟩
  have HI := Lib.hid hi
  clear hi
  by_cases h0 : 0 ≤ i
  · go_wp2_with fail
    go_ret
    exact ⟨ret_bool (by rw [← HI.out]; simp [h0]), hb⟩
  · go_wp2_with fail
    go_ret
    exact ⟨ret_bool HI.out, hb⟩
end Go.Proofs.YtofogjfemlhffaaGreatDoor

namespace Go.Proofs.YtofogjfemlhffaaGreatDoor
open Go Go.RowKit

/-- the lines so far are well -/
def LinesTo (ls : List ByteArray) (k : Nat) : Prop := ∀ i, i < k → lineOk ls i = true
theorem LinesTo.succ {ls : List ByteArray} {k : Nat} (h : LinesTo ls k) (hb : lineOk ls k = true) : LinesTo ls (k + 1) := fun i hi => by
  rcases Nat.lt_or_ge i k with h' | h'
  · exact h i h'
  · obtain rfl : i = k := by omega
    exact hb
end Go.Proofs.YtofogjfemlhffaaGreatDoor

namespace Go.Proofs.YtofogjfemlhffaaGreatDoor
open Go Go.RowKit

/-- what is written, and what is to come -/
def SoFar (T : List UInt8) (S : ByteArray) (todo : List UInt8) : Prop := S.data.toList ++ todo = T
theorem SoFar.size {T todo : List UInt8} {S : ByteArray} (h : SoFar T S todo) : S.size + todo.length = T.length := by
  rw [← h, List.length_append, size_eq_length]
theorem SoFar.add {T a todo : List UInt8} {S s : ByteArray} (h : SoFar T S (a ++ todo)) (hs : s.data.toList = a) : SoFar T (S ++ s) todo := by
  unfold SoFar at h ⊢
  rw [append_data, hs, List.append_assoc]; exact h
end Go.Proofs.YtofogjfemlhffaaGreatDoor

namespace Go.Proofs.YtofogjfemlhffaaGreatDoor
open Go Go.RowKit

theorem sl_slice {α : Type} {cs : α → List Value} {w : World} {v : Value} {xs : List α} (h : SlC cs w v xs) : ∃ A n c, v = .slice A n c := by
  obtain ⟨A, c, hv, _⟩ := h
  exact ⟨A, _, c, hv⟩

set_option maxHeartbeats 4000000 in
set_option maxRecDepth 100000 in
theorem arcRight_calls (v : Value) (p : Pv) (w : World) (hE : Env w) (h : PackAt w v p) (hf : p.Fit) (hz : ∀ f ∈ p.fi, f.n.size ≤ 1000000) : Calls Tryz.prog 30 #[v] w (BoolIs (archB p) w) := by
  obtain ⟨v1, v2, v3, v4, v5, v6, v7, v8, v9, rfl, h1, h2, h3, h4, h5, h6, h7, h8, h9, hlo, hhi⟩ := id h
  obtain ⟨len, hlen⟩ : ∃ len, p.fi.length = len := ⟨_, rfl⟩
  obtain ⟨A9, k9, rfl, hc9, hm9, hr9⟩ := h9.open
  obtain ⟨A7, n7, k7, rfl⟩ := sl_slice h7
  rw [hlen] at hc9 hm9 h h9 ⊢
  have hB0 := below_alloc w (.cells #[.string p.n, .int .i64 p.e, .string p.u, .string p.r, v1, v2, v3, v4, v5, v6, .slice A7 n7 k7, v8, .slice A9 len k9] 43)
  have CR := Lib.hid (recRight_calls _ p _ (hE.below hB0) (h.below hB0) hf)
  obtain ⟨bs, hbs⟩ : ∃ y, saysOk p = y := ⟨_, rfl⟩
  have HBS := Lib.hid hbs
  rw [hbs] at CR
  have X0 := packBox_new w p v1 v2 v3 v4 v5 v6 (.slice A7 n7 k7) v8 (.slice A9 len k9) 43
  obtain ⟨c0, c1, c2, c3, c4, c5, c6, c7, c8, c9, c10, c11, c12⟩ := id X0
  have HL := Lib.hid hlen
  have HR := Lib.hid hr9
  have HEE := Lib.hid hE
  have HZ := Lib.hid hz
  have H7 := Lib.hid h7
  have H9 := Lib.hid h9
  clear h1 h2 h3 h4 h5 h6 h7 h8 h9 h hf hE hz hbs hlen hr9
  go_enter Tryz.func30, Tryz.ntmps30
  go_wp2_with fail
  refine CR.out.mono ?_
  rintro E w1 ⟨rfl, hb⟩
  have X1 := X0.below hb
  have HB1 := Lib.hid (step_below hB0 hb)
  clear c0 c1 c2 c3 c4 c5 c6 c7 c8 c9 c10 c11 c12 X0 CR hb hB0
  obtain ⟨m, hm⟩ : ∃ m, w.heap.size = m := ⟨_, rfl⟩
  rw [hm] at X1
  have HX1 := Lib.hid X1
  have c12 := X1.c12
  cases bs with
  | false =>
    go_wp2_with fail
    go_ret
    exact ⟨ret_bool (by rw [arch_says HBS.out]), HB1.out⟩
  | true =>
  by_cases hmany : len ≤ 20
  case neg =>
    go_wp2_with fail
    go_ret
    exact ⟨ret_bool (by rw [arch_many (by rw [HL.out]; exact hmany)]), HB1.out⟩
  case pos =>
  clear X1
  go_upto_region 3 with fail
  (try rw [hm])
  clear hm
  go_wp2_with fail
  go_loopw [19] (fun i wr => ∃ k : Nat, k ≤ len ∧ i = .int .i64 k ∧ Hid (FilesTo p.fi k) ∧ Below w1.heap.size w1 wr) (fun i _ => len - (intOf i).toNat)
  case atStart => exact ⟨0, Nat.zero_le _, rfl, Lib.hid (FilesTo.zero _), Below.refl _ _⟩
  case round =>
    clear c12
    obtain ⟨k, hk, rfl, hall, hB⟩ := hrel
    by_cases hlt : k < len
    · have hne : p.fi ≠ [] := by
        intro e
        have := HL.out
        rw [e] at this
        simp at this
        omega
      obtain ⟨f, ht⟩ : ∃ f, p.fi[k]? = some f := ⟨p.fi[k]'(by have := HL.out; omega), List.getElem?_eq_getElem _⟩
      obtain ⟨b, off, rfl, hi⟩ := HR.out hne
      obtain ⟨c0, c1⟩ := hi k f ht
      have hBw := step_below HB1.out hB
      replace c0 := kept hBw c0
      replace c1 := kept hBw c1
      have HT := Lib.hid ht
      have HI := Lib.hid hi
      have ha := below_alloc wr (.cells #[.string f.n, .string f.v] 72)
      have d0 : (wr.alloc (.cells #[.string f.n, .string f.v] 72)).cell? ⟨wr.heap.size, 0, none⟩ = some (.string f.n) := by go_cell
      have CP := Lib.hid (pathF_calls f.n (wr.alloc (.cells #[.string f.n, .string f.v] 72)) (HEE.out.below (step_below hBw ha)) (HZ.out f (List.mem_of_getElem? ht)))
      have HBa := Lib.hid (step_below hB ha)
      have c12 := kept (step_below hB ha) HX1.out.c12
      obtain ⟨bp, hbp⟩ : ∃ y, VP.pathP f.n.data.toList = y := ⟨_, rfl⟩
      have HP := Lib.hid hbp
      rw [hbp] at CP
      clear hne hi hBw ha hbp hB
      go_wp2_with fail
      refine CP.out.mono ?_
      rintro E w3 ⟨rfl, hb⟩
      have e0 := kept hb d0
      have c12' := kept hb c12
      have HB3 := Lib.hid (step_below HBa.out hb)
      clear hb d0 c12 CP c0 c1 HBa
      cases bp with
      | false =>
        go_wp2_with fail
        go_ret
        exact ⟨ret_bool (by rw [arch_files (files_bad (by rw [HL.out]; exact hlt) (fileAt_path HT.out HP.out))]), step_below HB1.out HB3.out⟩
      | true =>
      obtain ⟨mf, hmf⟩ : ∃ mf, wr.heap.size = mf := ⟨_, rfl⟩
      rw [hmf] at e0
      (try rw [hmf])
      clear hmf
      go_wp2_with fail
      clear c12'
      have hz3 := Below.refl w3.heap.size w3
      go_loopw [31] (fun i wx => ∃ q : Nat, q ≤ len ∧ i = .int .i64 q ∧ Hid (PairsTo p.fi f k q) ∧ Below w3.heap.size w3 wx) (fun i _ => len - (intOf i).toNat)
      case atStart => exact ⟨0, Nat.zero_le _, rfl, Lib.hid (PairsTo.zero _ _ _), hz3⟩
      case round =>
        clear hz3
        obtain ⟨q, hq, rfl, hpr, hz⟩ := hrel
        by_cases hqt : q < len
        · obtain ⟨g, hg⟩ : ∃ g, p.fi[q]? = some g := ⟨p.fi[q]'(by have := HL.out; omega), List.getElem?_eq_getElem _⟩
          obtain ⟨j0, j1⟩ := HI.out q g hg
          have hBw := step_below HB1.out (step_below HB3.out hz)
          replace j0 := kept hBw j0
          replace j1 := kept hBw j1
          have hag := below_alloc wr (.cells #[.string g.n, .string g.v] 72)
          have e1 := kept (step_below hz hag) e0
          have i0 : (wr.alloc (.cells #[.string g.n, .string g.v] 72)).cell? ⟨wr.heap.size, 0, none⟩ = some (.string g.n) := by go_cell
          have HZG := Lib.hid (step_below hz hag)
          have HG := Lib.hid hg
          clear hBw hag hg hz
          by_cases hqk : q = k
          · subst hqk
            have HK := Lib.hid (hpr.out.succ HG.out (show pairOk f q g q = true by unfold pairOk; simp))
            go_wp2_with fail
            go_roundw
            case rel => exact ⟨q + 1, by omega, by go_num, HK, HZG.out⟩
            case measure => simp [intOf]; omega
          · have hn1 : ((q : Int) == (k : Int)) = false := by rw [beq_eq_false_iff_ne]; omega
            have hn2 : ((q : Int) != (k : Int)) = true := by rw [bne, hn1]; rfl
            have hnq : ¬ (q : Int) = (k : Int) := by omega
            have q1 := name_eq g.n f.n
            have q2 := name_eq' g.n f.n
            obtain ⟨be, hbe⟩ : ∃ y, decide (g.n = f.n) = y := ⟨_, rfl⟩
            have HBE := Lib.hid hbe
            rw [hbe] at q1 q2
            have CH := Lib.hid (fun (W : World) => Tryz.strings_HasPrefix g.n (f.n ++ ⟨#[47]⟩) W)
            obtain ⟨bu, hbu⟩ : ∃ y, underB f g = y := ⟨_, rfl⟩
            have CH' : Hid (∀ W : World, Calls Tryz.prog 26 #[.string g.n, .string (f.n ++ ⟨#[47]⟩)] W fun E W' => E = .returned (.bool bu) ∧ W = W') := fun W => (CH.out W).mono fun E W' ⟨he, hw⟩ => ⟨by rw [he, ← hbu]; rfl, hw.symm⟩
            have HPK := Lib.hid (show pairOk f k g q = !(be || bu) by unfold pairOk clashB; rw [hbe, hbu, show decide (q = k) = false from decide_eq_false hqk, Bool.false_or])
            clear hbe hbu CH
            cases be with
            | true =>
              go_wp2_with fail
              go_ret
              exact ⟨ret_bool (by rw [arch_files (files_bad (by rw [HL.out]; exact hlt) (fileAt_clash HT.out HG.out HPK.out))]), step_below HB1.out (step_below HB3.out HZG.out)⟩
            | false =>
              have hfz : f.n.size ≤ 1000000 := HZ.out f (List.mem_of_getElem? HT.out)
              go_wp2_with fail
              refine (CH'.out _).mono ?_
              rintro E w5 ⟨rfl, rfl⟩
              cases bu with
              | true =>
                go_wp2_with fail
                go_ret
                exact ⟨ret_bool (by rw [arch_files (files_bad (by rw [HL.out]; exact hlt) (fileAt_clash HT.out HG.out HPK.out))]), step_below HB1.out (step_below HB3.out HZG.out)⟩
              | false =>
                have HK := Lib.hid (hpr.out.succ HG.out HPK.out)
                go_wp2_with fail
                go_roundw
                case rel => exact ⟨q + 1, by omega, by go_num, HK, HZG.out⟩
                case measure => simp [intOf]; omega
        · obtain rfl : q = len := by omega
          have HA := Lib.hid (hall.out.succ (fileAt_true HT.out HP.out (by rw [HL.out]; exact hpr.out)))
          have HB4 := Lib.hid (step_below HB3.out hz)
          clear hz hpr
          go_wp2_with fail
          go_roundw
          case rel => exact ⟨k + 1, by omega, by go_num, HA, HB4.out⟩
          case measure => simp [intOf]; omega
    · obtain rfl : k = len := by omega
      have HAR := Lib.hid (arch_rest HBS.out (by rw [HL.out]; exact hmany) (FilesTo.done (by rw [HL.out]; exact hall.out)))
      have c10 := kept hB HX1.out.c10
      have HBB := Lib.hid (step_below HB1.out hB)
      have c12 := kept hB HX1.out.c12
      have C := Lib.hid (hasSet_calls (.slice A7 n7 k7) p.se m (fun s => !hasFile p.fi s) wr (H7.out.below HBB.out) (fun W x hb _ => noFile_calls x m (.slice A9 k k9) p.fi W (kept hb c12) (H9.out.below (step_below HBB.out hb))))
      have HS := Lib.hid (show (p.se.any fun s => !hasFile p.fi s) = !setOk p by unfold setOk; rw [List.not_all_eq_any_not])
      rw [HS.out] at C
      obtain ⟨bz, hbz⟩ : ∃ y, setOk p = y := ⟨_, rfl⟩
      rw [hbz] at C HAR
      clear hB hall hbz c12
      go_wp2_with fail
      refine C.out.mono ?_
      rintro E w9 ⟨rfl, hb⟩
      have hBf := step_below HBB.out hb
      clear C hb
      go_wp2_with fail
      go_ret
      exact ⟨ret_bool (by rw [HAR.out] <;> (cases bz <;> rfl)), hBf⟩
end Go.Proofs.YtofogjfemlhffaaGreatDoor

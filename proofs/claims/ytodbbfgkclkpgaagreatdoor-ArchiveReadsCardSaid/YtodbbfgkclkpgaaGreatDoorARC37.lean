/- The reference's ReadFields of all fields. · The reference's ParseStanzas: what it asks for in another order is the same: plain. -/
import Derived.Test.YtodbbfgkclkpgaaGreatDoorARC29
import Derived.Test.YtodbbfgkclkpgaaGreatDoorARC36
import Derived.Test.YtodbbfgkclkpgaaGreatDoorARC23
import Derived.Test.YtodbbfgkclkpgaaGreatDoorARC8
namespace Go.Proofs.YtodbbfgkclkpgaaGreatDoor
open Go Go.RowKit

set_option maxHeartbeats 4000000 in
set_option maxRecDepth 100000 in
theorem refRead_missing (v : Value) (fs : List Fv) (w : World) (h : FieldsAt w v fs) (hs : ∀ f ∈ fs, f.n.size ≤ 6000 ∧ f.v.size ≤ 6000) (hm : ((getB fs nPackage).isSome && (getB fs nVersion).isSome) = false) : Calls Tryz.prog 25 #[v] w (RefReadIs fs w) := by
  have CG := Lib.hid (fun (n : ByteArray) (hn : n.size ≤ 1000) (W : World) (hb : Below w.heap.size w W) => (show Calls Tryz.prog 89 #[v, .string n] W (fun E W' => E = .returned (.tuple #[.string (sayF fs n), .bool (getB fs n).isSome]) ∧ Below W.heap.size W W') from refGet_calls v fs n W (h.below hb) (fun f hf => by have := (hs f hf).1; omega) (by omega)))
  obtain ⟨A0, n0, k0, rfl⟩ : ∃ A n c, v = .slice A n c := by obtain ⟨A, c, hv, _⟩ := h; exact ⟨A, _, c, hv⟩
  have HR := Lib.hid (rd_error (readP_missing hm))
  have C1 := Lib.hid (CG.out lPackage (by decide))
  have C2 := Lib.hid (CG.out lVersion (by decide))
  have LOW := Lib.hid (get_low fs)
  rw [LOW.out.1] at C1
  rw [LOW.out.2.1] at C2
  obtain ⟨a, ha⟩ : ∃ a, (getB fs nPackage).isSome = a := ⟨_, rfl⟩
  obtain ⟨b, hb⟩ : ∃ b, (getB fs nVersion).isSome = b := ⟨_, rfl⟩
  rw [ha] at C1 hm
  rw [hb] at C2 hm
  have R0 := RfSt.start w (.slice A0 n0 k0)
  have hB0 := R0.w
  have l0 := R0.l
  clear ha hb h hs CG
  go_enter Tryz.func25, Tryz.ntmps25
  go_wp2_with fail
  refine (C1.out _ hB0).mono ?_
  rintro E w1 ⟨rfl, hb⟩
  have R1 := R0.below hb
  have HB1 := Lib.hid R1.w
  have l1 := R1.l
  clear hb hB0 R0 l0
  go_wp2_with fail
  refine (C2.out _ HB1.out).mono ?_
  rintro E w2 ⟨rfl, hb⟩
  have R2 := R1.below hb
  have HB2 := Lib.hid R2.w
  have fz := R2.z.frozen
  have z0 := (R2.z.cell (i := 0) rfl); have z1 := (R2.z.cell (i := 1) rfl); have z2 := (R2.z.cell (i := 2) rfl); have z3 := (R2.z.cell (i := 3) rfl); have z4 := (R2.z.cell (i := 4) rfl); have z5 := (R2.z.cell (i := 5) rfl); have z6 := (R2.z.cell (i := 6) rfl); have z7 := (R2.z.cell (i := 7) rfl); have z8 := (R2.z.cell (i := 8) rfl); have z9 := (R2.z.cell (i := 9) rfl); have z10 := (R2.z.cell (i := 10) rfl); have z11 := (R2.z.cell (i := 11) rfl); have z12 := (R2.z.cell (i := 12) rfl)
  obtain ⟨o0, o1, o2, o3, o4, o5, o6, o7, o8, o9, o10, o11, o12⟩ := zero_box R2.n
  have hlow : w.heap.size ≤ w.heap.size + 1 := by omega
  clear C1 C2 hb R1 R2 l1
  cases a <;> cases b <;> first | (cases hm; done) | (
    go_wp2_with fail
    refine bodyPost_ret (v := .tuple #[.agg zeros, .int .i64 7]) (by simp [results, zeros, pack0, Tryz.results25, go_sem, z0, z1, z2, z3, z4, z5, z6, z7, z8, z9, z10, z11, z12]) rfl ?_
    exact refReadIs_err HR.out (below_set13 HB2.out hlow _ _ _ _ _ _ _ _ _ _ _ _ _))

theorem refRead_calls (v : Value) (fs : List Fv) (w : World) (hE : Env w) (h : FieldsAt w v fs) (hs : ∀ f ∈ fs, f.n.size ≤ 6000 ∧ f.v.size ≤ 6000) : Calls Tryz.prog 25 #[v] w (RefReadIs fs w) := by
  cases hm : (getB fs nPackage).isSome && (getB fs nVersion).isSome with
  | false => exact refRead_missing v fs w h hs hm
  | true => exact refRead_main v fs w hE h hs hm
end Go.Proofs.YtodbbfgkclkpgaaGreatDoor

namespace Go.Proofs.YtodbbfgkclkpgaaGreatDoor
open Go Go.RowKit

theorem rtrim_last {p : UInt8 → Bool} {l : List UInt8} {c : UInt8} (h : (VP.rtrim p l).getLast? = some c) : p c = false := by
  unfold VP.rtrim at h
  rw [List.getLast?_reverse] at h
  exact VP.dropWhile_head p _ c h
theorem cut_last {p : UInt8 → Bool} {l : List UInt8} {c : UInt8} (h : (VP.cutBoth p l).getLast? = some c) : p c = false := rtrim_last (l := l) (VP.dropWhile_last p _ c h)
theorem rtrim_id {p : UInt8 → Bool} {l : List UInt8} (h : ∀ c, l.getLast? = some c → p c = false) : VP.rtrim p l = l := by
  unfold VP.rtrim
  rw [VP.dropWhile_id (fun c hc => h c (by rwa [List.head?_reverse] at hc)), List.reverse_reverse]
theorem cut_id {p : UInt8 → Bool} {l : List UInt8} (h0 : ∀ c, l.head? = some c → p c = false) (h1 : ∀ c, l.getLast? = some c → p c = false) : VP.cutBoth p l = l := by
  show (VP.rtrim p l).dropWhile p = l
  rw [rtrim_id h1]
  exact VP.dropWhile_id h0
/-- a trimmed line that begins with two points is a line just if it is one behind the first -/
theorem line_dot {t u : ByteArray} {l : List UInt8} (ht : t.data.toList = VP.cutBoth VP.bl l) (h46 : t.data.toList.head? = some 46) (hu : u.data.toList = t.data.toList.tail) (h47 : u.data.toList.head? = some 46) : VP.flineP u.data.toList = VP.flineP t.data.toList := by
  obtain ⟨a, r, hr⟩ : ∃ a r, t.data.toList = a :: r := by
    cases hl : t.data.toList with
    | nil => rw [hl] at h46; cases h46
    | cons a r => exact ⟨a, r, rfl⟩
  rw [hr, List.head?_cons] at h46
  obtain rfl := Option.some.inj h46
  rw [hr, List.tail_cons] at hu
  have hne : r ≠ [] := by intro e; rw [hu, e] at h47; cases h47
  have hlast : ∀ c, r.getLast? = some c → VP.bl c = false := fun c hc => by
    refine cut_last (l := l) ?_
    rw [← ht, hr, List.getLast?_cons]
    rw [hc]; rfl
  have e1 : VP.cutBoth VP.bl r = r := cut_id (fun c hc => by rw [hu, hc] at h47; rw [Option.some.inj h47]; decide) hlast
  have e2 : VP.cutBoth VP.bl (46 :: r) = 46 :: r := cut_id (fun c hc => by rw [← Option.some.inj hc]; decide) (fun c hc => hlast c (by rw [List.getLast?_cons_of_ne_nil hne] at hc; exact hc))
  unfold VP.flineP
  rw [hu, hr, e1, e2, decide_eq_true rfl, decide_eq_true rfl, List.all_cons]
  have : VP.okL 46 = true := by decide
  rw [this]
  simp
theorem cont_dot {t u : ByteArray} {l : List UInt8} (ht : t.data.toList = VP.cutBoth VP.bl l) (h46 : t.data.toList.head? = some 46) (hu : u.data.toList = t.data.toList.tail) (h47 : u.data.toList.head? = some 46) : contOf t = if VP.flineP u.data.toList then some u else none := by
  unfold contOf
  rw [← line_dot ht h46 hu h47, ← hu, if_pos h46, if_pos h47, mk_data]
theorem cont_nodot {t u : ByteArray} (h46 : t.data.toList.head? = some 46) (hu : u.data.toList = t.data.toList.tail) (h47 : ¬ u.data.toList.head? = some 46) : contOf t = none := by
  unfold contOf
  rw [if_pos h46, ← hu, if_neg h47]
  split <;> rfl
theorem cont_plain {t : ByteArray} (h46 : ¬ t.data.toList.head? = some 46) : contOf t = if VP.flineP t.data.toList then some t else none := by
  unfold contOf
  rw [if_neg h46]
theorem head_not {t : ByteArray} (h : 0 < t.size) (h46 : ¬ t[0].toNat = 46) : ¬ t.data.toList.head? = some 46 := by
  rw [list_cons t h, List.head?_cons]
  intro e
  exact h46 (by rw [Option.some.inj e]; rfl)
theorem head_yes {t : ByteArray} (h : 0 < t.size) (h46 : t[0].toNat = 46) : t.data.toList.head? = some 46 := by
  rw [list_cons t h, List.head?_cons, show t[0] = 46 from UInt8.toNat_inj.1 h46]
theorem head_nil {t : ByteArray} (h : t.size = 0) : ¬ t.data.toList.head? = some 46 := by
  rw [eq_empty t h]; simp
theorem getB_any (fs : List Fv) (s : ByteArray) : (getB fs s).isSome = fs.any (fun g => sameN g.n s) := by
  unfold getB
  rw [Option.isSome_map, Bool.eq_iff_iff, List.find?_isSome]
  simp
theorem pstep_40 {st st' : PSt} {x : ByteArray} (h : st.2.length ≤ 40) (hs : pstep st x = some st') : st'.2.length ≤ 40 := by
  have hal : ∀ t, (addLast st.2 t).length ≤ 40 := by
    intro t
    unfold addLast
    cases hg : st.2.getLast? with
    | none => exact h
    | some g =>
      have : st.2 ≠ [] := by intro e; rw [e] at hg; cases hg
      have := List.length_pos_iff.2 this
      simp only [List.length_append, List.length_dropLast, List.length_cons, List.length_nil]; omega
  unfold pstep at hs
  split at hs
  · obtain rfl := Option.some.inj hs; exact h
  split at hs
  · obtain rfl := Option.some.inj hs
    unfold flushP
    split
    · exact h
    · simp
  split at hs
  · split at hs
    · cases hs
    · cases hc : contOf (trimB x) with
      | none => rw [hc] at hs; cases hs
      | some t =>
        rw [hc] at hs
        obtain rfl := Option.some.inj hs
        exact hal t
  · cases hf : fieldOf x with
    | none => rw [hf] at hs; cases hs
    | some f =>
      rw [hf] at hs
      dsimp only at hs
      split at hs
      · cases hs
      · rename_i hc
        obtain rfl := Option.some.inj hs
        simp only [List.length_append, List.length_cons, List.length_nil]
        simp only [Bool.or_eq_true, decide_eq_true_eq] at hc
        omega
theorem pfold_40 : ∀ (ls : List ByteArray) {n : Nat} {st st' : PSt}, st.2.length ≤ 40 → pfold n ls st = .ok st' → st'.2.length ≤ 40
  | [], n, st, st', h, hs => by injection hs with hs; subst hs; exact h
  | x :: ls, n, st, st', h, hs => by
    unfold pfold at hs
    cases hp : pstep st x with
    | none => rw [hp] at hs; cases hs
    | some s1 =>
      rw [hp] at hs
      exact pfold_40 ls (pstep_40 h hp) hs
/-- the lines, and an empty one -/
theorem more_no {s : ByteArray} {n : Nat} (h : pfold 0 (piecesB 10 s ++ [⟨#[]⟩]) ([], []) = .error n) : parseS s = .error n := by
  rw [pfold_more] at h
  cases hp : pfold 0 (piecesB 10 s) ([], []) with
  | error m => rw [hp] at h; unfold parseS; rw [hp]; injection h with h; rw [h]
  | ok st => rw [hp] at h; cases h
theorem more_yes {s : ByteArray} {st : PSt} (h : pfold 0 (piecesB 10 s ++ [⟨#[]⟩]) ([], []) = .ok st) : parseS s = .ok st.1 := by
  rw [pfold_more] at h
  cases hp : pfold 0 (piecesB 10 s) ([], []) with
  | error m => rw [hp] at h; cases h
  | ok st' => rw [hp] at h; unfold parseS; rw [hp]; injection h with h; rw [← h]
theorem at_line2 {s : ByteArray} {k : Nat} {st : PSt} (h : pfold 0 ((piecesB 10 s ++ [(⟨#[]⟩ : ByteArray)]).take k) ([], []) = .ok st) : st.1.length + st.2.length ≤ k ∧ st.2.length ≤ 40 ∧ ∀ f ∈ st.2, f.n.size ≤ s.size + 2 ∧ f.v.size ≤ s.size + 2 := by
  have h1 := pfold_count _ h
  rw [List.length_take] at h1
  simp only [List.length_nil] at h1
  have h2 := pfold_fits _ (B := 0) (st := ([], [])) ⟨fun l hl => (by cases hl), fun f hf => (by cases hf)⟩ h
  have h3 := lsum_take (piecesB 10 s ++ [(⟨#[]⟩ : ByteArray)]) k
  have h4 : lsum (piecesB 10 s ++ [(⟨#[]⟩ : ByteArray)]) = s.size + 2 := by
    have := lsum_pieces 10 s
    unfold lsum at this ⊢
    rw [List.map_append, List.sum_append, this]; rfl
  rw [h4] at h3
  refine ⟨by omega, pfold_40 _ (st := ([], [])) (by simp) h, fun f hf => ?_⟩
  have := h2.2 f hf
  omega
theorem split_own (s : ByteArray) (w : World) (hE : Env w) (hs : s.size ≤ 1000000) : Calls Tryz.prog 94 #[.string s, .string ⟨#[10]⟩] w fun E w' => ∃ n, E = .returned (.slice (some ⟨w.heap.size, 0, none⟩) n n) ∧ n = (piecesB 10 s).length ∧ Below w.heap.size w w' ∧ w'.ownsRow w.heap.size 9 1 (.slice (some ⟨w.heap.size, 0, none⟩) n n) n ((piecesB 10 s).map Value.string) := by
  obtain ⟨m, hm⟩ := hE.1
  refine (Tryz.strings_Split s ⟨#[10]⟩ m w (by omega) hm (Nat.le_refl 1)).mono fun E w' ⟨he, hw⟩ => ?_
  have hp := splitB_pieces 10 s.size s (Nat.le_refl _)
  have hlen := Lib.splitB_all ⟨#[10]⟩ (Nat.le_refl 1) 0 _ s rfl
  rw [hp] at hw hlen
  have hb : (piecesB 10 s).length ≤ s.size + 1 := by
    unfold piecesB
    rw [List.length_map, size_eq_length]
    exact pieces_len 10 _
  refine ⟨_, he, hlen.symm, by rw [hw]; exact below_alloc _ _, ?_⟩
  rw [hw]
  have := World.ownsRow_lit (base := w.heap.size) (e := 9) (size := 1) w ((piecesB 10 s).map Value.string).toArray (piecesB 10 s).length (Nat.le_refl _) (by unfold maxLen; omega) (by simp)
  rw [← hlen]
  simpa using this
end Go.Proofs.YtodbbfgkclkpgaaGreatDoor

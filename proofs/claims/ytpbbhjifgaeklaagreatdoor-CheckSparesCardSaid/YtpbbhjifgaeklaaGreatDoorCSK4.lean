/- version.Parse: the version that a text is, or that it is none. -/
import Derived.Test.YtpbbhjifgaeklaaGreatDoorCSK3
namespace Go.Proofs.YtpbbhjifgaeklaaGreatDoor
open Go.RowKit

/-- no version, and ErrForm -/
def noVersion : Value := .tuple #[.agg #[.int .i64 0, .string ⟨#[]⟩, .string ⟨#[]⟩], .iface 43 (.int .i64 3)]

def ParseIs (s : ByteArray) (w : World) (E : Ending) (w' : World) : Prop :=
  Below w.heap.size w w' ∧ ((VP.parseP s.data.toList = none ∧ E = .returned noVersion) ∨
    ∃ (e : Int) (u r : ByteArray), VP.parseP s.data.toList = some (e, u.data.toList, r.data.toList) ∧ E = .returned (.tuple #[.agg #[.int .i64 e, .string u, .string r], .nilIface]))

theorem keptf {w w1 : World} {p : Addr} (hb : Below w.heap.size w w1) (hp : p.block < w.heap.size) (h : w.frozen? p = false) : w1.frozen? p = false := (hb.frozen hp).trans h

set_option maxRecDepth 100000 in
theorem parse_long (s : ByteArray) (w : World) (h : 40 < s.size) : Calls Tryz.prog 64 #[.string s] w (ParseIs s w) := by
  have hn : VP.parseP s.data.toList = none := by
    have := size_eq_length s
    unfold VP.parseP; rw [if_pos (by omega)]
  have HN := Lib.hid hn
  clear hn
  go_enter Tryz.func64, Tryz.ntmps64
  go_wp2
  exact bodyPost_ret (v := noVersion) (by simp [results, Tryz.results64, go_sem, noVersion]) rfl ⟨by go_grown, .inl ⟨HN.out, rfl⟩⟩

theorem cut_parts {s : ByteArray} {a b : List UInt8} (h : VP.cutEnd 45 s.data.toList = some (a, b)) :
    (s.extract 0 a.length).data.toList = a ∧ (s.extract (a.length + 1) s.size).data.toList = b ∧ a.length + 1 ≤ s.size := by
  obtain ⟨e, _⟩ := VP.cutEnd_some h
  have hl := size_eq_length s
  rw [e] at hl
  refine ⟨?_, ?_, by rw [hl]; simp⟩
  · rw [Lib.extract_data, e]; simp
  · rw [Lib.extract_to_end, e]; simp

set_option maxHeartbeats 1000000 in
set_option maxRecDepth 100000 in
theorem parse_nocolon (s : ByteArray) (w : World) (hE : Env w) (hs : s.size ≤ 40) (hc : VP.cutAt 58 s.data.toList = none) : Calls Tryz.prog 64 #[.string s] w (ParseIs s w) := by
  have HQ := Lib.hid (show VP.parseP s.data.toList = VP.restP 0 s.data.toList by
    have := size_eq_length s
    unfold VP.parseP; rw [if_neg (by omega), hc])
  have hE2 : Env ((w.alloc (.cells #[.int .i64 0, .string ⟨#[]⟩, .string ⟨#[]⟩] 23)).alloc (.cells #[.int .i64 0, .string ⟨#[]⟩, .string ⟨#[]⟩] 23)) := (hE.below (below_alloc w (.cells #[.int .i64 0, .string ⟨#[]⟩, .string ⟨#[]⟩] 23))).below (below_alloc _ (.cells #[.int .i64 0, .string ⟨#[]⟩, .string ⟨#[]⟩] 23))
  have hG := step_below (below_alloc w (.cells #[.int .i64 0, .string ⟨#[]⟩, .string ⟨#[]⟩] 23)) (below_alloc _ (.cells #[.int .i64 0, .string ⟨#[]⟩, .string ⟨#[]⟩] 23))
  go_enter Tryz.func64, Tryz.ntmps64
  go_wp2_with fail
  refine (call_cut_none s _ hE2 (by omega) hc).mono ?_
  rintro E w1 ⟨rfl, hb⟩
  clear hc
  have hsz : w.heap.size + 1 < w1.heap.size := by have := hb.size; simp at this; omega
  have k0 := kept hb (p := ⟨w.heap.size, 0, none⟩) (v := .int .i64 0) (by go_cell)
  have k1 := kept hb (p := ⟨w.heap.size, 1, none⟩) (v := .string ⟨#[]⟩) (by go_cell)
  have k2 := kept hb (p := ⟨w.heap.size, 2, none⟩) (v := .string ⟨#[]⟩) (by go_cell)
  have f0 := keptf hb (p := ⟨w.heap.size, 0, none⟩) (by simp; omega) (by simp [go_sem])
  have f1 := keptf hb (p := ⟨w.heap.size, 1, none⟩) (by simp; omega) (by simp [go_sem])
  have f2 := keptf hb (p := ⟨w.heap.size, 2, none⟩) (by simp; omega) (by simp [go_sem])
  have c0 := kept hb (p := ⟨w.heap.size + 1, 0, none⟩) (v := .int .i64 0) (by go_cell)
  have c1 := kept hb (p := ⟨w.heap.size + 1, 1, none⟩) (v := .string ⟨#[]⟩) (by go_cell)
  have c2 := kept hb (p := ⟨w.heap.size + 1, 2, none⟩) (v := .string ⟨#[]⟩) (by go_cell)
  have g0 := keptf hb (p := ⟨w.heap.size + 1, 0, none⟩) (by simp) (by simp [go_sem])
  have g1 := keptf hb (p := ⟨w.heap.size + 1, 1, none⟩) (by simp) (by simp [go_sem])
  have g2 := keptf hb (p := ⟨w.heap.size + 1, 2, none⟩) (by simp) (by simp [go_sem])
  have hB := step_below hG hb
  clear hb hE2 hG
  cases hl : VP.cutEnd 45 s.data.toList with
  | none =>
    have HP := Lib.hid (show VP.parseP s.data.toList = VP.checkP 0 s.data.toList [] by rw [HQ.out]; unfold VP.restP; rw [hl])
    have HL := Lib.hid hl
    clear hl
    go_wp2_with fail
    refine (call_last_none s _ (by omega) HL.out).mono ?_
    rintro E w2 ⟨rfl, hw⟩
    have hb := hB.setCell (p := ⟨w.heap.size + 1, 1, none⟩) (by simp) (.string s)
    rw [hw] at hb
    have hz2 : w.heap.size + 1 < w2.heap.size := by rw [← hw]; simp; omega
    replace k0 : w2.cell? ⟨w.heap.size, 0, none⟩ = some (.int .i64 0) := by rw [← hw]; go_cell
    replace k1 : w2.cell? ⟨w.heap.size, 1, none⟩ = some (.string ⟨#[]⟩) := by rw [← hw]; go_cell
    replace k2 : w2.cell? ⟨w.heap.size, 2, none⟩ = some (.string ⟨#[]⟩) := by rw [← hw]; go_cell
    replace f0 : w2.frozen? ⟨w.heap.size, 0, none⟩ = false := by rw [← hw]; simp [go_sem, f0]
    replace f1 : w2.frozen? ⟨w.heap.size, 1, none⟩ = false := by rw [← hw]; simp [go_sem, f1]
    replace f2 : w2.frozen? ⟨w.heap.size, 2, none⟩ = false := by rw [← hw]; simp [go_sem, f2]
    replace c0 : w2.cell? ⟨w.heap.size + 1, 0, none⟩ = some (.int .i64 0) := by rw [← hw]; go_cell
    replace c1 : w2.cell? ⟨w.heap.size + 1, 1, none⟩ = some (.string s) := by rw [← hw]; go_cell
    replace c2 : w2.cell? ⟨w.heap.size + 1, 2, none⟩ = some (.string ⟨#[]⟩) := by rw [← hw]; go_cell
    replace g0 : w2.frozen? ⟨w.heap.size + 1, 0, none⟩ = false := by rw [← hw]; simp [go_sem, g0]
    replace g1 : w2.frozen? ⟨w.heap.size + 1, 1, none⟩ = false := by rw [← hw]; simp [go_sem, g1]
    replace g2 : w2.frozen? ⟨w.heap.size + 1, 2, none⟩ = false := by rw [← hw]; simp [go_sem, g2]
    replace hB := hb
    clear hw hb hsz
    go_wp2_with fail
    have hG := hB
    refine (right_calls 0 s ⟨#[]⟩ _ (hE.below hG) (by omega) (by decide)).mono ?_
    rintro E w3 ⟨rfl, hb⟩
    replace hB := step_below hG hb
    have kk0 := kept hb (p := ⟨w.heap.size, 0, none⟩) (v := .int .i64 0) (by go_cell)
    have kk1 := kept hb (p := ⟨w.heap.size, 1, none⟩) (v := .string ⟨#[]⟩) (by go_cell)
    have kk2 := kept hb (p := ⟨w.heap.size, 2, none⟩) (v := .string ⟨#[]⟩) (by go_cell)
    have ff0 := keptf hb (p := ⟨w.heap.size, 0, none⟩) (by simp; omega) (by simp [go_sem, f0])
    have ff1 := keptf hb (p := ⟨w.heap.size, 1, none⟩) (by simp; omega) (by simp [go_sem, f1])
    have ff2 := keptf hb (p := ⟨w.heap.size, 2, none⟩) (by simp; omega) (by simp [go_sem, f2])
    have cc0 := kept hb (p := ⟨w.heap.size + 1, 0, none⟩) (v := .int .i64 0) (by go_cell)
    have cc1 := kept hb (p := ⟨w.heap.size + 1, 1, none⟩) (v := .string s) (by go_cell)
    have cc2 := kept hb (p := ⟨w.heap.size + 1, 2, none⟩) (v := .string ⟨#[]⟩) (by go_cell)
    clear hb hG k0 k1 k2 f0 f1 f2 c0 c1 c2 g0 g1 g2
    cases hr : VP.rightP 0 s.data.toList (⟨#[]⟩ : ByteArray).data.toList with
    | true =>
      have HR := Lib.hid hr
      clear hr
      go_wp2_with fail
      exact bodyPost_ret (v := .tuple #[.agg #[.int .i64 0, .string s, .string ⟨#[]⟩], .nilIface]) (by simp [results, Tryz.results64, go_sem, kk0, kk1, kk2]) rfl
        ⟨((hB.setCell (Nat.le_refl _) _).setCell (Nat.le_refl _) _).setCell (Nat.le_refl _) _, .inr ⟨0, s, ⟨#[]⟩, by rw [HP.out]; unfold VP.checkP; exact if_pos HR.out, rfl⟩⟩
    | false =>
      have HR := Lib.hid hr
      clear hr
      go_wp2_with fail
      exact bodyPost_ret (v := noVersion) (by simp [results, Tryz.results64, go_sem, kk0, kk1, kk2, noVersion]) rfl
        ⟨((hB.setCell (Nat.le_refl _) _).setCell (Nat.le_refl _) _).setCell (Nat.le_refl _) _, .inl ⟨by rw [HP.out]; unfold VP.checkP; exact if_neg (by rw [HR.out]; decide), rfl⟩⟩
  | some p =>
    obtain ⟨a, b⟩ := p
    obtain ⟨hx, hy, hz⟩ := cut_parts hl
    have HP := Lib.hid (show VP.parseP s.data.toList = if b = [] then none else VP.checkP 0 a b by rw [HQ.out]; unfold VP.restP; rw [hl])
    have HL := Lib.hid hl
    have HX := Lib.hid hx
    have HY := Lib.hid hy
    have hza : (s.extract 0 a.length).size ≤ 1000000 := by rw [size_eq_length, hx]; omega
    have hzb : (s.extract (a.length + 1) s.size).size ≤ 1000000 := by rw [size_eq_length, hy]; have := VP.cutEnd_some hl; have hl2 := size_eq_length s; rw [this.1] at hl2; simp at hl2; omega
    have HZA := Lib.hid hza
    have HZB := Lib.hid hzb
    clear hl hx hy hza hzb
    go_wp2_with fail
    refine (call_last_some s _ (by omega) a b HL.out).mono ?_
    rintro E w2 ⟨rfl, hw⟩
    have hb := hB.setCell (p := ⟨w.heap.size + 1, 1, none⟩) (by simp) (.string s)
    rw [hw] at hb
    have hz2 : w.heap.size + 1 < w2.heap.size := by rw [← hw]; simp; omega
    replace k0 : w2.cell? ⟨w.heap.size, 0, none⟩ = some (.int .i64 0) := by rw [← hw]; go_cell
    replace k1 : w2.cell? ⟨w.heap.size, 1, none⟩ = some (.string ⟨#[]⟩) := by rw [← hw]; go_cell
    replace k2 : w2.cell? ⟨w.heap.size, 2, none⟩ = some (.string ⟨#[]⟩) := by rw [← hw]; go_cell
    replace f0 : w2.frozen? ⟨w.heap.size, 0, none⟩ = false := by rw [← hw]; simp [go_sem, f0]
    replace f1 : w2.frozen? ⟨w.heap.size, 1, none⟩ = false := by rw [← hw]; simp [go_sem, f1]
    replace f2 : w2.frozen? ⟨w.heap.size, 2, none⟩ = false := by rw [← hw]; simp [go_sem, f2]
    replace c0 : w2.cell? ⟨w.heap.size + 1, 0, none⟩ = some (.int .i64 0) := by rw [← hw]; go_cell
    replace c1 : w2.cell? ⟨w.heap.size + 1, 1, none⟩ = some (.string s) := by rw [← hw]; go_cell
    replace c2 : w2.cell? ⟨w.heap.size + 1, 2, none⟩ = some (.string ⟨#[]⟩) := by rw [← hw]; go_cell
    replace g0 : w2.frozen? ⟨w.heap.size + 1, 0, none⟩ = false := by rw [← hw]; simp [go_sem, g0]
    replace g1 : w2.frozen? ⟨w.heap.size + 1, 1, none⟩ = false := by rw [← hw]; simp [go_sem, g1]
    replace g2 : w2.frozen? ⟨w.heap.size + 1, 2, none⟩ = false := by rw [← hw]; simp [go_sem, g2]
    replace hB := hb
    clear hw hb hsz
    go_wp2_with fail
    go_region
    by_cases hbn : b = []
    · have hem : (s.extract (a.length + 1) s.size).toList.isEmpty = true := by rw [Lib.toList_data, HY.out, hbn]; rfl
      have HN := Lib.hid (show VP.parseP s.data.toList = none by rw [HP.out, if_pos hbn])
      clear hbn
      go_wp2_with fail
      exact bodyPost_ret (v := noVersion) (by simp [results, Tryz.results64, go_sem, k0, k1, k2, noVersion]) rfl
        ⟨by repeat (first | (with_reducible exact hB) | (with_reducible refine Below.drew ?_) | (with_reducible refine Below.setCell ?_ (by simp) _)), .inl ⟨HN.out, rfl⟩⟩
    · have hem : (s.extract (a.length + 1) s.size).toList.isEmpty = false := by rw [Lib.toList_data, HY.out]; cases b with | nil => exact absurd rfl hbn | cons _ _ => rfl
      have HN := Lib.hid (show VP.parseP s.data.toList = VP.checkP 0 a b by rw [HP.out, if_neg hbn])
      clear hbn
      go_wp2_with fail
      have hG := ((hB.setCell (p := ⟨w.heap.size + 1, 1, none⟩) (by simp) (.string (s.extract 0 a.length))).setCell (p := ⟨w.heap.size + 1, 2, none⟩) (by simp) (.string (s.extract (a.length + 1) s.size))).drew
      refine (right_calls 0 (s.extract 0 a.length) (s.extract (a.length + 1) s.size) _ (hE.below hG) HZA.out HZB.out).mono ?_
      rintro E w3 ⟨rfl, hb⟩
      replace hB := step_below hG hb
      have kk0 := kept hb (p := ⟨w.heap.size, 0, none⟩) (v := .int .i64 0) (by go_cell)
      have kk1 := kept hb (p := ⟨w.heap.size, 1, none⟩) (v := .string ⟨#[]⟩) (by go_cell)
      have kk2 := kept hb (p := ⟨w.heap.size, 2, none⟩) (v := .string ⟨#[]⟩) (by go_cell)
      have ff0 := keptf hb (p := ⟨w.heap.size, 0, none⟩) (by simp; omega) (by simp [go_sem, f0])
      have ff1 := keptf hb (p := ⟨w.heap.size, 1, none⟩) (by simp; omega) (by simp [go_sem, f1])
      have ff2 := keptf hb (p := ⟨w.heap.size, 2, none⟩) (by simp; omega) (by simp [go_sem, f2])
      have cc0 := kept hb (p := ⟨w.heap.size + 1, 0, none⟩) (v := .int .i64 0) (by go_cell)
      have cc1 := kept hb (p := ⟨w.heap.size + 1, 1, none⟩) (v := .string (s.extract 0 a.length)) (by go_cell)
      have cc2 := kept hb (p := ⟨w.heap.size + 1, 2, none⟩) (v := .string (s.extract (a.length + 1) s.size)) (by go_cell)
      clear hb hG k0 k1 k2 f0 f1 f2 c0 c1 c2 g0 g1 g2
      cases hr : VP.rightP 0 (s.extract 0 a.length).data.toList (s.extract (a.length + 1) s.size).data.toList with
      | true =>
        rw [HX.out, HY.out] at hr
        have HR := Lib.hid hr
        clear hr
        go_wp2_with fail
        exact bodyPost_ret (v := .tuple #[.agg #[.int .i64 0, .string (s.extract 0 a.length), .string (s.extract (a.length + 1) s.size)], .nilIface]) (by simp [results, Tryz.results64, go_sem, kk0, kk1, kk2]) rfl
          ⟨by repeat (first | (with_reducible exact hB) | (with_reducible refine Below.drew ?_) | (with_reducible refine Below.setCell ?_ (by simp) _)), .inr ⟨0, s.extract 0 a.length, s.extract (a.length + 1) s.size, by rw [HN.out, HX.out, HY.out]; unfold VP.checkP; exact if_pos HR.out, rfl⟩⟩
      | false =>
        have hr' := hr
        rw [HX.out, HY.out] at hr'
        have HR := Lib.hid hr'
        have HR0 := Lib.hid hr
        clear hr hr'
        go_wp2_with fail
        exact bodyPost_ret (v := noVersion) (by simp [results, Tryz.results64, go_sem, kk0, kk1, kk2, noVersion]) rfl
          ⟨by repeat (first | (with_reducible exact hB) | (with_reducible refine Below.drew ?_) | (with_reducible refine Below.setCell ?_ (by simp) _)), .inl ⟨by rw [HN.out]; unfold VP.checkP; exact if_neg (by rw [HR.out]; decide), rfl⟩⟩

set_option maxRecDepth 100000 in
theorem parse_nonumber (s : ByteArray) (w : World) (hE : Env w) (hs : s.size ≤ 40) (a b : List UInt8) (hc : VP.cutAt 58 s.data.toList = some (a, b)) (hn : VP.number 9 a = none) : Calls Tryz.prog 64 #[.string s] w (ParseIs s w) := by
  have HQ := Lib.hid (show VP.parseP s.data.toList = none by
    have := size_eq_length s
    unfold VP.parseP; rw [if_neg (by omega), hc]; simp only [hn])
  have hE2 : Env ((w.alloc (.cells #[.int .i64 0, .string ⟨#[]⟩, .string ⟨#[]⟩] 23)).alloc (.cells #[.int .i64 0, .string ⟨#[]⟩, .string ⟨#[]⟩] 23)) := (hE.below (below_alloc w (.cells #[.int .i64 0, .string ⟨#[]⟩, .string ⟨#[]⟩] 23))).below (below_alloc _ (.cells #[.int .i64 0, .string ⟨#[]⟩, .string ⟨#[]⟩] 23))
  have hG := step_below (below_alloc w (.cells #[.int .i64 0, .string ⟨#[]⟩, .string ⟨#[]⟩] 23)) (below_alloc _ (.cells #[.int .i64 0, .string ⟨#[]⟩, .string ⟨#[]⟩] 23))
  go_enter Tryz.func64, Tryz.ntmps64
  go_wp2_with fail
  refine (call_cut_some s _ hE2 (by omega) a b hc).mono ?_
  rintro E w1 ⟨A, Bs, rfl, hA, hR, hb⟩
  clear hc
  have hsz : w.heap.size + 1 < w1.heap.size := by have := hb.size; simp at this; omega
  have k0 := kept hb (p := ⟨w.heap.size, 0, none⟩) (v := .int .i64 0) (by go_cell)
  have k1 := kept hb (p := ⟨w.heap.size, 1, none⟩) (v := .string ⟨#[]⟩) (by go_cell)
  have k2 := kept hb (p := ⟨w.heap.size, 2, none⟩) (v := .string ⟨#[]⟩) (by go_cell)
  have f0 := keptf hb (p := ⟨w.heap.size, 0, none⟩) (by simp; omega) (by simp [go_sem])
  have f1 := keptf hb (p := ⟨w.heap.size, 1, none⟩) (by simp; omega) (by simp [go_sem])
  have f2 := keptf hb (p := ⟨w.heap.size, 2, none⟩) (by simp; omega) (by simp [go_sem])
  have c0 := kept hb (p := ⟨w.heap.size + 1, 0, none⟩) (v := .int .i64 0) (by go_cell)
  have c1 := kept hb (p := ⟨w.heap.size + 1, 1, none⟩) (v := .string ⟨#[]⟩) (by go_cell)
  have c2 := kept hb (p := ⟨w.heap.size + 1, 2, none⟩) (v := .string ⟨#[]⟩) (by go_cell)
  have g0 := keptf hb (p := ⟨w.heap.size + 1, 0, none⟩) (by simp) (by simp [go_sem])
  have g1 := keptf hb (p := ⟨w.heap.size + 1, 1, none⟩) (by simp) (by simp [go_sem])
  have g2 := keptf hb (p := ⟨w.heap.size + 1, 2, none⟩) (by simp) (by simp [go_sem])
  have hB := step_below hG hb
  clear hb hE2 hG
  have HA := Lib.hid hA
  have HN := Lib.hid hn
  clear hA hR hn
  go_wp2_with fail
  refine (number_calls A _).mono ?_
  rintro E w2 ⟨hE2, rfl⟩
  unfold NumIs at hE2
  rw [HA.out, HN.out] at hE2
  subst hE2
  go_wp2_with fail
  exact bodyPost_ret (v := noVersion) (by simp [results, Tryz.results64, go_sem, k0, k1, k2, noVersion]) rfl
    ⟨by repeat (first | (with_reducible exact hB) | (with_reducible refine Below.drew ?_) | (with_reducible refine Below.setCell ?_ (by simp) _)), .inl ⟨HQ.out, rfl⟩⟩

set_option maxHeartbeats 1000000 in
set_option maxRecDepth 100000 in
theorem parse_colon (s : ByteArray) (w : World) (hE : Env w) (hs : s.size ≤ 40) (a b : List UInt8) (n : Nat) (hc : VP.cutAt 58 s.data.toList = some (a, b)) (hn : VP.number 9 a = some n) : Calls Tryz.prog 64 #[.string s] w (ParseIs s w) := by
  have HQ1 := Lib.hid (show VP.parseP s.data.toList = VP.restP n b by
    have := size_eq_length s
    unfold VP.parseP; rw [if_neg (by omega), hc]; simp only [hn])
  have hbl : b.length ≤ 40 := by
    have h1 := (VP.cutAt_some hc).1
    have h2 := size_eq_length s
    rw [h1] at h2
    simp at h2
    omega
  have hE2 : Env ((w.alloc (.cells #[.int .i64 0, .string ⟨#[]⟩, .string ⟨#[]⟩] 23)).alloc (.cells #[.int .i64 0, .string ⟨#[]⟩, .string ⟨#[]⟩] 23)) := (hE.below (below_alloc w (.cells #[.int .i64 0, .string ⟨#[]⟩, .string ⟨#[]⟩] 23))).below (below_alloc _ (.cells #[.int .i64 0, .string ⟨#[]⟩, .string ⟨#[]⟩] 23))
  have hG := step_below (below_alloc w (.cells #[.int .i64 0, .string ⟨#[]⟩, .string ⟨#[]⟩] 23)) (below_alloc _ (.cells #[.int .i64 0, .string ⟨#[]⟩, .string ⟨#[]⟩] 23))
  go_enter Tryz.func64, Tryz.ntmps64
  go_wp2_with fail
  refine (call_cut_some s _ hE2 (by omega) a b hc).mono ?_
  rintro E w1 ⟨A, Bs, rfl, hA, hR, hb⟩
  clear hc
  have hsz : w.heap.size + 1 < w1.heap.size := by have := hb.size; simp at this; omega
  have k0 := kept hb (p := ⟨w.heap.size, 0, none⟩) (v := .int .i64 0) (by go_cell)
  have k1 := kept hb (p := ⟨w.heap.size, 1, none⟩) (v := .string ⟨#[]⟩) (by go_cell)
  have k2 := kept hb (p := ⟨w.heap.size, 2, none⟩) (v := .string ⟨#[]⟩) (by go_cell)
  have f0 := keptf hb (p := ⟨w.heap.size, 0, none⟩) (by simp; omega) (by simp [go_sem])
  have f1 := keptf hb (p := ⟨w.heap.size, 1, none⟩) (by simp; omega) (by simp [go_sem])
  have f2 := keptf hb (p := ⟨w.heap.size, 2, none⟩) (by simp; omega) (by simp [go_sem])
  have c0 := kept hb (p := ⟨w.heap.size + 1, 0, none⟩) (v := .int .i64 0) (by go_cell)
  have c1 := kept hb (p := ⟨w.heap.size + 1, 1, none⟩) (v := .string ⟨#[]⟩) (by go_cell)
  have c2 := kept hb (p := ⟨w.heap.size + 1, 2, none⟩) (v := .string ⟨#[]⟩) (by go_cell)
  have g0 := keptf hb (p := ⟨w.heap.size + 1, 0, none⟩) (by simp) (by simp [go_sem])
  have g1 := keptf hb (p := ⟨w.heap.size + 1, 1, none⟩) (by simp) (by simp [go_sem])
  have g2 := keptf hb (p := ⟨w.heap.size + 1, 2, none⟩) (by simp) (by simp [go_sem])
  have hB := step_below hG hb
  clear hb hE2 hG
  have HA := Lib.hid hA
  have HN := Lib.hid hn
  have HQ := Lib.hid (show VP.parseP s.data.toList = VP.restP n Bs.data.toList by rw [hR]; exact HQ1.out)
  have hrs : Bs.size ≤ 40 := by rw [size_eq_length, hR]; exact hbl
  clear hA hR hn hbl
  go_wp2_with fail
  refine (number_calls A _).mono ?_
  rintro E w2 ⟨hE2, rfl⟩
  unfold NumIs at hE2
  rw [HA.out, HN.out] at hE2
  subst hE2
  cases hl : VP.cutEnd 45 Bs.data.toList with
  | none =>
    have HP := Lib.hid (show VP.parseP s.data.toList = VP.checkP (n : Int) Bs.data.toList [] by rw [HQ.out]; unfold VP.restP; rw [hl])
    have HL := Lib.hid hl
    clear hl
    go_wp2_with fail
    refine (call_last_none Bs _ (by omega) HL.out).mono ?_
    rintro E w2 ⟨rfl, hw⟩
    have hb := (hB.setCell (p := ⟨w.heap.size + 1, 0, none⟩) (by simp) (.int .i64 (n : Int))).setCell (p := ⟨w.heap.size + 1, 1, none⟩) (by simp) (.string Bs)
    rw [hw] at hb
    have hz2 : w.heap.size + 1 < w2.heap.size := by rw [← hw]; simp; omega
    replace k0 : w2.cell? ⟨w.heap.size, 0, none⟩ = some (.int .i64 0) := by rw [← hw]; go_cell
    replace k1 : w2.cell? ⟨w.heap.size, 1, none⟩ = some (.string ⟨#[]⟩) := by rw [← hw]; go_cell
    replace k2 : w2.cell? ⟨w.heap.size, 2, none⟩ = some (.string ⟨#[]⟩) := by rw [← hw]; go_cell
    replace f0 : w2.frozen? ⟨w.heap.size, 0, none⟩ = false := by rw [← hw]; simp [go_sem, f0]
    replace f1 : w2.frozen? ⟨w.heap.size, 1, none⟩ = false := by rw [← hw]; simp [go_sem, f1]
    replace f2 : w2.frozen? ⟨w.heap.size, 2, none⟩ = false := by rw [← hw]; simp [go_sem, f2]
    replace c0 : w2.cell? ⟨w.heap.size + 1, 0, none⟩ = some (.int .i64 (n : Int)) := by rw [← hw]; go_cell
    replace c1 : w2.cell? ⟨w.heap.size + 1, 1, none⟩ = some (.string Bs) := by rw [← hw]; go_cell
    replace c2 : w2.cell? ⟨w.heap.size + 1, 2, none⟩ = some (.string ⟨#[]⟩) := by rw [← hw]; go_cell
    replace g0 : w2.frozen? ⟨w.heap.size + 1, 0, none⟩ = false := by rw [← hw]; simp [go_sem, g0]
    replace g1 : w2.frozen? ⟨w.heap.size + 1, 1, none⟩ = false := by rw [← hw]; simp [go_sem, g1]
    replace g2 : w2.frozen? ⟨w.heap.size + 1, 2, none⟩ = false := by rw [← hw]; simp [go_sem, g2]
    replace hB := hb
    clear hw hb hsz
    go_wp2_with fail
    have hG := hB
    refine (right_calls (n : Int) Bs ⟨#[]⟩ _ (hE.below hG) (by omega) (by decide)).mono ?_
    rintro E w3 ⟨rfl, hb⟩
    replace hB := step_below hG hb
    have kk0 := kept hb (p := ⟨w.heap.size, 0, none⟩) (v := .int .i64 0) (by go_cell)
    have kk1 := kept hb (p := ⟨w.heap.size, 1, none⟩) (v := .string ⟨#[]⟩) (by go_cell)
    have kk2 := kept hb (p := ⟨w.heap.size, 2, none⟩) (v := .string ⟨#[]⟩) (by go_cell)
    have ff0 := keptf hb (p := ⟨w.heap.size, 0, none⟩) (by simp; omega) (by simp [go_sem, f0])
    have ff1 := keptf hb (p := ⟨w.heap.size, 1, none⟩) (by simp; omega) (by simp [go_sem, f1])
    have ff2 := keptf hb (p := ⟨w.heap.size, 2, none⟩) (by simp; omega) (by simp [go_sem, f2])
    have cc0 := kept hb (p := ⟨w.heap.size + 1, 0, none⟩) (v := .int .i64 (n : Int)) (by go_cell)
    have cc1 := kept hb (p := ⟨w.heap.size + 1, 1, none⟩) (v := .string Bs) (by go_cell)
    have cc2 := kept hb (p := ⟨w.heap.size + 1, 2, none⟩) (v := .string ⟨#[]⟩) (by go_cell)
    clear hb hG k0 k1 k2 f0 f1 f2 c0 c1 c2 g0 g1 g2
    cases hr : VP.rightP (n : Int) Bs.data.toList (⟨#[]⟩ : ByteArray).data.toList with
    | true =>
      have HR := Lib.hid hr
      clear hr
      go_wp2_with fail
      exact bodyPost_ret (v := .tuple #[.agg #[.int .i64 (n : Int), .string Bs, .string ⟨#[]⟩], .nilIface]) (by simp [results, Tryz.results64, go_sem, kk0, kk1, kk2]) rfl
        ⟨((hB.setCell (Nat.le_refl _) _).setCell (Nat.le_refl _) _).setCell (Nat.le_refl _) _, .inr ⟨(n : Int), Bs, ⟨#[]⟩, by rw [HP.out]; unfold VP.checkP; exact if_pos HR.out, rfl⟩⟩
    | false =>
      have HR := Lib.hid hr
      clear hr
      go_wp2_with fail
      exact bodyPost_ret (v := noVersion) (by simp [results, Tryz.results64, go_sem, kk0, kk1, kk2, noVersion]) rfl
        ⟨((hB.setCell (Nat.le_refl _) _).setCell (Nat.le_refl _) _).setCell (Nat.le_refl _) _, .inl ⟨by rw [HP.out]; unfold VP.checkP; exact if_neg (by rw [HR.out]; decide), rfl⟩⟩
  | some p =>
    obtain ⟨a, b⟩ := p
    obtain ⟨hx, hy, hz⟩ := cut_parts hl
    have HP := Lib.hid (show VP.parseP s.data.toList = if b = [] then none else VP.checkP (n : Int) a b by rw [HQ.out]; unfold VP.restP; rw [hl])
    have HL := Lib.hid hl
    have HX := Lib.hid hx
    have HY := Lib.hid hy
    have hza : (Bs.extract 0 a.length).size ≤ 1000000 := by rw [size_eq_length, hx]; omega
    have hzb : (Bs.extract (a.length + 1) Bs.size).size ≤ 1000000 := by rw [size_eq_length, hy]; have := VP.cutEnd_some hl; have hl2 := size_eq_length Bs; rw [this.1] at hl2; simp at hl2; omega
    have HZA := Lib.hid hza
    have HZB := Lib.hid hzb
    clear hl hx hy hza hzb
    go_wp2_with fail
    refine (call_last_some Bs _ (by omega) a b HL.out).mono ?_
    rintro E w2 ⟨rfl, hw⟩
    have hb := (hB.setCell (p := ⟨w.heap.size + 1, 0, none⟩) (by simp) (.int .i64 (n : Int))).setCell (p := ⟨w.heap.size + 1, 1, none⟩) (by simp) (.string Bs)
    rw [hw] at hb
    have hz2 : w.heap.size + 1 < w2.heap.size := by rw [← hw]; simp; omega
    replace k0 : w2.cell? ⟨w.heap.size, 0, none⟩ = some (.int .i64 0) := by rw [← hw]; go_cell
    replace k1 : w2.cell? ⟨w.heap.size, 1, none⟩ = some (.string ⟨#[]⟩) := by rw [← hw]; go_cell
    replace k2 : w2.cell? ⟨w.heap.size, 2, none⟩ = some (.string ⟨#[]⟩) := by rw [← hw]; go_cell
    replace f0 : w2.frozen? ⟨w.heap.size, 0, none⟩ = false := by rw [← hw]; simp [go_sem, f0]
    replace f1 : w2.frozen? ⟨w.heap.size, 1, none⟩ = false := by rw [← hw]; simp [go_sem, f1]
    replace f2 : w2.frozen? ⟨w.heap.size, 2, none⟩ = false := by rw [← hw]; simp [go_sem, f2]
    replace c0 : w2.cell? ⟨w.heap.size + 1, 0, none⟩ = some (.int .i64 (n : Int)) := by rw [← hw]; go_cell
    replace c1 : w2.cell? ⟨w.heap.size + 1, 1, none⟩ = some (.string Bs) := by rw [← hw]; go_cell
    replace c2 : w2.cell? ⟨w.heap.size + 1, 2, none⟩ = some (.string ⟨#[]⟩) := by rw [← hw]; go_cell
    replace g0 : w2.frozen? ⟨w.heap.size + 1, 0, none⟩ = false := by rw [← hw]; simp [go_sem, g0]
    replace g1 : w2.frozen? ⟨w.heap.size + 1, 1, none⟩ = false := by rw [← hw]; simp [go_sem, g1]
    replace g2 : w2.frozen? ⟨w.heap.size + 1, 2, none⟩ = false := by rw [← hw]; simp [go_sem, g2]
    replace hB := hb
    clear hw hb hsz
    go_wp2_with fail
    go_region
    by_cases hbn : b = []
    · have hem : (Bs.extract (a.length + 1) Bs.size).toList.isEmpty = true := by rw [Lib.toList_data, HY.out, hbn]; rfl
      have HN := Lib.hid (show VP.parseP s.data.toList = none by rw [HP.out, if_pos hbn])
      clear hbn
      go_wp2_with fail
      exact bodyPost_ret (v := noVersion) (by simp [results, Tryz.results64, go_sem, k0, k1, k2, noVersion]) rfl
        ⟨by repeat (first | (with_reducible exact hB) | (with_reducible refine Below.drew ?_) | (with_reducible refine Below.setCell ?_ (by simp) _)), .inl ⟨HN.out, rfl⟩⟩
    · have hem : (Bs.extract (a.length + 1) Bs.size).toList.isEmpty = false := by rw [Lib.toList_data, HY.out]; cases b with | nil => exact absurd rfl hbn | cons _ _ => rfl
      have HN := Lib.hid (show VP.parseP s.data.toList = VP.checkP (n : Int) a b by rw [HP.out, if_neg hbn])
      clear hbn
      go_wp2_with fail
      have hG := ((hB.setCell (p := ⟨w.heap.size + 1, 1, none⟩) (by simp) (.string (Bs.extract 0 a.length))).setCell (p := ⟨w.heap.size + 1, 2, none⟩) (by simp) (.string (Bs.extract (a.length + 1) Bs.size))).drew
      refine (right_calls (n : Int) (Bs.extract 0 a.length) (Bs.extract (a.length + 1) Bs.size) _ (hE.below hG) HZA.out HZB.out).mono ?_
      rintro E w3 ⟨rfl, hb⟩
      replace hB := step_below hG hb
      have kk0 := kept hb (p := ⟨w.heap.size, 0, none⟩) (v := .int .i64 0) (by go_cell)
      have kk1 := kept hb (p := ⟨w.heap.size, 1, none⟩) (v := .string ⟨#[]⟩) (by go_cell)
      have kk2 := kept hb (p := ⟨w.heap.size, 2, none⟩) (v := .string ⟨#[]⟩) (by go_cell)
      have ff0 := keptf hb (p := ⟨w.heap.size, 0, none⟩) (by simp; omega) (by simp [go_sem, f0])
      have ff1 := keptf hb (p := ⟨w.heap.size, 1, none⟩) (by simp; omega) (by simp [go_sem, f1])
      have ff2 := keptf hb (p := ⟨w.heap.size, 2, none⟩) (by simp; omega) (by simp [go_sem, f2])
      have cc0 := kept hb (p := ⟨w.heap.size + 1, 0, none⟩) (v := .int .i64 (n : Int)) (by go_cell)
      have cc1 := kept hb (p := ⟨w.heap.size + 1, 1, none⟩) (v := .string (Bs.extract 0 a.length)) (by go_cell)
      have cc2 := kept hb (p := ⟨w.heap.size + 1, 2, none⟩) (v := .string (Bs.extract (a.length + 1) Bs.size)) (by go_cell)
      clear hb hG k0 k1 k2 f0 f1 f2 c0 c1 c2 g0 g1 g2
      cases hr : VP.rightP (n : Int) (Bs.extract 0 a.length).data.toList (Bs.extract (a.length + 1) Bs.size).data.toList with
      | true =>
        rw [HX.out, HY.out] at hr
        have HR := Lib.hid hr
        clear hr
        go_wp2_with fail
        exact bodyPost_ret (v := .tuple #[.agg #[.int .i64 (n : Int), .string (Bs.extract 0 a.length), .string (Bs.extract (a.length + 1) Bs.size)], .nilIface]) (by simp [results, Tryz.results64, go_sem, kk0, kk1, kk2]) rfl
          ⟨by repeat (first | (with_reducible exact hB) | (with_reducible refine Below.drew ?_) | (with_reducible refine Below.setCell ?_ (by simp) _)), .inr ⟨(n : Int), Bs.extract 0 a.length, Bs.extract (a.length + 1) Bs.size, by rw [HN.out, HX.out, HY.out]; unfold VP.checkP; exact if_pos HR.out, rfl⟩⟩
      | false =>
        have hr' := hr
        rw [HX.out, HY.out] at hr'
        have HR := Lib.hid hr'
        have HR0 := Lib.hid hr
        clear hr hr'
        go_wp2_with fail
        exact bodyPost_ret (v := noVersion) (by simp [results, Tryz.results64, go_sem, kk0, kk1, kk2, noVersion]) rfl
          ⟨by repeat (first | (with_reducible exact hB) | (with_reducible refine Below.drew ?_) | (with_reducible refine Below.setCell ?_ (by simp) _)), .inl ⟨by rw [HN.out]; unfold VP.checkP; exact if_neg (by rw [HR.out]; decide), rfl⟩⟩

theorem parse_calls (s : ByteArray) (w : World) (hE : Env w) : Calls Tryz.prog 64 #[.string s] w (ParseIs s w) := by
  by_cases h : 40 < s.size
  · exact parse_long s w h
  · cases hc : VP.cutAt 58 s.data.toList with
    | none => exact parse_nocolon s w hE (by omega) hc
    | some p =>
      obtain ⟨a, b⟩ := p
      cases hn : VP.number 9 a with
      | none => exact parse_nonumber s w hE (by omega) a b hc hn
      | some n => exact parse_colon s w hE (by omega) a b n hc hn
end Go.Proofs.YtpbbhjifgaeklaaGreatDoor

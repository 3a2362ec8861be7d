/- The reference's Parse: the version that a text is, or that it is none. · The reference's Parse: the walk. · Packages that are asked for, in memory: a slice of terms, a slice of such slices. · Rows of the call's own: what keeps them; a row of slices of terms. · append(dst, src...) on a row of the call's own, from a slice that may be nil. · Slices in memory whose elements have so many cells each: texts, fields, files. -/
import Derived.Test.YtodbbfgkclkpgaaGreatDoorARC7
import Derived.Deep.RegionHeld3
import Derived.Deep.DeepCutAuto
import Derived.Test.YtodbbfgkclkpgaaGreatDoorARC2
import Derived.Maps.AppendAt
import Derived.OwnWalk
import Derived.Laws.AppendOwn
import Derived.Deep.AppendSrc
import Derived.Test.YtodbbfgkclkpgaaGreatDoorARC6
namespace Go.Proofs.YtodbbfgkclkpgaaGreatDoor
open Go.RowKit

/-- no version, and ErrForm -/
def noVersionR : Value := .tuple #[.agg #[.int .i64 0, .string ⟨#[]⟩, .string ⟨#[]⟩], .int .i64 3]

def RefParseIs (s : ByteArray) (w : World) (E : Ending) (w' : World) : Prop :=
  Below w.heap.size w w' ∧ ((VP.parseP s.data.toList = none ∧ E = .returned noVersionR) ∨
    ∃ (e : Int) (u r : ByteArray), VP.parseP s.data.toList = some (e, u.data.toList, r.data.toList) ∧ E = .returned (.tuple #[.agg #[.int .i64 e, .string u, .string r], .int .i64 0]))

theorem indexB_none {c : UInt8} {l : List UInt8} (h : VP.cutAt c l = none) : Lib.indexByte l c = -1 := by
  have hn := (VP.cutAt_none c l).1 h
  have := indexByte_mem l c
  have h2 : l.contains c = false := by simpa using hn
  rw [h2] at this
  have h3 := of_decide_eq_false this
  have h4 := Lib.indexByte_ge l c
  omega

theorem indexB_some {c : UInt8} {l a b : List UInt8} (h : VP.cutAt c l = some (a, b)) : Lib.indexByte l c = a.length := by
  induction l generalizing a b with
  | nil => simp [VP.cutAt] at h
  | cons x l ih =>
    by_cases hx : x = c
    · subst hx
      simp [VP.cutAt] at h
      obtain ⟨rfl, rfl⟩ := h
      simp [Lib.indexByte]
    · simp [VP.cutAt, hx] at h
      obtain ⟨a', h, rfl⟩ := h
      have := ih h
      simp [Lib.indexByte, hx, this]

/-- the result's cells (at b, noughts) and the version's (at b + 1) -/
structure Two (b : Nat) (w : World) (e : Int) (u r : ByteArray) : Prop where
  k0 : w.cell? ⟨b, 0, none⟩ = some (.int .i64 0)
  k1 : w.cell? ⟨b, 1, none⟩ = some (.string ⟨#[]⟩)
  k2 : w.cell? ⟨b, 2, none⟩ = some (.string ⟨#[]⟩)
  f0 : w.frozen? ⟨b, 0, none⟩ = false
  f1 : w.frozen? ⟨b, 1, none⟩ = false
  f2 : w.frozen? ⟨b, 2, none⟩ = false
  c0 : w.cell? ⟨b + 1, 0, none⟩ = some (.int .i64 e)
  c1 : w.cell? ⟨b + 1, 1, none⟩ = some (.string u)
  c2 : w.cell? ⟨b + 1, 2, none⟩ = some (.string r)
  g0 : w.frozen? ⟨b + 1, 0, none⟩ = false
  g1 : w.frozen? ⟨b + 1, 1, none⟩ = false
  g2 : w.frozen? ⟨b + 1, 2, none⟩ = false

theorem Two.step {b : Nat} {w w1 : World} {e : Int} {u r : ByteArray} (h : Two b w e u r) (hb : Below w.heap.size w w1) : Two b w1 e u r :=
  have hz0 : b < w.heap.size := cell_lt h.k0
  have hz1 : b + 1 < w.heap.size := cell_lt h.c0
  ⟨kept hb h.k0, kept hb h.k1, kept hb h.k2, keptf hb hz0 h.f0, keptf hb hz0 h.f1, keptf hb hz0 h.f2,
   kept hb h.c0, kept hb h.c1, kept hb h.c2, keptf hb hz1 h.g0, keptf hb hz1 h.g1, keptf hb hz1 h.g2⟩
end Go.Proofs.YtodbbfgkclkpgaaGreatDoor

namespace Go.Proofs.YtodbbfgkclkpgaaGreatDoor
open Go.RowKit

set_option maxRecDepth 100000 in
theorem refParse_long (s : ByteArray) (w : World) (h : 40 < s.size) : Calls Tryz.prog 90 #[.string s] w (RefParseIs s w) := by
  have hn : VP.parseP s.data.toList = none := by
    have := size_eq_length s
    unfold VP.parseP; rw [if_pos (by omega)]
  have HN := Lib.hid hn
  clear hn
  go_enter Tryz.func90, Tryz.ntmps90
  go_wp2
  exact bodyPost_ret (v := noVersionR) (by simp [results, Tryz.results90, go_sem, noVersionR]) rfl ⟨by go_grown, .inl ⟨HN.out, rfl⟩⟩

theorem call_colon (s : ByteArray) (w : World) (x : Int) (h : Lib.indexByte s.data.toList 58 = x) : Calls Tryz.prog 119 #[.string s, .string ⟨#[58]⟩] w fun e w' => e = .returned (.int .i64 x) ∧ w = w' := by
  subst h
  exact (Tryz.strings_Index_one s 58 w).mono fun e w' ⟨he, hw⟩ => ⟨he, hw.symm⟩

set_option maxHeartbeats 1000000 in
set_option maxRecDepth 100000 in
theorem refParse_nonumber (s : ByteArray) (w : World) (hs : s.size ≤ 40) (a b : List UInt8) (hc : VP.cutAt 58 s.data.toList = some (a, b)) (hn : VP.number 9 a = none) : Calls Tryz.prog 90 #[.string s] w (RefParseIs s w) := by
  have HQ := Lib.hid (show VP.parseP s.data.toList = none by
    have := size_eq_length s
    unfold VP.parseP; rw [if_neg (by omega), hc]; simp only [hn])
  have hC := Lib.hid (fun w => call_colon s w _ (indexB_some hc))
  have hle : a.length ≤ s.size := by rw [size_eq_length, (VP.cutAt_some hc).1]; simp
  have hx : (s.extract 0 a.length).data.toList = a := by rw [Lib.extract_data, (VP.cutAt_some hc).1]; simp
  have HN := Lib.hid (show VP.number 9 (s.extract 0 a.length).data.toList = none by rw [hx]; exact hn)
  have HZ := Lib.hid (show (s.extract 0 a.length).size ≤ 1000000 by rw [size_eq_length, hx]; omega)
  clear hx hn hc
  go_enter Tryz.func90, Tryz.ntmps90
  go_wp2_with fail
  refine (hC.out _).mono ?_
  rintro E w1 ⟨rfl, rfl⟩
  go_wp2_with fail
  refine (refNumber_calls 9 (by omega) _ _ HZ.out).mono ?_
  rintro E w1 ⟨he, rfl⟩
  rw [HN.out] at he
  subst he
  go_wp2_with fail
  exact bodyPost_ret (v := noVersionR) (by simp [results, Tryz.results90, go_sem, noVersionR]) rfl ⟨by go_grown, .inl ⟨HQ.out, rfl⟩⟩

theorem Two.start (w : World) : Two w.heap.size ((w.alloc (.cells #[.int .i64 0, .string ⟨#[]⟩, .string ⟨#[]⟩] 23)).alloc (.cells #[.int .i64 0, .string ⟨#[]⟩, .string ⟨#[]⟩] 23)) 0 ⟨#[]⟩ ⟨#[]⟩ := by
  constructor
  all_goals first | go_cell | (simp [go_sem])

theorem Two.startE (w : World) (e : Int) : Two w.heap.size ((w.alloc (.cells #[.int .i64 0, .string ⟨#[]⟩, .string ⟨#[]⟩] 23)).alloc (.cells #[.int .i64 e, .string ⟨#[]⟩, .string ⟨#[]⟩] 23)) e ⟨#[]⟩ ⟨#[]⟩ := by
  constructor
  all_goals first | go_cell | (simp [go_sem])

theorem Two.setE {b : Nat} {w : World} {e : Int} {u r : ByteArray} (h : Two b w e u r) (e' : Int) : Two b (w.setCell ⟨b + 1, 0, none⟩ (.int .i64 e')) e' u r := by
  obtain ⟨k0, k1, k2, f0, f1, f2, c0, c1, c2, g0, g1, g2⟩ := h
  constructor
  all_goals first | go_cell | (simp [go_sem, f0, f1, f2, g0, g1, g2])
theorem Two.setU {b : Nat} {w : World} {e : Int} {u r : ByteArray} (h : Two b w e u r) (u' : ByteArray) : Two b (w.setCell ⟨b + 1, 1, none⟩ (.string u')) e u' r := by
  obtain ⟨k0, k1, k2, f0, f1, f2, c0, c1, c2, g0, g1, g2⟩ := h
  constructor
  all_goals first | go_cell | (simp [go_sem, f0, f1, f2, g0, g1, g2])
theorem Two.setR {b : Nat} {w : World} {e : Int} {u r : ByteArray} (h : Two b w e u r) (r' : ByteArray) : Two b (w.setCell ⟨b + 1, 2, none⟩ (.string r')) e u r' := by
  obtain ⟨k0, k1, k2, f0, f1, f2, c0, c1, c2, g0, g1, g2⟩ := h
  constructor
  all_goals first | go_cell | (simp [go_sem, f0, f1, f2, g0, g1, g2])

theorem number_small {l : List UInt8} {n : Nat} (h : VP.number 9 l = some n) : n < 1000000000 := by
  unfold VP.number at h
  split at h
  · exact absurd h (by simp)
  · rename_i h1
    split at h
    · rename_i h2
      have e : VP.val l = n := by simpa using h
      have hl : l.length ≤ 9 := by
        rw [not_or, not_or] at h1
        omega
      have hv := VP.val_lt l h2
      have hpow : 10 ^ l.length ≤ 10 ^ 9 := Nat.pow_le_pow_right (by omega) hl
      rw [← e]
      exact Nat.lt_of_lt_of_le hv hpow
    · exact absurd h (by simp)

theorem colon_parts {s : ByteArray} {a b : List UInt8} (h : VP.cutAt 58 s.data.toList = some (a, b)) :
    (s.extract 0 a.length).data.toList = a ∧ (s.extract (a.length + 1) s.size).data.toList = b ∧ a.length + 1 ≤ s.size := by
  obtain ⟨e, _⟩ := VP.cutAt_some h
  have hl := size_eq_length s
  rw [e] at hl
  refine ⟨?_, ?_, by rw [hl]; simp⟩
  · rw [Lib.extract_data, e]; simp
  · rw [Lib.extract_to_end, e]; simp

set_option maxHeartbeats 1000000 in
set_option maxRecDepth 100000 in
theorem refParse_go (s : ByteArray) (w : World) (hE : Env w) (hs : s.size ≤ 40) (X : Int) (hX : Lib.indexByte s.data.toList 58 = X)
    (hc : (X = -1 ∧ Hid (VP.parseP s.data.toList = VP.restP 0 s.data.toList)) ∨
      ∃ k n : Nat, X = k ∧ k + 1 ≤ s.size ∧ n < 1000000000 ∧ Hid (VP.number 9 (s.extract 0 k).data.toList = some n) ∧ (s.extract 0 k).size ≤ 1000000 ∧ (s.extract (k + 1) s.size).size ≤ 40 ∧ Hid (VP.parseP s.data.toList = VP.restP n (s.extract (k + 1) s.size).data.toList)) :
    Calls Tryz.prog 90 #[.string s] w (RefParseIs s w) := by
  have CX := Lib.hid (fun w => call_colon s w X hX)
  clear hX
  have hB := step_below (below_alloc w (.cells #[.int .i64 0, .string ⟨#[]⟩, .string ⟨#[]⟩] 23)) (below_alloc _ (.cells #[.int .i64 0, .string ⟨#[]⟩, .string ⟨#[]⟩] 23))
  have hT := Two.start w
  go_enter Tryz.func90, Tryz.ntmps90
  go_wp2_with fail
  refine (CX.out _).mono ?_
  rintro E w1 ⟨rfl, rfl⟩
  go_upto_if 19 with fail
  go_cut [5] (fun s5 wx => ∃ (e : Int) (rs : ByteArray), s5 = .string rs ∧ rs.size ≤ 40 ∧ 0 ≤ e ∧ e < 1000000000 ∧ Hid (VP.parseP s.data.toList = VP.restP e rs.data.toList) ∧ Two w.heap.size wx e ⟨#[]⟩ ⟨#[]⟩ ∧ Below w.heap.size w wx)
  case first =>
    rcases hc with ⟨rfl, hq⟩ | ⟨k, n, rfl, hk, hn, HN, hz1, hz2, hq⟩
    · go_wp2_with fail
      go_meet
      case rel => exact ⟨0, s, rfl, hs, by omega, by omega, hq, hT, hB⟩
    · go_wp2_with fail
      refine (refNumber_calls 9 (by omega) _ _ hz1).mono ?_
      rintro E w1 ⟨he, rfl⟩
      rw [HN.out] at he
      subst he
      go_wp2_with fail
      go_region
      go_wp2_with fail
      go_meet
      case rel => exact ⟨n, s.extract (k + 1) s.size, rfl, hz2, by omega, by omega, hq, (Two.startE w n).step (below_drew _), (step_below (below_alloc w _) (below_alloc _ _)).drew⟩
  case rest =>
    clear hc CX hB hT
    obtain ⟨e, rs, rfl, hrs, he0, he1, hq, hT, hB⟩ := hcut
    have hT' := hT
    obtain ⟨k0, k1, k2, f0, f1, f2, c0, c1, c2, g0, g1, g2⟩ := hT'
    go_upto_region 12 with fail
    have hb := hB.setCell (p := ⟨w.heap.size + 1, 1, none⟩) (by simp) (.string rs)
    replace hT := hT.setU rs
    clear k0 k1 k2 f0 f1 f2 c0 c1 c2 g0 g1 g2 hB
    generalize wc.setCell ⟨w.heap.size + 1, 1, none⟩ (.string rs) = w1 at hb hT ⊢
    have hT' := hT
    obtain ⟨k0, k1, k2, f0, f1, f2, c0, c1, c2, g0, g1, g2⟩ := hT'
    go_wp2_with fail
    go_loop [9] (fun i => ∃ k : Nat, k ≤ rs.size ∧ i = .int .i64 ((k : Int) - 1) ∧ Hid ((45 : UInt8) ∉ rs.data.toList.drop k)) (fun i => (intOf i + 1).toNat)
    case atStart => exact ⟨rs.size, Nat.le_refl _, rfl, Lib.hid (by rw [size_eq_length, List.drop_length]; exact List.not_mem_nil)⟩
    case round =>
      obtain ⟨k, hk, hi, hno⟩ := hrel
      rcases Nat.eq_zero_or_pos k with hk0 | hk0
      · subst hk0
        have hi' := hi.trans (show Value.int .i64 (((0 : Nat) : Int) - 1) = .int .i64 (-1) by rfl)
        clear hi
        subst hi'
        have HP := Lib.hid (show VP.parseP s.data.toList = VP.checkP e rs.data.toList (⟨#[]⟩ : ByteArray).data.toList by rw [hq.out]; unfold VP.restP; rw [(VP.cutEnd_none 45 _).2 (by have := hno.out; rwa [List.drop_zero] at this)])
        have HZ1 : rs.size ≤ 1000000 := by omega
        have HZ2 : (⟨#[]⟩ : ByteArray).size ≤ 1000000 := by decide
        clear hno
        go_wp2_with fail
        have hG := hb
        refine (refRight_calls e rs ⟨#[]⟩ _ (hE.below hG) (by omega) (by omega) HZ1 HZ2).mono ?_
        rintro E w3 ⟨rfl, hb3⟩
        replace hT := hT.step hb3
        replace hb := step_below hG hb3
        clear k0 k1 k2 f0 f1 f2 c0 c1 c2 g0 g1 g2 hb3 hG
        obtain ⟨k0, k1, k2, f0, f1, f2, c0, c1, c2, g0, g1, g2⟩ := hT
        have hr : VP.rightP e (rs).data.toList (⟨#[]⟩ : ByteArray).data.toList = true ∨ VP.rightP e (rs).data.toList (⟨#[]⟩ : ByteArray).data.toList = false := by cases VP.rightP e (rs).data.toList (⟨#[]⟩ : ByteArray).data.toList <;> simp
        rcases hr with hr | hr
        · have HR := Lib.hid hr
          rw [hr]
          clear hr
          go_wp2_with fail
          exact bodyPost_ret (v := .tuple #[.agg #[.int .i64 e, .string rs, .string ⟨#[]⟩], .int .i64 0]) (by simp [results, Tryz.results90, go_sem, k0, k1, k2]) rfl
            ⟨((hb.setCell (Nat.le_refl _) _).setCell (Nat.le_refl _) _).setCell (Nat.le_refl _) _, .inr ⟨e, rs, ⟨#[]⟩, by rw [HP.out]; unfold VP.checkP; exact if_pos HR.out, rfl⟩⟩
        · have HR := Lib.hid hr
          rw [hr]
          clear hr
          go_wp2_with fail
          exact bodyPost_ret (v := noVersionR) (by simp [results, Tryz.results90, go_sem, k0, k1, k2, noVersionR]) rfl
            ⟨((hb.setCell (Nat.le_refl _) _).setCell (Nat.le_refl _) _).setCell (Nat.le_refl _) _, .inl ⟨by rw [HP.out]; unfold VP.checkP; exact if_neg (by rw [HR.out]; decide), rfl⟩⟩
      · obtain ⟨j, rfl⟩ : ∃ j, k = j + 1 := ⟨k - 1, by omega⟩
        have hi' := hi.trans (show Value.int .i64 (((j + 1 : Nat) : Int) - 1) = .int .i64 (j : Int) by rw [Int.natCast_succ, Int.add_sub_cancel])
        clear hi
        subst hi'
        have hjl : j < rs.size := by omega
        have hbt : rs[j].toNat < 256 := rs[j].toNat_lt
        have hcut := Lib.hid (drop_cons rs j hjl)
        clear hk hk0
        by_cases h45 : rs[j] = 45
        · have hb45 : (((rs[j].toNat : Nat) : Int) == 45) = true := by rw [h45]; rfl
          have hce : VP.cutEnd 45 rs.data.toList = some (rs.data.toList.take j, rs.data.toList.drop (j + 1)) := by
            rw [← VP.cutEnd_mid 45 _ _ hno.out]
            conv => lhs; rw [← List.take_append_drop j rs.data.toList, hcut.out, h45]
          obtain ⟨hx, hy, hz⟩ := cut_parts hce
          have hjt : (rs.data.toList.take j).length = j := by rw [List.length_take, ← size_eq_length]; omega
          rw [hjt] at hx hy
          have HP := Lib.hid (show VP.parseP s.data.toList = if (rs.extract (j + 1) rs.size).data.toList = [] then none else VP.checkP e (rs.extract 0 j).data.toList (rs.extract (j + 1) rs.size).data.toList by rw [hq.out]; unfold VP.restP; rw [hce, hx, hy])
          have HZ1 : (rs.extract 0 j).size ≤ 1000000 := by rw [size_eq_length, hx, hjt]; omega
          have HZ2 : (rs.extract (j + 1) rs.size).size ≤ 1000000 := by rw [size_eq_length, hy, List.length_drop, ← size_eq_length]; omega
          have hjz : j ≤ rs.size := by omega
          clear h45 hno hcut hx hy hz hjt hce hq
          go_wp2_with fail
          go_region
          replace hT := ((hT.setU (rs.extract 0 j)).setR (rs.extract (j + 1) rs.size)).step (below_drew _)
          replace hb := ((hb.setCell (p := ⟨w.heap.size + 1, 1, none⟩) (by simp) (.string (rs.extract 0 j))).setCell (p := ⟨w.heap.size + 1, 2, none⟩) (by simp) (.string (rs.extract (j + 1) rs.size))).drew
          clear k0 k1 k2 f0 f1 f2 c0 c1 c2 g0 g1 g2
          generalize ((w1.setCell ⟨w.heap.size + 1, 1, none⟩ (.string (rs.extract 0 j))).setCell ⟨w.heap.size + 1, 2, none⟩ (.string (rs.extract (j + 1) rs.size))).drew = w2 at hb hT ⊢
          have hT' := hT
          obtain ⟨k0, k1, k2, f0, f1, f2, c0, c1, c2, g0, g1, g2⟩ := hT'
          by_cases hbn : (rs.extract (j + 1) rs.size).data.toList = []
          · have hem : (rs.extract (j + 1) rs.size).toList.isEmpty = true := by rw [Lib.toList_data, hbn]; rfl
            have HN := Lib.hid (show VP.parseP s.data.toList = none by rw [HP.out, if_pos hbn])
            clear hbn HP
            go_wp2_with fail
            exact bodyPost_ret (v := noVersionR) (by simp [results, Tryz.results90, go_sem, k0, k1, k2, noVersionR]) rfl
              ⟨((hb.setCell (Nat.le_refl _) _).setCell (Nat.le_refl _) _).setCell (Nat.le_refl _) _, .inl ⟨HN.out, rfl⟩⟩
          · have hem : (rs.extract (j + 1) rs.size).toList.isEmpty = false := by rw [Lib.toList_data]; cases h : (rs.extract (j + 1) rs.size).data.toList with | nil => exact absurd h hbn | cons _ _ => rfl
            have HN := Lib.hid (show VP.parseP s.data.toList = VP.checkP e (rs.extract 0 j).data.toList (rs.extract (j + 1) rs.size).data.toList by rw [HP.out, if_neg hbn])
            clear hbn HP
            go_wp2_with fail
            have hG := hb
            refine (refRight_calls e (rs.extract 0 j) (rs.extract (j + 1) rs.size) _ (hE.below hG) (by omega) (by omega) HZ1 HZ2).mono ?_
            rintro E w3 ⟨rfl, hb3⟩
            replace hT := hT.step hb3
            replace hb := step_below hG hb3
            clear k0 k1 k2 f0 f1 f2 c0 c1 c2 g0 g1 g2 hb3 hG
            obtain ⟨k0, k1, k2, f0, f1, f2, c0, c1, c2, g0, g1, g2⟩ := hT
            have hr : VP.rightP e ((rs.extract 0 j)).data.toList ((rs.extract (j + 1) rs.size)).data.toList = true ∨ VP.rightP e ((rs.extract 0 j)).data.toList ((rs.extract (j + 1) rs.size)).data.toList = false := by cases VP.rightP e ((rs.extract 0 j)).data.toList ((rs.extract (j + 1) rs.size)).data.toList <;> simp
            rcases hr with hr | hr
            · have HR := Lib.hid hr
              rw [hr]
              clear hr
              go_wp2_with fail
              exact bodyPost_ret (v := .tuple #[.agg #[.int .i64 e, .string (rs.extract 0 j), .string (rs.extract (j + 1) rs.size)], .int .i64 0]) (by simp [results, Tryz.results90, go_sem, k0, k1, k2]) rfl
                ⟨((hb.setCell (Nat.le_refl _) _).setCell (Nat.le_refl _) _).setCell (Nat.le_refl _) _, .inr ⟨e, (rs.extract 0 j), (rs.extract (j + 1) rs.size), by rw [HN.out]; unfold VP.checkP; exact if_pos HR.out, rfl⟩⟩
            · have HR := Lib.hid hr
              rw [hr]
              clear hr
              go_wp2_with fail
              exact bodyPost_ret (v := noVersionR) (by simp [results, Tryz.results90, go_sem, k0, k1, k2, noVersionR]) rfl
                ⟨((hb.setCell (Nat.le_refl _) _).setCell (Nat.le_refl _) _).setCell (Nat.le_refl _) _, .inl ⟨by rw [HN.out]; unfold VP.checkP; exact if_neg (by rw [HR.out]; decide), rfl⟩⟩
        · have hb45 : (((rs[j].toNat : Nat) : Int) == 45) = false := by
            rw [beq_eq_false_iff_ne]
            intro e
            exact h45 (UInt8.toNat_inj.1 (by have e48 : (45 : UInt8).toNat = 45 := rfl; omega))
          have hno' := Lib.hid (show (45 : UInt8) ∉ rs.data.toList.drop j by rw [hcut.out]; exact List.not_mem_cons_of_ne_of_not_mem (Ne.symm h45) hno.out)
          clear h45 hno hcut
          go_wp2_with fail
          go_round
          case measure =>
            show ((j : Int) - 1 + 1).toNat < ((j : Int) + 1).toNat
            omega
          case rel => exact ⟨j, by omega, rfl, hno'⟩

theorem refParse_calls (s : ByteArray) (w : World) (hE : Env w) : Calls Tryz.prog 90 #[.string s] w (RefParseIs s w) := by
  by_cases h : 40 < s.size
  · exact refParse_long s w h
  · have hs : s.data.toList.length ≤ 40 := by rw [← size_eq_length]; omega
    cases hc : VP.cutAt 58 s.data.toList with
    | none => exact refParse_go s w hE (by omega) _ rfl (.inl ⟨indexB_none hc, Lib.hid (by unfold VP.parseP; rw [if_neg (by omega), hc])⟩)
    | some p =>
      obtain ⟨a, b⟩ := p
      cases hn : VP.number 9 a with
      | none => exact refParse_nonumber s w (by omega) a b hc hn
      | some n =>
        obtain ⟨h1, h2, h3⟩ := colon_parts hc
        have hl := (VP.cutAt_some hc).1
        refine refParse_go s w hE (by omega) _ rfl (.inr ⟨a.length, n, indexB_some hc, h3, number_small hn, Lib.hid (by rw [h1]; exact hn), ?_, ?_, Lib.hid ?_⟩)
        · rw [size_eq_length, h1]; rw [hl] at hs; simp at hs; omega
        · rw [size_eq_length, h2]; rw [hl] at hs; simp at hs; omega
        · unfold VP.parseP; rw [if_neg (by omega), hc]; simp only [hn]; rw [h2]
end Go.Proofs.YtodbbfgkclkpgaaGreatDoor

namespace Go.Proofs.YtodbbfgkclkpgaaGreatDoor
open Go.RowKit

/-- a term, as it lies in memory -/
structure Tv where
  n : ByteArray
  op : Int
  e : Int
  u : ByteArray
  r : ByteArray

def Tv.val (t : Tv) : Value := .agg #[.string t.n, .int .i64 t.op, .int .i64 t.e, .string t.u, .string t.r]
def Tv.tm (t : Tv) : VP.Tm := ⟨t.n.data.toList, t.op, t.e, t.u.data.toList, t.r.data.toList⟩
/-- its numbers are int's -/
def Tv.ok (t : Tv) : Prop := -9223372036854775808 ≤ t.e ∧ t.e ≤ 9223372036854775807 ∧ -9223372036854775808 ≤ t.op ∧ t.op ≤ 9223372036854775807

/-- at this address lies this term -/
structure TermAt (w : World) (b off : Nat) (t : Tv) : Prop where
  c0 : w.cell? ⟨b, off, none⟩ = some (.string t.n)
  c1 : w.cell? ⟨b, off + 1, none⟩ = some (.int .i64 t.op)
  c2 : w.cell? ⟨b, off + 2, none⟩ = some (.int .i64 t.e)
  c3 : w.cell? ⟨b, off + 3, none⟩ = some (.string t.u)
  c4 : w.cell? ⟨b, off + 4, none⟩ = some (.string t.r)

theorem TermAt.below {w w' : World} {b off : Nat} {t : Tv} (h : TermAt w b off t) (hb : Below w.heap.size w w') : TermAt w' b off t := ⟨kept hb h.c0, kept hb h.c1, kept hb h.c2, kept hb h.c3, kept hb h.c4⟩

/-- this value is a slice that reads as these terms -/
def TermsAt (w : World) (v : Value) (ts : List Tv) : Prop :=
  ∃ A c, v = .slice A ts.length c ∧ ts.length ≤ c ∧ ts.length ≤ 9223372036854775807 ∧ (ts ≠ [] → ∃ b off, A = some ⟨b, off, none⟩ ∧ ∀ i t, ts[i]? = some t → TermAt w b (off + i * 5) t ∧ t.ok)

theorem TermsAt.below {w w' : World} {v : Value} {ts : List Tv} (h : TermsAt w v ts) (hb : Below w.heap.size w w') : TermsAt w' v ts := by
  obtain ⟨A, c, hv, hc, hm, h⟩ := h
  refine ⟨A, c, hv, hc, hm, fun hn => ?_⟩
  obtain ⟨b, off, hA, hi⟩ := h hn
  exact ⟨b, off, hA, fun i t ht => ⟨(hi i t ht).1.below hb, (hi i t ht).2⟩⟩

/-- this value is a slice that reads as these lists of terms -/
def AskedAt (w : World) (v : Value) (L : List (List Tv)) : Prop :=
  ∃ A c, v = .slice A L.length c ∧ L.length ≤ c ∧ L.length ≤ 9223372036854775807 ∧ (L ≠ [] → ∃ b off, A = some ⟨b, off, none⟩ ∧ ∀ i x, L[i]? = some x → ∃ vx, w.cell? ⟨b, off + i, none⟩ = some vx ∧ TermsAt w vx x)

theorem AskedAt.below {w w' : World} {v : Value} {L : List (List Tv)} (h : AskedAt w v L) (hb : Below w.heap.size w w') : AskedAt w' v L := by
  obtain ⟨A, c, hv, hc, hm, h⟩ := h
  refine ⟨A, c, hv, hc, hm, fun hn => ?_⟩
  obtain ⟨b, off, hA, hi⟩ := h hn
  refine ⟨b, off, hA, fun i x hx => ?_⟩
  obtain ⟨vx, h1, h2⟩ := hi i x hx
  exact ⟨vx, kept hb h1, h2.below hb⟩

theorem all_take_succ {α : Type} {p : α → Bool} {l : List α} {k : Nat} {x : α} (h : (l.take k).all p = true) (hx : l[k]? = some x) (hp : p x = true) : (l.take (k + 1)).all p = true := by
  rw [List.take_add_one, hx, List.all_append, h]
  simp [hp]
theorem all_stop {α : Type} {p : α → Bool} {l : List α} {k : Nat} {x : α} (hx : l[k]? = some x) (hp : p x = false) : l.all p = false := by
  rw [List.all_eq_false]
  exact ⟨x, List.mem_of_getElem? hx, by simp [hp]⟩
theorem all_done {α : Type} {p : α → Bool} {l : List α} (h : (l.take l.length).all p = true) : l.all p = true := by rwa [List.take_length] at h
end Go.Proofs.YtodbbfgkclkpgaaGreatDoor

namespace Go.Proofs.YtodbbfgkclkpgaaGreatDoor
open Go.RowKit

theorem own_below {w w' : World} {base : Nat} {e : TypeId} {size : Nat} {v : Value} {n : Nat} {xs : List Value} (h : w.ownsRow base e size v n xs) (hb : Below w.heap.size w w') : w'.ownsRow base e size v n xs := by
  obtain ⟨h1, h2 | ⟨g, cap, cur, hv, hg, hk, h3⟩⟩ := h
  · exact ⟨h1, .inl h2⟩
  · have hlt : g < w.heap.size := (Array.getElem?_eq_some_iff.1 hk).1
    exact ⟨h1, .inr ⟨g, cap, cur, hv, hg, (hb.block g hlt).trans hk, h3⟩⟩

theorem info_terms : (Tryz.prog.info? 25).map (fun i => (i.zero, i.size, i.bytes)) = some (some (.slice none 0 0), 1, 24) := by kernel_rfl

/-- a slice of slices of the call's own, each of which reads as terms -/
theorem asked_of_own {w : World} {base : Nat} {v : Value} {n : Nat} {vs : List Value} {L : List (List Tv)} (h : w.ownsRow base 25 1 v n vs) (hn : n = L.length) (hb : n ≤ 9223372036854775807)
    (hi : ∀ (i : Nat) (x : List Tv), L[i]? = some x → ∃ vx, vs[i]? = some vx ∧ TermsAt w vx x) : AskedAt w v L := by
  subst hn
  rcases h.2 with ⟨rfl, h0⟩ | ⟨g, cap, cur, rfl, hg, hk, hc, hm, hs, ht⟩
  · refine ⟨none, 0, by rw [h0], by omega, hb, fun hne => ?_⟩
    exact absurd (List.eq_nil_of_length_eq_zero h0) hne
  · refine ⟨some ⟨g, 0, none⟩, cap, rfl, hc, hb, fun _ => ⟨g, 0, rfl, fun i x hx => ?_⟩⟩
    obtain ⟨vx, h1, h2⟩ := hi i x hx
    have := h.cells (g := g) rfl i vx h1
    rw [Go.WideShapes.add_plain] at this
    exact ⟨vx, this, h2⟩
end Go.Proofs.YtodbbfgkclkpgaaGreatDoor

namespace Go.Proofs.YtodbbfgkclkpgaaGreatDoor
open Go Go.RowKit

/-- this value is a slice of m elements that yields these cells -/
def SrcIs (w : World) (y : Value) (m : Nat) (news : List Value) : Prop := ∃ A c, y = .slice A m c ∧ (m ≠ 0 → ∃ b off, A = some ⟨b, off, none⟩ ∧ ∀ j u, news[j]? = some u → w.cell? ⟨b, off + j, none⟩ = some u)
theorem SrcIs.below {w w' : World} {y : Value} {m : Nat} {news : List Value} (h : SrcIs w y m news) (hb : Below w.heap.size w w') : SrcIs w' y m news := by
  obtain ⟨A, c, hy, h1⟩ := h
  refine ⟨A, c, hy, fun hm => ?_⟩
  obtain ⟨b, off, hA, hc⟩ := h1 hm
  exact ⟨b, off, hA, fun j u hj => kept hb (hc j u hj)⟩

section
variable {P : Program} (w : World)
theorem setCells_nil (b off : Nat) : w.setCells b off [] = w := rfl

end

end Go.Proofs.YtodbbfgkclkpgaaGreatDoor

namespace Go.Proofs.YtodbbfgkclkpgaaGreatDoor
open Go Go.RowKit

section
variable {α : Type} {cs : α → List Value} {size : Nat}
/-- this value is a slice; the cells of its elements are these -/
def SlC (cs : α → List Value) (w : World) (v : Value) (xs : List α) : Prop :=
  ∃ A c, v = .slice A xs.length c ∧ xs.length ≤ c ∧ xs.length ≤ 9223372036854775807 ∧ (xs ≠ [] → ∃ b off, A = some ⟨b, off, none⟩ ∧ ∀ (j : Nat) (u : Value), (xs.flatMap cs)[j]? = some u → w.cell? ⟨b, off + j, none⟩ = some u)

theorem SlC.below {w w' : World} {v : Value} {xs : List α} (h : SlC cs w v xs) (hb : Below w.heap.size w w') : SlC cs w' v xs := by
  obtain ⟨A, c, hv, hc, hm, h⟩ := h
  refine ⟨A, c, hv, hc, hm, fun hn => ?_⟩
  obtain ⟨b, off, hA, hi⟩ := h hn
  exact ⟨b, off, hA, fun j u hj => kept hb (hi j u hj)⟩

theorem SlC.nil (w : World) (A : Option Addr) (c : Nat) : SlC cs w (.slice A 0 c) [] := ⟨A, c, rfl, Nat.zero_le _, by simp, fun h => absurd rfl h⟩

theorem flat_at (hs : ∀ x, (cs x).length = size) {xs : List α} {i : Nat} {x : α} (h : xs[i]? = some x) (r : Nat) (hr : r < size) : (xs.flatMap cs)[i * size + r]? = (cs x)[r]? := by
  induction xs generalizing i with
  | nil => cases h
  | cons a xs ih =>
    rw [List.flatMap_cons]
    cases i with
    | zero =>
      obtain rfl := Option.some.inj h
      rw [List.getElem?_append_left (by rw [hs]; omega)]
      congr 1
      omega
    | succ i =>
      rw [List.getElem?_append_right (by rw [hs, Nat.succ_mul]; omega), hs, show (i + 1) * size + r - size = i * size + r by rw [Nat.succ_mul]; omega]
      exact ih h
theorem flat_length (hs : ∀ x, (cs x).length = size) (xs : List α) : (xs.flatMap cs).length = xs.length * size := by
  induction xs with
  | nil => simp
  | cons a xs ih => rw [List.flatMap_cons, List.length_append, ih, hs, List.length_cons, Nat.succ_mul]; omega

theorem SlC.src {w : World} {v : Value} {xs : List α} (h : SlC cs w v xs) : SrcIs w v xs.length (xs.flatMap cs) := by
  obtain ⟨A, c, hv, _, _, h⟩ := h
  exact ⟨A, c, hv, fun hn => h (fun e => hn (by rw [e]; rfl))⟩

theorem slc_of_own {w : World} {base : Nat} {e : TypeId} {v : Value} {n : Nat} {xs : List α} (h : w.ownsRow base e size v n (xs.flatMap cs)) (hn : n = xs.length) (hb : n ≤ 9223372036854775807) : SlC cs w v xs := by
  subst hn
  rcases h.2 with ⟨rfl, h0⟩ | ⟨g, cap, cur, rfl, hg, hk, hc, hm, hs, ht⟩
  · refine ⟨none, 0, by rw [h0], by omega, hb, fun hne => ?_⟩
    exact absurd (List.eq_nil_of_length_eq_zero h0) hne
  · refine ⟨some ⟨g, 0, none⟩, cap, rfl, hc, hb, fun _ => ⟨g, 0, rfl, fun j u hj => ?_⟩⟩
    have := h.cells (g := g) rfl j u hj
    rwa [Go.WideShapes.add_plain] at this

theorem SlC.take {w : World} {A : Option Addr} {n c : Nat} {xs : List α} (h : SlC cs w (.slice A n c) xs) {k : Nat} (hk : k ≤ xs.length) : SlC cs w (.slice A k c) (xs.take k) := by
  obtain ⟨A', c', hv, hc, hm, h⟩ := h
  injection hv with h1 h2 h3
  subst h1
  subst h3
  refine ⟨A, c, by rw [List.length_take, Nat.min_eq_left hk], by rw [List.length_take]; omega, by rw [List.length_take]; omega, fun hn => ?_⟩
  obtain ⟨b, off, hA, hi⟩ := h (fun e => hn (by rw [e]; simp))
  refine ⟨b, off, hA, fun j u hj => hi j u ?_⟩
  have e : xs.flatMap cs = (xs.take k).flatMap cs ++ (xs.drop k).flatMap cs := by rw [← List.flatMap_append, List.take_append_drop]
  rw [e, List.getElem?_append_left (List.getElem?_eq_some_iff.1 hj).1]
  exact hj
end

/-! texts -/
def strC (s : ByteArray) : List Value := [.string s]
def StrsAt (w : World) (v : Value) (ss : List ByteArray) : Prop := SlC strC w v ss
theorem StrsAt.below {w w' : World} {v : Value} {ss : List ByteArray} (h : StrsAt w v ss) (hb : Below w.heap.size w w') : StrsAt w' v ss := SlC.below h hb
theorem flat_strs (ss : List ByteArray) : ss.flatMap strC = ss.map Value.string := by
  induction ss with
  | nil => rfl
  | cons a ss ih => rw [List.flatMap_cons, ih]; rfl
theorem StrsAt.open {w : World} {v : Value} {ss : List ByteArray} (h : StrsAt w v ss) :
    ∃ A c, v = .slice A ss.length c ∧ ss.length ≤ c ∧ ss.length ≤ 9223372036854775807 ∧ (ss ≠ [] → ∃ b off, A = some ⟨b, off, none⟩ ∧ ∀ (i : Nat) (s : ByteArray), ss[i]? = some s → w.cell? ⟨b, off + i, none⟩ = some (.string s)) := by
  obtain ⟨A, c, hv, hc, hm, h⟩ := h
  refine ⟨A, c, hv, hc, hm, fun hn => ?_⟩
  obtain ⟨b, off, hA, hi⟩ := h hn
  refine ⟨b, off, hA, fun i s hs => hi i _ ?_⟩
  rw [flat_strs, List.getElem?_map, hs]; rfl

/-! fields, files: two texts each -/
structure Fv where
  n : ByteArray
  v : ByteArray
def Fv.fd (f : Fv) : VP.Fd := ⟨f.n.data.toList, f.v.data.toList⟩
def fldC (f : Fv) : List Value := [.string f.n, .string f.v]
def FieldsAt (w : World) (v : Value) (fs : List Fv) : Prop := SlC fldC w v fs
theorem FieldsAt.below {w w' : World} {v : Value} {fs : List Fv} (h : FieldsAt w v fs) (hb : Below w.heap.size w w') : FieldsAt w' v fs := SlC.below h hb
theorem FieldsAt.open {w : World} {v : Value} {fs : List Fv} (h : FieldsAt w v fs) :
    ∃ A c, v = .slice A fs.length c ∧ fs.length ≤ c ∧ fs.length ≤ 9223372036854775807 ∧ (fs ≠ [] → ∃ b off, A = some ⟨b, off, none⟩ ∧ ∀ (i : Nat) (f : Fv), fs[i]? = some f → w.cell? ⟨b, off + i * 2, none⟩ = some (.string f.n) ∧ w.cell? ⟨b, off + i * 2 + 1, none⟩ = some (.string f.v)) := by
  obtain ⟨A, c, hv, hc, hm, h⟩ := h
  refine ⟨A, c, hv, hc, hm, fun hn => ?_⟩
  obtain ⟨b, off, hA, hi⟩ := h hn
  have hs : ∀ f : Fv, (fldC f).length = 2 := fun _ => rfl
  refine ⟨b, off, hA, fun i f hf => ⟨?_, ?_⟩⟩
  · exact hi (i * 2) _ (flat_at hs hf 0 (by omega))
  · rw [Nat.add_assoc]
    exact hi (i * 2 + 1) _ (flat_at hs hf 1 (by omega))
theorem FieldsAt.take {w : World} {A : Option Addr} {n c : Nat} {fs : List Fv} (h : FieldsAt w (.slice A n c) fs) {k : Nat} (hk : k ≤ fs.length) : FieldsAt w (.slice A k c) (fs.take k) := SlC.take h hk
theorem StrsAt.take {w : World} {A : Option Addr} {n c : Nat} {ss : List ByteArray} (h : StrsAt w (.slice A n c) ss) {k : Nat} (hk : k ≤ ss.length) : StrsAt w (.slice A k c) (ss.take k) := SlC.take h hk
end Go.Proofs.YtodbbfgkclkpgaaGreatDoor

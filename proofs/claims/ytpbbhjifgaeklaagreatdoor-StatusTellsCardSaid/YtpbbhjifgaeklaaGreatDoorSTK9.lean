/- The reference's Parse: the walk. -/
import Derived.Test.YtpbbhjifgaeklaaGreatDoorSTK8
import Derived.Deep.RegionHeld3
import Derived.Deep.DeepCutAuto
namespace Go.Proofs.YtpbbhjifgaeklaaGreatDoor
open Go.RowKit

set_option maxRecDepth 100000 in
theorem refParse_long (s : ByteArray) (w : World) (h : 40 < s.size) : Calls Tryz.prog 80 #[.string s] w (RefParseIs s w) := by
  have hn : VP.parseP s.data.toList = none := by
    have := size_eq_length s
    unfold VP.parseP; rw [if_pos (by omega)]
  have HN := Lib.hid hn
  clear hn
  go_enter Tryz.func80, Tryz.ntmps80
  go_wp2
  exact bodyPost_ret (v := noVersionR) (by simp [results, Tryz.results80, go_sem, noVersionR]) rfl ⟨by go_grown, .inl ⟨HN.out, rfl⟩⟩

theorem call_colon (s : ByteArray) (w : World) (x : Int) (h : Lib.indexByte s.data.toList 58 = x) : Calls Tryz.prog 147 #[.string s, .string ⟨#[58]⟩] w fun e w' => e = .returned (.int .i64 x) ∧ w = w' := by
  subst h
  exact (Tryz.strings_Index_one s 58 w).mono fun e w' ⟨he, hw⟩ => ⟨he, hw.symm⟩

set_option maxHeartbeats 1000000 in
set_option maxRecDepth 100000 in
theorem refParse_nonumber (s : ByteArray) (w : World) (hs : s.size ≤ 40) (a b : List UInt8) (hc : VP.cutAt 58 s.data.toList = some (a, b)) (hn : VP.number 9 a = none) : Calls Tryz.prog 80 #[.string s] w (RefParseIs s w) := by
  have HQ := Lib.hid (show VP.parseP s.data.toList = none by
    have := size_eq_length s
    unfold VP.parseP; rw [if_neg (by omega), hc]; simp only [hn])
  have hC := Lib.hid (fun w => call_colon s w _ (indexB_some hc))
  have hle : a.length ≤ s.size := by rw [size_eq_length, (VP.cutAt_some hc).1]; simp
  have hx : (s.extract 0 a.length).data.toList = a := by rw [Lib.extract_data, (VP.cutAt_some hc).1]; simp
  have HN := Lib.hid (show VP.number 9 (s.extract 0 a.length).data.toList = none by rw [hx]; exact hn)
  have HZ := Lib.hid (show (s.extract 0 a.length).size ≤ 1000000 by rw [size_eq_length, hx]; omega)
  clear hx hn hc
  go_enter Tryz.func80, Tryz.ntmps80
  go_wp2_with fail
  refine (hC.out _).mono ?_
  rintro E w1 ⟨rfl, rfl⟩
  go_wp2_with fail
  refine (refNumber_calls 9 (by omega) _ _ HZ.out).mono ?_
  rintro E w1 ⟨he, rfl⟩
  rw [HN.out] at he
  subst he
  go_wp2_with fail
  exact bodyPost_ret (v := noVersionR) (by simp [results, Tryz.results80, go_sem, noVersionR]) rfl ⟨by go_grown, .inl ⟨HQ.out, rfl⟩⟩

theorem Two.start (w : World) : Two w.heap.size ((w.alloc (.cells #[.int .i64 0, .string ⟨#[]⟩, .string ⟨#[]⟩] 23)).alloc (.cells #[.int .i64 0, .string ⟨#[]⟩, .string ⟨#[]⟩] 23)) 0 ⟨#[]⟩ ⟨#[]⟩ := by
  constructor
  all_goals first | go_cell | (simp [go_sem])

theorem Two.startE (w : World) (e : Int) : Two w.heap.size ((w.alloc (.cells #[.int .i64 0, .string ⟨#[]⟩, .string ⟨#[]⟩] 23)).alloc (.cells #[.int .i64 e, .string ⟨#[]⟩, .string ⟨#[]⟩] 23)) e ⟨#[]⟩ ⟨#[]⟩ := by
  constructor
  all_goals first | go_cell | (simp [go_sem])

theorem Two.setU {b : Nat} {w : World} {e : Int} {u r : ByteArray} (h : Two b w e u r) (u' : ByteArray) : Two b (w.setCell ⟨b + 1, 1, none⟩ (.string u')) e u' r := by
  obtain ⟨k0, k1, k2, f0, f1, f2, c0, c1, c2, g0, g1, g2⟩ := h
  constructor
  all_goals first | go_cell | (simp [go_sem, f0, f1, f2, g0, g1, g2])
theorem Two.setR {b : Nat} {w : World} {e : Int} {u r : ByteArray} (h : Two b w e u r) (r' : ByteArray) : Two b (w.setCell ⟨b + 1, 2, none⟩ (.string r')) e u r' := by
  obtain ⟨k0, k1, k2, f0, f1, f2, c0, c1, c2, g0, g1, g2⟩ := h
  constructor
  all_goals first | go_cell | (simp [go_sem, f0, f1, f2, g0, g1, g2])

theorem number_small {l : List UInt8} {n : Nat} (h : VP.number 9 l = some n) : n < 1000000000 := by
  unfold VP.number at h
  split at h
  · exact absurd h (by simp)
  · rename_i h1
    split at h
    · rename_i h2
      have e : VP.val l = n := by simpa using h
      have hl : l.length ≤ 9 := by
        rw [not_or, not_or] at h1
        omega
      have hv := VP.val_lt l h2
      have hpow : 10 ^ l.length ≤ 10 ^ 9 := Nat.pow_le_pow_right (by omega) hl
      rw [← e]
      exact Nat.lt_of_lt_of_le hv hpow
    · exact absurd h (by simp)

theorem colon_parts {s : ByteArray} {a b : List UInt8} (h : VP.cutAt 58 s.data.toList = some (a, b)) :
    (s.extract 0 a.length).data.toList = a ∧ (s.extract (a.length + 1) s.size).data.toList = b ∧ a.length + 1 ≤ s.size := by
  obtain ⟨e, _⟩ := VP.cutAt_some h
  have hl := size_eq_length s
  rw [e] at hl
  refine ⟨?_, ?_, by rw [hl]; simp⟩
  · rw [Lib.extract_data, e]; simp
  · rw [Lib.extract_to_end, e]; simp

set_option maxHeartbeats 1000000 in
set_option maxRecDepth 100000 in
theorem refParse_go (s : ByteArray) (w : World) (hE : Env w) (hs : s.size ≤ 40) (X : Int) (hX : Lib.indexByte s.data.toList 58 = X)
    (hc : (X = -1 ∧ Hid (VP.parseP s.data.toList = VP.restP 0 s.data.toList)) ∨
      ∃ k n : Nat, X = k ∧ k + 1 ≤ s.size ∧ n < 1000000000 ∧ Hid (VP.number 9 (s.extract 0 k).data.toList = some n) ∧ (s.extract 0 k).size ≤ 1000000 ∧ (s.extract (k + 1) s.size).size ≤ 40 ∧ Hid (VP.parseP s.data.toList = VP.restP n (s.extract (k + 1) s.size).data.toList)) :
    Calls Tryz.prog 80 #[.string s] w (RefParseIs s w) := by
  have CX := Lib.hid (fun w => call_colon s w X hX)
  clear hX
  have hB := step_below (below_alloc w (.cells #[.int .i64 0, .string ⟨#[]⟩, .string ⟨#[]⟩] 23)) (below_alloc _ (.cells #[.int .i64 0, .string ⟨#[]⟩, .string ⟨#[]⟩] 23))
  have hT := Two.start w
  go_enter Tryz.func80, Tryz.ntmps80
  go_wp2_with fail
  refine (CX.out _).mono ?_
  rintro E w1 ⟨rfl, rfl⟩
  go_upto_if 19 with fail
  go_cut [5] (fun s5 wx => ∃ (e : Int) (rs : ByteArray), s5 = .string rs ∧ rs.size ≤ 40 ∧ 0 ≤ e ∧ e < 1000000000 ∧ Hid (VP.parseP s.data.toList = VP.restP e rs.data.toList) ∧ Two w.heap.size wx e ⟨#[]⟩ ⟨#[]⟩ ∧ Below w.heap.size w wx)
  case first =>
    rcases hc with ⟨rfl, hq⟩ | ⟨k, n, rfl, hk, hn, HN, hz1, hz2, hq⟩
    · go_wp2_with fail
      go_meet
      case rel => exact ⟨0, s, rfl, hs, by omega, by omega, hq, hT, hB⟩
    · go_wp2_with fail
      refine (refNumber_calls 9 (by omega) _ _ hz1).mono ?_
      rintro E w1 ⟨he, rfl⟩
      rw [HN.out] at he
      subst he
      go_wp2_with fail
      go_region
      go_wp2_with fail
      go_meet
      case rel => exact ⟨n, s.extract (k + 1) s.size, rfl, hz2, by omega, by omega, hq, (Two.startE w n).step (below_drew _), (step_below (below_alloc w _) (below_alloc _ _)).drew⟩
  case rest =>
    clear hc CX hB hT
    obtain ⟨e, rs, rfl, hrs, he0, he1, hq, hT, hB⟩ := hcut
    have hT' := hT
    obtain ⟨k0, k1, k2, f0, f1, f2, c0, c1, c2, g0, g1, g2⟩ := hT'
    go_upto_region 12 with fail
    have hb := hB.setCell (p := ⟨w.heap.size + 1, 1, none⟩) (by simp) (.string rs)
    replace hT := hT.setU rs
    clear k0 k1 k2 f0 f1 f2 c0 c1 c2 g0 g1 g2 hB
    generalize wc.setCell ⟨w.heap.size + 1, 1, none⟩ (.string rs) = w1 at hb hT ⊢
    have hT' := hT
    obtain ⟨k0, k1, k2, f0, f1, f2, c0, c1, c2, g0, g1, g2⟩ := hT'
    go_wp2_with fail
    go_loop [9] (fun i => ∃ k : Nat, k ≤ rs.size ∧ i = .int .i64 ((k : Int) - 1) ∧ Hid ((45 : UInt8) ∉ rs.data.toList.drop k)) (fun i => (intOf i + 1).toNat)
    case atStart => exact ⟨rs.size, Nat.le_refl _, rfl, Lib.hid (by rw [size_eq_length, List.drop_length]; exact List.not_mem_nil)⟩
    case round =>
      obtain ⟨k, hk, hi, hno⟩ := hrel
      rcases Nat.eq_zero_or_pos k with hk0 | hk0
      · subst hk0
        have hi' := hi.trans (show Value.int .i64 (((0 : Nat) : Int) - 1) = .int .i64 (-1) by rfl)
        clear hi
        subst hi'
        have HP := Lib.hid (show VP.parseP s.data.toList = VP.checkP e rs.data.toList (⟨#[]⟩ : ByteArray).data.toList by rw [hq.out]; unfold VP.restP; rw [(VP.cutEnd_none 45 _).2 (by have := hno.out; rwa [List.drop_zero] at this)])
        have HZ1 : rs.size ≤ 1000000 := by omega
        have HZ2 : (⟨#[]⟩ : ByteArray).size ≤ 1000000 := by decide
        clear hno
        go_wp2_with fail
        have hG := hb
        refine (refRight_calls e rs ⟨#[]⟩ _ (hE.below hG) (by omega) (by omega) HZ1 HZ2).mono ?_
        rintro E w3 ⟨rfl, hb3⟩
        replace hT := hT.step hb3
        replace hb := step_below hG hb3
        clear k0 k1 k2 f0 f1 f2 c0 c1 c2 g0 g1 g2 hb3 hG
        obtain ⟨k0, k1, k2, f0, f1, f2, c0, c1, c2, g0, g1, g2⟩ := hT
        have hr : VP.rightP e (rs).data.toList (⟨#[]⟩ : ByteArray).data.toList = true ∨ VP.rightP e (rs).data.toList (⟨#[]⟩ : ByteArray).data.toList = false := by cases VP.rightP e (rs).data.toList (⟨#[]⟩ : ByteArray).data.toList <;> simp
        rcases hr with hr | hr
        · have HR := Lib.hid hr
          rw [hr]
          clear hr
          go_wp2_with fail
          exact bodyPost_ret (v := .tuple #[.agg #[.int .i64 e, .string rs, .string ⟨#[]⟩], .int .i64 0]) (by simp [results, Tryz.results80, go_sem, k0, k1, k2]) rfl
            ⟨((hb.setCell (Nat.le_refl _) _).setCell (Nat.le_refl _) _).setCell (Nat.le_refl _) _, .inr ⟨e, rs, ⟨#[]⟩, by rw [HP.out]; unfold VP.checkP; exact if_pos HR.out, rfl⟩⟩
        · have HR := Lib.hid hr
          rw [hr]
          clear hr
          go_wp2_with fail
          exact bodyPost_ret (v := noVersionR) (by simp [results, Tryz.results80, go_sem, k0, k1, k2, noVersionR]) rfl
            ⟨((hb.setCell (Nat.le_refl _) _).setCell (Nat.le_refl _) _).setCell (Nat.le_refl _) _, .inl ⟨by rw [HP.out]; unfold VP.checkP; exact if_neg (by rw [HR.out]; decide), rfl⟩⟩
      · obtain ⟨j, rfl⟩ : ∃ j, k = j + 1 := ⟨k - 1, by omega⟩
        have hi' := hi.trans (show Value.int .i64 (((j + 1 : Nat) : Int) - 1) = .int .i64 (j : Int) by rw [Int.natCast_succ, Int.add_sub_cancel])
        clear hi
        subst hi'
        have hjl : j < rs.size := by omega
        have hbt : rs[j].toNat < 256 := rs[j].toNat_lt
        have hcut := Lib.hid (drop_cons rs j hjl)
        clear hk hk0
        by_cases h45 : rs[j] = 45
        · have hb45 : (((rs[j].toNat : Nat) : Int) == 45) = true := by rw [h45]; rfl
          have hce : VP.cutEnd 45 rs.data.toList = some (rs.data.toList.take j, rs.data.toList.drop (j + 1)) := by
            rw [← VP.cutEnd_mid 45 _ _ hno.out]
            conv => lhs; rw [← List.take_append_drop j rs.data.toList, hcut.out, h45]
          obtain ⟨hx, hy, hz⟩ := cut_parts hce
          have hjt : (rs.data.toList.take j).length = j := by rw [List.length_take, ← size_eq_length]; omega
          rw [hjt] at hx hy
          have HP := Lib.hid (show VP.parseP s.data.toList = if (rs.extract (j + 1) rs.size).data.toList = [] then none else VP.checkP e (rs.extract 0 j).data.toList (rs.extract (j + 1) rs.size).data.toList by rw [hq.out]; unfold VP.restP; rw [hce, hx, hy])
          have HZ1 : (rs.extract 0 j).size ≤ 1000000 := by rw [size_eq_length, hx, hjt]; omega
          have HZ2 : (rs.extract (j + 1) rs.size).size ≤ 1000000 := by rw [size_eq_length, hy, List.length_drop, ← size_eq_length]; omega
          have hjz : j ≤ rs.size := by omega
          clear h45 hno hcut hx hy hz hjt hce hq
          go_wp2_with fail
          go_region
          replace hT := ((hT.setU (rs.extract 0 j)).setR (rs.extract (j + 1) rs.size)).step (below_drew _)
          replace hb := ((hb.setCell (p := ⟨w.heap.size + 1, 1, none⟩) (by simp) (.string (rs.extract 0 j))).setCell (p := ⟨w.heap.size + 1, 2, none⟩) (by simp) (.string (rs.extract (j + 1) rs.size))).drew
          clear k0 k1 k2 f0 f1 f2 c0 c1 c2 g0 g1 g2
          generalize ((w1.setCell ⟨w.heap.size + 1, 1, none⟩ (.string (rs.extract 0 j))).setCell ⟨w.heap.size + 1, 2, none⟩ (.string (rs.extract (j + 1) rs.size))).drew = w2 at hb hT ⊢
          have hT' := hT
          obtain ⟨k0, k1, k2, f0, f1, f2, c0, c1, c2, g0, g1, g2⟩ := hT'
          by_cases hbn : (rs.extract (j + 1) rs.size).data.toList = []
          · have hem : (rs.extract (j + 1) rs.size).toList.isEmpty = true := by rw [Lib.toList_data, hbn]; rfl
            have HN := Lib.hid (show VP.parseP s.data.toList = none by rw [HP.out, if_pos hbn])
            clear hbn HP
            go_wp2_with fail
            exact bodyPost_ret (v := noVersionR) (by simp [results, Tryz.results80, go_sem, k0, k1, k2, noVersionR]) rfl
              ⟨((hb.setCell (Nat.le_refl _) _).setCell (Nat.le_refl _) _).setCell (Nat.le_refl _) _, .inl ⟨HN.out, rfl⟩⟩
          · have hem : (rs.extract (j + 1) rs.size).toList.isEmpty = false := by rw [Lib.toList_data]; cases h : (rs.extract (j + 1) rs.size).data.toList with | nil => exact absurd h hbn | cons _ _ => rfl
            have HN := Lib.hid (show VP.parseP s.data.toList = VP.checkP e (rs.extract 0 j).data.toList (rs.extract (j + 1) rs.size).data.toList by rw [HP.out, if_neg hbn])
            clear hbn HP
            go_wp2_with fail
            have hG := hb
            refine (refRight_calls e (rs.extract 0 j) (rs.extract (j + 1) rs.size) _ (hE.below hG) (by omega) (by omega) HZ1 HZ2).mono ?_
            rintro E w3 ⟨rfl, hb3⟩
            replace hT := hT.step hb3
            replace hb := step_below hG hb3
            clear k0 k1 k2 f0 f1 f2 c0 c1 c2 g0 g1 g2 hb3 hG
            obtain ⟨k0, k1, k2, f0, f1, f2, c0, c1, c2, g0, g1, g2⟩ := hT
            have hr : VP.rightP e ((rs.extract 0 j)).data.toList ((rs.extract (j + 1) rs.size)).data.toList = true ∨ VP.rightP e ((rs.extract 0 j)).data.toList ((rs.extract (j + 1) rs.size)).data.toList = false := by cases VP.rightP e ((rs.extract 0 j)).data.toList ((rs.extract (j + 1) rs.size)).data.toList <;> simp
            rcases hr with hr | hr
            · have HR := Lib.hid hr
              rw [hr]
              clear hr
              go_wp2_with fail
              exact bodyPost_ret (v := .tuple #[.agg #[.int .i64 e, .string (rs.extract 0 j), .string (rs.extract (j + 1) rs.size)], .int .i64 0]) (by simp [results, Tryz.results80, go_sem, k0, k1, k2]) rfl
                ⟨((hb.setCell (Nat.le_refl _) _).setCell (Nat.le_refl _) _).setCell (Nat.le_refl _) _, .inr ⟨e, (rs.extract 0 j), (rs.extract (j + 1) rs.size), by rw [HN.out]; unfold VP.checkP; exact if_pos HR.out, rfl⟩⟩
            · have HR := Lib.hid hr
              rw [hr]
              clear hr
              go_wp2_with fail
              exact bodyPost_ret (v := noVersionR) (by simp [results, Tryz.results80, go_sem, k0, k1, k2, noVersionR]) rfl
                ⟨((hb.setCell (Nat.le_refl _) _).setCell (Nat.le_refl _) _).setCell (Nat.le_refl _) _, .inl ⟨by rw [HN.out]; unfold VP.checkP; exact if_neg (by rw [HR.out]; decide), rfl⟩⟩
        · have hb45 : (((rs[j].toNat : Nat) : Int) == 45) = false := by
            rw [beq_eq_false_iff_ne]
            intro e
            exact h45 (UInt8.toNat_inj.1 (by have e48 : (45 : UInt8).toNat = 45 := rfl; omega))
          have hno' := Lib.hid (show (45 : UInt8) ∉ rs.data.toList.drop j by rw [hcut.out]; exact List.not_mem_cons_of_ne_of_not_mem (Ne.symm h45) hno.out)
          clear h45 hno hcut
          go_wp2_with fail
          go_round
          case measure =>
            show ((j : Int) - 1 + 1).toNat < ((j : Int) + 1).toNat
            omega
          case rel => exact ⟨j, by omega, rfl, hno'⟩

theorem refParse_calls (s : ByteArray) (w : World) (hE : Env w) : Calls Tryz.prog 80 #[.string s] w (RefParseIs s w) := by
  by_cases h : 40 < s.size
  · exact refParse_long s w h
  · have hs : s.data.toList.length ≤ 40 := by rw [← size_eq_length]; omega
    cases hc : VP.cutAt 58 s.data.toList with
    | none => exact refParse_go s w hE (by omega) _ rfl (.inl ⟨indexB_none hc, Lib.hid (by unfold VP.parseP; rw [if_neg (by omega), hc])⟩)
    | some p =>
      obtain ⟨a, b⟩ := p
      cases hn : VP.number 9 a with
      | none => exact refParse_nonumber s w (by omega) a b hc hn
      | some n =>
        obtain ⟨h1, h2, h3⟩ := colon_parts hc
        have hl := (VP.cutAt_some hc).1
        refine refParse_go s w hE (by omega) _ rfl (.inr ⟨a.length, n, indexB_some hc, h3, number_small hn, Lib.hid (by rw [h1]; exact hn), ?_, ?_, Lib.hid ?_⟩)
        · rw [size_eq_length, h1]; rw [hl] at hs; simp at hs; omega
        · rw [size_eq_length, h2]; rw [hl] at hs; simp at hs; omega
        · unfold VP.parseP; rw [if_neg (by omega), hc]; simp only [hn]; rw [h2]
end Go.Proofs.YtpbbhjifgaeklaaGreatDoor

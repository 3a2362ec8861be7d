/- stevedorelaw.texts, stevedorelaw.says: is a package short enough to be held. · What the walk of the reference's Put reads of Fine, out of the row's list. · Packages that are known, in memory; check's small functions. -/
import Derived.Test.YtofogjfemlhffaaGreatDoorSPK13
import Derived.Test.YtofogjfemlhffaaGreatDoorSPK39
import Derived.Test.YtofogjfemlhffaaGreatDoorSPK2
import Derived.Test.YtofogjfemlhffaaGreatDoorSPK5
import Derived.Deep.RegionHeld3
import Derived.Deep.DeepCutAuto
import Derived.Test.YtofogjfemlhffaaGreatDoorSPK36
import Derived.Test.YtofogjfemlhffaaGreatDoorRows
import Derived.OpenShut
import Derived.FnData
import Derived.LaidSub
import Derived.Test.YtofogjfemlhffaaGreatDoorSPK32
import Derived.ChangeSame
import Derived.Test.YtofogjfemlhffaaGreatDoorSPK11
import Derived.Test.YtofogjfemlhffaaGreatDoorSPK27
import Derived.Test.YtofogjfemlhffaaGreatDoorSPK7
import Derived.Test.YtofogjfemlhffaaGreatDoorSPK6
import Derived.Deep.MidRow
import Derived.Laws.Tables
namespace Go.Proofs.YtofogjfemlhffaaGreatDoor
open Go Go.RowKit

set_option maxHeartbeats 1000000 in
set_option maxRecDepth 100000 in
theorem lawTexts_calls (v : Value) (ss : List ByteArray) (w : World) (h : StrsAt w v ss) : Calls Tryz.prog 23 #[v] w (BoolIs (textsB ss) w) := by
  obtain ⟨A, c, hv, hc, hm, hr⟩ := h.open
  subst hv
  obtain ⟨len, hlen⟩ : ∃ len, ss.length = len := ⟨_, rfl⟩
  have HL := Lib.hid hlen
  have HR := Lib.hid hr
  rw [hlen] at hc hm ⊢
  clear hlen hr h
  by_cases h40 : 40 < len
  · have F := Lib.hid (show textsB ss = false by unfold textsB; rw [HL.out]; simp; omega)
    go_enter Tryz.func23, Tryz.ntmps23
    go_wp2
    go_ret
    exact ⟨ret_bool F.out.symm, Below.refl _ _⟩
  · have F := Lib.hid (show textsB ss = ss.all (fun s => decide (s.size ≤ 100)) by unfold textsB; rw [HL.out, decide_eq_true (by omega)]; rfl)
    go_enter Tryz.func23, Tryz.ntmps23
    go_wp2_with fail
    go_loopw [3] (fun i wr => ∃ k : Nat, k ≤ len ∧ i = .int .i64 k ∧ Hid ((ss.take k).all (fun s => decide (s.size ≤ 100)) = true) ∧ Below w.heap.size w wr) (fun i _ => len - (intOf i).toNat)
    case atStart => exact ⟨0, Nat.zero_le _, rfl, rfl, Below.refl _ _⟩
    case round =>
      obtain ⟨k, hk, rfl, hall, hB⟩ := hrel
      by_cases hlt : k < len
      · have hne : ss ≠ [] := by
          intro e
          have := HL.out
          rw [e] at this
          simp at this
          omega
        obtain ⟨s, ht⟩ : ∃ s, ss[k]? = some s := ⟨ss[k]'(by have := HL.out; omega), List.getElem?_eq_getElem _⟩
        obtain ⟨b, off, rfl, hi⟩ := HR.out hne
        have c0 := kept hB (hi k s ht)
        have HT := Lib.hid ht
        clear hi hne ht
        by_cases hn : 100 < s.size
        · have HF := Lib.hid (show textsB ss = false by rw [F.out, all_stop HT.out (decide_eq_false (by omega))])
          go_wp2_with fail
          go_ret
          exact ⟨ret_bool HF.out.symm, hB⟩
        · go_wp2_with fail
          go_roundw
          case rel => exact ⟨k + 1, by omega, by go_num, Lib.hid (all_take_succ hall.out HT.out (decide_eq_true (by omega))), hB⟩
          case measure => simp [intOf]; omega
      · obtain rfl : k = len := by omega
        go_wp2_with fail
        go_ret
        exact ⟨ret_bool (by rw [F.out]; have := hall.out; rw [← HL.out] at this; exact (all_done this).symm), hB⟩

def lawFileOk (f : Fv) : Bool := decide (f.n.size ≤ 100) && decide (f.v.size ≤ 500)

set_option maxHeartbeats 6000000 in
set_option maxRecDepth 100000 in
theorem lawSays_calls (v : Value) (p : Pv) (w : World) (h : PackAt w v p) : Calls Tryz.prog 7 #[v] w (BoolIs (saysB p) w) := by
  obtain ⟨v1, v2, v3, v4, v5, v6, v7, v8, v9, rfl, h1, h2, h3, h4, h5, h6, h7, h8, h9, _, _⟩ := h
  have CSh := Lib.hid (fun (W : World) (hb : Below w.heap.size w W) => lawShort_calls p.e p.u p.r W)
  have CDe := Lib.hid (fun (W : World) (hb : Below w.heap.size w W) => lawTerms_calls v1 p.dep W (h1.below hb))
  have CAh := Lib.hid (fun (W : World) (hb : Below w.heap.size w W) => lawTerms_calls v2 p.ahead W (h2.below hb))
  have CAg := Lib.hid (fun (W : World) (hb : Below w.heap.size w W) => lawFlat_calls v3 p.ag W (h3.below hb))
  have CBr := Lib.hid (fun (W : World) (hb : Below w.heap.size w W) => lawFlat_calls v4 p.br W (h4.below hb))
  have CRe := Lib.hid (fun (W : World) (hb : Below w.heap.size w W) => lawFlat_calls v5 p.re W (h5.below hb))
  have CPr := Lib.hid (fun (W : World) (hb : Below w.heap.size w W) => lawFlat_calls v6 p.pr W (h6.below hb))
  have CSe := Lib.hid (fun (W : World) (hb : Below w.heap.size w W) => lawTexts_calls v7 p.se W (h7.below hb))
  have CLi := Lib.hid (fun (W : World) (hb : Below w.heap.size w W) => lawTexts_calls v8 p.li W (h8.below hb))
  have F := Lib.hid (show saysB p = (decide (p.n.size ≤ 60) && (shortB p.u p.r && (termsB p.dep && (termsB p.ahead && (flatB p.ag && (flatB p.br && (flatB p.re && (flatB p.pr && (textsB p.se && (textsB p.li && filesB p.fi)))))))))) from rfl)
  obtain ⟨b0, hb0⟩ : ∃ x, shortB p.u p.r = x := ⟨_, rfl⟩
  rw [hb0] at CSh F
  obtain ⟨b1, hb1⟩ : ∃ x, termsB p.dep = x := ⟨_, rfl⟩
  rw [hb1] at CDe F
  obtain ⟨b2, hb2⟩ : ∃ x, termsB p.ahead = x := ⟨_, rfl⟩
  rw [hb2] at CAh F
  obtain ⟨b3, hb3⟩ : ∃ x, flatB p.ag = x := ⟨_, rfl⟩
  rw [hb3] at CAg F
  obtain ⟨b4, hb4⟩ : ∃ x, flatB p.br = x := ⟨_, rfl⟩
  rw [hb4] at CBr F
  obtain ⟨b5, hb5⟩ : ∃ x, flatB p.re = x := ⟨_, rfl⟩
  rw [hb5] at CRe F
  obtain ⟨b6, hb6⟩ : ∃ x, flatB p.pr = x := ⟨_, rfl⟩
  rw [hb6] at CPr F
  obtain ⟨b7, hb7⟩ : ∃ x, textsB p.se = x := ⟨_, rfl⟩
  rw [hb7] at CSe F
  obtain ⟨b8, hb8⟩ : ∃ x, textsB p.li = x := ⟨_, rfl⟩
  rw [hb8] at CLi F
  clear hb0 hb1 hb2 hb3 hb4 hb5 hb6 hb7 hb8 h1 h2 h3 h4 h5 h6 h7 h8
  have X0 := packBox_new w p v1 v2 v3 v4 v5 v6 v7 v8 v9 43
  have hB0 := below_alloc w (.cells #[.string p.n, .int .i64 p.e, .string p.u, .string p.r, v1, v2, v3, v4, v5, v6, v7, v8, v9] 43)
  obtain ⟨A, c, hv9, hc, hm, hr⟩ := h9.open
  subst hv9
  obtain ⟨len, hlen⟩ : ∃ len, p.fi.length = len := ⟨_, rfl⟩
  have HL := Lib.hid hlen
  have HR := Lib.hid hr
  rw [hlen] at hc hm X0 hB0 ⊢
  clear hlen hr h9
  obtain ⟨c0, c1, c2, c3, c4, c5, c6, c7, c8, c9, c10, c11, c12⟩ := X0
  go_enter Tryz.func7, Tryz.ntmps7
  go_upto_region 1 with fail
  obtain ⟨m, hmm⟩ : ∃ m, w.heap.size = m := ⟨_, rfl⟩
  obtain ⟨W0, hW0⟩ : ∃ x, x = w.alloc (.cells #[.string p.n, .int .i64 p.e, .string p.u, .string p.r, v1, v2, v3, v4, v5, v6, v7, v8, .slice A len c] 43) := ⟨_, rfl⟩
  rw [← hW0] at hB0 c0 c1 c2 c3 c4 c5 c6 c7 c8 c9 c10 c11 c12 ⊢
  rw [hmm] at c0 c1 c2 c3 c4 c5 c6 c7 c8 c9 c10 c11 c12
  (try rw [hmm])
  have hB := hB0
  clear hW0 hmm hB0
  by_cases h60 : 60 < p.n.size
  · have HG := Lib.hid (show saysB p = false by rw [F.out, decide_eq_false (by omega : ¬ p.n.size ≤ 60)]; rfl)
    clear F CSh CDe CAh CAg CBr CRe CPr CSe CLi c1 c2 c3 c4 c5 c6 c7 c8 c9 c10 c11 c12
    go_wp2_with fail
    go_ret
    exact ⟨ret_bool HG.out.symm, hB⟩
  have F1 := Lib.hid (F.out.trans (by rw [decide_eq_true (by omega : p.n.size ≤ 60), Bool.true_and]))
  clear F
  have D0 := Lib.hid (CSh.out _ hB)
  clear CSh
  go_wp2_with fail
  refine D0.out.mono ?_
  rintro E y0 ⟨rfl, hb⟩
  have hB0 := step_below hB hb
  clear hB
  have hB := hB0
  clear hB0
  replace c4 := kept hb c4
  replace c5 := kept hb c5
  replace c6 := kept hb c6
  replace c7 := kept hb c7
  replace c8 := kept hb c8
  replace c9 := kept hb c9
  replace c10 := kept hb c10
  replace c11 := kept hb c11
  replace c12 := kept hb c12
  clear hb D0 c1 c2 c3 c0
  cases b0 with
  | false =>
    have HG := Lib.hid (show saysB p = false by rw [F1.out]; rfl)
    clear F1
    go_wp2_with fail
    go_ret
    exact ⟨ret_bool HG.out.symm, hB⟩
  | true =>
  have D1 := Lib.hid (CDe.out _ hB)
  clear CDe
  go_wp2_with fail
  refine D1.out.mono ?_
  rintro E y1 ⟨rfl, hb⟩
  have hB1 := step_below hB hb
  clear hB
  have hB := hB1
  clear hB1
  replace c5 := kept hb c5
  replace c6 := kept hb c6
  replace c7 := kept hb c7
  replace c8 := kept hb c8
  replace c9 := kept hb c9
  replace c10 := kept hb c10
  replace c11 := kept hb c11
  replace c12 := kept hb c12
  clear hb D1 c4
  cases b1 with
  | false =>
    have HG := Lib.hid (show saysB p = false by rw [F1.out]; rfl)
    clear F1
    go_wp2_with fail
    go_ret
    exact ⟨ret_bool HG.out.symm, hB⟩
  | true =>
  have D2 := Lib.hid (CAh.out _ hB)
  clear CAh
  go_wp2_with fail
  refine D2.out.mono ?_
  rintro E y2 ⟨rfl, hb⟩
  have hB2 := step_below hB hb
  clear hB
  have hB := hB2
  clear hB2
  replace c6 := kept hb c6
  replace c7 := kept hb c7
  replace c8 := kept hb c8
  replace c9 := kept hb c9
  replace c10 := kept hb c10
  replace c11 := kept hb c11
  replace c12 := kept hb c12
  clear hb D2 c5
  cases b2 with
  | false =>
    have HG := Lib.hid (show saysB p = false by rw [F1.out]; rfl)
    clear F1
    go_wp2_with fail
    go_ret
    exact ⟨ret_bool HG.out.symm, hB⟩
  | true =>
  have D3 := Lib.hid (CAg.out _ hB)
  clear CAg
  go_wp2_with fail
  refine D3.out.mono ?_
  rintro E y3 ⟨rfl, hb⟩
  have hB3 := step_below hB hb
  clear hB
  have hB := hB3
  clear hB3
  replace c7 := kept hb c7
  replace c8 := kept hb c8
  replace c9 := kept hb c9
  replace c10 := kept hb c10
  replace c11 := kept hb c11
  replace c12 := kept hb c12
  clear hb D3 c6
  cases b3 with
  | false =>
    have HG := Lib.hid (show saysB p = false by rw [F1.out]; rfl)
    clear F1
    go_wp2_with fail
    go_ret
    exact ⟨ret_bool HG.out.symm, hB⟩
  | true =>
  have D4 := Lib.hid (CBr.out _ hB)
  clear CBr
  go_wp2_with fail
  refine D4.out.mono ?_
  rintro E y4 ⟨rfl, hb⟩
  have hB4 := step_below hB hb
  clear hB
  have hB := hB4
  clear hB4
  replace c8 := kept hb c8
  replace c9 := kept hb c9
  replace c10 := kept hb c10
  replace c11 := kept hb c11
  replace c12 := kept hb c12
  clear hb D4 c7
  cases b4 with
  | false =>
    have HG := Lib.hid (show saysB p = false by rw [F1.out]; rfl)
    clear F1
    go_wp2_with fail
    go_ret
    exact ⟨ret_bool HG.out.symm, hB⟩
  | true =>
  have D5 := Lib.hid (CRe.out _ hB)
  clear CRe
  go_wp2_with fail
  refine D5.out.mono ?_
  rintro E y5 ⟨rfl, hb⟩
  have hB5 := step_below hB hb
  clear hB
  have hB := hB5
  clear hB5
  replace c9 := kept hb c9
  replace c10 := kept hb c10
  replace c11 := kept hb c11
  replace c12 := kept hb c12
  clear hb D5 c8
  cases b5 with
  | false =>
    have HG := Lib.hid (show saysB p = false by rw [F1.out]; rfl)
    clear F1
    go_wp2_with fail
    go_ret
    exact ⟨ret_bool HG.out.symm, hB⟩
  | true =>
  have D6 := Lib.hid (CPr.out _ hB)
  clear CPr
  go_wp2_with fail
  refine D6.out.mono ?_
  rintro E y6 ⟨rfl, hb⟩
  have hB6 := step_below hB hb
  clear hB
  have hB := hB6
  clear hB6
  replace c10 := kept hb c10
  replace c11 := kept hb c11
  replace c12 := kept hb c12
  clear hb D6 c9
  cases b6 with
  | false =>
    have HG := Lib.hid (show saysB p = false by rw [F1.out]; rfl)
    clear F1
    go_wp2_with fail
    go_ret
    exact ⟨ret_bool HG.out.symm, hB⟩
  | true =>
  have D7 := Lib.hid (CSe.out _ hB)
  clear CSe
  go_wp2_with fail
  refine D7.out.mono ?_
  rintro E y7 ⟨rfl, hb⟩
  have hB7 := step_below hB hb
  clear hB
  have hB := hB7
  clear hB7
  replace c11 := kept hb c11
  replace c12 := kept hb c12
  clear hb D7 c10
  cases b7 with
  | false =>
    have HG := Lib.hid (show saysB p = false by rw [F1.out]; rfl)
    clear F1
    go_wp2_with fail
    go_ret
    exact ⟨ret_bool HG.out.symm, hB⟩
  | true =>
  have D8 := Lib.hid (CLi.out _ hB)
  clear CLi
  go_wp2_with fail
  refine D8.out.mono ?_
  rintro E y8 ⟨rfl, hb⟩
  have hB8 := step_below hB hb
  clear hB
  have hB := hB8
  clear hB8
  replace c12 := kept hb c12
  clear hb D8 c11
  cases b8 with
  | false =>
    have HG := Lib.hid (show saysB p = false by rw [F1.out]; rfl)
    clear F1
    go_wp2_with fail
    go_ret
    exact ⟨ret_bool HG.out.symm, hB⟩
  | true =>
  have F2 := Lib.hid (show saysB p = filesB p.fi by rw [F1.out]; rfl)
  clear F1
  by_cases h30 : 30 < len
  · have HG := Lib.hid (show saysB p = false by rw [F2.out]; unfold filesB; rw [HL.out, decide_eq_false (by omega)]; rfl)
    clear F2
    go_wp2_with fail
    go_ret
    exact ⟨ret_bool HG.out.symm, hB⟩
  have F3 := Lib.hid (show saysB p = p.fi.all lawFileOk by rw [F2.out]; unfold filesB; rw [HL.out, decide_eq_true (by omega)]; rfl)
  clear F2
  go_wp2_with fail
  obtain ⟨y9, hy9⟩ : ∃ y, y = y8 := ⟨_, rfl⟩
  rw [← hy9] at hB c12 ⊢
  clear hy9
  have hz0 := Below.refl y9.heap.size y9
  go_loopw [3] (fun i wr => ∃ k : Nat, k ≤ len ∧ i = .int .i64 k ∧ Hid ((p.fi.take k).all lawFileOk = true) ∧ Below y9.heap.size y9 wr) (fun i _ => len - (intOf i).toNat)
  case atStart => exact ⟨0, Nat.zero_le _, rfl, rfl, hz0⟩
  case round =>
    clear hz0
    obtain ⟨k, hk, rfl, hall, hz⟩ := hrel
    have d12 := kept hz c12
    have hB2 := step_below hB hz
    by_cases hlt : k < len
    · have hne : p.fi ≠ [] := by
        intro e
        have := HL.out
        rw [e] at this
        simp at this
        omega
      obtain ⟨f, ht⟩ : ∃ f, p.fi[k]? = some f := ⟨p.fi[k]'(by have := HL.out; omega), List.getElem?_eq_getElem _⟩
      obtain ⟨b, off, rfl, hi⟩ := HR.out hne
      obtain ⟨f0, f1⟩ := hi k f ht
      replace f0 := kept hB2 f0
      replace f1 := kept hB2 f1
      have HT := Lib.hid ht
      clear hi hne ht
      by_cases hn : 100 < f.n.size
      · have HG := Lib.hid (show saysB p = false by rw [F3.out, all_stop HT.out (by unfold lawFileOk; rw [decide_eq_false (by omega)]; rfl)])
        go_wp2_with fail
        go_ret
        exact ⟨ret_bool HG.out.symm, hB2⟩
      by_cases hd : 500 < f.v.size
      · have HG := Lib.hid (show saysB p = false by rw [F3.out, all_stop HT.out (by unfold lawFileOk; rw [decide_eq_false (by omega : ¬ f.v.size ≤ 500), Bool.and_false])])
        go_wp2_with fail
        go_ret
        exact ⟨ret_bool HG.out.symm, hB2⟩
      go_wp2_with fail
      go_roundw
      case rel => exact ⟨k + 1, by omega, by go_num, Lib.hid (all_take_succ hall.out HT.out (by unfold lawFileOk; rw [decide_eq_true (by omega), decide_eq_true (by omega)]; rfl)), hz⟩
      case measure => simp [intOf]; omega
    · obtain rfl : len = k := by omega
      have HG := Lib.hid (show saysB p = true by rw [F3.out]; have := hall.out; rw [← HL.out] at this; exact all_done this)
      go_wp2_with fail
      go_ret
      exact ⟨ret_bool HG.out.symm, hB2⟩
end Go.Proofs.YtofogjfemlhffaaGreatDoor

namespace Go.Proofs.YtofogjfemlhffaaGreatDoor
open Go.RowKit Go.ChangeShapes Go.WideShapes Go.ChangeAt Go.Joins

theorem fineIs : Tryz.prog.globalNamed "stevedore/stevedoreref.Fine" = some 0 := by kernel_rfl
theorem fineType : (Tryz.prog.globals[0]?).map (·.type) = some 54 := by kernel_rfl
theorem cellsErrno : Tryz.prog.cellsOf 33 = 1 := by kernel_rfl
theorem cellsInt1 : Tryz.prog.cellsOf 3 = 1 := by kernel_rfl
theorem envFi_reads {W : World} (h : Lib.VarReads Tryz.prog W "stevedore/stevedoreref.Fine" (Rows.laid_stevedore_stevedoreref_Fine : DataW Unit)) : EnvFi W := by
  obtain ⟨g', t, cs, fuel, p, hg, ht, hvar, hd⟩ := h
  obtain rfl := Option.some.inj (fineIs.symm.trans hg)
  obtain rfl := Option.some.inj (fineType.symm.trans ht)
  obtain ⟨xs, n, _, hx, _, hlen, hf⟩ := DataW.trod_struct Tryz.underlying54 hd
  match xs, hlen with
  | [y0, y1], _ =>
    have f0 : DataW.trod (fun _ => ()) Tryz.prog W 0 (fun _ => true) false n 33 ((cs.toList.drop 0).take (Tryz.prog.cellsOf 33)) = some y0 := hf 0 _ rfl
    have f1 : DataW.trod (fun _ => ()) Tryz.prog W 0 (fun _ => true) false n 3 ((cs.toList.drop 1).take (Tryz.prog.cellsOf 3)) = some y1 := hf 1 _ rfl
    rw [cellsErrno] at f0
    rw [cellsInt1] at f1
    obtain ⟨a, ea, ha, _⟩ := DataW.trod_int Tryz.underlying33 f0
    obtain ⟨b, eb, hb, _⟩ := DataW.trod_int Tryz.underlying3 f1
    have hx1 := congrArg Prod.fst hx
    simp only [Rows.laid_stevedore_stevedoreref_Fine, ha, hb, List.map_cons, List.map_nil] at hx1
    injection hx1 with hx1
    injection hx1 with h1 hx1
    injection hx1 with h2 _
    injection h1 with h1
    injection h2 with h2
    injection h1 with _ h1
    injection h2 with _ h2
    subst h1 h2
    have c0 : cs.toList[0]? = some (.int .i64 0) := by
      have := congrArg (·[0]?) ea
      simpa [List.getElem?_take, List.getElem?_drop] using this
    have c1 : cs.toList[1]? = some (.int .i64 (-1)) := by
      have := congrArg (·[0]?) eb
      simpa [List.getElem?_take, List.getElem?_drop] using this
    exact ⟨by rw [World.var?_cell fineIs hvar 0, ← Array.getElem?_toList]; exact c0, by rw [World.var?_cell fineIs hvar 1, ← Array.getElem?_toList]; exact c1⟩
theorem envFi_at {W : World} {laid : List (String × DataW Unit)} (hL : laidMetH Tryz.prog laid W) (hm : ("stevedore/stevedoreref.Fine", (Rows.laid_stevedore_stevedoreref_Fine : DataW Unit)) ∈ laid) : EnvFi W :=
  envFi_reads (Lib.laidMet.reads (laidMetH_iff.1 hL).1 (List.mem_filter.2 ⟨hm, rfl⟩))
end Go.Proofs.YtofogjfemlhffaaGreatDoor

namespace Go.Proofs.YtofogjfemlhffaaGreatDoor
open Go Go.RowKit

/-- a package that is known: how it stands, what it says -/
structure Kv where
  st : Int
  e : Int
  u : ByteArray
  r : ByteArray
  held : Bool
  p : Pv
/-- its cells -/
def kvC (k : Kv) (vw vt v1 v2 v3 v4 v5 v6 v7 v8 v9 : Value) : Array Value :=
  #[.int .i64 k.st, .int .i64 k.e, .string k.u, .string k.r, .bool k.held, vw, vt, .string k.p.n, .int .i64 k.p.e, .string k.p.u, .string k.p.r, v1, v2, v3, v4, v5, v6, v7, v8, v9]
structure KnownAt (w : World) (b off : Nat) (k : Kv) : Prop where
  cells : ∃ (Aw At A1 A2 A3 A4 A5 A6 A7 A8 A9 : Option Addr) (nw nt cw ct c1 c2 c3 c4 c5 c6 c7 c8 c9 : Nat),
    (∀ (j : Nat) (u : Value), (kvC k (.slice Aw nw cw) (.slice At nt ct) (.slice A1 k.p.dep.length c1) (.slice A2 k.p.ahead.length c2) (.slice A3 k.p.ag.length c3) (.slice A4 k.p.br.length c4) (.slice A5 k.p.re.length c5) (.slice A6 k.p.pr.length c6) (.slice A7 k.p.se.length c7) (.slice A8 k.p.li.length c8) (.slice A9 k.p.fi.length c9))[j]? = some u → w.cell? ⟨b, off + j, none⟩ = some u) ∧
    PackAt w (.agg #[.string k.p.n, .int .i64 k.p.e, .string k.p.u, .string k.p.r, .slice A1 k.p.dep.length c1, .slice A2 k.p.ahead.length c2, .slice A3 k.p.ag.length c3, .slice A4 k.p.br.length c4, .slice A5 k.p.re.length c5, .slice A6 k.p.pr.length c6, .slice A7 k.p.se.length c7, .slice A8 k.p.li.length c8, .slice A9 k.p.fi.length c9]) k.p
theorem KnownAt.below {w w' : World} {b off : Nat} {k : Kv} (h : KnownAt w b off k) (hb : Below w.heap.size w w') : KnownAt w' b off k := by
  obtain ⟨Aw, At, A1, A2, A3, A4, A5, A6, A7, A8, A9, nw, nt, cw, ct, c1, c2, c3, c4, c5, c6, c7, c8, c9, hc, hp⟩ := h.cells
  exact ⟨Aw, At, A1, A2, A3, A4, A5, A6, A7, A8, A9, nw, nt, cw, ct, c1, c2, c3, c4, c5, c6, c7, c8, c9, fun j u hj => kept hb (hc j u hj), hp.below hb⟩
/-- this value is a slice that reads as these -/
def KnownsAt (w : World) (v : Value) (ks : List Kv) : Prop :=
  ∃ A c, v = .slice A ks.length c ∧ ks.length ≤ c ∧ ks.length ≤ 9223372036854775807 ∧ (ks ≠ [] → ∃ b off, A = some ⟨b, off, none⟩ ∧ ∀ (i : Nat) (k : Kv), ks[i]? = some k → KnownAt w b (off + i * 20) k)
theorem KnownsAt.below {w w' : World} {v : Value} {ks : List Kv} (h : KnownsAt w v ks) (hb : Below w.heap.size w w') : KnownsAt w' v ks := by
  obtain ⟨A, c, hv, hc, hm, h⟩ := h
  refine ⟨A, c, hv, hc, hm, fun hn => ?_⟩
  obtain ⟨b, off, hA, hi⟩ := h hn
  exact ⟨b, off, hA, fun i k hk => (hi i k hk).below hb⟩
/-! a whole struct is read, and stored into a new block, in one step -/
section
variable {P : Program}
theorem wpList_store_row {ops : Array Oper} {rest : List Oper} {o : Oper} {a : Act} {w : World} {Q : Exit → Act → World → Prop} (hgd : o.guard = none) (ty : TypeId) (x y : Operand) (ho : o.op = .store ty x y)
    (g : Nat) (cells : Array Value) (hx : a.eval x = .pointer (some ⟨g, 0, none⟩)) (hy : a.eval y = .agg cells)
    (t : TypeId) (old : Array Value) (hg : w.heap[g]? = some (.cells old t (0, 0))) (hi : (P.info? ty).map (·.size) = some cells.size)
    (hold : old.size = cells.size) (h1 : cells.all (·.oneCell') = true)
    (h : wpList P ops Q rest (a.put o.dst undef) (w.setRow g cells)) : wpList P ops Q (o :: rest) a w :=
  wpList_plain hgd fun _ hK => wp_store_row ty x y ho g cells hx hy t old hg hi hold h1 (hK _ _ h)
end
theorem new_row (w : World) (old cells : Array Value) (T : TypeId) : Blk T ((w.alloc (.cells old T)).setRow w.heap.size cells) w.heap.size cells ∧ Below w.heap.size w ((w.alloc (.cells old T)).setRow w.heap.size cells) := by
  have hn := heap_alloc_new w (.cells old T)
  refine ⟨setRow_heap _ _ _ _ _ _ hn, rfl, rfl, rfl, by simp, fun k hk => ?_⟩
  rw [setRow_other _ _ _ _ (by omega)]
  exact (below_alloc w _).block k hk
end Go.Proofs.YtofogjfemlhffaaGreatDoor

/- record.flat, record.Right: may a package be. · A package that is short enough to be held is short enough to be read. · Which packages may be with their files: plain; two paths that clash. · status.Right: may a status be. · status.Print: what a status is written as. -/
import Derived.Test.YtofogjfemlhffaaGreatDoorSPK10
import Derived.Test.YtofogjfemlhffaaGreatDoorSPK11
import Derived.Test.YtofogjfemlhffaaGreatDoorSPK12
import Derived.Test.YtofogjfemlhffaaGreatDoorSPK6
import Derived.Test.YtofogjfemlhffaaGreatDoorSPK4
import Derived.Laws.Cover1
import Derived.Deep.QuietTactic
import Derived.BigQuiet
import Derived.Lib.OwnBridge
import Derived.Shelf.Slices.CompactS
import Derived.Shelf.Slices.Clone
import Derived.Test.YtofogjfemlhffaaGreatDoorSPK5
import Derived.Test.YtofogjfemlhffaaGreatDoorSPK2
namespace Go.Proofs.YtofogjfemlhffaaGreatDoor
open Go Go.RowKit

/-- all that a package says is short enough to be read -/
structure Pv.Fit (p : Pv) : Prop where
  n : p.n.size ≤ 1000000
  u : p.u.size ≤ 1000
  r : p.r.size ≤ 1000
  dep : ∀ x ∈ p.dep, ∀ t ∈ x, t.small
  depN : ∀ x ∈ p.dep, x.length ≤ 1000
  ahead : ∀ x ∈ p.ahead, ∀ t ∈ x, t.small
  aheadN : ∀ x ∈ p.ahead, x.length ≤ 1000
  ag : ∀ t ∈ p.ag, t.small
  agN : p.ag.length ≤ 1000
  br : ∀ t ∈ p.br, t.small
  brN : p.br.length ≤ 1000
  re : ∀ t ∈ p.re, t.small
  reN : p.re.length ≤ 1000
  pr : ∀ t ∈ p.pr, t.small
  prN : p.pr.length ≤ 1000
  se : ∀ s ∈ p.se, s.size ≤ 1000000
  li : ∀ s ∈ p.li, s.size ≤ 1000000

theorem flatP_eq (ts : List Tv) : VP.askedP (tmL (ts.map fun t => [t])) = VP.flatP (ts.map Tv.tm) := by
  unfold VP.flatP tmL
  rw [List.map_map, List.map_map]
  rfl
theorem singles_small {ts : List Tv} (h : ∀ t ∈ ts, t.small) : ∀ x ∈ ts.map (fun t => [t]), ∀ t ∈ x, t.small := by
  intro x hx t ht
  obtain ⟨t', ht', rfl⟩ := List.mem_map.1 hx
  rw [List.mem_singleton.1 ht]
  exact h t' ht'
theorem singles_few {ts : List Tv} : ∀ x ∈ ts.map (fun t => [t]), x.length ≤ 1000 := by
  intro x hx
  obtain ⟨t', ht', rfl⟩ := List.mem_map.1 hx
  simp

set_option maxRecDepth 100000 in
theorem recFlat_calls (v : Value) (ts : List Tv) (w : World) (hE : Env w) (h : TermsAt w v ts) (hs : ∀ t ∈ ts, t.small) (hN : ts.length ≤ 1000) : Calls Tryz.prog 81 #[v] w (BoolIs (VP.flatP (ts.map Tv.tm)) w) := by
  have C1 := Lib.hid (singles_calls v ts w h hN)
  have HE := Lib.hid hE
  have HS := Lib.hid (singles_small hs)
  have HQ := Lib.hid (flatP_eq ts)
  clear h hE hs
  go_enter Tryz.func81, Tryz.ntmps81
  go_wp2_with fail
  refine C1.out.mono ?_
  rintro E w1 ⟨v1, rfl, ha, hb⟩
  have C2 := Lib.hid (asked_calls v1 _ w1 (HE.out.below hb) ha HS.out singles_few)
  rw [HQ.out] at C2
  clear C1 ha HE
  go_wp2_with fail
  refine C2.out.mono ?_
  rintro E w2 ⟨rfl, hb2⟩
  have hB := step_below hb hb2
  clear hb hb2 C2
  go_wp2_with fail
  go_ret
  exact ⟨rfl, hB⟩

def saysOk (p : Pv) : Bool := VP.saysP p.pk
def provT (t : Tv) : Bool := VP.provP t.tm
theorem says_prog (p : Pv) : saysOk p = (p.pr.all provT && (VP.nameP p.n.data.toList && (VP.rightP p.e p.u.data.toList p.r.data.toList && (VP.askedP (tmL p.dep) && (VP.askedP (tmL p.ahead) && (VP.flatP (p.ag.map Tv.tm) && (VP.flatP (p.br.map Tv.tm) && (VP.flatP (p.re.map Tv.tm) && (VP.flatP (p.pr.map Tv.tm) && (pathsB p.se && (pathsB p.li))))))))))) := by
  unfold saysOk VP.saysP Pv.pk
  dsimp only
  rw [show ((p.pr.map Tv.tm).all VP.provP) = p.pr.all provT by rw [List.all_map]; rfl]
  simp only [Bool.and_assoc]
  rfl


/-- the cells of a package in a box -/
structure PackBox (w : World) (m : Nat) (p : Pv) (v1 v2 v3 v4 v5 v6 v7 v8 v9 : Value) : Prop where
  c0 : w.cell? ⟨m, 0, none⟩ = some (.string p.n)
  c1 : w.cell? ⟨m, 1, none⟩ = some (.int .i64 p.e)
  c2 : w.cell? ⟨m, 2, none⟩ = some (.string p.u)
  c3 : w.cell? ⟨m, 3, none⟩ = some (.string p.r)
  c4 : w.cell? ⟨m, 4, none⟩ = some v1
  c5 : w.cell? ⟨m, 5, none⟩ = some v2
  c6 : w.cell? ⟨m, 6, none⟩ = some v3
  c7 : w.cell? ⟨m, 7, none⟩ = some v4
  c8 : w.cell? ⟨m, 8, none⟩ = some v5
  c9 : w.cell? ⟨m, 9, none⟩ = some v6
  c10 : w.cell? ⟨m, 10, none⟩ = some v7
  c11 : w.cell? ⟨m, 11, none⟩ = some v8
  c12 : w.cell? ⟨m, 12, none⟩ = some v9
theorem PackBox.below {w w' : World} {m : Nat} {p : Pv} {v1 v2 v3 v4 v5 v6 v7 v8 v9 : Value} (h : PackBox w m p v1 v2 v3 v4 v5 v6 v7 v8 v9) (hb : Below w.heap.size w w') : PackBox w' m p v1 v2 v3 v4 v5 v6 v7 v8 v9 :=
  ⟨kept hb h.c0, kept hb h.c1, kept hb h.c2, kept hb h.c3, kept hb h.c4, kept hb h.c5, kept hb h.c6, kept hb h.c7, kept hb h.c8, kept hb h.c9, kept hb h.c10, kept hb h.c11, kept hb h.c12⟩
theorem packBox_new (w : World) (p : Pv) (v1 v2 v3 v4 v5 v6 v7 v8 v9 : Value) (t : TypeId) : PackBox (w.alloc (.cells #[.string p.n, .int .i64 p.e, .string p.u, .string p.r, v1, v2, v3, v4, v5, v6, v7, v8, v9] t)) w.heap.size p v1 v2 v3 v4 v5 v6 v7 v8 v9 :=
  ⟨by go_cell, by go_cell, by go_cell, by go_cell, by go_cell, by go_cell, by go_cell, by go_cell, by go_cell, by go_cell, by go_cell, by go_cell, by go_cell⟩

set_option maxHeartbeats 6000000 in
set_option maxRecDepth 100000 in
theorem recRight_calls (v : Value) (p : Pv) (w : World) (hE : Env w) (h : PackAt w v p) (hf : p.Fit) : Calls Tryz.prog 54 #[v] w (BoolIs (saysOk p) w) := by
  obtain ⟨v1, v2, v3, v4, v5, v6, v7, v8, v9, rfl, h1, h2, h3, h4, h5, h6, h7, h8, _, _, _⟩ := h
  have HE := Lib.hid hE
  have HF := Lib.hid hf
  have CName := Lib.hid (fun (W : World) (hb : Below w.heap.size w W) => name_calls p.n W)
  have CVer := Lib.hid (fun (W : World) (hb : Below w.heap.size w W) => (show Calls Tryz.prog 79 #[.agg #[.int .i64 p.e, .string p.u, .string p.r]] W (BoolIs (VP.rightP p.e p.u.data.toList p.r.data.toList) W) from right_calls p.e p.u p.r W (HE.out.below hb) (by have := HF.out.u; omega) (by have := HF.out.r; omega)))
  have CDep := Lib.hid (fun (W : World) (hb : Below w.heap.size w W) => asked_calls v1 p.dep W (HE.out.below hb) (h1.below hb) HF.out.dep HF.out.depN)
  have CAhe := Lib.hid (fun (W : World) (hb : Below w.heap.size w W) => asked_calls v2 p.ahead W (HE.out.below hb) (h2.below hb) HF.out.ahead HF.out.aheadN)
  have CAg := Lib.hid (fun (W : World) (hb : Below w.heap.size w W) => recFlat_calls v3 p.ag W (HE.out.below hb) (h3.below hb) HF.out.ag HF.out.agN)
  have CBr := Lib.hid (fun (W : World) (hb : Below w.heap.size w W) => recFlat_calls v4 p.br W (HE.out.below hb) (h4.below hb) HF.out.br HF.out.brN)
  have CRe := Lib.hid (fun (W : World) (hb : Below w.heap.size w W) => recFlat_calls v5 p.re W (HE.out.below hb) (h5.below hb) HF.out.re HF.out.reN)
  have CPr := Lib.hid (fun (W : World) (hb : Below w.heap.size w W) => recFlat_calls v6 p.pr W (HE.out.below hb) (h6.below hb) HF.out.pr HF.out.prN)
  have CSe := Lib.hid (fun (W : World) (hb : Below w.heap.size w W) => paths_calls v7 p.se W (HE.out.below hb) (h7.below hb) HF.out.se)
  have CLi := Lib.hid (fun (W : World) (hb : Below w.heap.size w W) => paths_calls v8 p.li W (HE.out.below hb) (h8.below hb) HF.out.li)
  have F := Lib.hid (says_prog p)
  obtain ⟨b0, hb0⟩ : ∃ x, VP.nameP p.n.data.toList = x := ⟨_, rfl⟩
  obtain ⟨b1, hb1⟩ : ∃ x, VP.rightP p.e p.u.data.toList p.r.data.toList = x := ⟨_, rfl⟩
  obtain ⟨b2, hb2⟩ : ∃ x, VP.askedP (tmL p.dep) = x := ⟨_, rfl⟩
  obtain ⟨b3, hb3⟩ : ∃ x, VP.askedP (tmL p.ahead) = x := ⟨_, rfl⟩
  obtain ⟨b4, hb4⟩ : ∃ x, VP.flatP (p.ag.map Tv.tm) = x := ⟨_, rfl⟩
  obtain ⟨b5, hb5⟩ : ∃ x, VP.flatP (p.br.map Tv.tm) = x := ⟨_, rfl⟩
  obtain ⟨b6, hb6⟩ : ∃ x, VP.flatP (p.re.map Tv.tm) = x := ⟨_, rfl⟩
  obtain ⟨b7, hb7⟩ : ∃ x, VP.flatP (p.pr.map Tv.tm) = x := ⟨_, rfl⟩
  obtain ⟨b8, hb8⟩ : ∃ x, pathsB p.se = x := ⟨_, rfl⟩
  obtain ⟨b9, hb9⟩ : ∃ x, pathsB p.li = x := ⟨_, rfl⟩
  rw [hb0] at CName F
  rw [hb1] at CVer F
  rw [hb2] at CDep F
  rw [hb3] at CAhe F
  rw [hb4] at CAg F
  rw [hb5] at CBr F
  rw [hb6] at CRe F
  rw [hb7] at CPr F
  rw [hb8] at CSe F
  rw [hb9] at CLi F
  clear hb0 hb1 hb2 hb3 hb4 hb5 hb6 hb7 hb8 hb9 h1 h2 h3 h4 h5 h7 h8 hE hf
  have X0 := packBox_new w p v1 v2 v3 v4 v5 v6 v7 v8 v9 43
  have hB0 := below_alloc w (.cells #[.string p.n, .int .i64 p.e, .string p.u, .string p.r, v1, v2, v3, v4, v5, v6, v7, v8, v9] 43)
  obtain ⟨A, c, hv6, hc, hm, hr⟩ := h6
  subst hv6
  obtain ⟨len, hlen⟩ : ∃ len, p.pr.length = len := ⟨_, rfl⟩
  have HL := Lib.hid hlen
  have HR := Lib.hid hr
  rw [hlen] at hc hm X0 hB0 CPr ⊢
  clear hlen hr
  obtain ⟨c0, c1, c2, c3, c4, c5, c6, c7, c8, c9, c10, c11, c12⟩ := X0
  go_enter Tryz.func54, Tryz.ntmps54
  go_wp2_with fail
  obtain ⟨m, hmm⟩ : ∃ m, w.heap.size = m := ⟨_, rfl⟩
  obtain ⟨W0, hW0⟩ : ∃ x, x = w.alloc (.cells #[.string p.n, .int .i64 p.e, .string p.u, .string p.r, v1, v2, v3, v4, v5, .slice A len c, v7, v8, v9] 43) := ⟨_, rfl⟩
  rw [← hW0] at hB0 c0 c1 c2 c3 c4 c5 c6 c7 c8 c9 c10 c11 c12 ⊢
  have HB0 := Lib.hid hB0
  have X0 : Hid (PackBox W0 m p v1 v2 v3 v4 v5 (.slice A len c) v7 v8 v9) := by rw [← hmm]; exact Lib.hid ⟨c0, c1, c2, c3, c4, c5, c6, c7, c8, c9, c10, c11, c12⟩
  (try rw [hmm])
  clear hW0 hB0 c0 c1 c2 c3 c4 c5 c6 c7 c8 c9 c10 c11 c12 hmm
  have hz0 := Below.refl W0.heap.size W0
  go_loopw [9] (fun i wr => ∃ k : Nat, k ≤ len ∧ i = .int .i64 k ∧ Hid ((p.pr.take k).all provT = true) ∧ Below W0.heap.size W0 wr) (fun i _ => len - (intOf i).toNat)
  case atStart => exact ⟨0, Nat.zero_le _, rfl, rfl, hz0⟩
  case round =>
    clear hz0
    obtain ⟨k, hk, rfl, hall, hz⟩ := hrel
    by_cases hlt : k < len
    · have hne : p.pr ≠ [] := by
        intro e
        have := HL.out
        rw [e] at this
        simp at this
        omega
      obtain ⟨t, ht⟩ : ∃ t, p.pr[k]? = some t := ⟨p.pr[k]'(by have := HL.out; omega), List.getElem?_eq_getElem _⟩
      obtain ⟨b, off, rfl, hi⟩ := HR.out hne
      have hT := ((hi k t ht).1.below HB0.out).below hz
      obtain ⟨t0, t1, t2, t3, t4⟩ := hT
      have HT := Lib.hid ht
      have hz1 := step_below hz (below_alloc wr (.cells #[.string t.n, .int .i64 t.op, .int .i64 t.e, .string t.u, .string t.r] 96))
      have hB1 := step_below HB0.out hz1
      have HPT := Lib.hid (show provT t = (decide (t.op = 0) || decide (t.op = 3)) from rfl)
      clear hi hne ht
      by_cases ho0 : t.op = 0
      · have hob : (t.op != 0) = false := by rw [bne, beq_iff_eq.2 ho0]; rfl
        have HK := Lib.hid (show provT t = true by rw [HPT.out, decide_eq_true ho0]; rfl)
        clear ho0
        go_wp2_with fail
        go_roundw
        case rel => exact ⟨k + 1, by omega, by go_num, Lib.hid (all_take_succ hall.out HT.out HK.out), hz1⟩
        case measure => simp [intOf]; omega
      · have hob : (t.op != 0) = true := by rw [bne_iff_ne]; exact ho0
        by_cases ho3 : t.op = 3
        · have hob3 : (t.op != 3) = false := by rw [bne, beq_iff_eq.2 ho3]; rfl
          have HK := Lib.hid (show provT t = true by rw [HPT.out, decide_eq_true ho3, Bool.or_true])
          clear ho0 ho3
          go_wp2_with fail
          go_roundw
          case rel => exact ⟨k + 1, by omega, by go_num, Lib.hid (all_take_succ hall.out HT.out HK.out), hz1⟩
          case measure => simp [intOf]; omega
        · have hob3 : (t.op != 3) = true := by rw [bne_iff_ne]; exact ho3
          have HG := Lib.hid (show saysOk p = false by rw [F.out, all_stop HT.out (by rw [HPT.out, decide_eq_false ho0, decide_eq_false ho3]; rfl)]; rfl)
          clear ho0 ho3
          go_wp2_with fail
          go_ret
          exact ⟨ret_bool HG.out.symm, hB1⟩
    · obtain rfl : len = k := by omega
      have HA := Lib.hid (show p.pr.all provT = true by have := hall.out; rw [← HL.out] at this; exact all_done this)
      rw [HA.out] at F
      have hB := step_below HB0.out hz
      obtain ⟨c0, c1, c2, c3, c4, c5, c6, c7, c8, c9, c10, c11, c12⟩ := X0.out.below hz
      clear HA hall hz HB0 X0 HL HR
      have D0 := Lib.hid (CName.out _ hB)
      clear CName
      go_wp2_with fail
      refine D0.out.mono ?_
      rintro E y0 ⟨rfl, hb⟩
      have hB0 := step_below hB hb
      clear hB
      have hB := hB0
      clear hB0
      replace c1 := kept hb c1
      replace c2 := kept hb c2
      replace c3 := kept hb c3
      replace c4 := kept hb c4
      replace c5 := kept hb c5
      replace c6 := kept hb c6
      replace c7 := kept hb c7
      replace c8 := kept hb c8
      replace c9 := kept hb c9
      replace c10 := kept hb c10
      replace c11 := kept hb c11
      clear hb D0 c0 c12
      cases b0 with
      | false =>
        have HG := Lib.hid (show saysOk p = false by rw [F.out]; rfl)
        clear F
        go_wp2_with fail
        go_ret
        exact ⟨ret_bool HG.out.symm, hB⟩
      | true =>
      have D1 := Lib.hid (CVer.out _ hB)
      clear CVer
      go_wp2_with fail
      refine D1.out.mono ?_
      rintro E y1 ⟨rfl, hb⟩
      have hB1 := step_below hB hb
      clear hB
      have hB := hB1
      clear hB1
      replace c4 := kept hb c4
      replace c5 := kept hb c5
      replace c6 := kept hb c6
      replace c7 := kept hb c7
      replace c8 := kept hb c8
      replace c9 := kept hb c9
      replace c10 := kept hb c10
      replace c11 := kept hb c11
      clear hb D1 c1 c2 c3
      cases b1 with
      | false =>
        have HG := Lib.hid (show saysOk p = false by rw [F.out]; rfl)
        clear F
        go_wp2_with fail
        go_ret
        exact ⟨ret_bool HG.out.symm, hB⟩
      | true =>
      have D2 := Lib.hid (CDep.out _ hB)
      clear CDep
      go_wp2_with fail
      refine D2.out.mono ?_
      rintro E y2 ⟨rfl, hb⟩
      have hB2 := step_below hB hb
      clear hB
      have hB := hB2
      clear hB2
      replace c5 := kept hb c5
      replace c6 := kept hb c6
      replace c7 := kept hb c7
      replace c8 := kept hb c8
      replace c9 := kept hb c9
      replace c10 := kept hb c10
      replace c11 := kept hb c11
      clear hb D2 c4
      cases b2 with
      | false =>
        have HG := Lib.hid (show saysOk p = false by rw [F.out]; rfl)
        clear F
        go_wp2_with fail
        go_ret
        exact ⟨ret_bool HG.out.symm, hB⟩
      | true =>
      have D3 := Lib.hid (CAhe.out _ hB)
      clear CAhe
      go_wp2_with fail
      refine D3.out.mono ?_
      rintro E y3 ⟨rfl, hb⟩
      have hB3 := step_below hB hb
      clear hB
      have hB := hB3
      clear hB3
      replace c6 := kept hb c6
      replace c7 := kept hb c7
      replace c8 := kept hb c8
      replace c9 := kept hb c9
      replace c10 := kept hb c10
      replace c11 := kept hb c11
      clear hb D3 c5
      cases b3 with
      | false =>
        have HG := Lib.hid (show saysOk p = false by rw [F.out]; rfl)
        clear F
        go_wp2_with fail
        go_ret
        exact ⟨ret_bool HG.out.symm, hB⟩
      | true =>
      have D4 := Lib.hid (CAg.out _ hB)
      clear CAg
      go_wp2_with fail
      refine D4.out.mono ?_
      rintro E y4 ⟨rfl, hb⟩
      have hB4 := step_below hB hb
      clear hB
      have hB := hB4
      clear hB4
      replace c7 := kept hb c7
      replace c8 := kept hb c8
      replace c9 := kept hb c9
      replace c10 := kept hb c10
      replace c11 := kept hb c11
      clear hb D4 c6
      cases b4 with
      | false =>
        have HG := Lib.hid (show saysOk p = false by rw [F.out]; rfl)
        clear F
        go_wp2_with fail
        go_ret
        exact ⟨ret_bool HG.out.symm, hB⟩
      | true =>
      have D5 := Lib.hid (CBr.out _ hB)
      clear CBr
      go_wp2_with fail
      refine D5.out.mono ?_
      rintro E y5 ⟨rfl, hb⟩
      have hB5 := step_below hB hb
      clear hB
      have hB := hB5
      clear hB5
      replace c8 := kept hb c8
      replace c9 := kept hb c9
      replace c10 := kept hb c10
      replace c11 := kept hb c11
      clear hb D5 c7
      cases b5 with
      | false =>
        have HG := Lib.hid (show saysOk p = false by rw [F.out]; rfl)
        clear F
        go_wp2_with fail
        go_ret
        exact ⟨ret_bool HG.out.symm, hB⟩
      | true =>
      have D6 := Lib.hid (CRe.out _ hB)
      clear CRe
      go_wp2_with fail
      refine D6.out.mono ?_
      rintro E y6 ⟨rfl, hb⟩
      have hB6 := step_below hB hb
      clear hB
      have hB := hB6
      clear hB6
      replace c9 := kept hb c9
      replace c10 := kept hb c10
      replace c11 := kept hb c11
      clear hb D6 c8
      cases b6 with
      | false =>
        have HG := Lib.hid (show saysOk p = false by rw [F.out]; rfl)
        clear F
        go_wp2_with fail
        go_ret
        exact ⟨ret_bool HG.out.symm, hB⟩
      | true =>
      have D7 := Lib.hid (CPr.out _ hB)
      clear CPr
      go_wp2_with fail
      refine D7.out.mono ?_
      rintro E y7 ⟨rfl, hb⟩
      have hB7 := step_below hB hb
      clear hB
      have hB := hB7
      clear hB7
      replace c10 := kept hb c10
      replace c11 := kept hb c11
      clear hb D7 c9
      cases b7 with
      | false =>
        have HG := Lib.hid (show saysOk p = false by rw [F.out]; rfl)
        clear F
        go_wp2_with fail
        go_ret
        exact ⟨ret_bool HG.out.symm, hB⟩
      | true =>
      have D8 := Lib.hid (CSe.out _ hB)
      clear CSe
      go_wp2_with fail
      refine D8.out.mono ?_
      rintro E y8 ⟨rfl, hb⟩
      have hB8 := step_below hB hb
      clear hB
      have hB := hB8
      clear hB8
      replace c11 := kept hb c11
      clear hb D8 c10
      cases b8 with
      | false =>
        have HG := Lib.hid (show saysOk p = false by rw [F.out]; rfl)
        clear F
        go_wp2_with fail
        go_ret
        exact ⟨ret_bool HG.out.symm, hB⟩
      | true =>
      have D9 := Lib.hid (CLi.out _ hB)
      clear CLi
      go_wp2_with fail
      refine D9.out.mono ?_
      rintro E y9 ⟨rfl, hb⟩
      have hB9 := step_below hB hb
      clear hB
      have hB := hB9
      clear hB9
      clear hb D9 c11
      cases b9 with
      | false =>
        have HG := Lib.hid (show saysOk p = false by rw [F.out]; rfl)
        clear F
        go_wp2_with fail
        go_ret
        exact ⟨ret_bool HG.out.symm, hB⟩
      | true =>
      have HG := Lib.hid (show saysOk p = true by rw [F.out]; rfl)
      clear F
      go_wp2_with fail
      go_ret
      exact ⟨ret_bool HG.out.symm, hB⟩
end Go.Proofs.YtofogjfemlhffaaGreatDoor

namespace Go.Proofs.YtofogjfemlhffaaGreatDoor
open Go Go.RowKit

theorem texts_small {ss : List ByteArray} (h : textsB ss = true) : ∀ s ∈ ss, s.size ≤ 1000000 := by
  unfold textsB at h
  rw [Bool.and_eq_true, List.all_eq_true] at h
  intro s hs
  have := of_decide_eq_true (h.2 s hs)
  omega
theorem flat_few {ts : List Tv} (h : flatB ts = true) : ts.length ≤ 1000 := by
  unfold flatB at h
  rw [Bool.and_eq_true, decide_eq_true_eq] at h
  have := h.1
  omega
theorem fit_of {w : World} {v : Value} {p : Pv} (h : PackAt w v p) (hb : saysB p = true) : p.Fit := by
  unfold saysB at hb
  simp only [Bool.and_eq_true, decide_eq_true_eq] at hb
  obtain ⟨k0, k1, k2, k3, k4, k5, k6, k7, k8, k9, k10⟩ := hb
  unfold shortB at k1
  simp only [Bool.and_eq_true, decide_eq_true_eq] at k1
  obtain ⟨v1, v2, v3, v4, v5, v6, v7, v8, v9, _, h1, h2, h3, h4, h5, h6, h7, h8, h9, _, _⟩ := h
  exact ⟨by omega, by omega, by omega, small_of h1 k2, few_of k2, small_of h2 k3, few_of k3, small_flat h3 k4, flat_few k4, small_flat h4 k5, flat_few k5, small_flat h5 k6, flat_few k6, small_flat h6 k7, flat_few k7, texts_small k8, texts_small k9⟩
end Go.Proofs.YtofogjfemlhffaaGreatDoor

namespace Go.Proofs.YtofogjfemlhffaaGreatDoor
open Go Go.RowKit

/-- g has f's path, or lies beneath it -/
def underB (f g : Fv) : Bool := Lib.hasPrefix g.n.data.toList (f.n ++ ⟨#[47]⟩).data.toList
def clashB (f g : Fv) : Bool := decide (g.n = f.n) || underB f g
def pairOk (f : Fv) (i : Nat) (g : Fv) (k : Nat) : Bool := decide (k = i) || !clashB f g
def fileAt (fs : List Fv) (i : Nat) : Bool :=
  match fs[i]? with
  | none => true
  | some f => VP.pathP f.n.data.toList && VP.allAt fs.length fun k => match fs[k]? with | none => true | some g => pairOk f i g k
def filesOk (fs : List Fv) : Bool := VP.allAt fs.length (fileAt fs)
def hasFile (fs : List Fv) (s : ByteArray) : Bool := fs.any fun f => decide (f.n = s)
def setOk (p : Pv) : Bool := p.se.all (hasFile p.fi)
def archB (p : Pv) : Bool := saysOk p && (decide (p.fi.length ≤ 20) && (filesOk p.fi && setOk p))

theorem fileAt_path {fs : List Fv} {i : Nat} {f : Fv} (h : fs[i]? = some f) (hp : VP.pathP f.n.data.toList = false) : fileAt fs i = false := by
  unfold fileAt; rw [h]; dsimp only; rw [hp]; rfl
theorem fileAt_clash {fs : List Fv} {i k : Nat} {f g : Fv} (h : fs[i]? = some f) (hg : fs[k]? = some g) (hp : pairOk f i g k = false) : fileAt fs i = false := by
  unfold fileAt; rw [h]; dsimp only
  rw [VP.allAt_false (List.getElem?_eq_some_iff.1 hg).1 (by rw [hg]; exact hp), Bool.and_false]
/-- so far the files do not clash with f -/
def PairsTo (fs : List Fv) (f : Fv) (i n : Nat) : Prop := ∀ k, k < n → ∀ g, fs[k]? = some g → pairOk f i g k = true
theorem PairsTo.zero (fs : List Fv) (f : Fv) (i : Nat) : PairsTo fs f i 0 := fun _ h => absurd h (Nat.not_lt_zero _)
theorem PairsTo.succ {fs : List Fv} {f g : Fv} {i n : Nat} (h : PairsTo fs f i n) (hg : fs[n]? = some g) (hp : pairOk f i g n = true) : PairsTo fs f i (n + 1) := fun k hk g' hg' => by
  rcases Nat.lt_or_ge k n with h1 | h1
  · exact h k h1 g' hg'
  · obtain rfl : k = n := by omega
    rw [hg] at hg'
    rw [← Option.some.inj hg']; exact hp
theorem fileAt_true {fs : List Fv} {i : Nat} {f : Fv} (h : fs[i]? = some f) (hp : VP.pathP f.n.data.toList = true) (ha : PairsTo fs f i fs.length) : fileAt fs i = true := by
  unfold fileAt; rw [h]; dsimp only
  rw [hp, Bool.true_and]
  refine VP.allAt_true fun k hk => ?_
  rw [List.getElem?_eq_getElem hk]
  exact ha k hk _ (List.getElem?_eq_getElem hk)
def FilesTo (fs : List Fv) (n : Nat) : Prop := ∀ i, i < n → fileAt fs i = true
theorem FilesTo.zero (fs : List Fv) : FilesTo fs 0 := fun _ h => absurd h (Nat.not_lt_zero _)
theorem FilesTo.succ {fs : List Fv} {n : Nat} (h : FilesTo fs n) (hp : fileAt fs n = true) : FilesTo fs (n + 1) := fun i hi => by
  rcases Nat.lt_or_ge i n with h1 | h1
  · exact h i h1
  · obtain rfl : i = n := by omega
    exact hp
theorem FilesTo.done {fs : List Fv} (h : FilesTo fs fs.length) : filesOk fs = true := VP.allAt_true h
theorem files_bad {fs : List Fv} {i : Nat} (hi : i < fs.length) (h : fileAt fs i = false) : filesOk fs = false := VP.allAt_false hi h
theorem arch_says {p : Pv} (h : saysOk p = false) : archB p = false := by unfold archB; rw [h]; rfl
theorem arch_many {p : Pv} (h : ¬ p.fi.length ≤ 20) : archB p = false := by
  unfold archB
  rw [show decide (p.fi.length ≤ 20) = false from decide_eq_false h]
  cases saysOk p <;> rfl
theorem arch_files {p : Pv} (h : filesOk p.fi = false) : archB p = false := by
  unfold archB
  rw [h]
  cases saysOk p <;> cases decide (p.fi.length ≤ 20) <;> rfl
theorem arch_rest {p : Pv} (h1 : saysOk p = true) (h2 : p.fi.length ≤ 20) (h3 : filesOk p.fi = true) : archB p = setOk p := by
  unfold archB
  rw [h1, h3, show decide (p.fi.length ≤ 20) = true from decide_eq_true h2]; rfl
theorem name_eq (a b : ByteArray) : (a.toList == b.toList) = decide (a = b) := by
  rw [Lib.toList_data, Lib.toList_data, Bool.eq_iff_iff, beq_iff_eq, decide_eq_true_iff]
  exact ⟨fun h => data_inj h, fun h => by rw [h]⟩
theorem name_eq' (a b : ByteArray) : (b.toList == a.toList) = decide (a = b) := by
  rw [name_eq, Bool.eq_iff_iff, decide_eq_true_iff, decide_eq_true_iff]
  exact ⟨fun h => h.symm, fun h => h.symm⟩
end Go.Proofs.YtofogjfemlhffaaGreatDoor

namespace Go.Proofs.YtofogjfemlhffaaGreatDoor
open Go Go.RowKit

/-- a status in the heap, of bounded size -/
structure StAt (w : World) (v1 v2 : Value) (z : St) : Prop where
  ws : StrsAt w v1 z.ws
  ts : StrsAt w v2 z.ts
structure StFit (z : St) : Prop where
  u : z.u.size ≤ 10000
  r : z.r.size ≤ 10000
  wl : z.ws.length ≤ 10000
  tl : z.ts.length ≤ 10000
  wz : ∀ s ∈ z.ws, s.size ≤ 10000
  tz : ∀ s ∈ z.ts, s.size ≤ 10000
theorem StAt.below {w w' : World} {v1 v2 : Value} {z : St} (h : StAt w v1 v2 z) (hb : Below w.heap.size w w') : StAt w' v1 v2 z := ⟨h.ws.below hb, h.ts.below hb⟩

structure StBox (w : World) (m : Nat) (z : St) (v1 v2 : Value) : Prop where
  c0 : w.cell? ⟨m, 0, none⟩ = some (.int .i64 z.n)
  c1 : w.cell? ⟨m, 1, none⟩ = some (.int .i64 z.e)
  c2 : w.cell? ⟨m, 2, none⟩ = some (.string z.u)
  c3 : w.cell? ⟨m, 3, none⟩ = some (.string z.r)
  c4 : w.cell? ⟨m, 4, none⟩ = some (.bool z.h)
  c5 : w.cell? ⟨m, 5, none⟩ = some v1
  c6 : w.cell? ⟨m, 6, none⟩ = some v2
theorem StBox.below {w w' : World} {m : Nat} {z : St} {v1 v2 : Value} (h : StBox w m z v1 v2) (hb : Below w.heap.size w w') : StBox w' m z v1 v2 :=
  ⟨kept hb h.c0, kept hb h.c1, kept hb h.c2, kept hb h.c3, kept hb h.c4, kept hb h.c5, kept hb h.c6⟩
end Go.Proofs.YtofogjfemlhffaaGreatDoor

namespace Go.Proofs.YtofogjfemlhffaaGreatDoor
open Go Go.RowKit

structure SmallL (l : List ByteArray) : Prop where
  n : l.length ≤ 4
  s : ∀ s ∈ l, s.size ≤ 60

theorem call_joinAt (w : World) (v : Value) (ss : List ByteArray) (sep : ByteArray) (h : StrsAt w v ss) (hne : ss ≠ []) (hn : ss.length ≤ 1000000) (hlen : (Lib.join (ss.map (·.data.toList)) sep.data.toList).length ≤ 1000000) :
    Calls Tryz.prog 71 #[v, .string sep] w fun e w' => e = .returned (.string ⟨(Lib.join (ss.map (·.data.toList)) sep.data.toList).toArray⟩) ∧ Below w.heap.size w w' := by
  obtain ⟨A, c, rfl, hc, hm, hr⟩ := h.open
  obtain ⟨b, off, rfl, hi⟩ := hr hne
  have hg : b < w.heap.size := by
    cases ss with
    | nil => exact absurd rfl hne
    | cons s r => exact cell_lt (hi 0 s rfl)
  exact Tryz.strings_Join b off c ss sep w hi hg (by omega) hc (by omega)

end Go.Proofs.YtofogjfemlhffaaGreatDoor

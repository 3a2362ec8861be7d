/- The reference's Says: may a package be. · The reference's PrintTerms: how what is asked for is written. · The reference's PrintTerms: the walk. · A package's bytes: plain; the builder, when something else is made; stanza.Print. · stanza.Get, the reference's Get: what a field says. -/
import Derived.Test.YtodbbfgkclkpgaaGreatDoorARC11
import Derived.Test.YtodbbfgkclkpgaaGreatDoorARC19
import Derived.Deep.DeepCutAuto
import Derived.Deep.RegionHeld3
import Derived.Test.YtodbbfgkclkpgaaGreatDoorARC17
import Derived.Deep.RegionWith
import Derived.Lib.OthersKept
import Derived.Shelf.Strings.BuilderK
import Derived.Test.YtodbbfgkclkpgaaGreatDoorARC15
namespace Go.Proofs.YtodbbfgkclkpgaaGreatDoor
open Go Go.RowKit

theorem block_of2 {ts : List Tv} {w : World} {v : Value} (h : TermsAt w v ts) : ∀ a n c, v = .slice (some a) n c → ts ≠ [] → a.block < w.heap.size := by
  intro a n c hv hne
  obtain ⟨A, c', hv', _, _, hr⟩ := h
  obtain ⟨b, off, rfl, hi⟩ := hr hne
  rw [hv] at hv'
  injection hv' with h1 _ _
  injection h1 with h1
  subst h1
  cases ts with
  | nil => exact absurd rfl hne
  | cons t r => exact cell_lt (hi 0 t rfl).1.c0

theorem is_slice {w : World} {v : Value} {ts : List Tv} (h : TermsAt w v ts) : ∃ A n c, v = .slice A n c := by
  obtain ⟨A, c, hv, _⟩ := h
  exact ⟨A, _, c, hv⟩

/-- the packages that stand each by itself, in the reference's order -/
def fourOf (p : Pv) (v3 v4 v5 v6 : Value) : List (Value × List Tv) := [(v3, p.ag), (v4, p.br), (v5, p.re), (v6, p.pr)]
def fourOk (L : List (Value × List Tv)) (j : Nat) : Bool := (L.take j).all fun x => VP.flatP (x.2.map Tv.tm)
theorem fourOk_succ {L : List (Value × List Tv)} {j : Nat} {x : Value × List Tv} (h : L[j]? = some x) : fourOk L (j + 1) = (fourOk L j && VP.flatP (x.2.map Tv.tm)) := by
  unfold fourOk
  rw [List.take_add_one, h, List.all_append]
  simp
def provTo (ts : List Tv) (k : Nat) : Bool := (ts.take k).all provT
theorem provTo_succ {ts : List Tv} {k : Nat} {t : Tv} (h : ts[k]? = some t) : provTo ts (k + 1) = (provTo ts k && provT t) := by
  unfold provTo
  rw [List.take_add_one, h, List.all_append]
  simp
theorem says_ref (p : Pv) (v3 v4 v5 v6 : Value) : saysOk p = ((VP.nameP p.n.data.toList && (VP.rightP p.e p.u.data.toList p.r.data.toList && (VP.askedP (tmL p.dep) && (VP.askedP (tmL p.ahead) && (pathsB p.se && pathsB p.li))))) && fourOk (fourOf p v3 v4 v5 v6) 4 && provTo p.pr p.pr.length) := by
  rw [says_prog]
  unfold fourOk fourOf provTo
  rw [List.take_length]
  simp only [List.take_succ_cons, List.take_zero, List.all_cons, List.all_nil, Bool.and_true]
  cases p.pr.all provT <;> cases VP.nameP p.n.data.toList <;> cases VP.rightP p.e p.u.data.toList p.r.data.toList <;> cases VP.askedP (tmL p.dep) <;> cases VP.askedP (tmL p.ahead) <;> cases pathsB p.se <;> cases pathsB p.li <;> simp

set_option maxHeartbeats 6000000 in
set_option maxRecDepth 100000 in
theorem refSays_calls (v : Value) (p : Pv) (w : World) (hE : Env w) (h : PackAt w v p) (hf : p.Fit) : Calls Tryz.prog 17 #[v] w (BoolIs (saysOk p) w) := by
  obtain ⟨v1, v2, v3, v4, v5, v6, v7, v8, v9, rfl, h1, h2, h3, h4, h5, h6, h7, h8, _, hlo, hhi⟩ := h
  obtain ⟨A3, n3, k3, rfl⟩ := is_slice h3
  obtain ⟨A4, n4, k4, rfl⟩ := is_slice h4
  obtain ⟨A5, n5, k5, rfl⟩ := is_slice h5
  obtain ⟨A6, n6, k6, rfl⟩ := is_slice h6
  have HE := Lib.hid hE
  have HF := Lib.hid hf
  have CName := Lib.hid (fun (W : World) (hb : Below w.heap.size w W) => (show Calls Tryz.prog 70 #[.string p.n] W (BoolIs (VP.nameP p.n.data.toList) W) from (packName_calls p.n W HF.out.n).mono fun E W' h => ⟨h.1, by rw [← h.2]; exact Below.refl _ _⟩))
  have CVer := Lib.hid (fun (W : World) (hb : Below w.heap.size w W) => (show Calls Tryz.prog 71 #[.agg #[.int .i64 p.e, .string p.u, .string p.r]] W (BoolIs (VP.rightP p.e p.u.data.toList p.r.data.toList) W) from refRight_calls p.e p.u p.r W (HE.out.below hb) hlo hhi (by have := HF.out.u; omega) (by have := HF.out.r; omega)))
  have CDep := Lib.hid (fun (W : World) (hb : Below w.heap.size w W) => refAsked_calls v1 p.dep W (HE.out.below hb) (h1.below hb) HF.out.dep HF.out.depN)
  have CAhe := Lib.hid (fun (W : World) (hb : Below w.heap.size w W) => refAsked_calls v2 p.ahead W (HE.out.below hb) (h2.below hb) HF.out.ahead HF.out.aheadN)
  have CSe := Lib.hid (fun (W : World) (hb : Below w.heap.size w W) => refPaths_calls v7 p.se W (h7.below hb) HF.out.se)
  have CLi := Lib.hid (fun (W : World) (hb : Below w.heap.size w W) => refPaths_calls v8 p.li W (h8.below hb) HF.out.li)
  have F := Lib.hid (says_ref p (.slice A3 n3 k3) (.slice A4 n4 k4) (.slice A5 n5 k5) (.slice A6 n6 k6))
  have HFour := Lib.hid (show ∀ (j : Nat) (x : Value × List Tv), (fourOf p (.slice A3 n3 k3) (.slice A4 n4 k4) (.slice A5 n5 k5) (.slice A6 n6 k6))[j]? = some x → TermsAt w x.1 x.2 ∧ (∀ t ∈ x.2, t.small) ∧ x.2.length ≤ 1000 from fun j x hx => by
    match j, hx with
    | 0, hx => rw [← Option.some.inj hx]; exact ⟨h3, hf.ag, hf.agN⟩
    | 1, hx => rw [← Option.some.inj hx]; exact ⟨h4, hf.br, hf.brN⟩
    | 2, hx => rw [← Option.some.inj hx]; exact ⟨h5, hf.re, hf.reN⟩
    | 3, hx => rw [← Option.some.inj hx]; exact ⟨h6, hf.pr, hf.prN⟩)
  obtain ⟨b0, hb0⟩ : ∃ x, VP.nameP p.n.data.toList = x := ⟨_, rfl⟩
  obtain ⟨b1, hb1⟩ : ∃ x, VP.rightP p.e p.u.data.toList p.r.data.toList = x := ⟨_, rfl⟩
  obtain ⟨b2, hb2⟩ : ∃ x, VP.askedP (tmL p.dep) = x := ⟨_, rfl⟩
  obtain ⟨b3, hb3⟩ : ∃ x, VP.askedP (tmL p.ahead) = x := ⟨_, rfl⟩
  obtain ⟨b4, hb4⟩ : ∃ x, pathsB p.se = x := ⟨_, rfl⟩
  obtain ⟨b5, hb5⟩ : ∃ x, pathsB p.li = x := ⟨_, rfl⟩
  rw [hb0] at CName F
  rw [hb1] at CVer F
  rw [hb2] at CDep F
  rw [hb3] at CAhe F
  rw [hb4] at CSe F
  rw [hb5] at CLi F
  clear hb0 hb1 hb2 hb3 hb4 hb5 h1 h2 h3 h4 h5 h7 h8 hE hf hlo hhi
  have X0 := packBox_new w p v1 v2 (.slice A3 n3 k3) (.slice A4 n4 k4) (.slice A5 n5 k5) (.slice A6 n6 k6) v7 v8 v9 29
  have hB0 := below_alloc w (.cells #[.string p.n, .int .i64 p.e, .string p.u, .string p.r, v1, v2, (.slice A3 n3 k3), (.slice A4 n4 k4), (.slice A5 n5 k5), (.slice A6 n6 k6), v7, v8, v9] 29)
  obtain ⟨c0, c1, c2, c3, c4, c5, c6, c7, c8, c9, c10, c11, c12⟩ := id X0
  have HX := Lib.hid X0
  go_enter Tryz.func17, Tryz.ntmps17
  go_upto_region 1 with fail
  obtain ⟨m, hmm⟩ : ∃ m, w.heap.size = m := ⟨_, rfl⟩
  obtain ⟨W0, hW0⟩ : ∃ x, x = w.alloc (.cells #[.string p.n, .int .i64 p.e, .string p.u, .string p.r, v1, v2, (.slice A3 n3 k3), (.slice A4 n4 k4), (.slice A5 n5 k5), (.slice A6 n6 k6), v7, v8, v9] 29) := ⟨_, rfl⟩
  rw [← hW0] at HX hB0 c0 c1 c2 c3 c4 c5 c6 c7 c8 c9 c10 c11 c12 ⊢
  rw [hmm] at HX c0 c1 c2 c3 c4 c5 c6 c7 c8 c9 c10 c11 c12
  (try rw [hmm])
  have HB0 := Lib.hid hB0
  clear hW0 hmm
  have hz0 := Below.refl W0.heap.size W0
  clear X0
  go_cut [3] (fun s wx => s = .bool (b0 && (b1 && (b2 && (b3 && (b4 && b5))))) ∧ Below W0.heap.size W0 wx)
  case first =>
    have hB := HB0.out
    have hz := hz0
    clear hB0 HX HFour F
    have D0 := Lib.hid (CName.out _ hB)
    clear CName
    go_wp2_with fail
    refine D0.out.mono ?_
    rintro E y0 ⟨rfl, hb⟩
    have hB0 := step_below hB hb
    have hz10 := step_below hz hb
    clear hB hz
    have hB := hB0
    have hz := hz10
    clear hB0 hz10
    replace c1 := kept hb c1
    replace c2 := kept hb c2
    replace c3 := kept hb c3
    replace c4 := kept hb c4
    replace c5 := kept hb c5
    replace c10 := kept hb c10
    replace c11 := kept hb c11
    clear hb D0 c0 c6 c7 c8 c9 c12
    cases b0 with
    | false =>
      go_wp2_with fail
      go_meet
      exact ⟨rfl, hz⟩
    | true =>
    have D1 := Lib.hid (CVer.out _ hB)
    clear CVer
    go_wp2_with fail
    refine D1.out.mono ?_
    rintro E y1 ⟨rfl, hb⟩
    have hB1 := step_below hB hb
    have hz11 := step_below hz hb
    clear hB hz
    have hB := hB1
    have hz := hz11
    clear hB1 hz11
    replace c4 := kept hb c4
    replace c5 := kept hb c5
    replace c10 := kept hb c10
    replace c11 := kept hb c11
    clear hb D1 c1 c2 c3
    cases b1 with
    | false =>
      go_wp2_with fail
      go_meet
      exact ⟨rfl, hz⟩
    | true =>
    have D2 := Lib.hid (CDep.out _ hB)
    clear CDep
    go_wp2_with fail
    refine D2.out.mono ?_
    rintro E y2 ⟨rfl, hb⟩
    have hB2 := step_below hB hb
    have hz12 := step_below hz hb
    clear hB hz
    have hB := hB2
    have hz := hz12
    clear hB2 hz12
    replace c5 := kept hb c5
    replace c10 := kept hb c10
    replace c11 := kept hb c11
    clear hb D2 c4
    cases b2 with
    | false =>
      go_wp2_with fail
      go_meet
      exact ⟨rfl, hz⟩
    | true =>
    have D3 := Lib.hid (CAhe.out _ hB)
    clear CAhe
    go_wp2_with fail
    refine D3.out.mono ?_
    rintro E y3 ⟨rfl, hb⟩
    have hB3 := step_below hB hb
    have hz13 := step_below hz hb
    clear hB hz
    have hB := hB3
    have hz := hz13
    clear hB3 hz13
    replace c10 := kept hb c10
    replace c11 := kept hb c11
    clear hb D3 c5
    cases b3 with
    | false =>
      go_wp2_with fail
      go_meet
      exact ⟨rfl, hz⟩
    | true =>
    have D4 := Lib.hid (CSe.out _ hB)
    clear CSe
    go_wp2_with fail
    refine D4.out.mono ?_
    rintro E y4 ⟨rfl, hb⟩
    have hB4 := step_below hB hb
    have hz14 := step_below hz hb
    clear hB hz
    have hB := hB4
    have hz := hz14
    clear hB4 hz14
    replace c11 := kept hb c11
    clear hb D4 c10
    cases b4 with
    | false =>
      go_wp2_with fail
      go_meet
      exact ⟨rfl, hz⟩
    | true =>
    have D5 := Lib.hid (CLi.out _ hB)
    clear CLi
    go_wp2_with fail
    refine D5.out.mono ?_
    rintro E y5 ⟨rfl, hb⟩
    have hB5 := step_below hB hb
    have hz15 := step_below hz hb
    clear hB hz
    have hB := hB5
    have hz := hz15
    clear hB5 hz15
    clear hb D5 c11
    cases b5 with
    | false =>
      go_wp2_with fail
      go_meet
      exact ⟨rfl, hz⟩
    | true =>
    go_wp2_with fail
    go_meet
    exact ⟨rfl, hz⟩
  case rest =>
    obtain ⟨rfl, hz⟩ := hcut
    clear CName CVer CDep CAhe CSe CLi hz0 hB0 c0 c1 c2 c3 c4 c5 c6 c7 c8 c9 c10 c11 c12
    obtain ⟨B1, hB1⟩ : ∃ B, (b0 && (b1 && (b2 && (b3 && (b4 && b5))))) = B := ⟨_, rfl⟩
    rw [hB1] at F ⊢
    clear hB1
    have X1 := HX.out.below hz
    obtain ⟨c0, c1, c2, c3, c4, c5, c6, c7, c8, c9, c10, c11, c12⟩ := id X1
    have HZ := Lib.hid hz
    clear hz c0 c1 c2 c3 c4 c5 c10 c11 c12 X1
    obtain ⟨L, hL⟩ : ∃ L, fourOf p (.slice A3 n3 k3) (.slice A4 n4 k4) (.slice A5 n5 k5) (.slice A6 n6 k6) = L := ⟨_, rfl⟩
    have hbq := below_alloc wc (.cells #[(.slice A3 n3 k3), (.slice A4 n4 k4), (.slice A5 n5 k5), (.slice A6 n6 k6)] 25)
    have hcells : ∀ (j : Nat) (x : Value × List Tv), L[j]? = some x → (wc.alloc (.cells #[(.slice A3 n3 k3), (.slice A4 n4 k4), (.slice A5 n5 k5), (.slice A6 n6 k6)] 25)).cell? ⟨wc.heap.size, j, none⟩ = some x.1 := fun j x hx => by
      rw [← hL] at hx
      match j, hx with
      | 0, hx => rw [← Option.some.inj hx]; go_cell
      | 1, hx => rw [← Option.some.inj hx]; go_cell
      | 2, hx => rw [← Option.some.inj hx]; go_cell
      | 3, hx => rw [← Option.some.inj hx]; go_cell
    have hL4 : L.length = 4 := by rw [← hL]; rfl
    rw [hL] at F HFour
    have d9 := kept hbq c9
    have HB2 := Lib.hid (step_below (step_below HB0.out HZ.out) hbq)
    clear hL
    go_wp2_with fail
    clear c6 c7 c8 c9
    obtain ⟨g, hg⟩ : ∃ g, wc.heap.size = g := ⟨_, rfl⟩
    obtain ⟨W1, hW1⟩ : ∃ x, x = wc.alloc (.cells #[(.slice A3 n3 k3), (.slice A4 n4 k4), (.slice A5 n5 k5), (.slice A6 n6 k6)] 25) := ⟨_, rfl⟩
    rw [← hW1] at HB2 d9 hcells ⊢
    rw [hg] at hcells
    (try rw [hg])
    have HCells := Lib.hid hcells
    have HL4 := Lib.hid hL4
    clear hW1 hg hbq hcells hL4 HX HB0 HZ
    have hz1 := Below.refl W1.heap.size W1
    go_loopw [3, 46] (fun sv i wx => ∃ (j : Nat) (B : Bool), j ≤ 4 ∧ sv = .bool B ∧ i = .int .i64 j ∧ Hid (B = (B1 && fourOk L j)) ∧ Below W1.heap.size W1 wx) (fun _ i _ => 4 - (intOf i).toNat)
    case atStart => exact ⟨0, B1, by omega, rfl, rfl, Lib.hid (by unfold fourOk; simp), hz1⟩
    case round =>
      clear hz1
      obtain ⟨j, B, hj, rfl, rfl, hBe, hz⟩ := hrel
      by_cases hj4 : j < 4
      · obtain ⟨x, hx⟩ : ∃ x, L[j]? = some x := ⟨L[j]'(by have := HL4.out; omega), List.getElem?_eq_getElem _⟩
        have q0 := kept hz (HCells.out j x hx)
        obtain ⟨hT, hsm, hN⟩ := HFour.out j x hx
        have hB3 := step_below HB2.out hz
        have HX := Lib.hid (fourOk_succ hx)
        have hT1 := hT.below hB3
        have C1 := Lib.hid (refSingles_calls x.1 x.2 wr hT1 (block_of2 hT1) hN)
        have HSM := Lib.hid (singles_small hsm)
        clear hx hT hsm hT1
        cases B with
        | false =>
          have HK := Lib.hid (show false = (B1 && fourOk L (j + 1)) by rw [HX.out, ← Bool.and_assoc, ← hBe.out]; rfl)
          clear C1 HX hBe
          go_wp2_with fail
          go_roundw
          case rel => exact ⟨j + 1, false, by omega, rfl, by go_num, HK, hz⟩
          case measure => simp [intOf]; omega
        | true =>
          go_wp2_with fail
          refine C1.out.mono ?_
          rintro E w2 ⟨v', rfl, ha, hb⟩
          have hz2 := step_below hz hb
          have C2 := Lib.hid (refAsked_calls v' _ w2 (HE.out.below (step_below HB2.out hz2)) ha HSM.out singles_few)
          rw [flatP_eq] at C2
          clear C1 ha hb q0 hz
          go_wp2_with fail
          refine C2.out.mono ?_
          rintro E w3 ⟨rfl, hb⟩
          have hz3 := step_below hz2 hb
          have HK := Lib.hid (show VP.flatP (x.2.map Tv.tm) = (B1 && fourOk L (j + 1)) by rw [HX.out, ← Bool.and_assoc, ← hBe.out]; rfl)
          obtain ⟨bq, hbq⟩ : ∃ y, VP.flatP (x.2.map Tv.tm) = y := ⟨_, rfl⟩
          rw [hbq] at HK ⊢
          clear C2 hb hz2 HX hBe hbq
          go_wp2_with fail
          go_roundw
          case rel => exact ⟨j + 1, bq, by omega, rfl, by go_num, HK, hz3⟩
          case measure => simp [intOf]; omega
      · obtain rfl : j = 4 := by omega
        obtain ⟨A, c, hv6, hc, hm, hr⟩ := id h6
        injection hv6 with e1 e2 e3
        subst e1
        subst e2
        subst e3
        have e9 := kept hz d9
        have HB4 := Lib.hid (step_below HB2.out hz)
        obtain ⟨len, hlen⟩ : ∃ len, p.pr.length = len := ⟨_, rfl⟩
        have HL := Lib.hid hlen
        have HR := Lib.hid hr
        rw [hlen] at hc hm e9 F ⊢
        rw [← hBe.out] at F
        clear hlen hr h6 hz HB2 d9 HCells hBe
        obtain ⟨W4, hW4⟩ : ∃ x, x = wr := ⟨_, rfl⟩
        subst hW4
        have hz4 := Below.refl W4.heap.size W4
        go_wp2_with fail
        go_loopw [3, 60] (fun sv i wx => ∃ (k : Nat) (D : Bool), k ≤ len ∧ sv = .bool D ∧ i = .int .i64 k ∧ Hid (D = (B && provTo p.pr k)) ∧ Below W4.heap.size W4 wx) (fun _ i _ => len - (intOf i).toNat)
        case atStart => exact ⟨0, B, Nat.zero_le _, rfl, rfl, Lib.hid (by unfold provTo; simp), hz4⟩
        case round =>
          clear hz4
          obtain ⟨k, D, hk, rfl, rfl, hDe, hz⟩ := hrel
          by_cases hlt : k < len
          · have hne : p.pr ≠ [] := by
              intro e
              have := HL.out
              rw [e] at this
              simp at this
              omega
            obtain ⟨t, ht⟩ : ∃ t, p.pr[k]? = some t := ⟨p.pr[k]'(by have := HL.out; omega), List.getElem?_eq_getElem _⟩
            obtain ⟨b, off, rfl, hi⟩ := HR.out hne
            obtain ⟨t0, t1, t2, t3, t4⟩ := ((hi k t ht).1.below HB4.out).below hz
            have hz1 := step_below hz (below_alloc wr (.cells #[.string t.n, .int .i64 t.op, .int .i64 t.e, .string t.u, .string t.r] 99))
            have HP := Lib.hid (provTo_succ ht)
            have HPT := Lib.hid (show provT t = (decide (t.op = 0) || decide (t.op = 3)) from rfl)
            clear hi hne ht hz
            cases D with
            | false =>
              have HK := Lib.hid (show false = (B && provTo p.pr (k + 1)) by rw [HP.out, ← Bool.and_assoc, ← hDe.out]; rfl)
              clear hDe HP HPT
              go_wp2_with fail
              go_roundw
              case rel => exact ⟨k + 1, false, by omega, rfl, by go_num, HK, hz1⟩
              case measure => simp [intOf]; omega
            | true =>
              have HK := Lib.hid (show provT t = (B && provTo p.pr (k + 1)) by rw [HP.out, ← Bool.and_assoc, ← hDe.out]; rfl)
              clear hDe HP
              by_cases ho0 : t.op = 0
              · have hob : (t.op == 0) = true := beq_iff_eq.2 ho0
                rw [HPT.out, decide_eq_true ho0] at HK
                clear ho0 HPT
                go_wp2_with fail
                go_roundw
                case rel => exact ⟨k + 1, true, by omega, rfl, by go_num, HK, hz1⟩
                case measure => simp [intOf]; omega
              · have hob : (t.op == 0) = false := beq_eq_false_iff_ne.2 ho0
                by_cases ho3 : t.op = 3
                · have hob3 : (t.op == 3) = true := beq_iff_eq.2 ho3
                  rw [HPT.out, decide_eq_true ho3, Bool.or_true] at HK
                  clear ho0 ho3 HPT
                  go_wp2_with fail
                  go_roundw
                  case rel => exact ⟨k + 1, true, by omega, rfl, by go_num, HK, hz1⟩
                  case measure => simp [intOf]; omega
                · have hob3 : (t.op == 3) = false := beq_eq_false_iff_ne.2 ho3
                  rw [HPT.out, decide_eq_false ho0, decide_eq_false ho3] at HK
                  clear ho0 ho3 HPT
                  go_wp2_with fail
                  go_roundw
                  case rel => exact ⟨k + 1, false, by omega, rfl, by go_num, HK, hz1⟩
                  case measure => simp [intOf]; omega
          · obtain rfl : len = k := by omega
            have HG := Lib.hid (show saysOk p = D by rw [F.out, hDe.out])
            have hBB := step_below HB4.out hz
            clear hDe F hz
            go_wp2_with fail
            go_ret
            exact ⟨ret_bool HG.out.symm, hBB⟩
end Go.Proofs.YtodbbfgkclkpgaaGreatDoor

namespace Go.Proofs.YtodbbfgkclkpgaaGreatDoor
open Go.RowKit

set_option maxRecDepth 100000 in
theorem signOf_calls (k : Nat) (hk : k < 6) (w : World) : Calls Tryz.prog 123 #[.int .i64 (k : Int)] w fun E w' => E = .returned (.string (signS k)) ∧ w = w' := by
  have h : k = 0 ∨ k = 1 ∨ k = 2 ∨ k = 3 ∨ k = 4 ∨ k = 5 := by omega
  have xi : ∀ (k : Nat), k < 6 → ∀ W : World, (Instr.index 199 (.agg #[.string ⟨#[]⟩, .string ⟨#[60, 60]⟩, .string ⟨#[60, 61]⟩, .string ⟨#[61]⟩, .string ⟨#[62, 61]⟩, .string ⟨#[62, 62]⟩]) (.int .i64 (k : Int))).run Tryz.prog W = .ok (.string (signS k)) W := by
    intro k hk W
    have h : k = 0 ∨ k = 1 ∨ k = 2 ∨ k = 3 ∨ k = 4 ∨ k = 5 := by omega
    rcases h with rfl | rfl | rfl | rfl | rfl | rfl
    · exact (by kernel_rfl : (Instr.index 199 (.agg #[.string ⟨#[]⟩, .string ⟨#[60, 60]⟩, .string ⟨#[60, 61]⟩, .string ⟨#[61]⟩, .string ⟨#[62, 61]⟩, .string ⟨#[62, 62]⟩]) (.int .i64 0)).run Tryz.prog W = .ok (.string ⟨#[]⟩) W)
    · exact (by kernel_rfl : (Instr.index 199 (.agg #[.string ⟨#[]⟩, .string ⟨#[60, 60]⟩, .string ⟨#[60, 61]⟩, .string ⟨#[61]⟩, .string ⟨#[62, 61]⟩, .string ⟨#[62, 62]⟩]) (.int .i64 1)).run Tryz.prog W = .ok (.string ⟨#[60, 60]⟩) W)
    · exact (by kernel_rfl : (Instr.index 199 (.agg #[.string ⟨#[]⟩, .string ⟨#[60, 60]⟩, .string ⟨#[60, 61]⟩, .string ⟨#[61]⟩, .string ⟨#[62, 61]⟩, .string ⟨#[62, 62]⟩]) (.int .i64 2)).run Tryz.prog W = .ok (.string ⟨#[60, 61]⟩) W)
    · exact (by kernel_rfl : (Instr.index 199 (.agg #[.string ⟨#[]⟩, .string ⟨#[60, 60]⟩, .string ⟨#[60, 61]⟩, .string ⟨#[61]⟩, .string ⟨#[62, 61]⟩, .string ⟨#[62, 62]⟩]) (.int .i64 3)).run Tryz.prog W = .ok (.string ⟨#[61]⟩) W)
    · exact (by kernel_rfl : (Instr.index 199 (.agg #[.string ⟨#[]⟩, .string ⟨#[60, 60]⟩, .string ⟨#[60, 61]⟩, .string ⟨#[61]⟩, .string ⟨#[62, 61]⟩, .string ⟨#[62, 62]⟩]) (.int .i64 4)).run Tryz.prog W = .ok (.string ⟨#[62, 61]⟩) W)
    · exact (by kernel_rfl : (Instr.index 199 (.agg #[.string ⟨#[]⟩, .string ⟨#[60, 60]⟩, .string ⟨#[60, 61]⟩, .string ⟨#[61]⟩, .string ⟨#[62, 61]⟩, .string ⟨#[62, 62]⟩]) (.int .i64 5)).run Tryz.prog W = .ok (.string ⟨#[62, 62]⟩) W)
  have x1 := xi k hk
  clear xi h
  go_enter Tryz.func123, Tryz.ntmps123
  go_wp2_with fail
  go_ret
  exact ⟨rfl, rfl⟩

end Go.Proofs.YtodbbfgkclkpgaaGreatDoor

namespace Go.Proofs.YtodbbfgkclkpgaaGreatDoor
open Go.RowKit

end Go.Proofs.YtodbbfgkclkpgaaGreatDoor

namespace Go.Proofs.YtodbbfgkclkpgaaGreatDoor
open Go Go.RowKit

def itoaS (n : Int) : ByteArray := ⟨(Lib.itoa n).toArray⟩
theorem itoaS_calls (n : Int) (w : World) (hE : Env w) (h0 : -9223372036854775808 ≤ n) (h1 : n ≤ 9223372036854775807) : Calls Tryz.prog 79 #[.int .i64 n] w fun E w' => E = .returned (.string (itoaS n)) ∧ Below w.heap.size w w' :=
  (call_itoa n w hE h0 h1).mono fun E w' ⟨t, he, ht, _, hb⟩ => ⟨by rw [he]; unfold itoaS; rw [← ht, mk_data], hb⟩
/-- the texts that a file's line is put together from -/
structure Cats (n t v : ByteArray) : Prop where
  a1 : ∀ W : World, (Op.stringOp .add n (⟨#[32]⟩ : ByteArray)).run Tryz.prog W = .ok (.string (n ++ ⟨#[32]⟩)) W
  a2 : ∀ W : World, (Op.stringOp .add (n ++ ⟨#[32]⟩) t).run Tryz.prog W = .ok (.string ((n ++ ⟨#[32]⟩) ++ t)) W
  a3 : ∀ W : World, (Op.stringOp .add ((n ++ ⟨#[32]⟩) ++ t) (⟨#[10]⟩ : ByteArray)).run Tryz.prog W = .ok (.string (((n ++ ⟨#[32]⟩) ++ t) ++ ⟨#[10]⟩)) W
  a4 : ∀ W : World, (Op.stringOp .add (((n ++ ⟨#[32]⟩) ++ t) ++ ⟨#[10]⟩) v).run Tryz.prog W = .ok (.string ((((n ++ ⟨#[32]⟩) ++ t) ++ ⟨#[10]⟩) ++ v)) W
  a5 : ∀ W : World, (Op.stringOp .add ((((n ++ ⟨#[32]⟩) ++ t) ++ ⟨#[10]⟩) ++ v) (⟨#[10]⟩ : ByteArray)).run Tryz.prog W = .ok (.string (((((n ++ ⟨#[32]⟩) ++ t) ++ ⟨#[10]⟩) ++ v) ++ ⟨#[10]⟩)) W
theorem BldAt.lt {B b : Nat} {l : List UInt8} {W : World} (h : BldAt B b l W) : b < W.heap.size := h.elim (fun x => x.lt) (fun x => x.lt)
end Go.Proofs.YtodbbfgkclkpgaaGreatDoor

namespace Go.Proofs.YtodbbfgkclkpgaaGreatDoor
open Go Go.RowKit

/-- what the field of this name says, if there is one -/
def getB (fs : List Fv) (s : ByteArray) : Option ByteArray := (fs.find? fun f => sameN f.n s).map (·.v)
def GetIs (fs : List Fv) (s : ByteArray) (w : World) (E : Ending) (w' : World) : Prop := E = .returned (.tuple #[.string ((getB fs s).getD ⟨#[]⟩), .bool (getB fs s).isSome]) ∧ Below w.heap.size w w'
theorem getB_hit {fs : List Fv} {s : ByteArray} {k : Nat} {f : Fv} (hno : (fs.take k).any (fun g => sameN g.n s) = false) (h : fs[k]? = some f) (hy : sameN f.n s = true) : getB fs s = some f.v := by
  unfold getB
  have hlt := (List.getElem?_eq_some_iff.1 h).1
  have e : fs = fs.take k ++ f :: fs.drop (k + 1) := by
    have h2 := List.getElem?_eq_getElem hlt
    rw [h] at h2
    rw [Option.some.inj h2, ← List.drop_eq_getElem_cons hlt, List.take_append_drop]
  rw [e, List.find?_append, List.find?_eq_none.2 (fun x hx => by
    have := List.any_eq_false.1 hno x hx
    simpa using this)]
  simp [hy]
theorem getB_none {fs : List Fv} {s : ByteArray} (hno : fs.any (fun g => sameN g.n s) = false) : getB fs s = none := by
  unfold getB
  rw [List.find?_eq_none.2 (fun x hx => by
    have := List.any_eq_false.1 hno x hx
    simpa using this)]
  rfl
theorem getB_size {fs : List Fv} {s : ByteArray} {B : Nat} (h : ∀ f ∈ fs, f.v.size ≤ B) : ((getB fs s).getD ⟨#[]⟩).size ≤ B := by
  unfold getB
  cases hf : fs.find? fun f => sameN f.n s with
  | none => exact Nat.zero_le _
  | some f => exact h f (List.mem_of_find?_eq_some hf)
/-- a name, and it in small letters, are the same to Get -/
theorem getB_small {fs : List Fv} {s t : ByteArray} (h : VP.smallP s.data.toList = VP.smallP t.data.toList) : getB fs s = getB fs t := by
  unfold getB sameN
  rw [h]
set_option maxHeartbeats 2000000 in
set_option maxRecDepth 100000 in
theorem get_calls (v : Value) (fs : List Fv) (s : ByteArray) (w : World) (h : FieldsAt w v fs) (hs : ∀ f ∈ fs, f.n.size ≤ 1000000) (hz : s.size ≤ 1000000) : Calls Tryz.prog 95 #[v, .string s] w (GetIs fs s w) := by
  obtain ⟨A, c, hv, hc, hm, hr⟩ := h.open
  subst hv
  obtain ⟨len, hlen⟩ : ∃ len, fs.length = len := ⟨_, rfl⟩
  have HL := Lib.hid hlen
  have HR := Lib.hid hr
  have HS := Lib.hid hs
  have CN := Lib.hid (fun (W : World) => small_calls s W hz)
  obtain ⟨sn, hsn⟩ : ∃ x, smallB s = x := ⟨_, rfl⟩
  have HSN := Lib.hid hsn
  have CN' : Hid (∀ W : World, Calls Tryz.prog 132 #[.string s] W fun E w' => E = .returned (.string sn) ∧ Below W.heap.size W w') := by rw [← hsn]; exact CN
  rw [hlen] at hc hm ⊢
  clear hlen hr hs h hz CN hsn
  go_enter Tryz.func95, Tryz.ntmps95
  go_wp2_with fail
  go_loopw [10] (fun i wr => ∃ k : Nat, k ≤ len ∧ i = .int .i64 k ∧ Hid ((fs.take k).any (fun g => sameN g.n s) = false) ∧ Below w.heap.size w wr) (fun i _ => len - (intOf i).toNat)
  case atStart => exact ⟨0, Nat.zero_le _, rfl, Lib.hid rfl, Below.refl _ _⟩
  case round =>
    obtain ⟨k, hk, rfl, hno, hB⟩ := hrel
    by_cases hlt : k < len
    · have hne : fs ≠ [] := by
        intro e
        have := HL.out
        rw [e] at this
        simp at this
        omega
      obtain ⟨f, ht⟩ : ∃ f, fs[k]? = some f := ⟨fs[k]'(by have := HL.out; omega), List.getElem?_eq_getElem _⟩
      obtain ⟨b, off, rfl, hi⟩ := HR.out hne
      obtain ⟨c0, c1⟩ := hi k f ht
      replace c0 := kept hB c0
      replace c1 := kept hB c1
      have HT := Lib.hid ht
      have CF := Lib.hid (fun (W : World) => small_calls f.n W (HS.out f (List.mem_of_getElem? ht)))
      obtain ⟨sf, hsf⟩ : ∃ x, smallB f.n = x := ⟨_, rfl⟩
      have CF' : Hid (∀ W : World, Calls Tryz.prog 132 #[.string f.n] W fun E w' => E = .returned (.string sf) ∧ Below W.heap.size W w') := by rw [← hsf]; exact CF
      obtain ⟨bs, hbs⟩ : ∃ x, sameN f.n s = x := ⟨_, rfl⟩
      have HBS := Lib.hid hbs
      have heq : (sf.toList == sn.toList) = bs := by rw [← hsf, ← HSN.out, smallB_eq]; exact hbs
      have ha := below_alloc wr (.cells #[.string f.n, .string f.v] 69)
      have d1 : (wr.alloc (.cells #[.string f.n, .string f.v] 69)).cell? ⟨wr.heap.size, 1, none⟩ = some (.string f.v) := by go_cell
      have HBa := Lib.hid (step_below hB ha)
      clear hi hne ht CF hsf hbs ha hB
      go_wp2_with fail
      refine (CF'.out _).mono ?_
      rintro E w1 ⟨rfl, hb1⟩
      have e1 := kept hb1 d1
      have HB1 := Lib.hid (step_below HBa.out hb1)
      clear hb1 d1 CF' c0 c1 HBa
      obtain ⟨mf, hmf⟩ : ∃ mf, wr.heap.size = mf := ⟨_, rfl⟩
      rw [hmf] at e1
      (try rw [hmf])
      clear hmf
      go_wp2_with fail
      refine (CN'.out _).mono ?_
      rintro E w2 ⟨rfl, hb2⟩
      have e2 := kept hb2 e1
      have HB2 := Lib.hid (step_below HB1.out hb2)
      clear hb2 e1 HB1
      cases bs with
      | true =>
        have HG := Lib.hid (getB_hit hno.out HT.out HBS.out)
        go_wp2_with fail
        go_ret2
        exact ⟨by rw [HG.out]; rfl, HB2.out⟩
      | false =>
        go_wp2_with fail
        go_roundw
        case rel => exact ⟨k + 1, by omega, by go_num, Lib.hid (any_take_succ hno.out HT.out HBS.out), HB2.out⟩
        case measure => simp [intOf]; omega
    · obtain rfl : k = len := by omega
      have HG := Lib.hid (getB_none (any_done (by have := hno.out; rw [← HL.out] at this; exact this)))
      go_wp2_with fail
      go_ret2
      exact ⟨by rw [HG.out]; rfl, hB⟩

set_option maxHeartbeats 2000000 in
set_option maxRecDepth 100000 in
theorem refGet_calls (v : Value) (fs : List Fv) (s : ByteArray) (w : World) (h : FieldsAt w v fs) (hs : ∀ f ∈ fs, f.n.size ≤ 1000000) (hz : s.size ≤ 1000000) : Calls Tryz.prog 89 #[v, .string s] w (GetIs fs s w) := by
  obtain ⟨A, c, hv, hc, hm, hr⟩ := h.open
  subst hv
  obtain ⟨len, hlen⟩ : ∃ len, fs.length = len := ⟨_, rfl⟩
  have HL := Lib.hid hlen
  have HR := Lib.hid hr
  have HS := Lib.hid hs
  have CN := Lib.hid (fun (W : World) => refSmall_calls s W hz)
  obtain ⟨sn, hsn⟩ : ∃ x, smallB s = x := ⟨_, rfl⟩
  have HSN := Lib.hid hsn
  have CN' : Hid (∀ W : World, Calls Tryz.prog 125 #[.string s] W fun E w' => E = .returned (.string sn) ∧ Below W.heap.size W w') := by rw [← hsn]; exact CN
  rw [hlen] at hc hm ⊢
  clear hlen hr hs h hz CN hsn
  go_enter Tryz.func89, Tryz.ntmps89
  go_wp2_with fail
  go_loopw [10] (fun i wr => ∃ k : Nat, k ≤ len ∧ i = .int .i64 k ∧ Hid ((fs.take k).any (fun g => sameN g.n s) = false) ∧ Below w.heap.size w wr) (fun i _ => len - (intOf i).toNat)
  case atStart => exact ⟨0, Nat.zero_le _, rfl, Lib.hid rfl, Below.refl _ _⟩
  case round =>
    obtain ⟨k, hk, rfl, hno, hB⟩ := hrel
    by_cases hlt : k < len
    · have hne : fs ≠ [] := by
        intro e
        have := HL.out
        rw [e] at this
        simp at this
        omega
      obtain ⟨f, ht⟩ : ∃ f, fs[k]? = some f := ⟨fs[k]'(by have := HL.out; omega), List.getElem?_eq_getElem _⟩
      obtain ⟨b, off, rfl, hi⟩ := HR.out hne
      obtain ⟨c0, c1⟩ := hi k f ht
      replace c0 := kept hB c0
      replace c1 := kept hB c1
      have HT := Lib.hid ht
      have CF := Lib.hid (fun (W : World) => refSmall_calls f.n W (HS.out f (List.mem_of_getElem? ht)))
      obtain ⟨sf, hsf⟩ : ∃ x, smallB f.n = x := ⟨_, rfl⟩
      have CF' : Hid (∀ W : World, Calls Tryz.prog 125 #[.string f.n] W fun E w' => E = .returned (.string sf) ∧ Below W.heap.size W w') := by rw [← hsf]; exact CF
      obtain ⟨bs, hbs⟩ : ∃ x, sameN f.n s = x := ⟨_, rfl⟩
      have HBS := Lib.hid hbs
      have heq : (sf.toList == sn.toList) = bs := by rw [← hsf, ← HSN.out, smallB_eq]; exact hbs
      have ha := below_alloc wr (.cells #[.string f.n, .string f.v] 69)
      have d1 : (wr.alloc (.cells #[.string f.n, .string f.v] 69)).cell? ⟨wr.heap.size, 1, none⟩ = some (.string f.v) := by go_cell
      have HBa := Lib.hid (step_below hB ha)
      clear hi hne ht CF hsf hbs ha hB
      go_wp2_with fail
      refine (CF'.out _).mono ?_
      rintro E w1 ⟨rfl, hb1⟩
      have e1 := kept hb1 d1
      have HB1 := Lib.hid (step_below HBa.out hb1)
      clear hb1 d1 CF' c0 c1 HBa
      obtain ⟨mf, hmf⟩ : ∃ mf, wr.heap.size = mf := ⟨_, rfl⟩
      rw [hmf] at e1
      (try rw [hmf])
      clear hmf
      go_wp2_with fail
      refine (CN'.out _).mono ?_
      rintro E w2 ⟨rfl, hb2⟩
      have e2 := kept hb2 e1
      have HB2 := Lib.hid (step_below HB1.out hb2)
      clear hb2 e1 HB1
      cases bs with
      | true =>
        have HG := Lib.hid (getB_hit hno.out HT.out HBS.out)
        go_wp2_with fail
        go_ret2
        exact ⟨by rw [HG.out]; rfl, HB2.out⟩
      | false =>
        go_wp2_with fail
        go_roundw
        case rel => exact ⟨k + 1, by omega, by go_num, Lib.hid (any_take_succ hno.out HT.out HBS.out), HB2.out⟩
        case measure => simp [intOf]; omega
    · obtain rfl : k = len := by omega
      have HG := Lib.hid (getB_none (any_done (by have := hno.out; rw [← HL.out] at this; exact this)))
      go_wp2_with fail
      go_ret2
      exact ⟨by rw [HG.out]; rfl, hB⟩
end Go.Proofs.YtodbbfgkclkpgaaGreatDoor

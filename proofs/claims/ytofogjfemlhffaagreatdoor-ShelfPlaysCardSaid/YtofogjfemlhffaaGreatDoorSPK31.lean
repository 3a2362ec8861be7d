/- The reference's Says: may a package be. · The reference's Archive: may a package be, with its files. -/
import Derived.Test.YtofogjfemlhffaaGreatDoorSPK13
import Derived.Test.YtofogjfemlhffaaGreatDoorSPK30
import Derived.Deep.DeepCutAuto
import Derived.Test.YtofogjfemlhffaaGreatDoorSPK25
namespace Go.Proofs.YtofogjfemlhffaaGreatDoor
open Go Go.RowKit

theorem block_of2 {ts : List Tv} {w : World} {v : Value} (h : TermsAt w v ts) : ∀ a n c, v = .slice (some a) n c → ts ≠ [] → a.block < w.heap.size := by
  intro a n c hv hne
  obtain ⟨A, c', hv', _, _, hr⟩ := h
  obtain ⟨b, off, rfl, hi⟩ := hr hne
  rw [hv] at hv'
  injection hv' with h1 _ _
  injection h1 with h1
  subst h1
  cases ts with
  | nil => exact absurd rfl hne
  | cons t r => exact cell_lt (hi 0 t rfl).1.c0

theorem is_slice {w : World} {v : Value} {ts : List Tv} (h : TermsAt w v ts) : ∃ A n c, v = .slice A n c := by
  obtain ⟨A, c, hv, _⟩ := h
  exact ⟨A, _, c, hv⟩

/-- the packages that stand each by itself, in the reference's order -/
def fourOf (p : Pv) (v3 v4 v5 v6 : Value) : List (Value × List Tv) := [(v3, p.ag), (v4, p.br), (v5, p.re), (v6, p.pr)]
def fourOk (L : List (Value × List Tv)) (j : Nat) : Bool := (L.take j).all fun x => VP.flatP (x.2.map Tv.tm)
theorem fourOk_succ {L : List (Value × List Tv)} {j : Nat} {x : Value × List Tv} (h : L[j]? = some x) : fourOk L (j + 1) = (fourOk L j && VP.flatP (x.2.map Tv.tm)) := by
  unfold fourOk
  rw [List.take_add_one, h, List.all_append]
  simp
def provTo (ts : List Tv) (k : Nat) : Bool := (ts.take k).all provT
theorem provTo_succ {ts : List Tv} {k : Nat} {t : Tv} (h : ts[k]? = some t) : provTo ts (k + 1) = (provTo ts k && provT t) := by
  unfold provTo
  rw [List.take_add_one, h, List.all_append]
  simp
theorem says_ref (p : Pv) (v3 v4 v5 v6 : Value) : saysOk p = ((VP.nameP p.n.data.toList && (VP.rightP p.e p.u.data.toList p.r.data.toList && (VP.askedP (tmL p.dep) && (VP.askedP (tmL p.ahead) && (pathsB p.se && pathsB p.li))))) && fourOk (fourOf p v3 v4 v5 v6) 4 && provTo p.pr p.pr.length) := by
  rw [says_prog]
  unfold fourOk fourOf provTo
  rw [List.take_length]
  simp only [List.take_succ_cons, List.take_zero, List.all_cons, List.all_nil, Bool.and_true]
  cases p.pr.all provT <;> cases VP.nameP p.n.data.toList <;> cases VP.rightP p.e p.u.data.toList p.r.data.toList <;> cases VP.askedP (tmL p.dep) <;> cases VP.askedP (tmL p.ahead) <;> cases pathsB p.se <;> cases pathsB p.li <;> simp

set_option maxHeartbeats 6000000 in
set_option maxRecDepth 100000 in
theorem refSays_calls (v : Value) (p : Pv) (w : World) (hE : Env w) (h : PackAt w v p) (hf : p.Fit) : Calls Tryz.prog 68 #[v] w (BoolIs (saysOk p) w) := by
  obtain ⟨v1, v2, v3, v4, v5, v6, v7, v8, v9, rfl, h1, h2, h3, h4, h5, h6, h7, h8, _, hlo, hhi⟩ := h
  obtain ⟨A3, n3, k3, rfl⟩ := is_slice h3
  obtain ⟨A4, n4, k4, rfl⟩ := is_slice h4
  obtain ⟨A5, n5, k5, rfl⟩ := is_slice h5
  obtain ⟨A6, n6, k6, rfl⟩ := is_slice h6
  have HE := Lib.hid hE
  have HF := Lib.hid hf
  have CName := Lib.hid (fun (W : World) (hb : Below w.heap.size w W) => (show Calls Tryz.prog 90 #[.string p.n] W (BoolIs (VP.nameP p.n.data.toList) W) from (packName_calls p.n W HF.out.n).mono fun E W' h => ⟨h.1, by rw [← h.2]; exact Below.refl _ _⟩))
  have CVer := Lib.hid (fun (W : World) (hb : Below w.heap.size w W) => (show Calls Tryz.prog 91 #[.agg #[.int .i64 p.e, .string p.u, .string p.r]] W (BoolIs (VP.rightP p.e p.u.data.toList p.r.data.toList) W) from refRight_calls p.e p.u p.r W (HE.out.below hb) hlo hhi (by have := HF.out.u; omega) (by have := HF.out.r; omega)))
  have CDep := Lib.hid (fun (W : World) (hb : Below w.heap.size w W) => refAsked_calls v1 p.dep W (HE.out.below hb) (h1.below hb) HF.out.dep HF.out.depN)
  have CAhe := Lib.hid (fun (W : World) (hb : Below w.heap.size w W) => refAsked_calls v2 p.ahead W (HE.out.below hb) (h2.below hb) HF.out.ahead HF.out.aheadN)
  have CSe := Lib.hid (fun (W : World) (hb : Below w.heap.size w W) => refPaths_calls v7 p.se W (h7.below hb) HF.out.se)
  have CLi := Lib.hid (fun (W : World) (hb : Below w.heap.size w W) => refPaths_calls v8 p.li W (h8.below hb) HF.out.li)
  have F := Lib.hid (says_ref p (.slice A3 n3 k3) (.slice A4 n4 k4) (.slice A5 n5 k5) (.slice A6 n6 k6))
  have HFour := Lib.hid (show ∀ (j : Nat) (x : Value × List Tv), (fourOf p (.slice A3 n3 k3) (.slice A4 n4 k4) (.slice A5 n5 k5) (.slice A6 n6 k6))[j]? = some x → TermsAt w x.1 x.2 ∧ (∀ t ∈ x.2, t.small) ∧ x.2.length ≤ 1000 from fun j x hx => by
    match j, hx with
    | 0, hx => rw [← Option.some.inj hx]; exact ⟨h3, hf.ag, hf.agN⟩
    | 1, hx => rw [← Option.some.inj hx]; exact ⟨h4, hf.br, hf.brN⟩
    | 2, hx => rw [← Option.some.inj hx]; exact ⟨h5, hf.re, hf.reN⟩
    | 3, hx => rw [← Option.some.inj hx]; exact ⟨h6, hf.pr, hf.prN⟩)
  obtain ⟨b0, hb0⟩ : ∃ x, VP.nameP p.n.data.toList = x := ⟨_, rfl⟩
  obtain ⟨b1, hb1⟩ : ∃ x, VP.rightP p.e p.u.data.toList p.r.data.toList = x := ⟨_, rfl⟩
  obtain ⟨b2, hb2⟩ : ∃ x, VP.askedP (tmL p.dep) = x := ⟨_, rfl⟩
  obtain ⟨b3, hb3⟩ : ∃ x, VP.askedP (tmL p.ahead) = x := ⟨_, rfl⟩
  obtain ⟨b4, hb4⟩ : ∃ x, pathsB p.se = x := ⟨_, rfl⟩
  obtain ⟨b5, hb5⟩ : ∃ x, pathsB p.li = x := ⟨_, rfl⟩
  rw [hb0] at CName F
  rw [hb1] at CVer F
  rw [hb2] at CDep F
  rw [hb3] at CAhe F
  rw [hb4] at CSe F
  rw [hb5] at CLi F
  clear hb0 hb1 hb2 hb3 hb4 hb5 h1 h2 h3 h4 h5 h7 h8 hE hf hlo hhi
  have X0 := packBox_new w p v1 v2 (.slice A3 n3 k3) (.slice A4 n4 k4) (.slice A5 n5 k5) (.slice A6 n6 k6) v7 v8 v9 43
  have hB0 := below_alloc w (.cells #[.string p.n, .int .i64 p.e, .string p.u, .string p.r, v1, v2, (.slice A3 n3 k3), (.slice A4 n4 k4), (.slice A5 n5 k5), (.slice A6 n6 k6), v7, v8, v9] 43)
  obtain ⟨c0, c1, c2, c3, c4, c5, c6, c7, c8, c9, c10, c11, c12⟩ := id X0
  have HX := Lib.hid X0
  go_enter Tryz.func68, Tryz.ntmps68
  go_upto_region 1 with fail
  obtain ⟨m, hmm⟩ : ∃ m, w.heap.size = m := ⟨_, rfl⟩
  obtain ⟨W0, hW0⟩ : ∃ x, x = w.alloc (.cells #[.string p.n, .int .i64 p.e, .string p.u, .string p.r, v1, v2, (.slice A3 n3 k3), (.slice A4 n4 k4), (.slice A5 n5 k5), (.slice A6 n6 k6), v7, v8, v9] 43) := ⟨_, rfl⟩
  rw [← hW0] at HX hB0 c0 c1 c2 c3 c4 c5 c6 c7 c8 c9 c10 c11 c12 ⊢
  rw [hmm] at HX c0 c1 c2 c3 c4 c5 c6 c7 c8 c9 c10 c11 c12
  (try rw [hmm])
  have HB0 := Lib.hid hB0
  clear hW0 hmm
  have hz0 := Below.refl W0.heap.size W0
  clear X0
  go_cut [3] (fun s wx => s = .bool (b0 && (b1 && (b2 && (b3 && (b4 && b5))))) ∧ Below W0.heap.size W0 wx)
  case first =>
    have hB := HB0.out
    have hz := hz0
    clear hB0 HX HFour F
    have D0 := Lib.hid (CName.out _ hB)
    clear CName
    go_wp2_with fail
    refine D0.out.mono ?_
    rintro E y0 ⟨rfl, hb⟩
    have hB0 := step_below hB hb
    have hz10 := step_below hz hb
    clear hB hz
    have hB := hB0
    have hz := hz10
    clear hB0 hz10
    replace c1 := kept hb c1
    replace c2 := kept hb c2
    replace c3 := kept hb c3
    replace c4 := kept hb c4
    replace c5 := kept hb c5
    replace c10 := kept hb c10
    replace c11 := kept hb c11
    clear hb D0 c0 c6 c7 c8 c9 c12
    cases b0 with
    | false =>
      go_wp2_with fail
      go_meet
      exact ⟨rfl, hz⟩
    | true =>
    have D1 := Lib.hid (CVer.out _ hB)
    clear CVer
    go_wp2_with fail
    refine D1.out.mono ?_
    rintro E y1 ⟨rfl, hb⟩
    have hB1 := step_below hB hb
    have hz11 := step_below hz hb
    clear hB hz
    have hB := hB1
    have hz := hz11
    clear hB1 hz11
    replace c4 := kept hb c4
    replace c5 := kept hb c5
    replace c10 := kept hb c10
    replace c11 := kept hb c11
    clear hb D1 c1 c2 c3
    cases b1 with
    | false =>
      go_wp2_with fail
      go_meet
      exact ⟨rfl, hz⟩
    | true =>
    have D2 := Lib.hid (CDep.out _ hB)
    clear CDep
    go_wp2_with fail
    refine D2.out.mono ?_
    rintro E y2 ⟨rfl, hb⟩
    have hB2 := step_below hB hb
    have hz12 := step_below hz hb
    clear hB hz
    have hB := hB2
    have hz := hz12
    clear hB2 hz12
    replace c5 := kept hb c5
    replace c10 := kept hb c10
    replace c11 := kept hb c11
    clear hb D2 c4
    cases b2 with
    | false =>
      go_wp2_with fail
      go_meet
      exact ⟨rfl, hz⟩
    | true =>
    have D3 := Lib.hid (CAhe.out _ hB)
    clear CAhe
    go_wp2_with fail
    refine D3.out.mono ?_
    rintro E y3 ⟨rfl, hb⟩
    have hB3 := step_below hB hb
    have hz13 := step_below hz hb
    clear hB hz
    have hB := hB3
    have hz := hz13
    clear hB3 hz13
    replace c10 := kept hb c10
    replace c11 := kept hb c11
    clear hb D3 c5
    cases b3 with
    | false =>
      go_wp2_with fail
      go_meet
      exact ⟨rfl, hz⟩
    | true =>
    have D4 := Lib.hid (CSe.out _ hB)
    clear CSe
    go_wp2_with fail
    refine D4.out.mono ?_
    rintro E y4 ⟨rfl, hb⟩
    have hB4 := step_below hB hb
    have hz14 := step_below hz hb
    clear hB hz
    have hB := hB4
    have hz := hz14
    clear hB4 hz14
    replace c11 := kept hb c11
    clear hb D4 c10
    cases b4 with
    | false =>
      go_wp2_with fail
      go_meet
      exact ⟨rfl, hz⟩
    | true =>
    have D5 := Lib.hid (CLi.out _ hB)
    clear CLi
    go_wp2_with fail
    refine D5.out.mono ?_
    rintro E y5 ⟨rfl, hb⟩
    have hB5 := step_below hB hb
    have hz15 := step_below hz hb
    clear hB hz
    have hB := hB5
    have hz := hz15
    clear hB5 hz15
    clear hb D5 c11
    cases b5 with
    | false =>
      go_wp2_with fail
      go_meet
      exact ⟨rfl, hz⟩
    | true =>
    go_wp2_with fail
    go_meet
    exact ⟨rfl, hz⟩
  case rest =>
    obtain ⟨rfl, hz⟩ := hcut
    clear CName CVer CDep CAhe CSe CLi hz0 hB0 c0 c1 c2 c3 c4 c5 c6 c7 c8 c9 c10 c11 c12
    obtain ⟨B1, hB1⟩ : ∃ B, (b0 && (b1 && (b2 && (b3 && (b4 && b5))))) = B := ⟨_, rfl⟩
    rw [hB1] at F ⊢
    clear hB1
    have X1 := HX.out.below hz
    obtain ⟨c0, c1, c2, c3, c4, c5, c6, c7, c8, c9, c10, c11, c12⟩ := id X1
    have HZ := Lib.hid hz
    clear hz c0 c1 c2 c3 c4 c5 c10 c11 c12 X1
    obtain ⟨L, hL⟩ : ∃ L, fourOf p (.slice A3 n3 k3) (.slice A4 n4 k4) (.slice A5 n5 k5) (.slice A6 n6 k6) = L := ⟨_, rfl⟩
    have hbq := below_alloc wc (.cells #[(.slice A3 n3 k3), (.slice A4 n4 k4), (.slice A5 n5 k5), (.slice A6 n6 k6)] 39)
    have hcells : ∀ (j : Nat) (x : Value × List Tv), L[j]? = some x → (wc.alloc (.cells #[(.slice A3 n3 k3), (.slice A4 n4 k4), (.slice A5 n5 k5), (.slice A6 n6 k6)] 39)).cell? ⟨wc.heap.size, j, none⟩ = some x.1 := fun j x hx => by
      rw [← hL] at hx
      match j, hx with
      | 0, hx => rw [← Option.some.inj hx]; go_cell
      | 1, hx => rw [← Option.some.inj hx]; go_cell
      | 2, hx => rw [← Option.some.inj hx]; go_cell
      | 3, hx => rw [← Option.some.inj hx]; go_cell
    have hL4 : L.length = 4 := by rw [← hL]; rfl
    rw [hL] at F HFour
    have d9 := kept hbq c9
    have HB2 := Lib.hid (step_below (step_below HB0.out HZ.out) hbq)
    clear hL
    go_wp2_with fail
    clear c6 c7 c8 c9
    obtain ⟨g, hg⟩ : ∃ g, wc.heap.size = g := ⟨_, rfl⟩
    obtain ⟨W1, hW1⟩ : ∃ x, x = wc.alloc (.cells #[(.slice A3 n3 k3), (.slice A4 n4 k4), (.slice A5 n5 k5), (.slice A6 n6 k6)] 39) := ⟨_, rfl⟩
    rw [← hW1] at HB2 d9 hcells ⊢
    rw [hg] at hcells
    (try rw [hg])
    have HCells := Lib.hid hcells
    have HL4 := Lib.hid hL4
    clear hW1 hg hbq hcells hL4 HX HB0 HZ
    have hz1 := Below.refl W1.heap.size W1
    go_loopw [3, 46] (fun sv i wx => ∃ (j : Nat) (B : Bool), j ≤ 4 ∧ sv = .bool B ∧ i = .int .i64 j ∧ Hid (B = (B1 && fourOk L j)) ∧ Below W1.heap.size W1 wx) (fun _ i _ => 4 - (intOf i).toNat)
    case atStart => exact ⟨0, B1, by omega, rfl, rfl, Lib.hid (by unfold fourOk; simp), hz1⟩
    case round =>
      clear hz1
      obtain ⟨j, B, hj, rfl, rfl, hBe, hz⟩ := hrel
      by_cases hj4 : j < 4
      · obtain ⟨x, hx⟩ : ∃ x, L[j]? = some x := ⟨L[j]'(by have := HL4.out; omega), List.getElem?_eq_getElem _⟩
        have q0 := kept hz (HCells.out j x hx)
        obtain ⟨hT, hsm, hN⟩ := HFour.out j x hx
        have hB3 := step_below HB2.out hz
        have HX := Lib.hid (fourOk_succ hx)
        have hT1 := hT.below hB3
        have C1 := Lib.hid (refSingles_calls x.1 x.2 wr hT1 (block_of2 hT1) hN)
        have HSM := Lib.hid (singles_small hsm)
        clear hx hT hsm hT1
        cases B with
        | false =>
          have HK := Lib.hid (show false = (B1 && fourOk L (j + 1)) by rw [HX.out, ← Bool.and_assoc, ← hBe.out]; rfl)
          clear C1 HX hBe
          go_wp2_with fail
          go_roundw
          case rel => exact ⟨j + 1, false, by omega, rfl, by go_num, HK, hz⟩
          case measure => simp [intOf]; omega
        | true =>
          go_wp2_with fail
          refine C1.out.mono ?_
          rintro E w2 ⟨v', rfl, ha, hb⟩
          have hz2 := step_below hz hb
          have C2 := Lib.hid (refAsked_calls v' _ w2 (HE.out.below (step_below HB2.out hz2)) ha HSM.out singles_few)
          rw [flatP_eq] at C2
          clear C1 ha hb q0 hz
          go_wp2_with fail
          refine C2.out.mono ?_
          rintro E w3 ⟨rfl, hb⟩
          have hz3 := step_below hz2 hb
          have HK := Lib.hid (show VP.flatP (x.2.map Tv.tm) = (B1 && fourOk L (j + 1)) by rw [HX.out, ← Bool.and_assoc, ← hBe.out]; rfl)
          obtain ⟨bq, hbq⟩ : ∃ y, VP.flatP (x.2.map Tv.tm) = y := ⟨_, rfl⟩
          rw [hbq] at HK ⊢
          clear C2 hb hz2 HX hBe hbq
          go_wp2_with fail
          go_roundw
          case rel => exact ⟨j + 1, bq, by omega, rfl, by go_num, HK, hz3⟩
          case measure => simp [intOf]; omega
      · obtain rfl : j = 4 := by omega
        obtain ⟨A, c, hv6, hc, hm, hr⟩ := id h6
        injection hv6 with e1 e2 e3
        subst e1
        subst e2
        subst e3
        have e9 := kept hz d9
        have HB4 := Lib.hid (step_below HB2.out hz)
        obtain ⟨len, hlen⟩ : ∃ len, p.pr.length = len := ⟨_, rfl⟩
        have HL := Lib.hid hlen
        have HR := Lib.hid hr
        rw [hlen] at hc hm e9 F ⊢
        rw [← hBe.out] at F
        clear hlen hr h6 hz HB2 d9 HCells hBe
        obtain ⟨W4, hW4⟩ : ∃ x, x = wr := ⟨_, rfl⟩
        subst hW4
        have hz4 := Below.refl W4.heap.size W4
        go_wp2_with fail
        go_loopw [3, 60] (fun sv i wx => ∃ (k : Nat) (D : Bool), k ≤ len ∧ sv = .bool D ∧ i = .int .i64 k ∧ Hid (D = (B && provTo p.pr k)) ∧ Below W4.heap.size W4 wx) (fun _ i _ => len - (intOf i).toNat)
        case atStart => exact ⟨0, B, Nat.zero_le _, rfl, rfl, Lib.hid (by unfold provTo; simp), hz4⟩
        case round =>
          clear hz4
          obtain ⟨k, D, hk, rfl, rfl, hDe, hz⟩ := hrel
          by_cases hlt : k < len
          · have hne : p.pr ≠ [] := by
              intro e
              have := HL.out
              rw [e] at this
              simp at this
              omega
            obtain ⟨t, ht⟩ : ∃ t, p.pr[k]? = some t := ⟨p.pr[k]'(by have := HL.out; omega), List.getElem?_eq_getElem _⟩
            obtain ⟨b, off, rfl, hi⟩ := HR.out hne
            obtain ⟨t0, t1, t2, t3, t4⟩ := ((hi k t ht).1.below HB4.out).below hz
            have hz1 := step_below hz (below_alloc wr (.cells #[.string t.n, .int .i64 t.op, .int .i64 t.e, .string t.u, .string t.r] 96))
            have HP := Lib.hid (provTo_succ ht)
            have HPT := Lib.hid (show provT t = (decide (t.op = 0) || decide (t.op = 3)) from rfl)
            clear hi hne ht hz
            cases D with
            | false =>
              have HK := Lib.hid (show false = (B && provTo p.pr (k + 1)) by rw [HP.out, ← Bool.and_assoc, ← hDe.out]; rfl)
              clear hDe HP HPT
              go_wp2_with fail
              go_roundw
              case rel => exact ⟨k + 1, false, by omega, rfl, by go_num, HK, hz1⟩
              case measure => simp [intOf]; omega
            | true =>
              have HK := Lib.hid (show provT t = (B && provTo p.pr (k + 1)) by rw [HP.out, ← Bool.and_assoc, ← hDe.out]; rfl)
              clear hDe HP
              by_cases ho0 : t.op = 0
              · have hob : (t.op == 0) = true := beq_iff_eq.2 ho0
                rw [HPT.out, decide_eq_true ho0] at HK
                clear ho0 HPT
                go_wp2_with fail
                go_roundw
                case rel => exact ⟨k + 1, true, by omega, rfl, by go_num, HK, hz1⟩
                case measure => simp [intOf]; omega
              · have hob : (t.op == 0) = false := beq_eq_false_iff_ne.2 ho0
                by_cases ho3 : t.op = 3
                · have hob3 : (t.op == 3) = true := beq_iff_eq.2 ho3
                  rw [HPT.out, decide_eq_true ho3, Bool.or_true] at HK
                  clear ho0 ho3 HPT
                  go_wp2_with fail
                  go_roundw
                  case rel => exact ⟨k + 1, true, by omega, rfl, by go_num, HK, hz1⟩
                  case measure => simp [intOf]; omega
                · have hob3 : (t.op == 3) = false := beq_eq_false_iff_ne.2 ho3
                  rw [HPT.out, decide_eq_false ho0, decide_eq_false ho3] at HK
                  clear ho0 ho3 HPT
                  go_wp2_with fail
                  go_roundw
                  case rel => exact ⟨k + 1, false, by omega, rfl, by go_num, HK, hz1⟩
                  case measure => simp [intOf]; omega
          · obtain rfl : len = k := by omega
            have HG := Lib.hid (show saysOk p = D by rw [F.out, hDe.out])
            have hBB := step_below HB4.out hz
            clear hDe F hz
            go_wp2_with fail
            go_ret
            exact ⟨ret_bool HG.out.symm, hBB⟩
end Go.Proofs.YtofogjfemlhffaaGreatDoor

namespace Go.Proofs.YtofogjfemlhffaaGreatDoor
open Go Go.RowKit


set_option maxHeartbeats 4000000 in
set_option maxRecDepth 100000 in
theorem refArc_calls (v : Value) (p : Pv) (w : World) (hE : Env w) (h : PackAt w v p) (hf : p.Fit) (hz : ∀ f ∈ p.fi, f.n.size ≤ 1000000) : Calls Tryz.prog 38 #[v] w (BoolIs (archB p) w) := by
  obtain ⟨v1, v2, v3, v4, v5, v6, v7, v8, v9, rfl, h1, h2, h3, h4, h5, h6, h7, h8, h9, hlo, hhi⟩ := id h
  obtain ⟨len, hlen⟩ : ∃ len, p.fi.length = len := ⟨_, rfl⟩
  obtain ⟨A9, k9, rfl, hc9, hm9, hr9⟩ := h9.open
  obtain ⟨A7, n7, k7, rfl⟩ := sl_slice h7
  rw [hlen] at hc9 hm9 h h9 ⊢
  have hB0 := below_alloc w (.cells #[.string p.n, .int .i64 p.e, .string p.u, .string p.r, v1, v2, v3, v4, v5, v6, .slice A7 n7 k7, v8, .slice A9 len k9] 43)
  have CR := Lib.hid (refSays_calls _ p _ (hE.below hB0) (h.below hB0) hf)
  obtain ⟨bs, hbs⟩ : ∃ y, saysOk p = y := ⟨_, rfl⟩
  have HBS := Lib.hid hbs
  rw [hbs] at CR
  have X0 := packBox_new w p v1 v2 v3 v4 v5 v6 (.slice A7 n7 k7) v8 (.slice A9 len k9) 43
  obtain ⟨c0, c1, c2, c3, c4, c5, c6, c7, c8, c9, c10, c11, c12⟩ := id X0
  have HL := Lib.hid hlen
  have HR := Lib.hid hr9
  have HEE := Lib.hid hE
  have HZ := Lib.hid hz
  have H7 := Lib.hid h7
  have H9 := Lib.hid h9
  clear h1 h2 h3 h4 h5 h6 h7 h8 h9 h hf hE hz hbs hlen hr9
  go_enter Tryz.func38, Tryz.ntmps38
  go_wp2_with fail
  refine CR.out.mono ?_
  rintro E w1 ⟨rfl, hb⟩
  have X1 := X0.below hb
  have HB1 := Lib.hid (step_below hB0 hb)
  clear c0 c1 c2 c3 c4 c5 c6 c7 c8 c9 c10 c11 c12 X0 CR hb hB0
  obtain ⟨m, hm⟩ : ∃ m, w.heap.size = m := ⟨_, rfl⟩
  rw [hm] at X1
  have HX1 := Lib.hid X1
  have c12 := X1.c12
  cases bs with
  | false =>
    go_wp2_with fail
    go_ret
    exact ⟨ret_bool (by rw [arch_says HBS.out]), HB1.out⟩
  | true =>
  by_cases hmany : len ≤ 20
  case neg =>
    go_wp2_with fail
    go_ret
    exact ⟨ret_bool (by rw [arch_many (by rw [HL.out]; exact hmany)]), HB1.out⟩
  case pos =>
  clear X1
  go_upto_region 3 with fail
  (try rw [hm])
  clear hm
  go_wp2_with fail
  go_loopw [24] (fun i wr => ∃ k : Nat, k ≤ len ∧ i = .int .i64 k ∧ Hid (FilesTo p.fi k) ∧ Below w1.heap.size w1 wr) (fun i _ => len - (intOf i).toNat)
  case atStart => exact ⟨0, Nat.zero_le _, rfl, Lib.hid (FilesTo.zero _), Below.refl _ _⟩
  case round =>
    clear c12
    obtain ⟨k, hk, rfl, hall, hB⟩ := hrel
    by_cases hlt : k < len
    · have hne : p.fi ≠ [] := by
        intro e
        have := HL.out
        rw [e] at this
        simp at this
        omega
      obtain ⟨f, ht⟩ : ∃ f, p.fi[k]? = some f := ⟨p.fi[k]'(by have := HL.out; omega), List.getElem?_eq_getElem _⟩
      obtain ⟨b, off, rfl, hi⟩ := HR.out hne
      obtain ⟨c0, c1⟩ := hi k f ht
      have hBw := step_below HB1.out hB
      replace c0 := kept hBw c0
      replace c1 := kept hBw c1
      have HT := Lib.hid ht
      have HI := Lib.hid hi
      have ha := below_alloc wr (.cells #[.string f.n, .string f.v] 72)
      have d0 : (wr.alloc (.cells #[.string f.n, .string f.v] 72)).cell? ⟨wr.heap.size, 0, none⟩ = some (.string f.n) := by go_cell
      have CP := Lib.hid (refPath_calls f.n (wr.alloc (.cells #[.string f.n, .string f.v] 72)) (HZ.out f (List.mem_of_getElem? ht)))
      have HBa := Lib.hid (step_below hB ha)
      have c12 := kept (step_below hB ha) HX1.out.c12
      obtain ⟨bp, hbp⟩ : ∃ y, VP.pathP f.n.data.toList = y := ⟨_, rfl⟩
      have HP := Lib.hid hbp
      rw [hbp] at CP
      clear hne hi hBw ha hbp hB
      go_wp2_with fail
      refine CP.out.mono ?_
      rintro E w3 ⟨rfl, hb⟩
      have e0 := kept hb d0
      have c12' := kept hb c12
      have HB3 := Lib.hid (step_below HBa.out hb)
      clear hb d0 c12 CP c0 c1 HBa
      cases bp with
      | false =>
        go_wp2_with fail
        go_ret
        exact ⟨ret_bool (by rw [arch_files (files_bad (by rw [HL.out]; exact hlt) (fileAt_path HT.out HP.out))]), step_below HB1.out HB3.out⟩
      | true =>
      obtain ⟨mf, hmf⟩ : ∃ mf, wr.heap.size = mf := ⟨_, rfl⟩
      rw [hmf] at e0
      (try rw [hmf])
      clear hmf
      go_wp2_with fail
      clear c12'
      have hz3 := Below.refl w3.heap.size w3
      go_loopw [36] (fun i wx => ∃ q : Nat, q ≤ len ∧ i = .int .i64 q ∧ Hid (PairsTo p.fi f k q) ∧ Below w3.heap.size w3 wx) (fun i _ => len - (intOf i).toNat)
      case atStart => exact ⟨0, Nat.zero_le _, rfl, Lib.hid (PairsTo.zero _ _ _), hz3⟩
      case round =>
        clear hz3
        obtain ⟨q, hq, rfl, hpr, hz⟩ := hrel
        by_cases hqt : q < len
        · obtain ⟨g, hg⟩ : ∃ g, p.fi[q]? = some g := ⟨p.fi[q]'(by have := HL.out; omega), List.getElem?_eq_getElem _⟩
          obtain ⟨j0, j1⟩ := HI.out q g hg
          have hBw := step_below HB1.out (step_below HB3.out hz)
          replace j0 := kept hBw j0
          replace j1 := kept hBw j1
          have hag := below_alloc wr (.cells #[.string g.n, .string g.v] 72)
          have e1 := kept (step_below hz hag) e0
          have i0 : (wr.alloc (.cells #[.string g.n, .string g.v] 72)).cell? ⟨wr.heap.size, 0, none⟩ = some (.string g.n) := by go_cell
          have HZG := Lib.hid (step_below hz hag)
          have HG := Lib.hid hg
          clear hBw hag hg hz
          by_cases hqk : q = k
          · subst hqk
            have HK := Lib.hid (hpr.out.succ HG.out (show pairOk f q g q = true by unfold pairOk; simp))
            go_wp2_with fail
            go_roundw
            case rel => exact ⟨q + 1, by omega, by go_num, HK, HZG.out⟩
            case measure => simp [intOf]; omega
          · have hn1 : ((q : Int) == (k : Int)) = false := by rw [beq_eq_false_iff_ne]; omega
            have hn2 : ((q : Int) != (k : Int)) = true := by rw [bne, hn1]; rfl
            have hnq : ¬ (q : Int) = (k : Int) := by omega
            have q1 := name_eq g.n f.n
            have q2 := name_eq' g.n f.n
            obtain ⟨be, hbe⟩ : ∃ y, decide (g.n = f.n) = y := ⟨_, rfl⟩
            have HBE := Lib.hid hbe
            rw [hbe] at q1 q2
            have CH := Lib.hid (fun (W : World) => Tryz.strings_HasPrefix g.n (f.n ++ ⟨#[47]⟩) W)
            obtain ⟨bu, hbu⟩ : ∃ y, underB f g = y := ⟨_, rfl⟩
            have CH' : Hid (∀ W : World, Calls Tryz.prog 26 #[.string g.n, .string (f.n ++ ⟨#[47]⟩)] W fun E W' => E = .returned (.bool bu) ∧ W = W') := fun W => (CH.out W).mono fun E W' ⟨he, hw⟩ => ⟨by rw [he, ← hbu]; rfl, hw.symm⟩
            have HPK := Lib.hid (show pairOk f k g q = !(be || bu) by unfold pairOk clashB; rw [hbe, hbu, show decide (q = k) = false from decide_eq_false hqk, Bool.false_or])
            clear hbe hbu CH
            cases be with
            | true =>
              go_wp2_with fail
              go_ret
              exact ⟨ret_bool (by rw [arch_files (files_bad (by rw [HL.out]; exact hlt) (fileAt_clash HT.out HG.out HPK.out))]), step_below HB1.out (step_below HB3.out HZG.out)⟩
            | false =>
              have hfz : f.n.size ≤ 1000000 := HZ.out f (List.mem_of_getElem? HT.out)
              go_wp2_with fail
              refine (CH'.out _).mono ?_
              rintro E w5 ⟨rfl, rfl⟩
              cases bu with
              | true =>
                go_wp2_with fail
                go_ret
                exact ⟨ret_bool (by rw [arch_files (files_bad (by rw [HL.out]; exact hlt) (fileAt_clash HT.out HG.out HPK.out))]), step_below HB1.out (step_below HB3.out HZG.out)⟩
              | false =>
                have HK := Lib.hid (hpr.out.succ HG.out HPK.out)
                go_wp2_with fail
                go_roundw
                case rel => exact ⟨q + 1, by omega, by go_num, HK, HZG.out⟩
                case measure => simp [intOf]; omega
        · obtain rfl : q = len := by omega
          have HA := Lib.hid (hall.out.succ (fileAt_true HT.out HP.out (by rw [HL.out]; exact hpr.out)))
          have HB4 := Lib.hid (step_below HB3.out hz)
          clear hz hpr
          go_wp2_with fail
          go_roundw
          case rel => exact ⟨k + 1, by omega, by go_num, HA, HB4.out⟩
          case measure => simp [intOf]; omega
    · obtain rfl : k = len := by omega
      have HAR := Lib.hid (arch_rest HBS.out (by rw [HL.out]; exact hmany) (FilesTo.done (by rw [HL.out]; exact hall.out)))
      have c10 := kept hB HX1.out.c10
      have HBB := Lib.hid (step_below HB1.out hB)
      obtain ⟨sl, hsl⟩ : ∃ sl, p.se.length = sl := ⟨_, rfl⟩
      obtain ⟨A7', k7', hv7, hc7, hm7, hr7⟩ := H7.out.open
      injection hv7 with e1 e2 e3
      subst e1
      subst e2
      subst e3
      have HSL := Lib.hid hsl
      have HR7 := Lib.hid hr7
      have HSO := Lib.hid (show setOk p = p.se.all (hasFile p.fi) from rfl)
      obtain ⟨wo, rfl⟩ : ∃ wo : World, wo = wr := ⟨_, rfl⟩
      have HBo := Lib.hid hB
      rw [hsl] at hc7 hm7 c10 ⊢
      clear hB hall hsl hr7
      go_wp2_with fail
      clear c10
      go_loopw [64] (fun i wy => ∃ s : Nat, s ≤ sl ∧ i = .int .i64 s ∧ Hid ((p.se.take s).all (hasFile p.fi) = true) ∧ Below wo.heap.size wo wy) (fun i _ => sl - (intOf i).toNat)
      case atStart => exact ⟨0, Nat.zero_le _, rfl, rfl, Below.refl _ _⟩
      case round =>
        obtain ⟨s, hs, rfl, hset, hz⟩ := hrel
        by_cases hst : s < sl
        · have hne : p.se ≠ [] := by
            intro e
            have := HSL.out
            rw [e] at this
            simp at this
            omega
          obtain ⟨t, htt⟩ : ∃ t, p.se[s]? = some t := ⟨p.se[s]'(by have := HSL.out; omega), List.getElem?_eq_getElem _⟩
          obtain ⟨b7, off7, rfl, hi7⟩ := HR7.out hne
          have t0 := kept (step_below HBB.out hz) (hi7 s t htt)
          have HTT := Lib.hid htt
          have f12 := kept (step_below HBo.out hz) HX1.out.c12
          obtain ⟨wu, rfl⟩ : ∃ wu : World, wu = wr := ⟨_, rfl⟩
          have HZU := Lib.hid hz
          clear hi7 hne htt hz
          go_wp2_with fail
          clear t0 f12
          go_loopw [9, 71] (fun sv i wy => ∃ (q : Nat) (B : Bool), q ≤ k ∧ sv = .bool B ∧ i = .int .i64 q ∧ Hid (B = (p.fi.take q).any fun f => decide (f.n = t)) ∧ Below wu.heap.size wu wy) (fun _ i _ => k - (intOf i).toNat)
          case atStart => exact ⟨0, false, Nat.zero_le _, rfl, rfl, Lib.hid rfl, Below.refl _ _⟩
          case round =>
            obtain ⟨q, B, hq, rfl, rfl, hBe, hy⟩ := hrel
            by_cases hqt : q < k
            · have hne : p.fi ≠ [] := by
                intro e
                have := HL.out
                rw [e] at this
                simp at this
                omega
              obtain ⟨g, hg⟩ : ∃ g, p.fi[q]? = some g := ⟨p.fi[q]'(by have := HL.out; omega), List.getElem?_eq_getElem _⟩
              obtain ⟨b, off, rfl, hi⟩ := HR.out hne
              obtain ⟨j0, j1⟩ := hi q g hg
              have hBw := step_below HBB.out (step_below HZU.out hy)
              replace j0 := kept hBw j0
              replace j1 := kept hBw j1
              have hag := below_alloc wr (.cells #[.string g.n, .string g.v] 72)
              have i0 : (wr.alloc (.cells #[.string g.n, .string g.v] 72)).cell? ⟨wr.heap.size, 0, none⟩ = some (.string g.n) := by go_cell
              have hyg := step_below hy hag
              have q1 := name_eq g.n t
              obtain ⟨be, hbe⟩ : ∃ y, decide (g.n = t) = y := ⟨_, rfl⟩
              rw [hbe] at q1
              have HNX := Lib.hid (show ((p.fi.take (q + 1)).any fun f => decide (f.n = t)) = (B || be) by rw [List.take_add_one, hg, List.any_append, ← hBe.out]; simp [hbe])
              clear hbe hBe hBw hag hi hne hg hy
              cases B with
              | true =>
                go_wp2_with fail
                go_roundw
                case rel => exact ⟨q + 1, true, by omega, rfl, by go_num, Lib.hid (by rw [HNX.out]; rfl), hyg⟩
                case measure => simp [intOf]; omega
              | false =>
                cases be with
                | true =>
                  go_wp2_with fail
                  go_roundw
                  case rel => exact ⟨q + 1, true, by omega, by first | rfl | (simp [q1]), by go_num, Lib.hid (by rw [HNX.out]; rfl), hyg⟩
                  case measure => simp [intOf]; omega
                | false =>
                  go_wp2_with fail
                  go_roundw
                  case rel => exact ⟨q + 1, false, by omega, by first | rfl | (simp [q1]), by go_num, Lib.hid (by rw [HNX.out]; rfl), hyg⟩
                  case measure => simp [intOf]; omega
            · obtain rfl : q = k := by omega
              have HBF := Lib.hid (show B = hasFile p.fi t by rw [hBe.out, ← HL.out, List.take_length]; rfl)
              have HZF := Lib.hid (step_below HZU.out hy)
              clear hBe hy
              cases B with
              | false =>
                go_wp2_with fail
                go_ret
                exact ⟨ret_bool (by rw [HAR.out, HSO.out, all_stop HTT.out HBF.out.symm]), step_below HBB.out HZF.out⟩
              | true =>
                go_wp2_with fail
                go_roundw
                case rel => exact ⟨s + 1, by omega, by go_num, Lib.hid (all_take_succ hset.out HTT.out HBF.out.symm), HZF.out⟩
                case measure => simp [intOf]; omega
        · obtain rfl : s = sl := by omega
          have HSD := Lib.hid (show archB p = true by rw [HAR.out, HSO.out]; exact all_done (by rw [HSL.out]; exact hset.out))
          go_wp2_with fail
          go_ret
          exact ⟨ret_bool (by rw [HSD.out]), step_below HBB.out hz⟩
end Go.Proofs.YtofogjfemlhffaaGreatDoor

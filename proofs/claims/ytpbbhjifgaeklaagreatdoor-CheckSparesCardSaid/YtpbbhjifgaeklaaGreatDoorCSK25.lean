/- order.Rings: the walk, at edges that may be. -/
import Derived.Test.YtpbbhjifgaeklaaGreatDoorCSK23
import Derived.Test.YtpbbhjifgaeklaaGreatDoorCSK24
import Derived.BigRegion
namespace Go.Proofs.YtpbbhjifgaeklaaGreatDoor
open Go Go.RowKit
open TJ (EdgeN hasN Tj Inv g0 visitT zeros srt outE newT rootsT setsT ringsT)

set_option maxHeartbeats 8000000 in
set_option maxRecDepth 100000 in
theorem rings_calls (n : Nat) (ve : Value) (l : List EdgeN) (w : World) (hn : n ≤ 40) (he : EdgesAt w ve l) (hel : ∀ e, e ∈ l → e.1 < n ∧ e.2 < n) (hll : l.length ≤ 1000000) :
    Calls Tryz.prog 171 #[.int .i64 n, ve] w fun E w' => ∃ v', E = .returned (.tuple #[v', .nilIface]) ∧ SetsAt w' v' (ringsT n l) ∧ Below w.heap.size w w' := by
  have CR := Lib.hid (ordRight_calls n ve l w hn he hel)
  have hmk : ∀ W : World, (Instr.makeSlice 40 (.int .i64 n) (.int .i64 n)).run Tryz.prog W = .ok (.slice (some ⟨W.heap.size, 0, none⟩) n n) (W.alloc (.cells (natA (List.replicate n 0)) 3)) := fun W => by
    have := run_make_row' (P := Tryz.prog) 40 3 (.int .i64 0) 8 Tryz.underlying40 info_int rfl .i64 .i64 n (by omega) (by omega) W
    rwa [made_nats] at this
  have hms : ∀ W : World, (Instr.makeSlice 208 (.int .i64 n) (.int .i64 n)).run Tryz.prog W = .ok (.slice (some ⟨W.heap.size, 0, none⟩) n n) (W.alloc (.cells (Array.replicate n (.slice none 0 0)) 40)) := fun W => by
    have := run_make_row' (P := Tryz.prog) 208 40 (.slice none 0 0) 24 Tryz.underlying208 info_ints rfl .i64 .i64 n (by omega) (by omega) W
    rwa [made_nil] at this
  obtain ⟨A, c, rfl, hc, hm, hr⟩ := he.open
  obtain ⟨len, hlen⟩ : ∃ len, l.length = len := ⟨_, rfl⟩
  have HL := Lib.hid hlen
  have HR := Lib.hid hr
  have HE := Lib.hid he
  have HEL := Lib.hid hel
  rw [hlen] at hc hm hll CR ⊢
  clear hlen hr he hel
  go_enter Tryz.func171, Tryz.ntmps171
  go_wp2_with fail
  refine CR.out.mono ?_
  rintro E w1 ⟨rfl, hb1⟩
  have HB1 := Lib.hid hb1
  clear hb1 CR
  go_upto_region 4 with fail
  go_cut [7] (fun s wx => ∃ wb bo ba bl : Nat, s = .pointer (some ⟨wb, 0, none⟩) ∧ Hid (RingW w1 n wb bo ba bl wx))
  case first =>
    go_region
    all_goals (go_wp2_with fail; go_meet; exact ⟨_, _, _, _, rfl, Lib.hid ⟨(four_new w1 _ _ _ _).2.2.2.1, (by first | exact (four_new w1 _ _ _ _).1 | exact (four_new w1 _ _ _ _).2.1 | exact (four_new w1 _ _ _ _).2.2.1), (by first | exact (four_new w1 _ _ _ _).1 | exact (four_new w1 _ _ _ _).2.1 | exact (four_new w1 _ _ _ _).2.2.1), (by first | exact (four_new w1 _ _ _ _).1 | exact (four_new w1 _ _ _ _).2.1 | exact (four_new w1 _ _ _ _).2.2.1), (by refine ⟨?_, ?_, ?_, ?_, ?_, ?_⟩ <;> omega), (by refine ⟨?_, ?_, ?_, ?_⟩ <;> omega), (four_new w1 _ _ _ _).2.2.2.2.1, (four_new w1 _ _ _ _).2.2.2.2.2⟩⟩)
  case rest =>
    obtain ⟨wb, bo, ba, bl, rfl, hring⟩ := hcut
    have HS1 := Lib.hid hring.out.s
    have HR0 := Lib.hid hring.out.start
    clear hms hmk hring
    go_wp2_with fail
    go_loopw [27] (fun i wr => ∃ (k : Nat) (vals : List Value), k ≤ len ∧ i = .int .i64 k ∧ Hid (RingO w1 n wb bo ba bl (l.take k) vals wr)) (fun i _ => len - (intOf i).toNat)
    case atStart => exact ⟨0, _, Nat.zero_le _, rfl, HR0⟩
    case round =>
      obtain ⟨k, vals, hk, rfl, hro⟩ := hrel
      by_cases hlt : k < len
      · obtain ⟨e, hek⟩ : ∃ e, l[k]? = some e := ⟨l[k]'(by have := HL.out; omega), List.getElem?_eq_getElem _⟩
        have hne : l ≠ [] := fun e0 => by rw [e0] at hek; simp at hek
        obtain ⟨be, oe, rfl, hi⟩ := HR.out hne
        obtain ⟨c0, c1⟩ := hi k e hek
        have hee := HEL.out e (List.mem_of_getElem? hek)
        have htk : l.take (k + 1) = l.take k ++ [e] := by rw [List.take_add_one, hek]; rfl
        have c0 := kept hro.out.b (kept HB1.out c0)
        have c1 := kept hro.out.b (kept HB1.out c1)
        obtain ⟨v1, hv1⟩ : ∃ v1, vals[e.1]? = some v1 := ⟨vals[e.1]'(by have := hro.out.nn; omega), List.getElem?_eq_getElem _⟩
        have hb5 := below_alloc wr (.cells #[.int .i64 e.1, .int .i64 e.2] 153)
        have hx5 := blk_new 153 wr #[.int .i64 e.1, .int .i64 e.2]
        have HRO5 := Lib.hid (hro.out.below hb5)
        obtain ⟨W5, hW5⟩ : ∃ W, wr.alloc (.cells #[.int .i64 e.1, .int .i64 e.2] 153) = W := ⟨_, rfl⟩
        rw [hW5] at hx5 HRO5
        have HTK := Lib.hid htk
        have HV1 := Lib.hid hv1
        obtain ⟨e1, e2⟩ := e
        simp only at c0 c1 hee
        clear hi hek hne htk hv1 hb5
        have HX5 := Lib.hid hx5
        have g1 : W5.cell? ⟨wb, 0, none⟩ = some (.slice (some ⟨bo, 0, none⟩) n n) := HRO5.out.wk.cell rfl
        have g2 : W5.cell? ⟨wr.heap.size, 0, none⟩ = some (.int .i64 e1) := hx5.cell rfl
        have g3 : W5.cell? ⟨wr.heap.size, 1, none⟩ = some (.int .i64 e2) := hx5.cell rfl
        have g4 : W5.cell? ⟨bo, e1, none⟩ = some v1 := HRO5.out.o.cell (by rw [List.getElem?_toArray]; exact HV1.out)
        have fz := HRO5.out.o.frozen
        have hba := below_alloc W5 (.cells #[.int .i64 e2] 3)
        have ga1 := kept hba g1
        have ga2 := kept hba g2
        have ga3 := kept hba g3
        have ga4 := kept hba g4
        clear hba
        have NE1 := Lib.hid (show some wb ≠ v1.ownBlock from fun e0 => by have := (row_lt (hro.out.r e1 v1 HV1.out) e0.symm).1; have := hro.out.u.1; omega)
        have NE2 := Lib.hid (show some wr.heap.size ≠ v1.ownBlock from fun e0 => by have := (row_lt (hro.out.r e1 v1 HV1.out) e0.symm).2; omega)
        have OWN5 := Lib.hid (HRO5.out.r e1 v1 HV1.out)
        have g5 : (e1 : Int) < n := by omega
        have g6 : (0 : Int) ≤ e1 := by omega
        have hol : (outE (l.take k) e1).length ≤ 1000000 := by
          have h1 : (outE (l.take k) e1).length ≤ (l.take k).length := by unfold TJ.outE; rw [List.length_map]; exact List.length_filter_le _ _
          rw [List.length_take] at h1
          omega
        have NEB := Lib.hid (show wb ≠ bo ∧ wr.heap.size ≠ bo from ⟨hro.out.d.2.2.2.1.symm, by have := hro.out.u.2.1; have := hro.out.s; omega⟩)
        obtain ⟨ol, hole⟩ : ∃ ol, (outE (l.take k) e1).length = ol := ⟨_, rfl⟩
        rw [hole] at hol OWN5
        have HOLE := Lib.hid hole
        have hs5 : w1.heap.size + 4 ≤ W5.heap.size := HRO5.out.s
        have HS5 := Lib.hid hs5
        obtain ⟨i0, hi, hz0, hz1, hz2⟩ := info_parts info_int
        clear hx5 hole hee
        go_upto_region 8 with fail
        refine wp_region_held_drew (S := (fun W => W.cell? ⟨wb, 0, none⟩ = some (.slice (some ⟨bo, 0, none⟩) n n) ∧ W.cell? ⟨wr.heap.size, 0, none⟩ = some (.int .i64 e1) ∧ W.cell? ⟨wr.heap.size, 1, none⟩ = some (.int .i64 e2))) (by kernel_rfl) ?_ (fun hHeld => ?_)
        · exact ⟨g1, g2, g3⟩
        refine wpAnyH_take (i := 0) (v := ?_) rfl (by kernel_rfl) (by kernel_rfl) (by kernel_rfl) (fun _ _ _ h => h) (Or.inl ⟨by rfl, ?_⟩) (by assumption) ?_
        rotate_left
        · (intro w hSw; (try dsimp only at hSw); go_simp; (try with_reducible rfl))
        (try simp only [List.getElem_toArray, List.getElem_cons_zero, Act.put, List.setIfInBounds_toArray, List.set_cons_zero, List.set_cons_succ])
        refine wpAnyH_take (i := 1) (v := ?_) rfl (by kernel_rfl) (by kernel_rfl) (by kernel_rfl) (fun _ _ _ h => h) (Or.inl ⟨by rfl, ?_⟩) (by assumption) ?_
        rotate_left
        · (intro w hSw; (try dsimp only at hSw); go_simp; (try with_reducible rfl))
        (try simp only [List.getElem_toArray, List.getElem_cons_succ, List.getElem_cons_zero, Act.put, List.setIfInBounds_toArray, List.set_cons_zero, List.set_cons_succ])
        refine wpAnyH_take (i := 2) (v := ?_) rfl (by kernel_rfl) (by kernel_rfl) (by kernel_rfl) (fun _ _ _ h => h) (Or.inl ⟨by rfl, ?_⟩) (by assumption) ?_
        rotate_left
        · (intro w hSw; (try dsimp only at hSw); go_simp; (try with_reducible rfl))
        (try simp only [List.getElem_toArray, List.getElem_cons_succ, List.getElem_cons_zero, Act.put, List.setIfInBounds_toArray, List.set_cons_zero, List.set_cons_succ])
        refine wpAnyH_take (i := 3) (v := ?_) rfl (by kernel_rfl) (by kernel_rfl) (by kernel_rfl) (fun _ _ _ h => h) (Or.inl ⟨by rfl, ?_⟩) (by assumption) ?_
        rotate_left
        · (intro w hSw; (try dsimp only at hSw); go_simp; (try with_reducible rfl))
        (try simp only [List.getElem_toArray, List.getElem_cons_succ, List.getElem_cons_zero, Act.put, List.setIfInBounds_toArray, List.set_cons_zero, List.set_cons_succ])
        refine wpAnyH_take (i := 4) (v := ?_) rfl (by kernel_rfl) (by kernel_rfl) (by kernel_rfl) (fun _ _ _ h => h) (Or.inl ⟨by rfl, ?_⟩) (by assumption) ?_
        rotate_left
        · (intro w hSw; (try dsimp only at hSw); go_simp; (try with_reducible rfl))
        (try simp only [List.getElem_toArray, List.getElem_cons_succ, List.getElem_cons_zero, Act.put, List.setIfInBounds_toArray, List.set_cons_zero, List.set_cons_succ])
        refine wpAnyH_take (i := 5) (v := ?_) rfl (by kernel_rfl) (by kernel_rfl) (by kernel_rfl) (fun _ _ _ h => h) (Or.inl ⟨by rfl, ?_⟩) (by assumption) ?_
        rotate_left
        · (intro w hSw; (try dsimp only at hSw); go_simp; (try with_reducible rfl))
        (try simp only [List.getElem_toArray, List.getElem_cons_succ, List.getElem_cons_zero, Act.put, List.setIfInBounds_toArray, List.set_cons_zero, List.set_cons_succ])
        refine wpAnyH_take (i := 6) (v := ?_) rfl (by kernel_rfl) (by kernel_rfl) (by kernel_rfl) (fun _ _ _ h => h) (Or.inl ⟨by rfl, ?_⟩) (by assumption) ?_
        rotate_left
        · (intro w hSw; (try dsimp only at hSw); go_simp; (try with_reducible rfl))
        (try simp only [List.getElem_toArray, List.getElem_cons_succ, List.getElem_cons_zero, Act.put, List.setIfInBounds_toArray, List.set_cons_zero, List.set_cons_succ])
        refine wpAnyH_take (i := 7) (v := ?_) rfl (by kernel_rfl) (by kernel_rfl) (by kernel_rfl) (fun _ _ _ h => h) (Or.inl ⟨by rfl, ?_⟩) (by assumption) ?_
        rotate_left
        · (intro w hSw; (try dsimp only at hSw); go_simp; (try with_reducible rfl))
        (try simp only [List.getElem_toArray, List.getElem_cons_succ, List.getElem_cons_zero, Act.put, List.setIfInBounds_toArray, List.set_cons_zero, List.set_cons_succ])
        refine wpAnyH_take (i := 8) (v := ?_) rfl (by kernel_rfl) (by kernel_rfl) (by kernel_rfl) (fun _ _ _ h => h) (Or.inl ⟨by rfl, ?_⟩) (by assumption) ?_
        rotate_left
        · (intro w hSw; (try dsimp only at hSw); go_simp; (try with_reducible rfl))
        (try simp only [List.getElem_toArray, List.getElem_cons_succ, List.getElem_cons_zero, Act.put, List.setIfInBounds_toArray, List.set_cons_zero, List.set_cons_succ])
        refine wpAnyH_take (i := 9) (v := ?_) rfl (by kernel_rfl) (by kernel_rfl) (by kernel_rfl) (fun _ _ _ h => h) (Or.inl ⟨by rfl, ?_⟩) (by assumption) ?_
        rotate_left
        · (intro w hSw; (try dsimp only at hSw); go_simp; (try with_reducible rfl))
        (try simp only [List.getElem_toArray, List.getElem_cons_succ, List.getElem_cons_zero, Act.put, List.setIfInBounds_toArray, List.set_cons_zero, List.set_cons_succ])
        refine wpAnyH_take (i := 10) (v := ?_) rfl (by kernel_rfl) (by kernel_rfl) (by kernel_rfl) (fun _ _ _ h => h) (Or.inl ⟨by rfl, ?_⟩) (by assumption) ?_
        rotate_left
        · (intro w hSw; (try dsimp only at hSw); go_simp; (try with_reducible rfl))
        (try simp only [List.getElem_toArray, List.getElem_cons_succ, List.getElem_cons_zero, Act.put, List.setIfInBounds_toArray, List.set_cons_zero, List.set_cons_succ])
        refine wpAnyH_take (i := 11) (v := ?_) rfl (by kernel_rfl) (by kernel_rfl) (by kernel_rfl) (fun _ _ _ h => h) (Or.inl ⟨by rfl, ?_⟩) (by assumption) ?_
        rotate_left
        · (intro w hSw; (try dsimp only at hSw); go_simp; (try with_reducible rfl))
        (try simp only [List.getElem_toArray, List.getElem_cons_succ, List.getElem_cons_zero, Act.put, List.setIfInBounds_toArray, List.set_cons_zero, List.set_cons_succ])
        refine wpAnyH_take (i := 12) (v := ?_) rfl (by kernel_rfl) (by kernel_rfl) (by kernel_rfl) (fun _ _ _ h => h) (Or.inl ⟨by rfl, ?_⟩) (by assumption) ?_
        rotate_left
        · (intro w hSw; (try dsimp only at hSw); go_simp; (try with_reducible rfl))
        (try simp only [List.getElem_toArray, List.getElem_cons_succ, List.getElem_cons_zero, Act.put, List.setIfInBounds_toArray, List.set_cons_zero, List.set_cons_succ])
        refine wpAnyH_take (i := 14) (v := ?_) rfl (by kernel_rfl) (by kernel_rfl) (by kernel_rfl) (fun _ _ _ h => h) (Or.inl ⟨by rfl, ?_⟩) (by assumption) ?_
        rotate_left
        · (intro w hSw; (try dsimp only at hSw); go_simp; (try with_reducible rfl))
        (try simp only [List.getElem_toArray, List.getElem_cons_succ, List.getElem_cons_zero, Act.put, List.setIfInBounds_toArray, List.set_cons_zero, List.set_cons_succ])
        refine wpAnyH_take (i := 15) (v := ?_) rfl (by kernel_rfl) (by kernel_rfl) (by kernel_rfl) (fun _ _ _ h => h) (Or.inl ⟨by rfl, ?_⟩) (by assumption) ?_
        rotate_left
        · (intro w hSw; (try dsimp only at hSw); go_simp; (try with_reducible rfl))
        (try simp only [List.getElem_toArray, List.getElem_cons_succ, List.getElem_cons_zero, Act.put, List.setIfInBounds_toArray, List.set_cons_zero, List.set_cons_succ])
        refine wpAnyH_ready (rs := [13, 16]) (by kernel_rfl) (by simp) ?_
        refine AllReadyH.cons rfl (fun K hK => ?_) (AllReadyH.cons rfl (fun K hK => ?_) AllReadyH.nil)
        · go_simp
          (try go_wp2_with fail)
          refine hK.out _ _ ?_ (fun hHeld => ?_)
          · exact ⟨g1, g2, g3⟩
          clear hK K
          (try simp only [List.getElem_toArray, List.getElem_cons_succ, List.getElem_cons_zero, Act.put, List.setIfInBounds_toArray, List.set_cons_zero, List.set_cons_succ])
          refine wpAnyH_ready (rs := [16]) (by kernel_rfl) (by simp) ?_
          refine AllReadyH.cons rfl (fun K hK => ?_) AllReadyH.nil
          go_simp
          (try go_wp2_with fail)
          refine hK.out _ _ ?_ (fun hHeld => ?_)
          · exact ⟨ga1, ga2, ga3⟩
          clear hK K
          (try simp only [List.getElem_toArray, List.getElem_cons_succ, List.getElem_cons_zero, Act.put, List.setIfInBounds_toArray, List.set_cons_zero, List.set_cons_succ])
          refine wpAnyH_ready (rs := [17]) (by kernel_rfl) (by simp) ?_
          refine AllReadyH.cons rfl (fun K hK => ?_) AllReadyH.nil
          refine step_append_lies _ rfl _ _ 40 rfl (w1.heap.size + 4) 3 i0 (.int .i64 0) 1 8 Tryz.underlying40 hi hz0 hz1 hz2 rfl (by decide) v1 ol _ rfl (OWN5.out.alloc _) ⟨W5.heap.size, 0, none⟩ 1 1 [.int .i64 e2] rfl rfl (cell_one_new _ _ _) (by simp [Value.oneCell']) (by decide) (by simp only [maxLen]; omega) (by omega) (by simp; omega) _ rfl ?_
          intro g6' c6 w6 hown6 hgrow6 hloc6 hlt6; have hg6 : (W5.alloc (.cells #[.int .i64 e2] 3)).grownBy w6 v1.ownBlock := ⟨hgrow6.os, hgrow6.tape, hgrow6.output, hgrow6.size, hgrow6.block⟩; have hb6 := HRO5.out.o6 HV1.out hg6; have fz6 := hb6.frozen; have k6 : w6.cell? ⟨bo, e1, none⟩ = some v1 := hb6.cell (by rw [List.getElem?_toArray]; exact HV1.out); have k7 := hg6.cell ga1 NE1.out; have k8 := hg6.cell ga2 NE2.out; have k9 := hg6.cell ga3 NE2.out
          (try go_wp2_with fail)
          refine hK.out _ _ ?_ (fun hHeld => ?_)
          · exact ⟨k7, k8, k9⟩
          clear hK K
          (try simp only [List.getElem_toArray, List.getElem_cons_succ, List.getElem_cons_zero, Act.put, List.setIfInBounds_toArray, List.set_cons_zero, List.set_cons_succ])
          refine wpAnyH_take (i := 18) (v := ?_) rfl (by kernel_rfl) (by kernel_rfl) (by kernel_rfl) (fun _ _ _ h => h) (Or.inl ⟨by rfl, ?_⟩) (by assumption) ?_
          rotate_left
          · (intro w hSw; (try dsimp only at hSw); go_simp; (try with_reducible rfl))
          (try simp only [List.getElem_toArray, List.getElem_cons_succ, List.getElem_cons_zero, Act.put, List.setIfInBounds_toArray, List.set_cons_zero, List.set_cons_succ])
          refine wpAnyH_ready (rs := [19]) (by kernel_rfl) (by simp) ?_
          refine AllReadyH.cons rfl (fun K hK => ?_) AllReadyH.nil
          go_simp
          (try go_wp2_with fail)
          have hpush := HRO5.out.push (e := (e1, e2)) HV1.out (by rw [HOLE.out]; exact hown6) hg6 hloc6
          rw [HOLE.out, ← HTK.out] at hpush
          refine hK.out _ _ ?_ (fun hHeld => ?_)
          · exact ⟨cell_off NEB.out.1 k7, cell_off NEB.out.2 k8, cell_off NEB.out.2 k9⟩
          clear hK K
          (try simp only [List.getElem_toArray, List.getElem_cons_succ, List.getElem_cons_zero, Act.put, List.setIfInBounds_toArray, List.set_cons_zero, List.set_cons_succ])
          refine wpAnyH_done (by kernel_rfl) ?_ _
          have HPU := Lib.hid hpush
          clear hpush
          go_wp2_with fail
          go_roundw
          case rel => exact ⟨k + 1, _, by omega, by go_num, HPU⟩
          case measure => simp [intOf]; omega
        · go_simp
          (try go_wp2_with fail)
          refine hK.out _ _ ?_ (fun hHeld => ?_)
          · exact ⟨ga1, ga2, ga3⟩
          clear hK K
          (try simp only [List.getElem_toArray, List.getElem_cons_succ, List.getElem_cons_zero, Act.put, List.setIfInBounds_toArray, List.set_cons_zero, List.set_cons_succ])
          refine wpAnyH_ready (rs := [13]) (by kernel_rfl) (by simp) ?_
          refine AllReadyH.cons rfl (fun K hK => ?_) AllReadyH.nil
          go_simp
          (try go_wp2_with fail)
          refine hK.out _ _ ?_ (fun hHeld => ?_)
          · exact ⟨ga1, ga2, ga3⟩
          clear hK K
          (try simp only [List.getElem_toArray, List.getElem_cons_succ, List.getElem_cons_zero, Act.put, List.setIfInBounds_toArray, List.set_cons_zero, List.set_cons_succ])
          refine wpAnyH_ready (rs := [17]) (by kernel_rfl) (by simp) ?_
          refine AllReadyH.cons rfl (fun K hK => ?_) AllReadyH.nil
          refine step_append_lies _ rfl _ _ 40 rfl (w1.heap.size + 4) 3 i0 (.int .i64 0) 1 8 Tryz.underlying40 hi hz0 hz1 hz2 rfl (by decide) v1 ol _ rfl (OWN5.out.alloc _) ⟨W5.heap.size, 0, none⟩ 1 1 [.int .i64 e2] rfl rfl (cell_one_new _ _ _) (by simp [Value.oneCell']) (by decide) (by simp only [maxLen]; omega) (by omega) (by simp; omega) _ rfl ?_
          intro g6' c6 w6 hown6 hgrow6 hloc6 hlt6; have hg6 : (W5.alloc (.cells #[.int .i64 e2] 3)).grownBy w6 v1.ownBlock := ⟨hgrow6.os, hgrow6.tape, hgrow6.output, hgrow6.size, hgrow6.block⟩; have hb6 := HRO5.out.o6 HV1.out hg6; have fz6 := hb6.frozen; have k6 : w6.cell? ⟨bo, e1, none⟩ = some v1 := hb6.cell (by rw [List.getElem?_toArray]; exact HV1.out); have k7 := hg6.cell ga1 NE1.out; have k8 := hg6.cell ga2 NE2.out; have k9 := hg6.cell ga3 NE2.out
          (try go_wp2_with fail)
          refine hK.out _ _ ?_ (fun hHeld => ?_)
          · exact ⟨k7, k8, k9⟩
          clear hK K
          (try simp only [List.getElem_toArray, List.getElem_cons_succ, List.getElem_cons_zero, Act.put, List.setIfInBounds_toArray, List.set_cons_zero, List.set_cons_succ])
          refine wpAnyH_take (i := 18) (v := ?_) rfl (by kernel_rfl) (by kernel_rfl) (by kernel_rfl) (fun _ _ _ h => h) (Or.inl ⟨by rfl, ?_⟩) (by assumption) ?_
          rotate_left
          · (intro w hSw; (try dsimp only at hSw); go_simp; (try with_reducible rfl))
          (try simp only [List.getElem_toArray, List.getElem_cons_succ, List.getElem_cons_zero, Act.put, List.setIfInBounds_toArray, List.set_cons_zero, List.set_cons_succ])
          refine wpAnyH_ready (rs := [19]) (by kernel_rfl) (by simp) ?_
          refine AllReadyH.cons rfl (fun K hK => ?_) AllReadyH.nil
          go_simp
          (try go_wp2_with fail)
          have hpush := HRO5.out.push (e := (e1, e2)) HV1.out (by rw [HOLE.out]; exact hown6) hg6 hloc6
          rw [HOLE.out, ← HTK.out] at hpush
          refine hK.out _ _ ?_ (fun hHeld => ?_)
          · exact ⟨cell_off NEB.out.1 k7, cell_off NEB.out.2 k8, cell_off NEB.out.2 k9⟩
          clear hK K
          (try simp only [List.getElem_toArray, List.getElem_cons_succ, List.getElem_cons_zero, Act.put, List.setIfInBounds_toArray, List.set_cons_zero, List.set_cons_succ])
          refine wpAnyH_done (by kernel_rfl) ?_ _
          have HPU := Lib.hid hpush
          clear hpush
          go_wp2_with fail
          go_roundw
          case rel => exact ⟨k + 1, _, by omega, by go_num, HPU⟩
          case measure => simp [intOf]; omega
      · obtain rfl : k = len := by omega
        have htl : l.take k = l := List.take_of_length_le (by have := HL.out; omega)
        rw [htl] at hro
        have hol : ∀ i, (outE l i).length ≤ 9223372036854775807 := fun i => by
          have h1 : (outE l i).length ≤ l.length := by unfold TJ.outE; rw [List.length_map]; exact List.length_filter_le _ _
          have h2 := HL.out
          omega
        obtain ⟨hwk0, hout0⟩ := hro.out.ready hol
        have ho : ∀ a b, b ∈ outE l a → b < n := fun a b hb => (HEL.out (a, b) (TJ.mem_outE.1 hb)).2
        obtain ⟨u1, u2, u3, u4⟩ := hro.out.u
        obtain ⟨d1, d2, d3, d4, d5, d6⟩ := hro.out.d
        have hsz := hro.out.s
        have x1 : wb < wr.heap.size := by omega
        have x2 : bo < wr.heap.size := by omega
        have x3 : ba < wr.heap.size := by omega
        have x4 : bl < wr.heap.size := by omega
        have VOK := Lib.hid (visit_calls (B := wr.heap.size) ho hn x1 x3 x4 x2 d1 d2 d3 d4 d5 d6 n)
        have HOUT := Lib.hid hout0
        have HO := Lib.hid ho
        have HX := Lib.hid (And.intro x1 (And.intro x2 (And.intro x3 x4)))
        have HS0 := Lib.hid (show WkS wr.heap.size wb ba bl bo n (newT n) wr wr from ⟨⟨_, _, _, hwk0⟩, WkKeep.refl _ _ _ _ _⟩)
        obtain ⟨B, hB⟩ : ∃ B, wr.heap.size = B := ⟨_, rfl⟩
        rw [hB] at VOK HOUT HX HS0
        have HBE := Lib.hid hB
        have HRI := Lib.hid (fun (k : Nat) (hk : k ≤ n) => TJ.roots_inv ho (List.range k) (newT n) (fun v hv => by have := List.mem_range.1 hv; omega) (TJ.inv_new n (outE l)) rfl)
        have HRO := Lib.hid hro.out
        obtain ⟨W0, hW0⟩ : ∃ W, wr = W := ⟨_, rfl⟩
        have HW0 := Lib.hid hW0
        rw [hW0] at HOUT HS0 HBE HRO
        clear htl hol hwk0 hout0 ho u1 u2 u3 u4 d1 d2 d3 d4 d5 d6 hsz x1 x2 x3 x4 hB hW0 hro
        rw [HW0.out]
        clear HW0
        go_wp2_with fail
        go_loopw [52] (fun i wq => ∃ k2 : Nat, k2 ≤ n ∧ i = .int .i64 k2 ∧ Hid (WkS B wb ba bl bo n ((List.range k2).foldl (rootsT (outE l) n) (newT n)) W0 wq)) (fun i _ => n - (intOf i).toNat)
        case atStart => exact ⟨0, Nat.zero_le _, rfl, HS0⟩
        case round =>
          obtain ⟨k2, hk2, rfl, hws⟩ := hrel
          by_cases hlt2 : k2 < n
          · obtain ⟨hinv, hopn, _, _⟩ := HRI.out k2 hk2
            obtain ⟨⟨vop, vs, vals1, hwk⟩, hkp⟩ := hws.out
            have hst : (List.range (k2 + 1)).foldl (rootsT (outE l) n) (newT n) = rootsT (outE l) n ((List.range k2).foldl (rootsT (outE l) n) (newT n)) k2 := by rw [List.range_succ, List.foldl_append]; rfl
            have HST := Lib.hid hst
            obtain ⟨S, hS⟩ : ∃ S, (List.range k2).foldl (rootsT (outE l) n) (newT n) = S := ⟨_, rfl⟩
            rw [hS] at hinv hwk HST
            have g1 : wr.cell? ⟨wb, 1, none⟩ = some (.slice (some ⟨ba, 0, none⟩) n n) := hwk.wk.cell rfl
            have g2 := hwk.nu.cell (natA_at (g0_at (l := S.nums) (i := k2) (by have := hinv.la; omega)))
            have g3 : (k2 : Int) < n := by omega
            have g4 : (0 : Int) ≤ k2 := by omega
            have HWK := Lib.hid hwk
            have HKP := Lib.hid hkp
            have HINV := Lib.hid hinv
            clear hinv hopn hwk hkp hst hS hws
            by_cases h0 : g0 S.nums k2 = 0
            · have t0 : ((g0 S.nums k2 : Int) == 0) = true := by simp [h0]
              have hz : zeros n S ≤ n := by unfold TJ.zeros; exact Nat.le_trans List.countP_le_length (by simp)
              have CI := Lib.hid (VOK.out k2 S vop vs vals1 wr HWK.out HINV.out hlt2 h0 hz (HOUT.out.keep HX.out.2.1 HRO.out.d.2.2.2.1 HRO.out.d.2.2.2.2.1 HRO.out.d.2.2.2.2.2 HKP.out) (by rw [← HBE.out]; exact HKP.out.size))
              have hse : rootsT (outE l) n S k2 = visitT (outE l) n k2 S := by unfold TJ.rootsT; rw [if_pos h0]
              have HSE := Lib.hid hse
              clear h0 hz hse
              go_wp2_with fail
              refine CI.out.mono ?_
              rintro E w5 ⟨rfl, hw5, hkp5⟩
              have HN := Lib.hid (show WkS B wb ba bl bo n (visitT (outE l) n k2 S) W0 w5 from ⟨hw5, HKP.out.trans hkp5⟩)
              clear hw5 hkp5 CI g1 g2 t0
              go_wp2_with fail
              go_roundw
              case rel => exact ⟨k2 + 1, by omega, by go_num, Lib.hid (by rw [HST.out, HSE.out]; exact HN.out)⟩
              case measure => simp [intOf]; omega
            · have t0 : ((g0 S.nums k2 : Int) == 0) = false := by simp [h0]
              have hse : rootsT (outE l) n S k2 = S := by unfold TJ.rootsT; rw [if_neg h0]
              have HSE := Lib.hid hse
              have HN := Lib.hid (show WkS B wb ba bl bo n S W0 wr from ⟨⟨_, _, _, HWK.out⟩, HKP.out⟩)
              clear h0 hse
              go_wp2_with fail
              go_roundw
              case rel => exact ⟨k2 + 1, by omega, by go_num, Lib.hid (by rw [HST.out, HSE.out]; exact HN.out)⟩
              case measure => simp [intOf]; omega
          · obtain rfl : k2 = n := by omega
            obtain ⟨⟨vop, vs, vals1, hwk⟩, hkp⟩ := hws.out
            have hsets : ((List.range k2).foldl (rootsT (outE l) k2) (newT k2)).sets = setsT k2 (outE l) := rfl
            obtain ⟨hSok, hEok⟩ := TJ.sets_ok (n := k2) (l := l) HEL.out
            have hlw := HRO.out.lw
            have hb0 : Below w.heap.size w wr := (HB1.out.trans (HRO.out.b.mono HB1.out.size)).trans ⟨hkp.os, hkp.tape, hkp.output, hkp.size, fun i hi => hkp.block i (by have := HB1.out.size; have := HX.out.1; omega) (by have := HB1.out.size; omega) (by have := HB1.out.size; omega) (by have := HB1.out.size; omega)⟩
            have hsa : SetsAt wr vs (setsT k2 (outE l)) := by
              have h1 := hwk.se
              rw [hsets] at h1
              refine ⟨vals1, slc_of_own (by rw [flat_one]; exact h1) ?_ ?_, ?_, fun i x hx => ?_⟩
              · have := h1.1; omega
              · have := TJ.nodup_le hSok.nd hSok.lt
                have h2 := inv_len (HRI.out k2 (Nat.le_refl _)).1
                rw [hsets] at h2
                omega
              · have := h1.1; omega
              · rw [← hsets] at hx
                obtain ⟨g, c', h2, _, _, _, h3⟩ := hwk.va i x hx
                exact ⟨_, h2, h3⟩
            have hsl : (setsT k2 (outE l)).length ≤ k2 := by
              have h2 := inv_len (HRI.out k2 (Nat.le_refl _)).1
              rw [hsets] at h2
              omega
            have CS := Lib.hid (settle_calls k2 _ vs l (setsT k2 (outE l)) wr hn hsl (HE.out.below hb0) hsa hSok.nd hSok.lt hSok.ne HEL.out hSok.all hEok)
            rw [HL.out] at CS
            obtain ⟨A9, c9, hvs, _, _⟩ := own_sl hwk.se
            have g5 : wr.cell? ⟨wb, 5, none⟩ = some vs := hwk.wk.cell rfl
            rw [hvs] at CS g5
            obtain ⟨sl, hsl2⟩ : ∃ sl, ((List.range k2).foldl (rootsT (outE l) k2) (newT k2)).sets.length = sl := ⟨_, rfl⟩
            rw [hsl2] at CS g5
            have HB0 := Lib.hid hb0
            clear hwk hkp hsets hSok hEok hlw hb0 hsa hsl hvs hsl2 hws
            go_wp2_with fail
            refine CS.out.mono ?_
            rintro E w5 ⟨v5, rfl, hv5, hb5⟩
            obtain ⟨vals5, ⟨A5, c5, rfl, hq1, hq2, hq3⟩, hl5, hr5⟩ := hv5
            have HV5 := Lib.hid (show SetsAt w5 (.slice A5 vals5.length c5) (TJ.orderT (setsT k2 (outE l)) l) from ⟨vals5, ⟨A5, c5, rfl, hq1, hq2, hq3⟩, hl5, hr5⟩)
            clear hq1 hq2 hq3 hl5 hr5
            go_wp2_with fail
            exact bodyPost_ret (v := .tuple #[.slice A5 vals5.length c5, .nilIface]) (by simp [results, Tryz.results171, go_sem]) rfl ⟨_, rfl, HV5.out, HB0.out.trans (hb5.mono HB0.out.size)⟩
end Go.Proofs.YtpbbhjifgaeklaaGreatDoor

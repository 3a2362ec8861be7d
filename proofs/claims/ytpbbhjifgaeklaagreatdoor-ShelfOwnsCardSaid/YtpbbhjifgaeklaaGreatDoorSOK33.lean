/- stevedorekeep.laid: a package's files lie there: walked. -/
import Derived.Test.YtpbbhjifgaeklaaGreatDoorSOK31
import Derived.Maps.OwnOps
import Derived.Maps.Views
import Derived.Deep.RegionHeld3
namespace Go.Proofs.YtpbbhjifgaeklaaGreatDoor
open Go Go.RowKit Go.Maps

/-- a map that counts the texts of a list -/
structure CntIs (E : DataW Unit) (L : List ByteArray) : Prop where
  m : IsMap E
  c : ∀ s : ByteArray, ∃ c : Int, E.atKey (.string s.data.toList) (.lit (.int .i64 0)) = .lit (.int .i64 c) ∧ 0 ≤ c ∧ c ≤ L.length ∧ (c = 0 ↔ s ∉ L)
theorem cnt_nil : CntIs (.map []) [] := ⟨⟨[], rfl⟩, fun s => ⟨0, rfl, Int.le_refl _, Int.le_refl _, ⟨fun _ h => (by cases h), fun _ => rfl⟩⟩⟩
theorem CntIs.step {E : DataW Unit} {L : List ByteArray} (h : CntIs E L) {x : ByteArray} {c : Int} (hc : E.atKey (.string x.data.toList) (.lit (.int .i64 0)) = .lit (.int .i64 c)) : CntIs (E.put (.string x.data.toList) (.lit (.int .i64 (c + 1)))) (L ++ [x]) := by
  refine ⟨h.m.put _ _, fun s => ?_⟩
  obtain ⟨c', h1, h2, h3, h4⟩ := h.c s
  rw [List.length_append, List.length_singleton]
  by_cases e : s = x
  · subst e
    rw [hc] at h1
    injection h1 with h1
    injection h1 with _ h1
    subst h1
    refine ⟨c + 1, atKey_put_same h.m (by trivial) _ _, by omega, by omega, ⟨fun h => by omega, fun h => absurd (List.mem_append_right _ (List.mem_singleton.2 rfl)) h⟩⟩
  · refine ⟨c', ?_, h2, by omega, ?_⟩
    · rw [atKey_put_other (fun e' => e (data_inj (by injection e')))]
      exact h1
    · rw [h4, List.mem_append, List.mem_singleton]
      exact ⟨fun h h' => h'.elim h e, fun h h' => h (.inl h')⟩
theorem zero_int (w : World) : (zeroValue 3).run Tryz.prog w = .ok (.int .i64 0) w := by kernel_rfl

theorem ownsMap_below {W W' : World} {K : TypeId} {R : Value → Option (DataW Unit × List MemPlace)} {b n : Nat} {E : DataW Unit} (h : W.ownsMap Tryz.prog K R b n E) (hb : Below W.heap.size W W') : W'.ownsMap Tryz.prog K R b n E := by
  have hlt := h.lt
  obtain ⟨es, clock, hm, r⟩ := h
  exact ⟨es, clock, (hb.block b hlt).trans hm, r⟩
set_option maxHeartbeats 4000000 in
set_option maxRecDepth 100000 in
theorem laid_calls (sh d : Nat) (D : Dk) (p : Pv) (v1 v2 v3 v4 v5 v6 v7 v8 v9 : Value) (w : World) (hE : Env w) (h : ShAt w sh d D) (hk : DkOk D) (hf : FitD 900000 D) (h7 : StrsAt w v7 p.se) (h9 : FieldsAt w v9 p.fi) (hz : ∀ s ∈ p.se, s.size ≤ 1000) (hzf : ∀ f ∈ p.fi, f.n.size ≤ 1000) (hln : p.se.length ≤ 1000)
    (hok : ∀ f ∈ p.fi, ownerD D f.n = p.n ∧ (hasB p.se f.n = false → getF D.now (thP ++ f.n) = some f.v)) :
    Calls Tryz.prog 42 #[.pointer (some ⟨sh, 0, none⟩), .agg #[.string p.n, .int .i64 p.e, .string p.u, .string p.r, v1, v2, v3, v4, v5, v6, v7, v8, v9]] w (BoolIs true w) := by
  have hmm := @run_makeMap Tryz.prog
  have HE := Lib.hid hE
  have H := Lib.hid h
  have HKF := Lib.hid (And.intro hk hf)
  have HZ := Lib.hid (And.intro hz (And.intro hzf hok))
  obtain ⟨E7, c7', rfl, hc7, hm7, hr7⟩ := h7.open
  obtain ⟨E9, c9', rfl, hc9, hm9, hr9⟩ := h9.open
  have HR7 := Lib.hid hr7
  have HR9 := Lib.hid hr9
  have X0 := packBox_new w p v1 v2 v3 v4 v5 v6 (.slice E7 p.se.length c7') v8 (.slice E9 p.fi.length c9') 67
  have hb0 := below_alloc w (.cells #[.string p.n, .int .i64 p.e, .string p.u, .string p.r, v1, v2, v3, v4, v5, v6, .slice E7 p.se.length c7', v8, .slice E9 p.fi.length c9'] 67)
  have HB0 := Lib.hid hb0
  have HX0 := Lib.hid X0
  have hs0 := World.size_alloc w (.cells #[.string p.n, .int .i64 p.e, .string p.u, .string p.r, v1, v2, v3, v4, v5, v6, .slice E7 p.se.length c7', v8, .slice E9 p.fi.length c9'] 67)
  obtain ⟨l7, hl7⟩ : ∃ l, p.se.length = l := ⟨_, rfl⟩
  obtain ⟨l9, hl9⟩ : ∃ l, p.fi.length = l := ⟨_, rfl⟩
  have HL7 := Lib.hid hl7
  have HL9 := Lib.hid hl9
  obtain ⟨pn, pe, pu, pr, dep, ahd, ag, br, re, prr, se, li, fi⟩ := p
  simp only at *
  rw [hl7] at hc7 hm7 hln HB0 HX0 hs0 ⊢
  rw [hl9] at hc9 hm9 HB0 HX0 hs0 ⊢
  clear hE h hk hf hz hzf hok h7 h9 hr7 hr9 X0 hb0 hl7 hl9
  go_enter Tryz.func42, Tryz.ntmps42
  go_upto_region 1 with fail
  obtain ⟨m, hm⟩ : ∃ m, w.heap.size = m := ⟨_, rfl⟩
  have HM := Lib.hid hm
  rw [hm] at HX0 hs0
  (try rw [hm])
  generalize w.alloc (.cells #[.string pn, .int .i64 pe, .string pu, .string pr, v1, v2, v3, v4, v5, v6, .slice E7 l7 c7', v8, .slice E9 l9 c9'] 67) = W0 at HX0 HB0 hs0 ⊢
  have HSZ := Lib.hid hs0
  have hown0 := World.ownsMap_made W0 Tryz.prog 9 (plainElem (H := Unit) Tryz.prog 3)
  have HOWN := Lib.hid hown0
  have HB1 := Lib.hid (step_below HB0.out (below_alloc W0 (.map #[] 0)))
  have HX1 := Lib.hid (HX0.out.below (below_alloc W0 (.map #[] 0)))
  have c10 := HX1.out.c10
  clear hown0 hm
  go_upto_region 2 with fail
  (try rw [hs0])
  rw [hs0] at HOWN
  generalize W0.alloc (.map #[] 0) = W1 at HOWN HB1 HX1 c10 ⊢
  clear hs0
  go_wp2_with fail
  go_loopw [6] (fun i wr => ∃ (k : Nat) (E : DataW Unit), k ≤ l7 ∧ i = .int .i64 k ∧ Hid (wr.ownsMap Tryz.prog 9 (plainElem (H := Unit) Tryz.prog 3) (m + 1) k E) ∧ Hid (CntIs E (se.take k)) ∧ Hid (PackBox wr m ⟨pn, pe, pu, pr, dep, ahd, ag, br, re, prr, se, li, fi⟩ v1 v2 v3 v4 v5 v6 (.slice E7 l7 c7') v8 (.slice E9 l9 c9')) ∧ Hid (Below w.heap.size w wr)) (fun i _ => l7 - (intOf i).toNat)
  case atStart => exact ⟨0, .map [], Nat.zero_le _, rfl, HOWN, Lib.hid cnt_nil, HX1, HB1⟩
  case round =>
    obtain ⟨k, E, hk, rfl, howh, hcnt, hbox, hBw⟩ := hrel
    have c10 := hbox.out.c10
    by_cases hlt : k < l7
    · obtain ⟨x, ht⟩ : ∃ x, se[k]? = some x := ⟨se[k]'(by have := HL7.out; omega), List.getElem?_eq_getElem _⟩
      have hne : se ≠ [] := fun e => by rw [e] at ht; cases ht
      obtain ⟨b7, o7, rfl, hi7⟩ := HR7.out hne
      have c0 := kept hBw.out (hi7 k x ht)
      have hxs : x.size ≤ 1000 := HZ.out.1 x (List.mem_of_getElem? ht)
      have hown := howh.out
      obtain ⟨c, hc1, hc2, hc3, _⟩ := hcnt.out.c x
      have HSTP := Lib.hid (hcnt.out.step hc1)
      have HTK : Hid (se.take (k + 1) = se.take k ++ [x]) := Lib.hid (by rw [List.take_add_one, ht]; rfl)
      have hkx := keyOf_str1 x (by unfold maxLen; omega)
      have HC := Lib.hid (And.intro hc1 (And.intro hc2 hc3))
      have HK3 := Lib.hid (show ((se.take k).length : Int) ≤ 1000 by rw [List.length_take]; have := hln; omega)
      clear hi7 hne ht hc1 hc2 hc3
      go_wp2_with (first | (at_lookup; refine wpList_lookup_own_int _ rfl _ _ 165 rfl 9 3 .i64 str_key Tryz.underlying165 Tryz.underlying3 (zero_int _) (m + 1) k E rfl hown (.string x) _ rfl hkx ?_; intro c' hat hwc; obtain rfl : c' = c := (by have := HC.out.1; rw [hat] at this; injection this with this; injection this); have hw1 : IntKind.i64.wrap (c' + 1) = c' + 1 := (by have h2 := HC.out.2.1; have h3 := HC.out.2.2; have h4 := HK3.out; rw [IntKind.wrap_i64]; omega)) | (at_mapUpdate; refine wpList_mapUpdate_own _ rfl _ _ _ 165 rfl 9 3 str_key Tryz.underlying165 _ (m + 1) k _ rfl hown (by unfold maxLen; omega) (.string x) (.int .i64 (c' + 1)) _ rfl rfl hkx (.lit (.int .i64 (c' + 1))) [] (plainElem_int Tryz.underlying3 (WalkArith.wf_i64 (by have h2 := HC.out.2.1; have h3 := HC.out.2.2; have h4 := HK3.out; omega))) ?_; intro w1 hown1 hgrow1))
      have HO1 := Lib.hid hown1
      have hm1 : m < wr.heap.size := cell_lt hbox.out.c0
      have HX1' := Lib.hid (hbox.out.same (hgrow1.block m hm1 (by intro e; injection e with e; omega)))
      have HB1' := Lib.hid (hBw.out.grown hgrow1 hBw.out.size (fun g e => by injection e with e; have := HM.out; omega))
      have HCN : Hid (CntIs (E.put (.string x.data.toList) (.lit (.int .i64 (c' + 1)))) (se.take (k + 1))) := Lib.hid (by rw [HTK.out]; exact HSTP.out)
      clear hown1 hgrow1 hat hwc hw1 hm1
      go_roundw
      case rel => first | exact ⟨k + 1, _, by omega, by go_num, HO1, HCN, HX1', HB1'⟩ | ((repeat apply Exists.intro); exact ⟨⟨k + 1, _, by omega, by go_num, HO1, HCN, HX1', HB1'⟩, rfl⟩)
      case measure => simp [intOf]; omega
    · obtain rfl : k = l7 := by omega
      have hcnt : Hid (CntIs E se) := Lib.hid (by have := hcnt.out; rwa [List.take_of_length_le (by have := HL7.out; omega)] at this)
      go_wp2_with fail
      go_loopw [7] (fun i wr => ∃ (j : Nat), j ≤ l9 ∧ i = .int .i64 j ∧ Hid (wr.ownsMap Tryz.prog 9 (plainElem (H := Unit) Tryz.prog 3) (m + 1) k E) ∧ Hid (PackBox wr m ⟨pn, pe, pu, pr, dep, ahd, ag, br, re, prr, se, li, fi⟩ v1 v2 v3 v4 v5 v6 (.slice E7 k c7') v8 (.slice E9 l9 c9')) ∧ Hid (Below w.heap.size w wr)) (fun i _ => l9 - (intOf i).toNat)
      case atStart => exact ⟨0, Nat.zero_le _, rfl, howh, hbox, hBw⟩
      case round =>
        obtain ⟨j, hj, rfl, how2, hbox2, hBw2⟩ := hrel
        have c12 := hbox2.out.c12
        by_cases hlj : j < l9
        · obtain ⟨f, hft⟩ : ∃ f, fi[j]? = some f := ⟨fi[j]'(by have := HL9.out; omega), List.getElem?_eq_getElem _⟩
          have hne9 : fi ≠ [] := fun e => by rw [e] at hft; cases hft
          obtain ⟨b9, o9, rfl, hi9⟩ := HR9.out hne9
          obtain ⟨g0, g1⟩ := hi9 j f hft
          have c0 := kept hBw2.out g0
          have c1 := kept hBw2.out g1
          have hmf := List.mem_of_getElem? hft
          have hfs : f.n.size ≤ 1000 := HZ.out.2.1 f hmf
          have HOK := Lib.hid (HZ.out.2.2 f hmf)
          obtain ⟨fn, fv⟩ := f
          simp only at c0 c1 hfs HOK
          have hb5 := below_alloc wr (.cells #[.string fn, .string fv] 62)
          have HOW5 := Lib.hid (ownsMap_below how2.out hb5)
          have HX5 := Lib.hid (hbox2.out.below hb5)
          have HB5 := Lib.hid (step_below hBw2.out hb5)
          have HE5 := Lib.hid (HE.out.below (step_below hBw2.out hb5))
          have d0 : (wr.alloc (.cells #[.string fn, .string fv] 62)).cell? ⟨wr.heap.size, 0, none⟩ = some (.string fn) := by go_cell
          have d1 : (wr.alloc (.cells #[.string fn, .string fv] 62)).cell? ⟨wr.heap.size, 1, none⟩ = some (.string fv) := by go_cell
          obtain ⟨g5, hg5⟩ : ∃ g, wr.heap.size = g := ⟨_, rfl⟩
          rw [hg5] at d0 d1
          clear hi9 g0 g1 hft hmf hne9 hb5
          go_upto_region 10 with fail
          (try rw [hg5])
          generalize wr.alloc (.cells #[.string fn, .string fv] 62) = W5 at HOW5 HX5 HB5 HE5 d0 d1 ⊢
          have e0 := HX5.out.c0
          have hpp : (pn.toList != pn.toList) = false := by simp
          have CO := Lib.hid (fun (W : World) (hb : Below W5.heap.size W5 W) => owner_calls sh d D fn W (HE.out.below (step_below HB5.out hb)) (H.out.keep (step_below HB5.out hb)) HKF.out.1 (HKF.out.2.mono (by omega)))
          rw [HOK.out.1] at CO
          go_cut [45] (fun v wx => v = .bool false ∧ Below W5.heap.size W5 wx)
          case first =>
            refine wp_region_held_drew (S := (fun W => W.cell? ⟨g5, 0, none⟩ = some (.string fn) ∧ W.cell? ⟨m, 0, none⟩ = some (.string pn) ∧ Below W5.heap.size W5 W)) (by kernel_rfl) ?_ (fun hHeld => ?_)
            · exact ⟨kept (below_drew _) d0, kept (below_drew _) e0, below_drew _⟩
            refine wpAnyH_take (i := 0) (v := ?_) rfl (by kernel_rfl) (by kernel_rfl) (by kernel_rfl) (fun _ _ _ h => h) (Or.inl ⟨by rfl, ?_⟩) (by assumption) ?_
            rotate_left
            · (intro w hSw; (try dsimp only at hSw); go_simp; (try with_reducible rfl))
            (try simp only [List.getElem_toArray, List.getElem_cons_zero, Act.put, List.setIfInBounds_toArray, List.set_cons_zero, List.set_cons_succ])
            refine wpAnyH_take (i := 1) (v := ?_) rfl (by kernel_rfl) (by kernel_rfl) (by kernel_rfl) (fun _ _ _ h => h) (Or.inl ⟨by rfl, ?_⟩) (by assumption) ?_
            rotate_left
            · (intro w hSw; (try dsimp only at hSw); go_simp; (try with_reducible rfl))
            (try simp only [List.getElem_toArray, List.getElem_cons_succ, List.getElem_cons_zero, Act.put, List.setIfInBounds_toArray, List.set_cons_zero, List.set_cons_succ])
            refine wpAnyH_take (i := 2) (v := ?_) rfl (by kernel_rfl) (by kernel_rfl) (by kernel_rfl) (fun _ _ _ h => h) (Or.inl ⟨by rfl, ?_⟩) (by assumption) ?_
            rotate_left
            · (intro w hSw; (try dsimp only at hSw); go_simp; (try with_reducible rfl))
            (try simp only [List.getElem_toArray, List.getElem_cons_succ, List.getElem_cons_zero, Act.put, List.setIfInBounds_toArray, List.set_cons_zero, List.set_cons_succ])
            refine wpAnyH_take (i := 4) (v := ?_) rfl (by kernel_rfl) (by kernel_rfl) (by kernel_rfl) (fun _ _ _ h => h) (Or.inl ⟨by rfl, ?_⟩) (by assumption) ?_
            rotate_left
            · (intro w hSw; (try dsimp only at hSw); go_simp; (try with_reducible rfl))
            (try simp only [List.getElem_toArray, List.getElem_cons_succ, List.getElem_cons_zero, Act.put, List.setIfInBounds_toArray, List.set_cons_zero, List.set_cons_succ])
            refine wpAnyH_take (i := 5) (v := ?_) rfl (by kernel_rfl) (by kernel_rfl) (by kernel_rfl) (fun _ _ _ h => h) (Or.inl ⟨by rfl, ?_⟩) (by assumption) ?_
            rotate_left
            · (intro w hSw; (try dsimp only at hSw); go_simp; (try with_reducible rfl))
            (try simp only [List.getElem_toArray, List.getElem_cons_succ, List.getElem_cons_zero, Act.put, List.setIfInBounds_toArray, List.set_cons_zero, List.set_cons_succ])
            refine wpAnyH_ready (rs := [3]) (by kernel_rfl) (by simp) ?_
            refine AllReadyH.cons rfl (fun K hK => ?_) AllReadyH.nil
            go_simp
            go_at_call 83
            refine Calls.mono (CO.out _ hHeld.2.2) ?_
            rintro E y1 ⟨rfl, hb1⟩
            (try go_wp2_with fail)
            refine hK.out _ _ ?_ (fun hHeld2 => ?_)
            · exact ⟨kept hb1 hHeld.1, kept hb1 hHeld.2.1, step_below hHeld.2.2 hb1⟩
            clear hK K
            (try simp only [List.getElem_toArray, List.getElem_cons_succ, List.getElem_cons_zero, Act.put, List.setIfInBounds_toArray, List.set_cons_zero, List.set_cons_succ])
            refine wpAnyH_take (i := 6) (v := ?_) rfl (by kernel_rfl) (by kernel_rfl) (by kernel_rfl) (fun _ _ _ h => h) (Or.inl ⟨by rfl, ?_⟩) (by assumption) ?_
            rotate_left
            · (intro w hSw; (try dsimp only at hSw); go_simp; (try with_reducible rfl))
            (try simp only [List.getElem_toArray, List.getElem_cons_succ, List.getElem_cons_zero, Act.put, List.setIfInBounds_toArray, List.set_cons_zero, List.set_cons_succ])
            refine wpAnyH_done (by kernel_rfl) ?_ _
            go_wp2_with fail
            go_meet
            exact ⟨by simp, hHeld2.2.2⟩
          case rest =>
          obtain ⟨rfl, hb6⟩ := hcut
          have HB6 := Lib.hid (step_below HB5.out hb6)
          have HX6 := Lib.hid (HX5.out.below hb6)
          have HOW6 := Lib.hid (ownsMap_below HOW5.out hb6)
          replace d0 := kept hb6 d0
          replace d1 := kept hb6 d1
          have CR := Lib.hid (shread_calls sh d D fn wc (H.out.keep HB6.out) hfs)
          rw [readV_look] at CR
          clear hb6 CO HB5 HX5 HOW5 e0 hpp
          obtain ⟨c, hc1, hc2, hc3, hc4⟩ := hcnt.out.c fn
          have HC := Lib.hid hc1
          have hkx := keyOf_str1 fn (by unfold maxLen; omega)
          have hown := HOW6.out
          cases hbs : hasB se fn with
          | false =>
            have hcz : c = 0 := hc4.2 fun h' => by rw [hasB_iff.2 h'] at hbs; cases hbs
            subst hcz
            rw [HOK.out.2 hbs] at CR
            unfold lookV at CR
            simp only at CR
            have hff : (fv.toList != fv.toList) = false := by simp
            clear hc1 hc2 hc3 hc4 hbs
            go_wp2_with fail
            refine CR.out.mono ?_
            rintro E w7 ⟨rfl, rfl⟩
            clear CR
            go_wp2_with (at_lookup; refine wpList_lookup_own_int _ rfl _ _ 165 rfl 9 3 .i64 str_key Tryz.underlying165 Tryz.underlying3 (zero_int _) (m + 1) k E rfl hown (.string fn) _ rfl hkx ?_; intro c' hat hwc; obtain rfl : c' = 0 := (by have := HC.out; rw [hat] at this; injection this with this; injection this))
            go_roundw
            case rel => first | exact ⟨j + 1, by omega, by go_num, HOW6, HX6, HB6⟩ | ((repeat apply Exists.intro); exact ⟨⟨j + 1, by omega, by go_num, HOW6, HX6, HB6⟩, rfl⟩)
            case measure => simp [intOf]; omega
          | true =>
            have hcz : (c == 0) = false := by rw [beq_eq_false_iff_ne]; intro h'; exact (hc4.1 h') (hasB_iff.1 hbs)
            obtain ⟨o, ho⟩ : ∃ o, getF D.now (thP ++ fn) = o := ⟨_, rfl⟩
            rw [ho] at CR
            clear hc1 hc2 hc3 hc4 hbs ho
            unfold lookV at CR
            cases o
            all_goals
              simp only at CR
              go_wp2_with fail
              refine CR.out.mono ?_
              rintro E w7 ⟨rfl, rfl⟩
              clear CR
              go_wp2_with (at_lookup; refine wpList_lookup_own_int _ rfl _ _ 165 rfl 9 3 .i64 str_key Tryz.underlying165 Tryz.underlying3 (zero_int _) (m + 1) k E rfl hown (.string fn) _ rfl hkx ?_; intro c' hat hwc; obtain rfl : c' = c := (by have := HC.out; rw [hat] at this; injection this with this; injection this))
              go_roundw
              case rel => first | exact ⟨j + 1, by omega, by go_num, HOW6, HX6, HB6⟩ | ((repeat apply Exists.intro); exact ⟨⟨j + 1, by omega, by go_num, HOW6, HX6, HB6⟩, rfl⟩)
              case measure => simp [intOf]; omega
        · obtain rfl : j = l9 := by omega
          go_wp2_with fail
          go_ret
          exact ⟨rfl, hBw2.out⟩
end Go.Proofs.YtpbbhjifgaeklaaGreatDoor

/- The reference's Terms. · depend.List and the reference's List. -/
import Derived.Test.YtodbbfgkclkpgaaGreatDoorARC24
import Derived.Test.YtodbbfgkclkpgaaGreatDoorARC18
import Derived.Test.YtodbbfgkclkpgaaGreatDoorARC16
namespace Go.Proofs.YtodbbfgkclkpgaaGreatDoor
open Go.RowKit

theorem refTerm_no (y : ByteArray) (w : World) (hE : Env w) (hs : y.size ≤ 200000) (h : VP.termP y.data.toList = none) : Calls Tryz.prog 150 #[.string y] w fun E w' =>
    ∃ n op e u r, E = .returned (.tuple #[.agg #[.string n, .int .i64 op, .int .i64 e, .string u, .string r], .bool false]) ∧ Below w.heap.size w w' :=
  (refTerm_calls y w hE hs).mono fun E w' ⟨t, hE, _, _, hb⟩ => ⟨t.n, t.op, t.e, t.u, t.r, by rw [hE, h]; rfl, hb⟩
theorem refTerm_yes (y : ByteArray) (w : World) (hE : Env w) (hs : y.size ≤ 200000) {x : VP.Tm} (h : VP.termP y.data.toList = some x) : Calls Tryz.prog 150 #[.string y] w fun E w' =>
    ∃ n op e u r, E = .returned (.tuple #[.agg #[.string n, .int .i64 op, .int .i64 e, .string u, .string r], .bool true]) ∧ (Tv.mk n op e u r).tm = x ∧ (Tv.mk n op e u r).small ∧ Below w.heap.size w w' :=
  (refTerm_calls y w hE hs).mono fun E w' ⟨t, hE, ht, _, hb⟩ => ⟨t.n, t.op, t.e, t.u, t.r, by rw [hE, h]; rfl, ht x h, small_right (ht x h) (VP.termP_right h), hb⟩

def RefTermsIs (s : ByteArray) (w : World) (E : Ending) (w' : World) : Prop :=
  Below w.heap.size w w' ∧ ((∃ L v, E = .returned (.tuple #[v, .int .i64 0]) ∧ VP.termsP s.data.toList = .ok (tmL L) ∧ AskedAt w' v L ∧ ∀ x ∈ L, ∀ t ∈ x, Tv.small t) ∨
    (∃ e, E = .returned (.tuple #[.slice none 0 0, .int .i64 e]) ∧ VP.termsP s.data.toList = .error e ∧ (e = 3 ∨ e = 4)))

def RefTermsFIs (s : ByteArray) (w : World) (E : Ending) (w' : World) : Prop :=
  Below w.heap.size w w' ∧ ((∃ L v, E = .returned (.tuple #[v, .int .i64 0]) ∧ VP.termsP s.data.toList = .ok (tmL L) ∧ AskedAt w' v L ∧ (∀ x ∈ L, ∀ t ∈ x, Tv.small t) ∧ AskedFr w.heap.size w' v L) ∨
    (∃ e, E = .returned (.tuple #[.slice none 0 0, .int .i64 e]) ∧ VP.termsP s.data.toList = .error e ∧ (e = 3 ∨ e = 4)))

theorem someP_at {n0 j : Nat} {ys : List ByteArray} {y : ByteArray} {ts : List VP.Tm} {n1 : Nat} (hs : VP.someP n0 ((ys.take j).map dat) = .ok (ts, n1)) (hy : ys[j]? = some y) :
    VP.someP n0 ((ys.take (j + 1)).map dat) = match VP.termP y.data.toList with | none => .error 3 | some t => if 30 < n1 + 1 then .error 4 else .ok (ts ++ [t], n1 + 1) := by
  rw [List.take_add_one, hy, List.map_append, show (some y).toList.map dat = [dat y] from rfl, VP.someP_snoc, hs]
  rfl
theorem someP_stop {n0 j : Nat} {ys : List ByteArray} {e : Int} (hs : VP.someP n0 ((ys.take j).map dat) = .error e) : VP.someP n0 (ys.map dat) = .error e := by
  rw [← List.take_append_drop j ys, List.map_append]
  exact VP.someP_error hs

set_option maxHeartbeats 8000000 in
set_option maxRecDepth 100000 in
theorem refTermsF_calls (s : ByteArray) (w : World) (hE : Env w) (hs : s.size ≤ 200000) : Calls Tryz.prog 92 #[.string s] w (RefTermsFIs s w) := by
  obtain ⟨i0, hi, hz0, hz1, hz2⟩ := info_parts info_term
  obtain ⟨i1, gi, gz0, gz1, gz2⟩ := info_parts info_terms
  by_cases h0 : VP.trimP s.data.toList = []
  · go_enter Tryz.func92, Tryz.ntmps92
    go_wp2_with fail
    refine (bare_calls3 s _ (by omega)).mono ?_
    rintro E w1 ⟨t, rfl, ht, htz, rfl⟩
    have he := isEmpty_true t (by rw [size_eq_length, ht, h0]; rfl)
    have HT := Lib.hid (show VP.termsP s.data.toList = .ok [] by unfold VP.termsP; rw [if_pos h0])
    clear ht h0
    go_wp2_with fail
    exact bodyPost_ret (v := .tuple #[.slice none 0 0, .int .i64 0]) (by simp [results, Tryz.results92, go_sem]) rfl ⟨Below.refl _ _, .inl ⟨[], _, rfl, by rw [HT.out]; rfl, ⟨none, 0, rfl, Nat.le_refl _, by simp, fun h => absurd rfl h⟩, (fun _ h => by cases h), askedFr_nil _ _ _ _ _⟩⟩
  · have HE := Lib.hid hE
    have HT := Lib.hid (show VP.termsP s.data.toList = VP.eachP 0 ((piecesB 44 s).map dat) by
      unfold VP.termsP; rw [if_neg h0, ← piecesB_data]; rfl)
    have HPL := Lib.hid (pieces_len 44 s.data.toList)
    go_enter Tryz.func92, Tryz.ntmps92
    go_wp2_with fail
    refine (bare_calls3 s _ (by omega)).mono ?_
    rintro E w1 ⟨t, rfl, ht, htz, rfl⟩
    have hne := isEmpty_false t (Nat.pos_of_ne_zero fun e => h0 (by rw [← ht]; exact List.eq_nil_of_length_eq_zero (by rw [← size_eq_length]; exact e)))
    clear ht h0 htz hE
    go_wp2_with fail
    refine (call_split s 44 _ HE.out (by omega)).mono ?_
    rintro E wS ⟨len, rfl, hlen, hbS, hcS⟩
    have HCS := Lib.hid hcS
    have HL := Lib.hid hlen
    have HSZ := Lib.hid (fun (a b : List ByteArray) (x : ByteArray) (h : piecesB 44 s = a ++ x :: b) => piecesB_size h)
    have hlz : len ≤ 200001 := by
      have h1 := HPL.out
      rw [← piecesB_data, List.length_map, ← hlen, ← size_eq_length] at h1
      omega
    have HBS := Lib.hid hbS
    have hES := HE.out.below hbS
    clear hlen hcS hbS
    obtain ⟨xs, hxs⟩ : ∃ xs, piecesB 44 s = xs := ⟨_, rfl⟩
    rw [hxs] at HCS HL HT HSZ
    clear hxs HPL
    have hgS : w.heap.size ≤ wS.heap.size := HBS.out.size
    go_wp2_with fail
    go_loopw [4, 5, 19] (fun v4 v5 i wr => ∃ (k : Nat) (L : List (List Tv)) (vs : List Value) (n0 : Nat), k ≤ len ∧ i = .int .i64 k ∧ v5 = .int .i64 n0 ∧ n0 ≤ 30 ∧ L.length = k ∧ wr.ownsRow wS.heap.size 25 1 v4 L.length vs ∧ Hid (RowsIn wr wS.heap.size L vs) ∧ Hid (VP.eachC 0 ((xs.take k).map dat) = .ok (tmL L, n0)) ∧ Hid (∀ x ∈ L, ∀ t ∈ x, Tv.small t) ∧ Below wS.heap.size wS wr) (fun _ _ i _ => len - (intOf i).toNat)
    case atStart => exact ⟨0, [], [], 0, Nat.zero_le _, rfl, rfl, by omega, rfl, World.ownsRow_nil _ _ _ _, RowsIn.nil, Lib.hid rfl, Lib.hid (fun _ h => by cases h), Below.refl _ _⟩
    case round =>
      obtain ⟨k, L, vs, n0, hk, rfl, rfl, hn30, hLk, hown, hrows, hec, hsm, hB⟩ := hrel
      by_cases hlt : k < len
      · obtain ⟨x, hx⟩ : ∃ x, xs[k]? = some x := ⟨xs[k]'(by have := HL.out; omega), List.getElem?_eq_getElem _⟩
        have hxz : x.size ≤ 200000 := by
          have h1 := HSZ.out (xs.take k) (xs.drop (k + 1)) x (by
            obtain ⟨hk', rfl⟩ := List.getElem?_eq_some_iff.1 hx
            simp)
          omega
        have HX := Lib.hid hx
        have c0 := kept hB (HCS.out k x hx)
        have hEr := hES.below hB
        clear hx
        go_wp2_with fail
        refine (call_split x 124 _ hEr (by omega)).mono ?_
        rintro E wT ⟨ln2, rfl, hlen2, hbT, hcT⟩
        have HCT := Lib.hid hcT
        have HL2 := Lib.hid hlen2
        have HSZ2 := Lib.hid (fun (a b : List ByteArray) (y : ByteArray) (h : piecesB 124 x = a ++ y :: b) => piecesB_size h)
        have hlz2 : ln2 ≤ 200001 := by
          have h1 := pieces_len 124 x.data.toList
          rw [← piecesB_data, List.length_map, ← hlen2, ← size_eq_length] at h1
          omega
        have hET := hEr.below hbT
        have hBT := step_below hB hbT
        have hownT := own_below hown hbT
        have HRT := Lib.hid (hrows.out.keep (W' := wT) fun k cur fz _ hc => hbT.block k (Array.getElem?_eq_some_iff.1 hc).1)
        have hzT := hBT.size
        have hzrT := hbT.size
        obtain ⟨wo, hwo⟩ : ∃ wo, wr = wo := ⟨_, rfl⟩
        rw [hwo] at HCT hbT hzrT ⊢
        clear hwo hlen2 hcT hbT hown hrows c0 hEr hB
        obtain ⟨ys, hys⟩ : ∃ ys, piecesB 124 x = ys := ⟨_, rfl⟩
        have HYS := Lib.hid (show VP.pieces 124 x.data.toList = ys.map dat by rw [← hys, ← piecesB_data]; rfl)
        rw [hys] at HCT HL2 HSZ2
        clear hys
        go_wp2_with fail
        go_loopw [5, 8, 26] (fun v5 v8 i wr => ∃ (j : Nat) (ts : List Tv) (n1 : Nat), j ≤ ln2 ∧ i = .int .i64 j ∧ v5 = .int .i64 n1 ∧ n1 ≤ 30 ∧ wr.ownsRow wT.heap.size 99 5 v8 ts.length (ts.flatMap Tv.cells) ∧ Hid (VP.someP n0 ((ys.take j).map dat) = .ok (ts.map Tv.tm, n1)) ∧ Hid (∀ t ∈ ts, Tv.small t) ∧ Below wT.heap.size wT wr) (fun _ _ i _ => ln2 - (intOf i).toNat)
        case atStart => exact ⟨0, [], n0, Nat.zero_le _, rfl, rfl, hn30, World.ownsRow_nil _ _ _ _, Lib.hid rfl, Lib.hid (fun _ h => by cases h), Below.refl _ _⟩
        case round =>
          obtain ⟨j, ts, n1, hj, rfl, rfl, hn1, hown, hso, hsm2, hB⟩ := hrel
          by_cases hjt : j < ln2
          · obtain ⟨y, hy⟩ : ∃ y, ys[j]? = some y := ⟨ys[j]'(by have := HL2.out; omega), List.getElem?_eq_getElem _⟩
            have hyz : y.size ≤ 200000 := by
              have h1 := HSZ2.out (ys.take j) (ys.drop (j + 1)) y (by
                obtain ⟨hk', rfl⟩ := List.getElem?_eq_some_iff.1 hy
                simp)
              omega
            have c0 := kept hB (HCT.out j y hy)
            have hEr := hET.below hB
            have hpl : ts.length + n0 = n1 := by
              have := VP.someP_len hso.out
              rwa [List.length_map] at this
            cases htp : VP.termP y.data.toList with
            | none =>
              have HTE := Lib.hid (show VP.termsP s.data.toList = .error 3 by
                have h1 := someP_at hso.out hy
                rw [htp] at h1
                have h2 := someP_stop h1
                rw [← HYS.out] at h2
                have h3 := VP.eachC_some_error (b := (xs.drop (k + 1)).map dat) hec.out h2
                rw [HT.out, ← h3]
                congr 1
                obtain ⟨hk', hxk⟩ := List.getElem?_eq_some_iff.1 HX.out
                rw [show x.data.toList = dat x from rfl, ← List.map_cons, ← List.map_append, ← hxk]
                simp)
              have C := Lib.hid (refTerm_no y wr hEr hyz htp)
              clear htp hy
              go_wp2_with fail
              refine C.out.mono ?_
              rintro E w5 ⟨tn, top, te, tu, tr, rfl, hb5⟩
              have HBF := Lib.hid ((step_below HBS.out (step_below hBT (step_below hB hb5))).alloc (by have := hb5.size; have := hB.size; omega) (.cells #[.string tn, .int .i64 top, .int .i64 te, .string tu, .string tr] 99))
              clear hb5
              go_wp2_with fail
              exact bodyPost_ret (v := .tuple #[.slice none 0 0, .int .i64 3]) (by simp [results, Tryz.results92, go_sem]) rfl ⟨HBF.out, .inr ⟨3, rfl, HTE.out, .inl rfl⟩⟩
            | some tm =>
              have C := Lib.hid (refTerm_yes y wr hEr hyz htp)
              by_cases hk31 : 30 < n1 + 1
              · have HTE := Lib.hid (show VP.termsP s.data.toList = .error 4 by
                  have h1 := someP_at hso.out hy
                  rw [htp] at h1
                  simp only at h1
                  rw [if_pos hk31] at h1
                  have h2 := someP_stop h1
                  rw [← HYS.out] at h2
                  have h3 := VP.eachC_some_error (b := (xs.drop (k + 1)).map dat) hec.out h2
                  rw [HT.out, ← h3]
                  congr 1
                  obtain ⟨hk', hxk⟩ := List.getElem?_eq_some_iff.1 HX.out
                  rw [show x.data.toList = dat x from rfl, ← List.map_cons, ← List.map_append, ← hxk]
                  simp)
                clear htp hy
                go_wp2_with fail
                refine C.out.mono ?_
                rintro E w5 ⟨tn, top, te, tu, tr, rfl, htm, hsmt, hb5⟩
                have HBF := Lib.hid ((step_below HBS.out (step_below hBT (step_below hB hb5))).alloc (by have := hb5.size; have := hB.size; omega) (.cells #[.string tn, .int .i64 top, .int .i64 te, .string tu, .string tr] 99))
                clear hb5
                go_wp2_with fail
                exact bodyPost_ret (v := .tuple #[.slice none 0 0, .int .i64 4]) (by simp [results, Tryz.results92, go_sem]) rfl ⟨HBF.out, .inr ⟨4, rfl, HTE.out, .inr rfl⟩⟩
              · have HSO := Lib.hid (show VP.someP n0 ((ys.take (j + 1)).map dat) = .ok (ts.map Tv.tm ++ [tm], n1 + 1) by
                  have h1 := someP_at hso.out hy
                  rw [htp] at h1
                  simp only at h1
                  rw [if_neg hk31] at h1
                  exact h1)
                clear htp hy
                go_wp2_with fail
                refine C.out.mono ?_
                rintro E w5 ⟨tn, top, te, tu, tr, rfl, htm, hsmt, hb5⟩
                have hB5 := step_below hB hb5
                have hown5 := own_below hown hb5
                have hz5 := hB5.size
                clear hb5 hown
                go_wp2_with (at_builtin; refine wpList_append_own _ rfl _ _ 25 rfl wT.heap.size 99 i0 (.agg #[.string ⟨#[]⟩, .int .i64 0, .int .i64 0, .string ⟨#[]⟩, .string ⟨#[]⟩]) 5 64 Tryz.underlying25 hi hz0 hz1 hz2 rfl (by decide) _ _ _ rfl ((hown5.alloc _).alloc _) ⟨w5.heap.size + 1, 0, none⟩ 1 1 (Tv.cells ⟨tn, top, te, tu, tr⟩) rfl rfl (cells_new _ _ _ _ _ _ _ (by simp)) (by simp [Value.oneCell', Tv.cells]) (by simp only [maxLen]; omega) (by omega) (by simp; omega) ?_; intro v' w7 hown' hgrow _)
                have HOW := Lib.hid hown'
                have HG := Lib.hid hgrow
                have HO5 := Lib.hid hown5
                clear hown' hgrow hown5
                go_roundw
                case rel =>
                  refine ⟨j + 1, ts ++ [⟨tn, top, te, tu, tr⟩], n1 + 1, by omega, by go_num, by go_num, by omega, ?_, Lib.hid ?_, Lib.hid ?_, ((hB5.alloc hB5.size _).alloc (by simp; omega) _).grown HG.out (by simp; omega) (fun g e => (HO5.out.lt g e).1)⟩
                  · rw [cells_snoc, List.length_append]
                    exact HOW.out
                  · rw [HSO.out, List.map_append, List.map_cons, List.map_nil, htm]
                  · intro t ht
                    rcases List.mem_append.1 ht with h | h
                    · exact hsm2.out t h
                    · rw [List.mem_singleton.1 h]; exact hsmt
                case measure => simp [intOf]; omega
          · obtain rfl : j = ln2 := by omega
            have HSO := Lib.hid (show VP.someP n0 (ys.map dat) = .ok (ts.map Tv.tm, n1) by
              have h1 := hso.out
              rwa [HL2.out, List.take_length] at h1)
            have HEC := Lib.hid (show VP.eachC 0 ((xs.take (k + 1)).map dat) = .ok (tmL (L ++ [ts]), n1) by
              rw [List.take_add_one, HX.out, List.map_append, show (some x).toList.map dat = [x.data.toList] from rfl, VP.eachC_snoc, hec.out]
              show (match VP.someP n0 (VP.pieces 124 x.data.toList) with | .error e => _ | .ok (ts, m) => _) = _
              rw [HYS.out, HSO.out]
              unfold tmL
              rw [List.map_append]
              rfl)
            have hlen := VP.someP_len HSO.out
            rw [List.length_map] at hlen
            obtain ⟨A, kk, cc, rfl⟩ := row_shape hown
            have HTI := Lib.hid (termsIn_own (B := wS.heap.size) hown hzT (by omega) (fun t ht => (hsm2.out t ht).ok))
            have hB5 := step_below hBT hB
            have hown5 := own_below hownT hB
            have HR5 := Lib.hid (HRT.out.keep (W' := wr) fun k cur fz _ hc => hB.block k (Array.getElem?_eq_some_iff.1 hc).1)
            have hz5 := hB5.size
            clear hown hso hB
            go_wp2_with (at_builtin; refine wpList_append_own _ rfl _ _ 24 rfl wS.heap.size 25 i1 (.slice none 0 0) 1 24 Tryz.underlying24 gi gz0 gz1 gz2 rfl (by decide) _ _ _ rfl (hown5.alloc _) ⟨wr.heap.size, 0, none⟩ 1 1 [.slice A kk cc] rfl rfl (cell_one_new _ _ _) (by simp [Value.oneCell']) (by simp only [maxLen]; omega) (by omega) (by simp; omega) ?_; intro v' w7 hown' hgrow _)
            have HOW := Lib.hid hown'
            have HG := Lib.hid hgrow
            have HO5 := Lib.hid hown5
            clear hown' hgrow hown5
            go_roundw
            case rel =>
              refine ⟨k + 1, L ++ [ts], vs ++ [.slice A kk cc], n1, by omega, by go_num, rfl, hn1, by simp [hLk], ?_, Lib.hid ?_, HEC, Lib.hid ?_, (hB5.alloc hB5.size _).grown HG.out (by simp; omega) (fun g e => (HO5.out.lt g e).1)⟩
              · rw [List.length_append]
                exact HOW.out
              · refine (HR5.out.snoc HTI.out).keep fun k cur fz hk hc => ?_
                have hlt := (Array.getElem?_eq_some_iff.1 hc).1
                exact (HG.out.block k (by simp; omega) (ownBlock_type HO5.out (by decide) hc)).trans (Below.heap_alloc _ _ _ hlt)
              · intro z hz
                rcases List.mem_append.1 hz with h | h
                · exact hsm.out z h
                · rw [List.mem_singleton.1 h]; exact hsm2.out
            case measure => simp [intOf]; omega
      · obtain rfl : k = len := by omega
        have HTO := Lib.hid (show VP.termsP s.data.toList = .ok (tmL L) by
          have h1 := hec.out
          rw [HL.out, List.take_length] at h1
          rw [HT.out, VP.eachP_eq, h1])
        obtain ⟨A, kk, cc, rfl⟩ := row_shape hown
        have HAA := Lib.hid (askedAt_own hown hrows.out (by omega))
        have HFR := Lib.hid (askedFr_own (B := w.heap.size) hown hrows.out (by omega))
        have HBF := Lib.hid (step_below HBS.out hB)
        have HSM := hsm
        clear hown hrows hec hB
        go_wp2_with fail
        exact bodyPost_ret (v := .tuple #[.slice A kk cc, .int .i64 0]) (by simp [results, Tryz.results92, go_sem]) rfl ⟨HBF.out, .inl ⟨L, _, rfl, HTO.out, HAA.out, HSM.out, HFR.out⟩⟩
end Go.Proofs.YtodbbfgkclkpgaaGreatDoor

namespace Go.Proofs.YtodbbfgkclkpgaaGreatDoor
open Go.RowKit

theorem cells_len (ts : List Tv) : (ts.flatMap Tv.cells).length = ts.length * 5 := by
  induction ts with
  | nil => rfl
  | cons a ts ih =>
    rw [List.flatMap_cons, List.length_append, ih, List.length_cons]
    show 5 + ts.length * 5 = _
    omega
theorem cells_back {ts : List Tv} {j : Nat} {u : Value} (h : (ts.flatMap Tv.cells)[j]? = some u) : ∃ t, ts[j / 5]? = some t ∧ t.cells[j % 5]? = some u := by
  have hj : j < (ts.flatMap Tv.cells).length := (List.getElem?_eq_some_iff.1 h).1
  rw [cells_len] at hj
  have hi : j / 5 < ts.length := by omega
  refine ⟨ts[j / 5], List.getElem?_eq_getElem hi, ?_⟩
  rw [← cells_at (List.getElem?_eq_getElem hi) (j % 5) (Nat.mod_lt _ (by decide)), show j / 5 * 5 + j % 5 = j by omega]
  exact h
theorem term_cells {w : World} {b off : Nat} {t : Tv} (h : TermAt w b off t) : ∀ r u, t.cells[r]? = some u → w.cell? ⟨b, off + r, none⟩ = some u := by
  intro r u hu
  rcases r with _ | _ | _ | _ | _ | r
  · cases hu; exact h.c0
  · cases hu; exact h.c1
  · cases hu; exact h.c2
  · cases hu; exact h.c3
  · cases hu; exact h.c4
  · cases hu
theorem terms_cells {w : World} {b off : Nat} {ts : List Tv} (h : ∀ i t, ts[i]? = some t → TermAt w b (off + i * 5) t ∧ t.ok) : ∀ j u, (ts.flatMap Tv.cells)[j]? = some u → w.cell? ((⟨b, off, none⟩ : Addr).add j) = some u := by
  intro j u hu
  obtain ⟨t, ht, hr⟩ := cells_back hu
  rw [Go.WideShapes.add_plain, show off + j = off + j / 5 * 5 + j % 5 by omega]
  exact term_cells (h _ _ ht).1 _ _ hr
theorem cells_one (ts : List Tv) : ∀ u ∈ ts.flatMap Tv.cells, u.oneCell' = true := by
  intro u hu
  obtain ⟨t, _, h⟩ := List.mem_flatMap.1 hu
  simp only [Tv.cells, List.mem_cons, List.not_mem_nil, or_false] at h
  rcases h with rfl | rfl | rfl | rfl | rfl <;> rfl
theorem termsAt_own {W : World} {base : Nat} {v : Value} {ts : List Tv} (h : W.ownsRow base 99 5 v ts.length (ts.flatMap Tv.cells)) (hm : ts.length ≤ 9223372036854775807) (hok : ∀ t ∈ ts, t.ok) : TermsAt W v ts := (termsIn_own (B := base) h (Nat.le_refl _) hm hok).1

/-- what holds of what was read -/
structure ReadL (L : List (List Tv)) : Prop where
  ne : ∀ x ∈ L, x ≠ []
  sum : L.flatten.length ≤ 30
theorem readL {l : List UInt8} {L : List (List Tv)} (h : VP.termsP l = .ok (tmL L)) : ReadL L := by
  have ha := VP.termsP_asked h
  refine ⟨fun x hx e => (ha.each (x.map Tv.tm) (List.mem_map.2 ⟨x, hx, rfl⟩)).1 (by rw [e]; rfl), ?_⟩
  have h2 : VP.total (tmL L) ≤ 30 := ha.few
  unfold VP.total tmL at h2
  rw [List.map_map] at h2
  rw [List.length_flatten]
  have e : (L.map (List.length ∘ fun x => x.map Tv.tm)) = L.map List.length := List.map_congr_left fun x _ => List.length_map _
  rw [e] at h2
  exact h2
theorem tmL_flatten (L : List (List Tv)) : (tmL L).flatten = L.flatten.map Tv.tm := by unfold tmL; rw [List.map_flatten]
theorem take_flatten_len {L : List (List Tv)} (k : Nat) : (L.take k).flatten.length ≤ L.flatten.length := by
  conv => rhs; rw [← List.take_append_drop k L]
  rw [List.flatten_append, List.length_append]
  omega
theorem take_flatten_succ {L : List (List Tv)} {k : Nat} {x : List Tv} (h : L[k]? = some x) : (L.take (k + 1)).flatten = (L.take k).flatten ++ x := by
  rw [List.take_add_one, h, List.flatten_append]
  simp
theorem flat_ne (L : List (List Tv)) (h : ∀ x ∈ L, x ≠ []) : L.length ≤ L.flatten.length := by
  induction L with
  | nil => simp
  | cons x L ih =>
    have h1 := ih fun y hy => h y (.tail _ hy)
    have h2 : 0 < x.length := List.length_pos_iff.2 (h x (.head _))
    rw [List.flatten_cons, List.length_append, List.length_cons]
    omega
theorem flat_long (L : List (List Tv)) (h : ∀ x ∈ L, x ≠ []) : decide (L.length < L.flatten.length) = !((tmL L).all fun x => decide (x.length ≤ 1)) := by
  have h1 := (VP.flatten_long (M := tmL L) (fun x hx => by
    obtain ⟨y, hy, rfl⟩ := List.mem_map.1 hx
    intro e
    exact h y hy (List.map_eq_nil_iff.1 e))).2
  rw [tmL_flatten, List.length_map] at h1
  rw [show (tmL L).length = L.length from List.length_map _] at h1
  exact h1

theorem refTerms_calls (s : ByteArray) (w : World) (hE : Env w) (hs : s.size ≤ 200000) : Calls Tryz.prog 92 #[.string s] w (RefTermsIs s w) :=
  (refTermsF_calls s w hE hs).mono fun _ _ ⟨hb, h⟩ => ⟨hb, h.elim (fun ⟨L, v, h1, h2, h3, h4, _⟩ => .inl ⟨L, v, h1, h2, h3, h4⟩) .inr⟩

def RefListFIs (s : ByteArray) (w : World) (E : Ending) (w' : World) : Prop :=
  Below w.heap.size w w' ∧ ((∃ ts v, E = .returned (.tuple #[v, .int .i64 0]) ∧ VP.listP s.data.toList = .ok (ts.map Tv.tm) ∧ TermsAt w' v ts ∧ SlFr w.heap.size v) ∨
    (∃ e, E = .returned (.tuple #[.slice none 0 0, .int .i64 e]) ∧ VP.listP s.data.toList = .error e ∧ (e = 3 ∨ e = 4)))

set_option maxHeartbeats 4000000 in
set_option maxRecDepth 100000 in
theorem refListF_calls (s : ByteArray) (w : World) (hE : Env w) (hs : s.size ≤ 200000) : Calls Tryz.prog 93 #[.string s] w (RefListFIs s w) := by
  obtain ⟨i0, hi, hz0, hz1, hz2⟩ := info_parts info_term
  have HC := Lib.hid (refTerms_calls s w hE hs)
  clear hE
  go_enter Tryz.func93, Tryz.ntmps93
  go_wp2_with fail
  refine HC.out.mono ?_
  rintro E w1 ⟨hb1, ⟨L, v, rfl, hok, hA, hsm⟩ | ⟨e, rfl, herr, he⟩⟩
  · have HB1 := Lib.hid hb1
    have hRL := readL hok
    have HRL := Lib.hid hRL
    have HSM := Lib.hid hsm
    have HOK := Lib.hid (show VP.listP s.data.toList = if (tmL L).all (fun x => decide (x.length ≤ 1)) then .ok (L.flatten.map Tv.tm) else .error 3 by unfold VP.listP; rw [hok]; simp only; rw [tmL_flatten])
    have HFL := Lib.hid (flat_long L hRL.ne)
    have hsum := hRL.sum
    have hlL := flat_ne L hRL.ne
    obtain ⟨A, c, rfl, hc, hm, hr⟩ := hA
    have HR := Lib.hid hr
    obtain ⟨len, hlen⟩ : ∃ len, L.length = len := ⟨_, rfl⟩
    have HL := Lib.hid hlen
    rw [hlen] at hc hm hlL HFL ⊢
    clear hlen hr hok hsm hRL hb1
    go_wp2_with fail
    go_loopw [6, 16] (fun v6 i wr => ∃ k : Nat, k ≤ len ∧ i = .int .i64 k ∧ wr.ownsRow w1.heap.size 99 5 v6 (L.take k).flatten.length ((L.take k).flatten.flatMap Tv.cells) ∧ Below w1.heap.size w1 wr) (fun _ i _ => len - (intOf i).toNat)
    case atStart => exact ⟨0, Nat.zero_le _, rfl, World.ownsRow_nil _ _ _ _, Below.refl _ _⟩
    case round =>
      obtain ⟨k, hk, rfl, hown, hB⟩ := hrel
      by_cases hlt : k < len
      · obtain ⟨x, hx⟩ : ∃ x, L[k]? = some x := ⟨L[k]'(by have := HL.out; omega), List.getElem?_eq_getElem _⟩
        have hne : L ≠ [] := fun e => by rw [e] at hx; cases hx
        obtain ⟨b, off, rfl, hi'⟩ := HR.out hne
        obtain ⟨vx, hc0, hT⟩ := hi' k x hx
        have hT1 := hT.below hB
        have c0 := kept hB hc0
        have hxne := HRL.out.ne x (List.mem_of_getElem? hx)
        obtain ⟨A', c', rfl, hc', hm', hr'⟩ := hT1
        obtain ⟨b', off', rfl, hi2⟩ := hr' hxne
        have HX := Lib.hid (take_flatten_succ hx)
        have HCE := Lib.hid (terms_cells hi2)
        have hfl := take_flatten_len (L := L) (k + 1)
        rw [HX.out, List.length_append] at hfl
        have HOO := Lib.hid hown
        have hsz := hB.size
        clear hi' hne hc0 hT hx hr' hi2 hxne
        go_wp2_with (at_builtin; refine wpList_append_own _ rfl _ _ 25 rfl w1.heap.size 99 i0 (.agg #[.string ⟨#[]⟩, .int .i64 0, .int .i64 0, .string ⟨#[]⟩, .string ⟨#[]⟩]) 5 64 Tryz.underlying25 hi hz0 hz1 hz2 rfl (by decide) _ _ _ rfl HOO.out ⟨b', off', none⟩ x.length c' (x.flatMap Tv.cells) rfl (cells_len x) HCE.out (cells_one x) (by simp only [maxLen]; omega) (by omega) (by omega) ?_; intro v' w7 hown' hgrow _)
        have HOW := Lib.hid hown'
        have HG := Lib.hid hgrow
        clear hown' hgrow
        go_roundw
        case rel =>
          refine ⟨k + 1, by omega, by go_num, ?_, hB.grown HG.out (by omega) (fun g e => (HOO.out.lt g e).1)⟩
          rw [HX.out, List.length_append, List.flatMap_append]
          exact HOW.out
        case measure => simp [intOf]; omega
      · obtain rfl : k = len := by omega
        have hfull : L.take k = L := by rw [← HL.out, List.take_length]
        rw [hfull] at hown
        obtain ⟨fl, hfl⟩ : ∃ fl, L.flatten.length = fl := ⟨_, rfl⟩
        have HSF := Lib.hid (slFr_own (B := w.heap.size) hown (by have := HB1.out.size; omega))
        have HTA := Lib.hid (termsAt_own hown (by omega) (fun t ht => by
          obtain ⟨x, hx, htx⟩ := List.mem_flatten.1 ht
          exact (HSM.out x hx t htx).ok))
        obtain ⟨A2, c2, hv2, hc2, hm2, _⟩ := HTA.out
        have HV2 := Lib.hid hv2
        rw [hfl] at hv2 hc2 hm2 HFL
        subst hv2
        have HBF := Lib.hid (step_below HB1.out hB)
        clear hown hfull hB
        cases hlong : decide (k < fl) with
        | true =>
          have hlong' : k < fl := of_decide_eq_true hlong
          have HN := Lib.hid (show VP.listP s.data.toList = .error 3 by
            have h1 := HFL.out
            rw [hlong] at h1
            rw [HOK.out, if_neg (by intro h; rw [h] at h1; cases h1)])
          clear hlong
          go_wp2_with fail
          exact bodyPost_ret (v := .tuple #[.slice none 0 0, .int .i64 3]) (by simp [results, Tryz.results93, go_sem]) rfl ⟨HBF.out, .inr ⟨3, rfl, HN.out, .inl rfl⟩⟩
        | false =>
          have hlong' : ¬ k < fl := of_decide_eq_false hlong
          have HN := Lib.hid (show VP.listP s.data.toList = .ok (L.flatten.map Tv.tm) by
            have h1 := HFL.out
            rw [hlong] at h1
            rw [HOK.out, if_pos (by revert h1; cases ((tmL L).all fun x => decide (x.length ≤ 1)) <;> simp)])
          clear hlong
          go_wp2_with fail
          exact bodyPost_ret (v := .tuple #[.slice A2 fl c2, .int .i64 0]) (by simp [results, Tryz.results93, go_sem]) rfl ⟨HBF.out, .inl ⟨L.flatten, _, rfl, HN.out, HTA.out, HSF.out⟩⟩
  · have HB1 := Lib.hid hb1
    have HN := Lib.hid (show VP.listP s.data.toList = .error e by unfold VP.listP; rw [herr])
    clear herr hb1
    go_wp2_with fail
    go_loopw [6, 16] (fun v6 i wr => v6 = .slice none 0 0 ∧ i = .int .i64 0 ∧ wr = w1) (fun _ _ _ => 0)
    case atStart => exact ⟨rfl, rfl, rfl⟩
    case round =>
      obtain ⟨rfl, rfl, rfl⟩ := hrel
      have hb : (e == 0) = false := by rw [beq_eq_false_iff_ne]; omega
      have hb' := bne_of_false hb
      go_wp2_with fail
      exact bodyPost_ret (v := .tuple #[.slice none 0 0, .int .i64 e]) (by simp [results, Tryz.results93, go_sem]) rfl ⟨HB1.out, .inr ⟨e, rfl, HN.out, he⟩⟩

def ListFIs (s : ByteArray) (w : World) (E : Ending) (w' : World) : Prop :=
  Below w.heap.size w w' ∧ ((∃ ts v, E = .returned (.tuple #[v, .nilIface]) ∧ VP.listP s.data.toList = .ok (ts.map Tv.tm) ∧ TermsAt w' v ts ∧ SlFr w.heap.size v) ∨
    (∃ e, E = .returned (.tuple #[.slice none 0 0, .iface 32 (.int .i64 e)]) ∧ VP.listP s.data.toList = .error e ∧ (e = 3 ∨ e = 4)))

set_option maxHeartbeats 4000000 in
set_option maxRecDepth 100000 in
theorem depListF_calls (s : ByteArray) (w : World) (hE : Env w) (hS : EnvS w) (hs : s.size ≤ 200000) : Calls Tryz.prog 98 #[.string s] w (ListFIs s w) := by
  obtain ⟨i0, hi, hz0, hz1, hz2⟩ := info_parts info_term
  have HC := Lib.hid (terms_walk s w hE hS hs)
  clear hE hS
  go_enter Tryz.func98, Tryz.ntmps98
  go_wp2_with fail
  refine HC.out.mono ?_
  rintro E w1 ⟨hb1, ⟨L, v, rfl, hok, hA, hsm⟩ | ⟨e, rfl, herr, he⟩⟩
  · have HB1 := Lib.hid hb1
    have hRL := readL hok
    have HRL := Lib.hid hRL
    have HSM := Lib.hid hsm
    have HOK := Lib.hid (show VP.listP s.data.toList = if (tmL L).all (fun x => decide (x.length ≤ 1)) then .ok (L.flatten.map Tv.tm) else .error 3 by unfold VP.listP; rw [hok]; simp only; rw [tmL_flatten])
    have HALL := Lib.hid (show (tmL L).all (fun x => decide (x.length ≤ 1)) = L.all (fun x => decide (x.length ≤ 1)) by
      unfold tmL
      rw [List.all_map]
      congr 1
      funext x
      simp)
    have hsum := hRL.sum
    have hlL := flat_ne L hRL.ne
    obtain ⟨A, c, rfl, hc, hm, hr⟩ := hA
    have HR := Lib.hid hr
    obtain ⟨len, hlen⟩ : ∃ len, L.length = len := ⟨_, rfl⟩
    have HL := Lib.hid hlen
    rw [hlen] at hc hm hlL ⊢
    clear hlen hr hok hsm hRL hb1
    go_wp2_with fail
    go_loopw [6, 19] (fun v6 i wr => ∃ k : Nat, k ≤ len ∧ i = .int .i64 k ∧ Hid ((L.take k).all (fun x => decide (x.length ≤ 1)) = true) ∧ wr.ownsRow w1.heap.size 99 5 v6 (L.take k).flatten.length ((L.take k).flatten.flatMap Tv.cells) ∧ Below w1.heap.size w1 wr) (fun _ i _ => len - (intOf i).toNat)
    case atStart => exact ⟨0, Nat.zero_le _, rfl, rfl, World.ownsRow_nil _ _ _ _, Below.refl _ _⟩
    case round =>
      obtain ⟨k, hk, rfl, hall, hown, hB⟩ := hrel
      by_cases hlt : k < len
      · obtain ⟨x, hx⟩ : ∃ x, L[k]? = some x := ⟨L[k]'(by have := HL.out; omega), List.getElem?_eq_getElem _⟩
        have hne : L ≠ [] := fun e => by rw [e] at hx; cases hx
        obtain ⟨b, off, rfl, hi'⟩ := HR.out hne
        obtain ⟨vx, hc0, hT⟩ := hi' k x hx
        have hT1 := hT.below hB
        have c0 := kept hB hc0
        have hxne := HRL.out.ne x (List.mem_of_getElem? hx)
        obtain ⟨A', c', rfl, hc', hm', hr'⟩ := hT1
        obtain ⟨b', off', rfl, hi2⟩ := hr' hxne
        have HXM := Lib.hid hx
        have HX := Lib.hid (take_flatten_succ hx)
        have hfl := take_flatten_len (L := L) (k + 1)
        rw [HX.out, List.length_append] at hfl
        have hsz := hB.size
        clear hi' hne hc0 hT hx hr'
        by_cases hlong : 1 < x.length
        · have HN := Lib.hid (show VP.listP s.data.toList = .error 3 by
            rw [HOK.out, HALL.out, if_neg]
            rw [all_stop HXM.out (decide_eq_false (by omega))]
            simp)
          have HBF := Lib.hid (step_below HB1.out hB)
          clear hi2 hxne hown
          go_wp2_with fail
          exact bodyPost_ret (v := .tuple #[.slice none 0 0, .iface 32 (.int .i64 3)]) (by simp [results, Tryz.results98, go_sem]) rfl ⟨HBF.out, .inr ⟨3, rfl, HN.out, .inl rfl⟩⟩
        · obtain ⟨t, rfl⟩ : ∃ t, x = [t] := by
            rcases x with _ | ⟨t, _ | ⟨u, x⟩⟩
            · exact absurd rfl hxne
            · exact ⟨t, rfl⟩
            · simp at hlong
          have HAL := Lib.hid (all_take_succ (p := fun x : List Tv => decide (x.length ≤ 1)) hall.out HXM.out rfl)
          obtain ⟨t0, t1, t2, t3, t4⟩ := (hi2 0 t rfl).1
          rw [Nat.zero_mul, Nat.add_zero] at t0 t1 t2 t3 t4
          have HO := Lib.hid hown
          rw [List.length_singleton] at hc' hm' hfl c0
          clear hi2 hxne hlong
          go_wp2_with (at_builtin; refine wpList_append_own _ rfl _ _ 25 rfl w1.heap.size 99 i0 (.agg #[.string ⟨#[]⟩, .int .i64 0, .int .i64 0, .string ⟨#[]⟩, .string ⟨#[]⟩]) 5 64 Tryz.underlying25 hi hz0 hz1 hz2 rfl (by decide) _ _ _ rfl (HO.out.alloc _) ⟨wr.heap.size, 0, none⟩ 1 1 (Tv.cells ⟨t.n, t.op, t.e, t.u, t.r⟩) rfl rfl (cells_new _ _ _ _ _ _ _ rfl) (by simp [Value.oneCell', Tv.cells]) (by simp only [maxLen]; omega) (by omega) (by simp; omega) ?_; intro v' w7 hown' hgrow _)
          have HOW := Lib.hid hown'
          have HG := Lib.hid hgrow
          clear hown' hgrow
          go_roundw
          case rel =>
            refine ⟨k + 1, by omega, by go_num, HAL, ?_, (hB.alloc hB.size _).grown HG.out (by simp; omega) (fun g e => (HO.out.lt g e).1)⟩
            rw [HX.out, List.length_append, List.flatMap_append]
            exact HOW.out
          case measure => simp [intOf]; omega
      · obtain rfl : k = len := by omega
        have hfull : L.take k = L := by rw [← HL.out, List.take_length]
        rw [hfull] at hown
        have HSF := Lib.hid (slFr_own (B := w.heap.size) hown (by have := HB1.out.size; omega))
        have HTA := Lib.hid (termsAt_own hown (by omega) (fun t ht => by
          obtain ⟨x, hx, htx⟩ := List.mem_flatten.1 ht
          exact (HSM.out x hx t htx).ok))
        obtain ⟨A2, kk2, c2, rfl⟩ := row_shape hown
        have HBF := Lib.hid (step_below HB1.out hB)
        have HN := Lib.hid (show VP.listP s.data.toList = .ok (L.flatten.map Tv.tm) by
          have h1 := hall.out
          rw [hfull] at h1
          rw [HOK.out, HALL.out, if_pos h1])
        clear hown hfull hB hall
        go_wp2_with fail
        exact bodyPost_ret (v := .tuple #[.slice A2 kk2 c2, .nilIface]) (by simp [results, Tryz.results98, go_sem]) rfl ⟨HBF.out, .inl ⟨L.flatten, _, rfl, HN.out, HTA.out, HSF.out⟩⟩
  · have HB1 := Lib.hid hb1
    have HN := Lib.hid (show VP.listP s.data.toList = .error e by unfold VP.listP; rw [herr])
    clear herr hb1
    go_wp2_with fail
    exact bodyPost_ret (v := .tuple #[.slice none 0 0, .iface 32 (.int .i64 e)]) (by simp [results, Tryz.results98, go_sem]) rfl ⟨HB1.out, .inr ⟨e, rfl, HN.out, he⟩⟩
end Go.Proofs.YtodbbfgkclkpgaaGreatDoor

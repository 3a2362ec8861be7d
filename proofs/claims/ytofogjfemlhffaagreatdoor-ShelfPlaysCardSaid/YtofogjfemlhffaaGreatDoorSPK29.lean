/- The reference's Owners and Settings. · The reference's Settings and Drop. -/
import Derived.Test.YtofogjfemlhffaaGreatDoorSPK28
namespace Go.Proofs.YtofogjfemlhffaaGreatDoor
open Go Go.RowKit Go.Maps

set_option maxHeartbeats 4000000 in
set_option maxRecDepth 100000 in
theorem rowners_calls (r b0 b1 b2 : Nat) (Wm Dm Sm : Fm) (w : World) (h : RShAt w r b0 b1 b2 Wm Dm Sm) (hl : Wm.length ≤ 1000000) (hz : ∀ q n, getF Wm q = some n → n.size ≤ maxLen) : Calls Tryz.prog 24 #[.pointer (some ⟨r, 0, none⟩)] w fun E w' => ∃ l, OwnersR Wm l ∧ l.length ≤ Wm.length ∧ StrsIs l w E w' := by
  have c0 := h.c0
  have HM := Lib.hid h.m0
  have HZ := Lib.hid hz
  have hmm := @run_makeMap Tryz.prog
  have hb1 := below_alloc w (.map #[] 0)
  have hs1 := World.size_alloc w (.map #[] 0)
  have hset := setAt_new w
  obtain ⟨W1, hW1⟩ : ∃ W, w.alloc (.map #[] 0) = W := ⟨_, rfl⟩
  rw [hW1] at hb1 hs1 hset
  have hm1 := HM.out.keep (hb1.block _ HM.out.lt)
  have k0 := kept hb1 c0
  have HS1 := Lib.hid hset
  have HB1 := Lib.hid hb1
  clear h hz c0 hb1 hset
  go_enter Tryz.func24, Tryz.ntmps24
  go_upto_region 2 with fail
  (try rw [hW1])
  clear hW1
  go_wp2_with (at_range; refine wpList_rangeF _ rfl _ rfl b0 Wm rfl hm1 ?_; intro w5 hr5 hg5 hs5)
  go_frame
  obtain ⟨r1, hr1⟩ : ∃ r, W1.heap.size = r := ⟨_, rfl⟩
  rw [hr1] at hr5 ⊢
  obtain ⟨bs, hbs⟩ : ∃ b, w.heap.size = b := ⟨_, rfl⟩
  have HBS := Lib.hid hbs
  (try rw [hbs])
  have HR5 := Lib.hid hr5
  have HS5 := Lib.hid (show SetAt w5 bs 0 [] from hbs ▸ (HS1.out.keep (hg5.block _ HS1.out.lt (by simp))))
  have HB5 := Lib.hid (show Below w.heap.size w w5 from HB1.out.grown hg5 HB1.out.size (fun g e => by cases e))
  have HRL := Lib.hid (show b0 < bs ∧ bs < r1 by have := HM.out.lt; omega)
  have HSZ := Lib.hid (show r1 < w5.heap.size by omega)
  clear hr5 hg5 hs5 hm1 hr1 hbs k0 hs1 HS1 HB1
  go_loopw [5] (fun _ wr => ∃ (left : Lit → Bool) (cnt : Nat) (L : List ByteArray), L.length + cnt ≤ Wm.length ∧ Hid (RangesF wr b0 r1 Wm left cnt) ∧ Hid (SetAt wr bs L.length L) ∧ Hid (∀ n, n ∈ L ↔ ∃ q, getF Wm q = some n ∧ left (.string q.data.toList) = false) ∧ Hid (Below w.heap.size w wr) ∧ Hid (r1 < wr.heap.size)) (fun _ wr => wr.rangeLeft b0 r1)
  case atStart => exact ⟨_, _, [], by simp, HR5, HS5, Lib.hid (fun n => ⟨fun h => (by cases h), fun ⟨q, h1, h2⟩ => by rw [datF_has, h1] at h2; cases h2⟩), HB5, HSZ⟩
  case round =>
    obtain ⟨left, cnt, L, hnc, hrg, hset, hL, hB, hsz⟩ := hrel
    have hrgo := hrg.out
    go_wp2_with (at_next; refine wpList_nextF _ rfl _ rfl b0 r1 Wm left cnt rfl hrgo ?_ ?_)
    · intro hc0 hl0
      have HLA := Lib.hid (show ∀ n, n ∈ L ↔ ∃ q, getF Wm q = some n from fun n => by rw [hL.out]; exact ⟨fun ⟨q, h, _⟩ => ⟨q, h⟩, fun ⟨q, h⟩ => ⟨q, h, hl0 _⟩⟩)
      have hset0 := hset.out
      clear hl0 hrgo hL
      have ⟨wo, hwo⟩ : ∃ W, W = wr := ⟨_, rfl⟩
      subst hwo
      go_wp2_with (at_range; refine wpList_rangeS _ rfl _ rfl bs L.length L rfl hset0 ?_; intro w6 left6 cnt6 hr6 hlf6 hct6 hg6 hs6)
      go_frame
      obtain ⟨r2, hr2⟩ : ∃ r, wo.heap.size = r := ⟨_, rfl⟩
      rw [hr2] at hr6 ⊢
      have HR6 := Lib.hid hr6
      have HLF := Lib.hid hlf6
      have HB6 := Lib.hid (hB.out.grown hg6 hB.out.size (fun g e => by cases e))
      have HRL2 := Lib.hid (show bs < r2 ∧ bs < w.heap.size + 1 by have := hset.out.lt; have := HBS.out; omega)
      have HSZ2 := Lib.hid (show r2 < w6.heap.size by omega)
      have HR2B := Lib.hid (show w.heap.size ≤ r2 by have := hset.out.lt; have := HBS.out; omega)
      clear hr6 hg6 hs6 hlf6 hr2 hset0 hset hsz hrg hB
      go_loopw [6, 7] (fun v _ wr => ∃ (left : Lit → Bool) (cnt n c : Nat) (A : Option Addr) (K : List ByteArray), v = .slice A n c ∧ n + cnt ≤ L.length ∧ Hid (K.length = n) ∧ Hid (RangesS wr bs r2 L left cnt) ∧ Hid (wr.ownsRow (r2 + 1) 9 1 (.slice A n c) n (K.flatMap strC)) ∧ Hid (K.Nodup ∧ ∀ q : ByteArray, q ∈ K ↔ q ∈ L ∧ left (.string q.data.toList) = false) ∧ Hid (Below w.heap.size w wr) ∧ Hid (r2 < wr.heap.size)) (fun _ _ wr => wr.rangeLeft bs r2)
      case atStart => exact ⟨_, _, 0, 0, none, [], rfl, by omega, Lib.hid rfl, HR6, Lib.hid (World.ownsRow_nil _ _ _ _), Lib.hid ⟨List.nodup_nil, fun q => ⟨fun h => (by cases h), fun ⟨h1, h2⟩ => by rw [(HLF.out q).2 h1] at h2; cases h2⟩⟩, HB6, HSZ2⟩
      case round =>
        obtain ⟨left2, cnt2, n, c, A, K, rfl, hnc2, hn, hrg2, hrow, hK, hB2, hsz2⟩ := hrel
        have hrgo := hrg2.out
        go_wp2_with (at_next; refine wpList_nextS _ rfl _ rfl bs r2 L left2 cnt2 rfl hrgo ?_ ?_)
        · intro hc0 hl0
          have CS := Lib.hid (ssort_row (r2 + 1) (.slice A n c) K wr (by rw [hn.out]; exact hrow.out) (by rw [hn.out]; omega))
          have HOW := Lib.hid (show OwnersR Wm (sortB K) ∧ (sortB K).length ≤ Wm.length from ⟨⟨srt_sort hK.out.1, fun m => by rw [(sortB_perm K).mem_iff, hK.out.2, HLA.out, hl0]; simp⟩, by rw [sortB_len, hn.out]; omega⟩)
          clear hl0 hrgo
          go_wp2_with fail
          refine CS.out.mono ?_
          rintro E w9 ⟨rfl, hs9, hg9⟩
          have HS9 := Lib.hid hs9
          have HB9 := Lib.hid (hB2.out.grown hg9 hB2.out.size (fun g e => by have := (row_lt hrow.out e).1; have := HR2B.out; omega))
          clear hs9 hg9 CS
          go_wp2_with fail
          go_ret
          exact ⟨_, HOW.out.1, HOW.out.2, _, rfl, HS9.out, HB9.out⟩
        · intro x cc w7 cnt1 hxL hxs hlx hrg1 hlt1 hg1 hs1 hen
          have HL' := Lib.hid (gaths_step hK.out hxL hlx)
          have HR1 := Lib.hid hrg1
          have HE0 := Lib.hid hrg2.out.left_eq
          have HROW := Lib.hid (row_keep hrow.out fun g e => hg1.block g (row_lt hrow.out e).2 (fun e2 => by injection e2 with e2; have := (row_lt hrow.out e).1; omega))
          have HB7 := Lib.hid (hB2.out.grown hg1 hB2.out.size (fun g e => by injection e with e; have := HR2B.out; omega))
          have hsz7 : r2 < w7.heap.size := by have := hsz2.out; omega
          clear hxL hxs hlx hrg1 hg1 hs1 hrgo
          go_wp2_with (at_builtin; obtain ⟨i0, hi, hz0, hz1, hz2⟩ := info_parts info_string; refine wpList_append_own_at _ rfl _ _ 40 rfl (r2 + 1) 9 i0 (.string ⟨#[]⟩) 1 16 Tryz.underlying40 hi hz0 hz1 hz2 rfl (by decide) _ _ _ rfl (HROW.out.alloc _) ⟨w7.heap.size, 0, none⟩ 1 1 [.string x] rfl rfl (cell_one_new _ _ _) (by simp [Value.oneCell']) (by simp only [maxLen]; omega) (by omega) (by simp; omega) ?_; clear hi hz0 hz1 hz2; intro v10 w10 hown10 hgrow10 hnil10 hloc10; obtain ⟨A10, c10, rfl, _, _⟩ := own_sl hown10; have HO10 := Lib.hid hown10; have HGR10 := Lib.hid hgrow10; clear hown10 hgrow10 hnil10 hloc10)
          have hga := below_alloc w7 (.cells #[.string x] 9)
          have HRW := Lib.hid (show w10.ownsRow (r2 + 1) 9 1 (.slice A10 (n + 1) c10) (n + 1) ((K ++ [x]).flatMap strC) from by rw [List.flatMap_append]; exact HO10.out)
          have HNE := Lib.hid (show ∀ g, Value.ownBlock (.slice A n c) = some g → r2 < g from fun g e => by have := (row_lt HROW.out e).1; omega)
          have HR3 := Lib.hid (show RangesS w10 bs r2 L _ _ from (HR1.out.kept (World.grownBy_alloc w7 _ none) (by simp) (by simp)).kept HGR10.out (fun e => by have := HNE.out _ e.symm; have := HRL2.out.1; omega) (fun e => by have := HNE.out _ e.symm; omega))
          have HE1 := Lib.hid HR3.out.left_eq
          have HB10 := Lib.hid ((HB7.out.trans (hga.mono HB7.out.size)).grown HGR10.out (Nat.le_trans HB7.out.size hga.size) fun g e => by have := HNE.out g e; have := HR2B.out; omega)
          have HSZ10 := Lib.hid (show r2 < w10.heap.size from by have := HGR10.out.size; have := hga.size; omega)
          have HLN := Lib.hid (show (K ++ [x]).length = n + 1 by rw [List.length_append, hn.out]; rfl)
          clear hga HO10 HGR10
          go_roundw
          case rel => first | exact ⟨_, _, n + 1, c10, A10, _, rfl, by omega, HLN, HR3, HRW, HL', HB10, HSZ10⟩ | ((repeat apply Exists.intro); exact ⟨⟨_, _, n + 1, c10, A10, _, rfl, by omega, HLN, HR3, HRW, HL', HB10, HSZ10⟩, rfl⟩)
          case measure => rw [HE1.out, HE0.out]; exact hlt1
    · intro x cc w6 cnt1 hgx hlx hrg1 hlt1 hg1 hs1 hen
      have hss := hset.out.keep (hg1.block _ hset.out.lt (by intro e; injection e with e; have := HRL.out.2; omega))
      obtain ⟨k, W7, hk, hlook, hrun, hset7, ht⟩ := hss.add cc (HZ.out x cc hgx) (by unfold maxLen; omega) (by omega)
      have hrg7 : RangesF W7 b0 r1 Wm _ _ := hrg1.kept ht.grown (by intro e; injection e with e; have := HRL.out; omega) (by intro e; injection e with e; have := HRL.out; omega)
      have HR7 := Lib.hid hrg7
      have HS7 := Lib.hid (show SetAt W7 bs (L ++ [cc]).length (L ++ [cc]) from by rw [List.length_append]; exact hset7)
      have HL' := Lib.hid (show ∀ n, n ∈ L ++ [cc] ↔ ∃ q, getF Wm q = some n ∧ (left (.string q.data.toList) && !(Lit.string q.data.toList).sameKey (.string x.data.toList)) = false from fun n => by
        rw [List.mem_append, List.mem_singleton, hL.out]
        constructor
        · rintro (⟨q, h1, h2⟩ | rfl)
          · exact ⟨q, h1, by rw [h2]; rfl⟩
          · exact ⟨x, hgx, by rw [same_iff, decide_eq_true rfl]; simp⟩
        · rintro ⟨q, h1, h2⟩
          rw [same_iff] at h2
          by_cases e : q = x
          · subst e
            rw [hgx] at h1
            exact .inr (Option.some.inj h1).symm
          · rw [decide_eq_false e] at h2
            exact .inl ⟨q, h1, by simpa using h2⟩)
      have HB6 : Below w.heap.size w w6 := hB.out.grown hg1 hB.out.size (fun g e => by injection e with e; have := HRL.out; have := HBS.out; omega)
      have HB7 := Lib.hid (below_turned HB6 (by have := HBS.out; omega) HB6.size ht)
      have HSZ7 := Lib.hid (show r1 < W7.heap.size by have := hsz.out; have := turned_size ht; omega)
      have HE1 := Lib.hid hrg7.1.left_eq
      have HE0 := Lib.hid hrg.out.1.left_eq
      have HLN := Lib.hid (show (L ++ [cc]).length + cnt1 ≤ Wm.length by rw [List.length_append]; show L.length + 1 + cnt1 ≤ _; omega)
      have hk2 : k ≤ 1000000 := by omega
      clear hgx hlx hrg1 hg1 hs1 hrgo hss hset7 ht hrg7 HB6 hL hset hrg
      go_wp2_with fail
      go_roundw
      case rel => first | exact ⟨_, _, _, HLN.out, HR7, HS7, HL', HB7, HSZ7⟩ | ((repeat apply Exists.intro); exact ⟨⟨_, _, _, HLN.out, HR7, HS7, HL', HB7, HSZ7⟩, rfl⟩)
      case measure => rw [HE1.out, HE0.out]; exact hlt1
end Go.Proofs.YtofogjfemlhffaaGreatDoor

namespace Go.Proofs.YtofogjfemlhffaaGreatDoor
open Go Go.RowKit Go.Maps

/-- those that are settings -/
def setsR (Sm : Fm) (l : List ByteArray) : List ByteArray := l.filter fun q => (getF Sm q).isSome
theorem setsR_succ {Sm : Fm} {l : List ByteArray} {k : Nat} {q : ByteArray} (h : l[k]? = some q) : setsR Sm (l.take (k + 1)) = setsR Sm (l.take k) ++ (if (getF Sm q).isSome = true then [q] else []) := by
  unfold setsR
  rw [List.take_add_one, h, List.filter_append]
  congr 1
  by_cases e : (getF Sm q).isSome = true
  · rw [if_pos e]; simp [e]
  · rw [if_neg e]; simp [e]
theorem setsR_len (Sm : Fm) (l : List ByteArray) (k : Nat) : (setsR Sm (l.take k)).length ≤ k := by
  have h1 := List.length_filter_le (fun q => (getF Sm q).isSome) (l.take k)
  rw [List.length_take] at h1
  unfold setsR
  omega
theorem strs_at {W : World} {v : Value} {l : List ByteArray} (h : StrsAt W v l) : ∃ A c, v = .slice A l.length c ∧ l.length ≤ c ∧ ∀ (k : Nat) (q : ByteArray), l[k]? = some q → ∃ b o, A = some ⟨b, o, none⟩ ∧ W.cell? ⟨b, o + k, none⟩ = some (.string q) := by
  obtain ⟨A, c, hv, hc, _, hi⟩ := h.open
  refine ⟨A, c, hv, hc, fun k q hk => ?_⟩
  obtain ⟨b, o, hA, hcell⟩ := hi (fun e => by rw [e] at hk; simp at hk)
  exact ⟨b, o, hA, hcell k q hk⟩

set_option maxHeartbeats 4000000 in
set_option maxRecDepth 100000 in
theorem rsets_calls (r b0 b1 b2 : Nat) (Wm Dm Sm : Fm) (nm : ByteArray) (w : World) (h : RShAt w r b0 b1 b2 Wm Dm Sm) (hl : Wm.length ≤ 1000000) (hz : ∀ q n, getF Wm q = some n → q.size ≤ maxLen) : Calls Tryz.prog 46 #[.pointer (some ⟨r, 0, none⟩), .string nm] w (StrsIs (setsR Sm (pathsR Wm nm)) w) := by
  have H := Lib.hid h
  have HPZ := Lib.hid (show ∀ q ∈ pathsR Wm nm, q.size ≤ maxLen from fun q hq => hz q nm ((mem_pathsR h.m0.2).1 hq))
  have CP := Lib.hid (rpaths_calls r b0 b1 b2 Wm Dm Sm nm w h hl)
  have HPL := Lib.hid (show (pathsR Wm nm).length ≤ 1000000 from by unfold pathsR; rw [List.length_map]; exact Nat.le_trans (List.length_filter_le _ _) hl)
  obtain ⟨P, hP⟩ : ∃ P, pathsR Wm nm = P := ⟨_, rfl⟩
  rw [hP] at HPZ CP HPL ⊢
  clear h hz hP
  go_enter Tryz.func46, Tryz.ntmps46
  go_wp2_with fail
  refine CP.out.mono ?_
  rintro E w1 ⟨v1, rfl, hs1, hb1⟩
  obtain ⟨A1, c1, rfl, _, hi1⟩ := strs_at hs1
  obtain ⟨pl, hpl⟩ : ∃ n, P.length = n := ⟨_, rfl⟩
  have HL := Lib.hid hpl
  have hpl1 : pl ≤ 1000000 := by have := HPL.out; omega
  have HI1 := Lib.hid hi1
  have HB1 := Lib.hid hb1
  have H1 := Lib.hid (H.out.keep hb1)
  rw [hpl]
  clear CP hs1 hi1 hb1 hpl
  go_wp2_with fail
  go_loopw [5, 14] (fun v i wr => ∃ (k n c : Nat) (A : Option Addr), k ≤ pl ∧ i = .int .i64 k ∧ v = .slice A n c ∧ Hid ((setsR Sm (P.take k)).length = n) ∧ Hid (wr.ownsRow w1.heap.size 9 1 (.slice A n c) n ((setsR Sm (P.take k)).flatMap strC)) ∧ Hid (Below w1.heap.size w1 wr)) (fun _ i _ => pl - (intOf i).toNat)
  case atStart => exact ⟨0, 0, 0, none, Nat.zero_le _, rfl, rfl, Lib.hid rfl, Lib.hid (World.ownsRow_nil _ _ _ _), Lib.hid (Below.refl _ _)⟩
  case round =>
    obtain ⟨k, n, c, A, hk, rfl, rfl, hn, hrow, hB⟩ := hrel
    by_cases hlt : k < pl
    · obtain ⟨q, hq⟩ : ∃ q, P[k]? = some q := ⟨P[k]'(by have := HL.out; omega), List.getElem?_eq_getElem _⟩
      obtain ⟨bq, oq, rfl, hcq⟩ := HI1.out k q hq
      have q1 := kept hB.out hcq
      have HK := Lib.hid (H1.out.keep hB.out)
      have c2 := HK.out.c2
      have hlook := (HK.out.m2.look q (HPZ.out q (List.mem_of_getElem? hq))).1
      have hsu := setsR_succ (Sm := Sm) hq
      obtain ⟨sv, hsv⟩ : ∃ sv, (getF Sm q).getD ⟨#[]⟩ = sv := ⟨_, rfl⟩
      obtain ⟨sb, hsb⟩ : ∃ sb, (getF Sm q).isSome = sb := ⟨_, rfl⟩
      rw [hsv, hsb] at hlook
      rw [hsb] at hsu
      have HSU := Lib.hid hsu
      have i1 : (k : Int) < pl := by omega
      have i2 : (0 : Int) ≤ k := by omega
      have hnk : n ≤ 1000000 := by have := setsR_len Sm P k; have := hn.out; omega
      clear hq hcq hsv hsb hsu
      cases sb with
      | false =>
        have HSE := Lib.hid (show setsR Sm (P.take (k + 1)) = setsR Sm (P.take k) from by rw [HSU.out]; simp)
        go_wp2_with fail
        go_roundw
        case rel => first | exact ⟨k + 1, n, c, A, by omega, by go_num, rfl, by rw [HSE.out]; exact hn, by rw [HSE.out]; exact hrow, hB⟩ | ((repeat apply Exists.intro); exact ⟨⟨k + 1, n, c, A, by omega, by go_num, rfl, by rw [HSE.out]; exact hn, by rw [HSE.out]; exact hrow, hB⟩, rfl⟩)
        case measure => simp [intOf]; omega
      | true =>
        have HSE := Lib.hid (show setsR Sm (P.take (k + 1)) = setsR Sm (P.take k) ++ [q] from by rw [HSU.out]; simp)
        have hszr := hB.out.size
        go_wp2_with (at_builtin; obtain ⟨i0, hi, hz0, hz1, hz2⟩ := info_parts info_string; refine wpList_append_own_at _ rfl _ _ 40 rfl w1.heap.size 9 i0 (.string ⟨#[]⟩) 1 16 Tryz.underlying40 hi hz0 hz1 hz2 rfl (by decide) _ _ _ rfl (hrow.out.alloc _) ⟨wr.heap.size, 0, none⟩ 1 1 [.string q] rfl rfl (cell_one_new _ _ _) (by simp [Value.oneCell']) (by simp only [maxLen]; omega) (by omega) (by simp; omega) ?_; clear hi hz0 hz1 hz2; intro v10 w10 hown10 hgrow10 hnil10 hloc10; obtain ⟨A10, c10, rfl, _, _⟩ := own_sl hown10; have HO10 := Lib.hid hown10; have HGR10 := Lib.hid hgrow10; clear hown10 hgrow10 hnil10 hloc10)
        have hga := below_alloc wr (.cells #[.string q] 9)
        have HRW := Lib.hid (show w10.ownsRow w1.heap.size 9 1 (.slice A10 (n + 1) c10) (n + 1) ((setsR Sm (P.take (k + 1))).flatMap strC) from by rw [HSE.out, List.flatMap_append]; exact HO10.out)
        have HB10 := Lib.hid ((hB.out.trans (hga.mono hB.out.size)).grown HGR10.out (Nat.le_trans hB.out.size hga.size) fun g e => (row_lt hrow.out e).1)
        have HLN := Lib.hid (show (setsR Sm (P.take (k + 1))).length = n + 1 by rw [HSE.out, List.length_append, hn.out]; rfl)
        clear hga HO10 HGR10
        go_roundw
        case rel => first | exact ⟨k + 1, n + 1, c10, A10, by omega, by go_num, rfl, HLN, HRW, HB10⟩ | ((repeat apply Exists.intro); exact ⟨⟨k + 1, n + 1, c10, A10, by omega, by go_num, rfl, HLN, HRW, HB10⟩, rfl⟩)
        case measure => simp [intOf]; omega
    · obtain rfl : k = pl := by omega
      have HEND := Lib.hid (show StrsAt wr (.slice A n c) (setsR Sm P) from by
        have e : P.take k = P := List.take_of_length_le (by have := HL.out; omega)
        have h1 := hrow.out
        have h2 := hn.out
        rw [e] at h1 h2
        have := (row_strsUp (L := setsR Sm P) (by rw [h2]; exact h1) (by rw [h2]; have := setsR_len Sm P k; rw [e] at this; omega)).1
        exact this)
      go_wp2_with fail
      go_ret
      exact ⟨_, rfl, HEND.out, HB1.out.trans (hB.out.mono HB1.out.size)⟩

theorem rdrop_next {all : Bool} {P : List ByteArray} {k : Nat} {q : ByteArray} (hq : P[k]? = some q) (W D S : Fm) : rdropL all (P.drop k) W D S = if (!(getF S q).isNone && !all) = true then rdropL all (P.drop (k + 1)) W D S else rdropL all (P.drop (k + 1)) (delF W q) (delF D q) (delF S q) := by
  rw [List.drop_eq_getElem_cons (List.getElem?_eq_some_iff.1 hq).1, rdropL, (List.getElem?_eq_some_iff.1 hq).2]
def DropR (r b0 b1 b2 : Nat) (x : Fm × Fm × Fm) (w : World) (E : Ending) (w' : World) : Prop := E = .returned (.tuple #[]) ∧ RShAt w' r b0 b1 b2 x.1 x.2.1 x.2.2 ∧ ROff w.heap.size b0 b1 b2 w w'

set_option maxHeartbeats 4000000 in
set_option maxRecDepth 100000 in
theorem rdrop_calls (r b0 b1 b2 : Nat) (Wm Dm Sm : Fm) (nm : ByteArray) (all : Bool) (w : World) (h : RShAt w r b0 b1 b2 Wm Dm Sm) (hl : Wm.length ≤ 1000000) (hz : ∀ q n, getF Wm q = some n → q.size ≤ maxLen) : Calls Tryz.prog 15 #[.pointer (some ⟨r, 0, none⟩), .string nm, .bool all] w (DropR r b0 b1 b2 (rdropL all (pathsR Wm nm) Wm Dm Sm) w) := by
  have H := Lib.hid h
  have HPZ := Lib.hid (show ∀ q ∈ pathsR Wm nm, q.size ≤ maxLen from fun q hq => hz q nm ((mem_pathsR h.m0.2).1 hq))
  have CP := Lib.hid (rpaths_calls r b0 b1 b2 Wm Dm Sm nm w h hl)
  have HPL := Lib.hid (show (pathsR Wm nm).length ≤ 1000000 from by unfold pathsR; rw [List.length_map]; exact Nat.le_trans (List.length_filter_le _ _) hl)
  obtain ⟨P, hP⟩ : ∃ P, pathsR Wm nm = P := ⟨_, rfl⟩
  rw [hP] at HPZ CP HPL ⊢
  clear h hz hP hl
  go_enter Tryz.func15, Tryz.ntmps15
  go_wp2_with fail
  refine CP.out.mono ?_
  rintro E w1 ⟨v1, rfl, hs1, hb1⟩
  obtain ⟨A1, c1, rfl, _, hi1⟩ := strs_at hs1
  obtain ⟨pl, hpl⟩ : ∃ n, P.length = n := ⟨_, rfl⟩
  have HL := Lib.hid hpl
  have hpl1 : pl ≤ 1000000 := by have := HPL.out; omega
  have HS1 := Lib.hid hs1
  have HB1 := Lib.hid hb1
  have H1 := Lib.hid (H.out.keep hb1)
  rw [hpl] at HS1 ⊢
  clear CP hs1 hi1 hb1 hpl
  go_wp2_with fail
  go_loopw [14] (fun i wr => ∃ (k : Nat) (W2 D2 S2 : Fm), k ≤ pl ∧ i = .int .i64 k ∧ Hid (RShAt wr r b0 b1 b2 W2 D2 S2) ∧ Hid (rdropL all P Wm Dm Sm = rdropL all (P.drop k) W2 D2 S2) ∧ Hid (StrsAt wr (.slice A1 pl c1) P) ∧ Hid (ROff w.heap.size b0 b1 b2 w wr)) (fun i _ => pl - (intOf i).toNat)
  case atStart => exact ⟨0, Wm, Dm, Sm, Nat.zero_le _, rfl, H1, Lib.hid rfl, HS1, Lib.hid (.of HB1.out)⟩
  case round =>
    obtain ⟨k, W2, D2, S2, hk, rfl, hR, hT, hS, hO⟩ := hrel
    by_cases hlt : k < pl
    · obtain ⟨q, hq⟩ : ∃ q, P[k]? = some q := ⟨P[k]'(by have := HL.out; omega), List.getElem?_eq_getElem _⟩
      obtain ⟨Aq, cq, hvq, _, hiq⟩ := strs_at hS.out
      rw [HL.out] at hvq
      injection hvq with e1 _ e3
      subst e1 e3
      obtain ⟨bq, oq, rfl, hcq⟩ := hiq k q hq
      have hqz := HPZ.out q (List.mem_of_getElem? hq)
      have c0 := hR.out.c0
      have c1' := hR.out.c1
      have c2 := hR.out.c2
      have hlook := (hR.out.m2.look q hqz).1
      have hnx := rdrop_next (all := all) hq W2 D2 S2
      obtain ⟨sv, hsv⟩ : ∃ sv, (getF S2 q).getD ⟨#[]⟩ = sv := ⟨_, rfl⟩
      obtain ⟨sb, hsb⟩ : ∃ sb, (getF S2 q).isSome = sb := ⟨_, rfl⟩
      rw [hsv, hsb] at hlook
      rw [show (!(getF S2 q).isNone) = sb from by rw [← hsb]; cases getF S2 q <;> rfl] at hnx
      -- the three that go
      obtain ⟨X1, hr1, hm1, ht1⟩ := hR.out.m1.drop q hqz 0
      have R1 := hR.out.turn1 ht1 hm1
      obtain ⟨X2, hr2, hm2, ht2⟩ := R1.m2.drop q hqz 0
      have R2 := R1.turn2 ht2 hm2
      obtain ⟨X3, hr3, hm3, ht3⟩ := R2.m0.drop q hqz 0
      have R3 := Lib.hid (R2.turn0 ht3 hm3)
      have O3 := Lib.hid (hO.out.trans (((ROff.turn (n := w.heap.size) (b0 := b0) (b1 := b1) (b2 := b2) ht1 (.inr (.inl rfl))).trans (ROff.turn ht2 (.inr (.inr rfl)))).trans (ROff.turn ht3 (.inl rfl))))
      have S3 := Lib.hid (show StrsAt X3 (.slice (some ⟨bq, oq, none⟩) pl c1) P from strs_cells (strs_cells (strs_cells hS.out fun a u => map_cell hR.out.m1 ht1) fun a u => map_cell R1.m2 ht2) fun a u => map_cell R2.m0 ht3)
      have d1 := R1.c2
      have d2 := R2.c0
      have HNX := Lib.hid hnx
      have HT := Lib.hid (hT.out.trans hnx)
      have i1 : (k : Int) < pl := by omega
      have i2 : (0 : Int) ≤ k := by omega
      clear hq hiq hsv hsb hnx hm1 ht1 R1 hm2 ht2 R2 hm3 ht3 hT
      cases sb with
      | false =>
        go_wp2_with fail
        go_roundw
        case rel => first | exact ⟨k + 1, _, _, _, by omega, by go_num, R3, Lib.hid (by rw [HT.out]; simp), S3, O3⟩ | ((repeat apply Exists.intro); exact ⟨⟨k + 1, _, _, _, by omega, by go_num, R3, Lib.hid (by rw [HT.out]; simp), S3, O3⟩, rfl⟩)
        case measure => simp [intOf]; omega
      | true =>
        cases all with
        | true =>
          go_wp2_with fail
          go_roundw
          case rel => first | exact ⟨k + 1, _, _, _, by omega, by go_num, R3, Lib.hid (by rw [HT.out]; simp), S3, O3⟩ | ((repeat apply Exists.intro); exact ⟨⟨k + 1, _, _, _, by omega, by go_num, R3, Lib.hid (by rw [HT.out]; simp), S3, O3⟩, rfl⟩)
          case measure => simp [intOf]; omega
        | false =>
          go_wp2_with fail
          go_roundw
          case rel => first | exact ⟨k + 1, W2, D2, S2, by omega, by go_num, hR, Lib.hid (by rw [HT.out]; simp), hS, hO⟩ | ((repeat apply Exists.intro); exact ⟨⟨k + 1, W2, D2, S2, by omega, by go_num, hR, Lib.hid (by rw [HT.out]; simp), hS, hO⟩, rfl⟩)
          case measure => simp [intOf]; omega
    · obtain rfl : k = pl := by omega
      have HEND := Lib.hid (show rdropL all P Wm Dm Sm = (W2, D2, S2) from by rw [hT.out, List.drop_eq_nil_of_le (by have := HL.out; omega)]; rfl)
      go_wp2_with fail
      refine bodyPost_end (results_none rfl _ _ _) rfl ?_
      exact ⟨rfl, by rw [HEND.out]; exact hR.out, hO.out⟩
end Go.Proofs.YtofogjfemlhffaaGreatDoor

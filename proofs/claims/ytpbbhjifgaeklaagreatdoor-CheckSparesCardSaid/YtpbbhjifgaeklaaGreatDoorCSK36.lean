/- check.Needs: the walk. -/
import Derived.Test.YtpbbhjifgaeklaaGreatDoorCSK29
import Derived.Test.YtpbbhjifgaeklaaGreatDoorCSK35
import Derived.Deep.LoopGhost
import Derived.Deep.RegionHeld
namespace Go.Proofs.YtpbbhjifgaeklaaGreatDoor
open Go Go.RowKit
open TJ (leftN missN nextN goneN goneAll needsN GoneOk Grows hasN srt)

set_option maxHeartbeats 8000000 in
set_option maxRecDepth 100000 in
theorem needs_calls (v : Value) (ks : List Kv) (which : Nat) (w : World) (h : KnownsAt w v ks) (hok : KsOk ks) (hwh : which < ks.length) :
    Calls Tryz.prog 36 #[v, .int .i64 which] w fun E w' => ∃ v', E = .returned v' ∧ NatsAt w' v' (needsK ks which) ∧ Below w.heap.size w w' := by
  have hkn := Lib.hid h
  obtain ⟨A, c, rfl, hc, hm, hr⟩ := h
  obtain ⟨kl, hkl⟩ : ∃ kl, ks.length = kl := ⟨_, rfl⟩
  obtain ⟨bk, ok, rfl, hki⟩ := hr (fun e => by rw [e] at hwh; simp at hwh)
  have HKL := Lib.hid hkl
  have HKI := Lib.hid hki
  have HOK := Lib.hid hok
  have hkl40 : kl ≤ 40 := by have := hok.len; omega
  have HGR := Lib.hid (ask_grows ks)
  rw [hkl] at hc hm hwh hkn ⊢
  have hG0 : GoneOk (askK ks) which [which] := ⟨by simp, ⟨[], rfl⟩, fun i hi => by rw [List.mem_singleton] at hi; rw [hi]; show which < ks.length; omega, fun i hi => by rw [List.mem_singleton] at hi; exact .inl hi⟩
  have HG0 := Lib.hid hG0
  have HALL := Lib.hid (TJ.goneAll_ok (A := askK ks) (which := which) (ask_grows ks) (by show which < ks.length; omega))
  -- the first three boxes
  have hb1 := below_alloc w (.cells #[.slice (some ⟨bk, ok, none⟩) kl c] 73)
  have hx1 := blk_new 73 w #[.slice (some ⟨bk, ok, none⟩) kl c]
  obtain ⟨W1, hW1⟩ : ∃ W, w.alloc (.cells #[.slice (some ⟨bk, ok, none⟩) kl c] 73) = W := ⟨_, rfl⟩
  rw [hW1] at hb1 hx1
  have hs1 : W1.heap.size = w.heap.size + 1 := by rw [← hW1]; exact World.size_alloc _ _
  have HB1 := Lib.hid hb1
  have HX1 := Lib.hid hx1
  have k0 : W1.cell? ⟨w.heap.size, 0, none⟩ = some (.slice (some ⟨bk, ok, none⟩) kl c) := hx1.cell rfl
  clear hkl hki hr hok hG0 hb1 hx1
  go_enter Tryz.func36, Tryz.ntmps36
  go_upto_region 1 with fail
  go_upto_region 2 with fail
  clear k0 hW1
  obtain ⟨x5, hx5⟩ : ∃ x, w.heap.size + 1 + 1 = x := ⟨_, rfl⟩
  rw [hx5]
  have hb2 := below_alloc W1 (.cells #[.int .i64 which] 3)
  have hx2 := blk_new 3 W1 #[.int .i64 which]
  obtain ⟨W2, hW2⟩ : ∃ W, W1.alloc (.cells #[.int .i64 which] 3) = W := ⟨_, rfl⟩
  rw [hW2] at hb2 hx2 ⊢
  have hs2 : W2.heap.size = w.heap.size + 2 := by rw [← hW2, World.size_alloc, hs1]
  rw [hs1] at hx2
  have hb3 := below_alloc W2 (.cells #[.slice (some ⟨w.heap.size + 1, 0, none⟩) 1 1] 40)
  have hx3 := blk_new 40 W2 #[.slice (some ⟨w.heap.size + 1, 0, none⟩) 1 1]
  obtain ⟨W3, hW3⟩ : ∃ W, W2.alloc (.cells #[.slice (some ⟨w.heap.size + 1, 0, none⟩) 1 1] 40) = W := ⟨_, rfl⟩
  rw [hW3] at hb3 hx3 ⊢
  rw [hs2] at hx3
  have HG3 := Lib.hid (show GoneSt x5 w.heap.size (.slice (some ⟨bk, ok, none⟩) kl c) [which] 1 (some ⟨w.heap.size + 1, 0, none⟩) 1 W3 from hx5 ▸ gone_first ((HX1.out.keep hb2).keep hb3) (hx2.keep hb3) hx3)
  have HB3 := Lib.hid ((HB1.out.trans (hb2.mono HB1.out.size)).trans (hb3.mono (Nat.le_trans HB1.out.size hb2.size)))
  clear hx5 hW2 hW3 hs1 hs2 hb2 hx2 hb3 hx3 HB1 HX1
  go_wp2_with fail
  go_loopg [6] (kl + 1) (fun f v6 wr => ∃ (ch : Bool) (gone : List Nat) (gl c' : Nat) (Av : Option Addr), v6 = .bool ch ∧ gl ≤ kl ∧ Hid (gone.length = gl) ∧ Hid (GoneSt x5 w.heap.size (.slice (some ⟨bk, ok, none⟩) kl c) gone gl Av c' wr) ∧ Hid (GoneOk (askK ks) which gone) ∧ Hid (Below w.heap.size w wr) ∧ Hid (ch = true → kl < gl + f) ∧ Hid (goneAll (askK ks) which = if ch = true then goneN (askK ks) f gone else gone))
  case atStart => exact ⟨true, [which], 1, 1, _, rfl, by omega, Lib.hid rfl, HG3, HG0, HB3, Lib.hid (fun _ => by omega), Lib.hid (by rw [if_pos rfl]; show goneN _ (ks.length + 1) _ = _; rw [HKL.out])⟩
  case round =>
    obtain ⟨ch, gone, gl, c', Av, rfl, hglk, hgl, hG, hGo, hB, hf, hT⟩ := hrel
    have ⟨wo, hwo⟩ : ∃ W, W = wr := ⟨_, rfl⟩
    subst hwo
    cases ch with
    | false =>
      have HT3 := Lib.hid (hT.out.trans (if_neg (by simp)))
      have k5 : wo.cell? ⟨x5, 0, none⟩ = some (.slice Av gl c') := hG.out.bx.cell rfl
      obtain ⟨rest, hrest⟩ := hGo.out.hd
      have hgl1 : rest.length + 1 = gl := by rw [← hgl.out, hrest]; rfl
      rcases hG.out.row.2 with ⟨_, h0⟩ | ⟨g, cap, cur, hv, hBg, hbk, q1, q2, q3, q4⟩
      · omega
      injection hv with a1 _ a3
      subst a1 a3
      have HBG := Lib.hid hBg
      have HND := Lib.hid (show needsK ks which = srt rest from by unfold needsK needsN; rw [HT3.out, hrest]; rfl)
      by_cases h1 : gl = 1
      · subst h1
        obtain rfl : rest = [] := List.eq_nil_of_length_eq_zero (by omega)
        clear hbk q3 q4 hrest hBg hG hf hT
        have CS := Lib.hid (fun (p : Option Addr) (cc : Nat) => Tryz.slices_Sort_int_none p cc wo)
        have HN0 := Lib.hid (fun (p : Option Addr) (cc : Nat) => show ∃ v', Ending.returned (.slice p 0 cc) = .returned v' ∧ NatsAt wo v' (needsK ks which) ∧ Below w.heap.size w wo from ⟨_, rfl, by rw [HND.out, show srt [] = [] from by simp [srt]]; exact ⟨p, cc, rfl, Nat.zero_le _, by decide, fun h => absurd rfl h⟩, hB.out⟩)
        by_cases h2 : c' = 1
        · subst h2
          clear q1 q2 hgl1
          go_wp2_with fail
          refine (CS.out _ _).mono ?_
          rintro E w1 ⟨rfl, rfl⟩
          clear CS
          go_wp2_with fail
          go_ret
          exact HN0.out _ _
        · have e1 : (1 : Int) ≤ c' := by omega
          clear hgl1
          go_wp2_with fail
          refine (CS.out _ _).mono ?_
          rintro E w1 ⟨rfl, rfl⟩
          clear CS
          go_wp2_with fail
          go_ret
          exact HN0.out _ _
      · have e1 : (1 : Int) ≤ gl := by omega
        have e2 : (gl : Int) ≤ c' := by omega
        have hrl : rest.length = gl - 1 := by omega
        have CS := sortO_calls g 1 (c' - 1) rest wo cur _ hbk (by rw [q3]; omega) (by omega) (fun j x hj => by
          have h5 : (List.take (gl * 1) cur.toList)[1 + j]? = (List.flatMap natC gone)[1 + j]? := by rw [q4]
          have hjl : j < rest.length := (List.getElem?_eq_some_iff.1 hj).1
          rw [List.getElem?_take_of_lt (by omega), Array.getElem?_toList, flat_nats, List.getElem?_map, hrest, Nat.add_comm 1 j, List.getElem?_cons_succ, hj] at h5
          rw [Nat.add_comm 1 j]
          exact h5) (by omega)
        rw [hrl] at CS
        have CS := Lib.hid CS
        clear hgl1 hrl hbk q3 q4 hrest hBg hG hf hT
        go_wp2_with fail
        refine CS.out.mono ?_
        rintro E w1 ⟨rfl, hn1, hg1⟩
        have HN1 := Lib.hid hn1
        have HB1 := Lib.hid (hB.out.grown hg1 hB.out.size (fun k e => by injection e with e; have := HBG.out; omega))
        clear CS hn1 hg1 k5
        go_wp2_with fail
        go_ret
        exact ⟨_, rfl, by rw [HND.out]; exact HN1.out, HB1.out⟩
    | true =>
      obtain _ | f := gk
      · exact absurd (hf.out rfl) (by omega)
      have HF := Lib.hid (hf.out rfl)
      have HT2 := Lib.hid (hT.out.trans (if_pos rfl))
      have CA := Lib.hid (fun (W : World) (hb : Below wo.heap.size wo W) (k : Nat) (kv : Kv) (hk : ks[k]? = some kv) => needs1_calls x5 w.heap.size k bk ok kl c (.slice Av gl c') gone kv W ((hG.out.keep hb).bx.cell rfl) ((hG.out.keep hb).lx.cell rfl) ((hG.out.keep hb).nats hgl.out (by omega)) (by have := (List.getElem?_eq_some_iff.1 hk).1; have := HKL.out; omega) (((HKI.out k kv hk).below hB.out).below hb))
      have k0 : wo.cell? ⟨w.heap.size, 0, none⟩ = some (.slice (some ⟨bk, ok, none⟩) kl c) := hG.out.lx.cell rfl
      clear hf hT
      go_wp2_with fail
      clear k0
      go_loopw [8, 24] (fun v i wq => ∃ (k1 n' c2 : Nat) (A' : Option Addr) (xs : List Value), k1 ≤ kl ∧ i = .int .i64 k1 ∧ v = .slice A' n' c2 ∧ Hid ((offersT ks (leftN (askK ks) gone) k1).length = n') ∧ Hid (wq.ownsRow wo.heap.size 84 5 (.slice A' n' c2) n' xs) ∧ Hid (OffersRow w (offersT ks (leftN (askK ks) gone) k1) xs) ∧ Hid (Below wo.heap.size wo wq)) (fun _ i _ => kl - (intOf i).toNat)
      case atStart => exact ⟨0, 0, 0, none, [], Nat.zero_le _, rfl, rfl, Lib.hid rfl, Lib.hid (World.ownsRow_nil _ _ _ _), Lib.hid ⟨rfl, fun i o ho => by simp [offersT] at ho⟩, Lib.hid (Below.refl _ _)⟩
      case round =>
        obtain ⟨k1, n', c2, A', xs, hk1, rfl, rfl, hn, hrow, hxr, hBq⟩ := hrel
        by_cases hlt : k1 < kl
        · obtain ⟨kv, hkv⟩ : ∃ kv, ks[k1]? = some kv := ⟨ks[k1]'(by have := HKL.out; omega), List.getElem?_eq_getElem _⟩
          obtain ⟨A1, A2, A3, A4, A5, A6, A7, A8, A9, m1, m2, m3, m4, m5, m6, m7, m8, m9, c1, c2', c3, c4, c5, c6, c7, c8, c9, K⟩ := (HKI.out k1 kv hkv).open
          have hBw := hB.out.trans (hBq.out.mono hB.out.size)
          have HBw := Lib.hid hBw
          have HK := Lib.hid (fun (W : World) (hb : Below w.heap.size w W) => And.intro (kept hb K.p0) (And.intro (kept hb K.p1) (And.intro (kept hb K.p2) (And.intro (kept hb K.p3) (And.intro (kept hb K.p4) (And.intro (kept hb K.p5) (And.intro (kept hb K.p6) (And.intro (kept hb K.p7) (And.intro (kept hb K.p8) (And.intro (kept hb K.p9) (And.intro (kept hb K.p10) (And.intro (kept hb K.p11) (kept hb K.p12)))))))))))))
          have HTP := Lib.hid K.d6
          have hws := offers_succ (leftN (askK ks) gone) hkv
          have CK := Lib.hid (fun (W : World) (hb : Below wo.heap.size wo W) => CA.out W hb k1 kv hkv)
          rw [left_eq hkv] at hws
          obtain ⟨ab, hab⟩ : ∃ ab, (!(hasN gone k1) && worksB kv.st) = ab := ⟨_, rfl⟩
          rw [hab] at hws CK
          have HWS := Lib.hid hws
          have CO := Lib.hid (fun (W : World) => offer_calls kv.p.n kv.p.u kv.p.r kv.p.e A1 A2 A3 A4 A5 A6 A7 A8 A9 m1 m2 m3 m4 m5 m6 m7 m8 m9 c1 c2' c3 c4 c5 c6 c7 c8 c9 W)
          have hnb : n' ≤ 40 := by have := offers_len ks (leftN (askK ks) gone) k1; have := hn.out; omega
          clear hkv K hws hab hBw
          go_wp2_with fail
          refine (CK.out _ hBq.out).mono ?_
          rintro E w6 ⟨rfl, hb6⟩
          have HBq6 := Lib.hid (hBq.out.trans (hb6.mono hBq.out.size))
          have HBw6 := Lib.hid (HBw.out.trans (hb6.mono HBw.out.size))
          have HROW6 := Lib.hid (row_keep hrow.out fun g e => hb6.block g (row_lt hrow.out e).2)
          clear hb6 CK hrow hBq HBw
          cases ab with
          | false =>
            have HWE := Lib.hid (show offersT ks (leftN (askK ks) gone) (k1 + 1) = offersT ks (leftN (askK ks) gone) k1 from by rw [HWS.out]; simp)
            go_wp2_with fail
            go_roundw
            case rel => exact ⟨k1 + 1, n', c2, A', xs, by omega, by go_num, rfl, by rw [HWE.out]; exact hn, HROW6, by rw [HWE.out]; exact hxr, HBq6⟩
            case measure => simp [intOf]; omega
          | true =>
            have HWE := Lib.hid (show offersT ks (leftN (askK ks) gone) (k1 + 1) = offersT ks (leftN (askK ks) gone) k1 ++ [kv.offer] from by rw [HWS.out]; simp)
            have HX2 := Lib.hid (hxr.out.append (offersRow_one (o := kv.offer) HTP.out))
            obtain ⟨p0, p1, p2, p3, p4, p5, p6, p7, p8, p9, p10, p11, p12⟩ := HK.out _ HBw6.out
            have k0 : w6.cell? ⟨w.heap.size, 0, none⟩ = some (.slice (some ⟨bk, ok, none⟩) kl c) := (hG.out.keep HBq6.out).lx.cell rfl
            have i1 : (k1 : Int) < kl := by omega
            have i2 : (0 : Int) ≤ k1 := by omega
            go_wp2_with fail
            refine (CO.out _).mono ?_
            rintro E w7 ⟨rfl, hb7⟩
            have HBq7 := Lib.hid (HBq6.out.trans (hb7.mono HBq6.out.size))
            have HROW7 := Lib.hid (row_keep HROW6.out fun g e => hb7.block g (row_lt HROW6.out e).2)
            have hsz7 := HBq7.out.size
            clear hb7 p0 p1 p2 p3 p4 p5 p6 p7 p8 p9 p10 p11 p12 k0 HROW6 HBq6 HBw6
            go_wp2_with (at_builtin; obtain ⟨i0, hi, hz0, hz1, hz2⟩ := info_parts info_offer; refine wpList_append_own_at _ rfl _ _ 82 rfl wo.heap.size 84 i0 (.agg #[.string ⟨#[]⟩, .int .i64 0, .string ⟨#[]⟩, .string ⟨#[]⟩, .slice none 0 0]) 5 80 Tryz.underlying82 hi hz0 hz1 hz2 rfl (by decide) _ _ _ rfl (HROW7.out.alloc _) ⟨w7.heap.size, 0, none⟩ 1 1 [.string kv.p.n, .int .i64 kv.p.e, .string kv.p.u, .string kv.p.r, .slice A6 m6 c6] rfl rfl (cells_newL _ _ _) (by simp [Value.oneCell']) (by simp only [maxLen]; omega) (by omega) (by simp; omega) ?_; clear hi hz0 hz1 hz2; intro v10 w10 hown10 hgrow10 hnil10 hloc10; obtain ⟨A10, c10, rfl, _, _⟩ := own_sl hown10)
            have HB10 := Lib.hid ((HBq7.out.trans ((below_alloc w7 _).mono HBq7.out.size)).grown hgrow10 (Nat.le_trans HBq7.out.size (below_alloc w7 _).size) fun g e => (row_lt HROW7.out e).1)
            have HO10 := Lib.hid hown10
            clear hown10 hgrow10 hnil10 hloc10
            go_roundw
            case rel => exact ⟨k1 + 1, n' + 1, c10, A10, _, by omega, by go_num, rfl, Lib.hid (by rw [HWE.out, List.length_append, hn.out]; rfl), HO10, by rw [HWE.out]; exact HX2, HB10⟩
            case measure => simp [intOf]; omega
        · obtain rfl : kl = k1 := by omega
          have ⟨wl, hwl⟩ : ∃ W, W = wr := ⟨_, rfl⟩
          subst hwl
          have HBwl := Lib.hid (hB.out.trans (hBq.out.mono hB.out.size))
          have HLEFT := Lib.hid (show OffersAt wl (.slice A' n' c2) (offersT ks (leftN (askK ks) gone) ks.length) from by rw [HKL.out]; exact offers_of_own hrow.out hn.out.symm (by have := offers_len ks (leftN (askK ks) gone) kl; have := hn.out; omega) (hxr.out.below HBwl.out))
          have HSM := Lib.hid (fun (sel : Nat → Bool) (o : Ov) (ho : o ∈ offersT ks sel ks.length) => show o.small from by obtain ⟨k, hk, rfl⟩ := offers_mem ho; exact HOK.out.os k hk)
          have hn40 : n' ≤ 40 := by have := offers_len ks (leftN (askK ks) gone) kl; have := hn.out; omega
          have k0 : wl.cell? ⟨w.heap.size, 0, none⟩ = some (.slice (some ⟨bk, ok, none⟩) kl c) := (hG.out.keep hBq.out).lx.cell rfl
          clear hrow hxr hn hlt
          go_wp2_with fail
          clear k0
          go_loopw [6, 42] (fun v6 i wq => ∃ k2 : Nat, k2 ≤ kl ∧ v6 = .bool false ∧ i = .int .i64 k2 ∧ Hid (∀ j, j < k2 → missN (askK ks) gone j = false) ∧ Hid (Below wl.heap.size wl wq)) (fun _ i _ => kl - (intOf i).toNat)
          case atStart => exact ⟨0, Nat.zero_le _, rfl, rfl, Lib.hid (fun j hj => by omega), Lib.hid (Below.refl _ _)⟩
          case round =>
            obtain ⟨k2, hk2, rfl, rfl, hmi, hBl⟩ := hrel
            by_cases hlt2 : k2 < kl
            · obtain ⟨kv, hkv⟩ : ∃ kv, ks[k2]? = some kv := ⟨ks[k2]'(by have := HKL.out; omega), List.getElem?_eq_getElem _⟩
              have hmem := List.mem_of_getElem? hkv
              have hka := HKI.out k2 kv hkv
              have HBLX := hBl
              have HBO := Lib.hid (hBq.out.trans (hBl.out.mono hBq.out.size))
              have HBW := Lib.hid (hB.out.trans (HBO.out.mono hB.out.size))
              obtain ⟨Aw, At, A1, A2, A3, A4, A5, A6, A7, A8, A9, nw, nt, cw, ct, c1, c2', c3, c4, c5, c6, c7, c8, c9, hcs, hpk⟩ := hka.cells
              obtain ⟨v1, v2, v3, v4, v5, v6, v7, v8, v9, hv, h1, h2, h3, h4, h5, h6, h7, h8, h9, hlo, hhi⟩ := hpk
              injection hv with hv
              injection hv with hv
              simp only [List.cons.injEq] at hv
              obtain ⟨_, _, _, _, rfl, rfl, rfl, rfl, rfl, rfl, rfl, rfl, rfl, _⟩ := hv
              obtain ⟨xs1, hs1, hr1⟩ := h1.src
              obtain ⟨xs2, hs2, hr2⟩ := h2.src
              have hd1 := HOK.out.dl kv hmem
              have hd2 := HOK.out.al kv hmem
              have HXR := Lib.hid (hr1.append hr2)
              obtain ⟨m1, hm1⟩ : ∃ m1, kv.p.dep.length = m1 := ⟨_, rfl⟩
              obtain ⟨m2, hm2⟩ : ∃ m2, kv.p.ahead.length = m2 := ⟨_, rfl⟩
              obtain ⟨cs, hcsd⟩ : ∃ cs : List Value, (kvC kv (.slice Aw nw cw) (.slice At nt ct) (.slice A1 kv.p.dep.length c1) (.slice A2 kv.p.ahead.length c2') (.slice A3 kv.p.ag.length c3) (.slice A4 kv.p.br.length c4) (.slice A5 kv.p.re.length c5) (.slice A6 kv.p.pr.length c6) (.slice A7 kv.p.se.length c7) (.slice A8 kv.p.li.length c8) (.slice A9 kv.p.fi.length c9)).toList = cs := ⟨_, rfl⟩
              have HRANGE := Lib.hid (show wr.rangeAt bk (ok + k2 * 20) cs from fun j u hj => kept HBW.out (hcs j u (by rw [← Array.getElem?_toList, hcsd]; exact hj)))
              have HLEN := Lib.hid (show cs.length = 20 from by rw [← hcsd]; rfl)
              have HONE := Lib.hid (show cs.toArray.all (·.oneCell') = true from by rw [← hcsd]; simp [kvC, Value.oneCell'])
              have HC11 := Lib.hid (show cs.toArray[11]? = some (.slice A1 m1 c1) from by rw [← hcsd, ← hm1]; rfl)
              have HC12 := Lib.hid (show cs.toArray[12]? = some (.slice A2 m2 c2') from by rw [← hcsd, ← hm2]; rfl)
              rw [hm1] at hs1 hd1
              rw [hm2] at hs2 hd2
              have CC := Lib.hid (fun (W : World) (bx : Nat) (hW : Below w.heap.size w W) (h1 : W.cell? ⟨bx, 0, none⟩ = some (.slice A1 m1 c1)) (h2 : W.cell? ⟨bx, 1, none⟩ = some (.slice A2 m2 c2')) => concatT_calls bx m1 m2 _ _ xs1 xs2 W h1 h2 (fun W' hb => (hs1.below hW).below hb) (fun W' hb => (hs2.below hW).below hb) (by rw [hr1.1, hm1, Nat.mul_one]) (by rw [hr2.1, hm2, Nat.mul_one]) hr1.one hr2.one (by omega) (by omega))
              have HTS := Lib.hid (show ∀ x ∈ linesK kv, ∀ t ∈ x, Tv.small t from fun x hx => (List.mem_append.1 hx).elim (HOK.out.dt kv hmem x) (HOK.out.at_ kv hmem x))
              have HLL := Lib.hid (show (linesK kv).length = m1 + m2 from by unfold linesK; rw [List.length_append, hm1, hm2])
              have CK := Lib.hid (fun (W : World) (hb : Below wo.heap.size wo W) => CA.out W hb k2 kv hkv)
              have hmq := miss_eq (gone := gone) hkv
              rw [left_eq hkv] at hmq
              obtain ⟨ab, hab⟩ : ∃ ab, (!(hasN gone k2) && worksB kv.st) = ab := ⟨_, rfl⟩
              rw [hab] at hmq CK
              have CW := Lib.hid (fun (W : World) (u1 u2 : Value) (g1 : AskedAt W u1 (linesK kv)) (g2 : OffersAt W u2 (offersT ks (worksI ks) ks.length)) => met_calls u1 u2 _ _ W g1 g2 HTS.out (HSM.out _))
              have CN := Lib.hid (fun (W : World) (u1 u2 : Value) (g1 : AskedAt W u1 (linesK kv)) (g2 : OffersAt W u2 (offersT ks (leftN (askK ks) gone) ks.length)) => met_calls u1 u2 _ _ W g1 g2 HTS.out (HSM.out _))
              obtain ⟨wb, hwb⟩ : ∃ wb, metB (linesK kv) (offersT ks (worksI ks) ks.length) = wb := ⟨_, rfl⟩
              obtain ⟨nb, hnb⟩ : ∃ nb, metB (linesK kv) (offersT ks (leftN (askK ks) gone) ks.length) = nb := ⟨_, rfl⟩
              rw [hwb] at hmq CW
              rw [hnb] at hmq CN
              have HMQ := Lib.hid hmq
              clear hkv hmem hka hcs hlo hhi h1 h2 h3 h4 h5 h6 h7 h8 h9 hs1 hs2 hr1 hr2 hm1 hm2 hcsd hmq hab hwb hnb hBl
              go_upto_region 16 with (first | (refine wpList_load_mid rfl 79 _ rfl bk (ok + k2 * 20) rfl cs _ HRANGE.out Tryz.underlying79 rfl (by rw [HLEN.out]; kernel_rfl) ?_) | (refine wpList_store_row rfl 79 _ _ rfl wr.heap.size cs.toArray rfl rfl 79 _ (heap_alloc_new wr _) (by rw [List.size_toArray, HLEN.out]; kernel_rfl) HLEN.out.symm HONE.out ?_))
              have hnr := new_row wr #[.int .i64 0, .int .i64 0, .string ⟨#[]⟩, .string ⟨#[]⟩, .bool false, .slice none 0 0, .slice none 0 0, .string ⟨#[]⟩, .int .i64 0, .string ⟨#[]⟩, .string ⟨#[]⟩, .slice none 0 0, .slice none 0 0, .slice none 0 0, .slice none 0 0, .slice none 0 0, .slice none 0 0, .slice none 0 0, .slice none 0 0, .slice none 0 0] cs.toArray 79
              obtain ⟨W5, hW5⟩ : ∃ W, (wr.alloc (.cells #[.int .i64 0, .int .i64 0, .string ⟨#[]⟩, .string ⟨#[]⟩, .bool false, .slice none 0 0, .slice none 0 0, .string ⟨#[]⟩, .int .i64 0, .string ⟨#[]⟩, .string ⟨#[]⟩, .slice none 0 0, .slice none 0 0, .slice none 0 0, .slice none 0 0, .slice none 0 0, .slice none 0 0, .slice none 0 0, .slice none 0 0, .slice none 0 0] 79)).setRow wr.heap.size cs.toArray = W := ⟨_, rfl⟩
              rw [hW5] at hnr ⊢
              have HP11 := Lib.hid (show W5.cell? ⟨wr.heap.size, 11, none⟩ = some (.slice A1 m1 c1) from hnr.1.cell HC11.out)
              have HP12 := Lib.hid (show W5.cell? ⟨wr.heap.size, 12, none⟩ = some (.slice A2 m2 c2') from hnr.1.cell HC12.out)
              have hb5 := hnr.2
              have HBO5 := Lib.hid (HBO.out.trans (hb5.mono HBO.out.size))
              have HBL5 := Lib.hid (HBLX.out.trans (hb5.mono HBLX.out.size))
              clear hW5 hnr hb5 HBO HBW HRANGE HLEN HONE HC11 HC12
              go_wp2_with fail
              refine (CK.out _ HBO5.out).mono ?_
              rintro E w6 ⟨rfl, hb6⟩
              have p11 := kept hb6 HP11.out
              have p12 := kept hb6 HP12.out
              have HBL6 := Lib.hid (HBL5.out.trans (hb6.mono HBL5.out.size))
              clear hb6 CK HP11 HP12 HBO5 HBL5
              cases ab with
              | false =>
                have HMI := Lib.hid (show ∀ j, j < k2 + 1 → missN (askK ks) gone j = false from fun j hj => by
                  rcases Nat.lt_or_ge j k2 with h | h
                  · exact hmi.out j h
                  · obtain rfl : j = k2 := by omega
                    exact HMQ.out.trans (Bool.false_and _))
                clear p11 p12
                go_wp2_with fail
                go_roundw
                case rel => exact ⟨k2 + 1, by omega, rfl, by go_num, HMI, HBL6⟩
                case measure => simp [intOf]; omega
              | true =>
                go_wp2_with fail
                refine (CC.out _ w6.heap.size ((HBwl.out.trans (HBL6.out.mono HBwl.out.size)).trans ((below_alloc w6 _).mono (HBwl.out.trans (HBL6.out.mono HBwl.out.size)).size)) (by go_cell) (by go_cell)).mono ?_
                rintro E w7 ⟨v7, rfl, ho7, hb7⟩
                obtain ⟨A7', c7', rfl, _, _⟩ := own_sl ho7
                have hb67 := (below_alloc w6 _).trans (hb7.mono (below_alloc w6 _).size)
                have HBL7 := Lib.hid (HBL6.out.trans (hb67.mono HBL6.out.size))
                have HBW7 := Lib.hid (HBwl.out.trans (HBL7.out.mono HBwl.out.size))
                have HAS7 := Lib.hid (show AskedAt w7 (.slice A7' (m1 + m2) c7') (linesK kv) from asked_of_own ho7 HLL.out.symm (by omega) (fun i x hx => (HXR.out.below HBW7.out).2 i x hx))
                have k0 : w7.cell? ⟨w.heap.size, 0, none⟩ = some (.slice (some ⟨bk, ok, none⟩) kl c) := (hG.out.keep (hBq.out.trans (HBL7.out.mono hBq.out.size))).lx.cell rfl
                clear ho7 hb7 hb67 HBL6 p11 p12 CC
                go_wp2_with fail
                refine (offers_calls _ ks _ (hkn.out.below HBW7.out) (by have := HKL.out; omega)).mono ?_
                rintro E w8 ⟨v8, rfl, ho8, hb8⟩
                obtain ⟨A8', c8', rfl, _⟩ := id ho8
                obtain ⟨l8, hl8⟩ : ∃ l, (offersT ks (worksI ks) ks.length).length = l := ⟨_, rfl⟩
                rw [hl8] at ho8 ⊢
                have HBL8 := Lib.hid (HBL7.out.trans (hb8.mono HBL7.out.size))
                have HAS8 := Lib.hid (HAS7.out.below hb8)
                have HO8 := Lib.hid ho8
                clear ho8 hb8 hl8 HBL7 HBW7 HAS7 k0
                go_wp2_with fail
                refine (CW.out _ _ _ HAS8.out HO8.out).mono ?_
                rintro E w9 ⟨i9, rfl, hb9⟩
                have HBL9 := Lib.hid (HBL8.out.trans (hb9.mono HBL8.out.size))
                have HAS9 := Lib.hid (HAS8.out.below hb9)
                clear hb9 HBL8 HAS8 HO8 CW
                go_wp2_with fail
                refine (CN.out _ _ _ HAS9.out (HLEFT.out.below HBL9.out)).mono ?_
                rintro E w10 ⟨i10, rfl, hb10⟩
                have HBL10 := Lib.hid (HBL9.out.trans (hb10.mono HBL9.out.size))
                clear hb10 HBL9 HAS9 CN
                cases wb with
                | false =>
                  have HMI := Lib.hid (show ∀ j, j < k2 + 1 → missN (askK ks) gone j = false from fun j hj => by
                    rcases Nat.lt_or_ge j k2 with h | h
                    · exact hmi.out j h
                    · obtain rfl : j = k2 := by omega
                      exact HMQ.out.trans (by simp))
                  go_wp2_with fail
                  go_roundw
                  case rel => exact ⟨k2 + 1, by omega, rfl, by go_num, HMI, HBL10⟩
                  case measure => simp [intOf]; omega
                | true =>
                  cases nb with
                  | true =>
                    have HMI := Lib.hid (show ∀ j, j < k2 + 1 → missN (askK ks) gone j = false from fun j hj => by
                      rcases Nat.lt_or_ge j k2 with h | h
                      · exact hmi.out j h
                      · obtain rfl : j = k2 := by omega
                        exact HMQ.out.trans (by simp))
                    go_wp2_with fail
                    go_roundw
                    case rel => exact ⟨k2 + 1, by omega, rfl, by go_num, HMI, HBL10⟩
                    case measure => simp [intOf]; omega
                  | false =>
                    have HNX := Lib.hid (next_some (A := askK ks) (gone := gone) (i := k2) (by show k2 < ks.length; have := HKL.out; omega) (HMQ.out.trans (by simp)) hmi.out)
                    have HGO2 := Lib.hid (TJ.next_ok HGR.out hGo.out HNX.out)
                    have HLN2 := Lib.hid (show (gone ++ [k2]).length = gl + 1 from by rw [List.length_append, hgl.out]; rfl)
                    have hgl2 : gl + 1 ≤ kl := by
                      have h1 := TJ.nodup_le HGO2.out.nd HGO2.out.lt
                      have h2 : (askK ks).n = kl := HKL.out
                      rw [HLN2.out, h2] at h1
                      exact h1
                    have HBO10 := Lib.hid (hBq.out.trans (HBL10.out.mono hBq.out.size))
                    have HBW10 := Lib.hid (hB.out.trans (HBO10.out.mono hB.out.size))
                    have HG10 := Lib.hid (hG.out.keep HBO10.out)
                    have hsz0 := hG.out.lx.lt
                    have hsz10 := HBO10.out.size
                    have k5 : w10.cell? ⟨x5, 0, none⟩ = some (.slice Av gl c') := HG10.out.bx.cell rfl
                    go_wp2_with (at_builtin; obtain ⟨i0, hi, hz0, hz1, hz2⟩ := info_parts info_int; refine wpList_append_own_at _ rfl _ _ 40 rfl (w.heap.size + 1) 3 i0 (.int .i64 0) 1 8 Tryz.underlying40 hi hz0 hz1 hz2 rfl (by decide) _ _ _ rfl (HG10.out.row.alloc _) ⟨w10.heap.size, 0, none⟩ 1 1 [.int .i64 k2] rfl rfl (cell_one_new _ _ _) (by simp [Value.oneCell']) (by simp only [maxLen]; omega) (by omega) (by simp; omega) ?_; clear hi hz0 hz1 hz2; intro v11 w11 hown11 hgrow11 hnil11 hloc11; obtain ⟨A11, c11, rfl, _, _⟩ := own_sl hown11; have HM := Lib.hid (hG.out.more (HBO10.out.trans ((below_alloc w10 _).mono HBO10.out.size)) hsz0 hown11 hgrow11 hloc11); have HB11 := Lib.hid ((HBW10.out.trans ((below_alloc w10 _).mono HBW10.out.size)).grown hgrow11 (Nat.le_trans HBW10.out.size (below_alloc w10 _).size) fun g e => by have := (row_lt HG10.out.row e).1; omega); have f11 := HM.out.1.frozen; clear k5; have k5 : w11.cell? ⟨x5, 0, none⟩ = some (.slice Av gl c') := HM.out.1.cell rfl; clear hown11 hgrow11 hnil11 hloc11)
                    have HB12 := Lib.hid (HB11.out.setCell (p := ⟨x5, 0, none⟩) (by show w.heap.size ≤ x5; have := hG.out.ord; omega) (.slice A11 (gl + 1) c11))
                    go_roundg f
                    case measure => omega
                    case rel => exact ⟨true, gone ++ [k2], gl + 1, c11, A11, rfl, hgl2, HLN2, Lib.hid HM.out.2, HGO2, HB12, Lib.hid (fun _ => by have := HF.out; omega), Lib.hid (by rw [if_pos rfl, HT2.out, goneN, HNX.out])⟩
            · obtain rfl : k2 = kl := by omega
              have HNX := Lib.hid (next_none (A := askK ks) (gone := gone) (fun j hj => hmi.out j (by have : j < ks.length := hj; have := HKL.out; omega)))
              go_wp2_with fail
              go_roundg f
              case measure => omega
              case rel => exact ⟨false, gone, gl, c', Av, rfl, hglk, hgl, Lib.hid ((hG.out.keep hBq.out).keep hBl.out), hGo, Lib.hid (HBwl.out.trans (hBl.out.mono HBwl.out.size)), Lib.hid (fun h => by cases h), Lib.hid (by rw [if_neg (by simp)]; exact HT2.out.trans (TJ.goneN_stop HNX.out _))⟩
end Go.Proofs.YtpbbhjifgaeklaaGreatDoor

/- check.Unpack, where nothing stands in the way but what is asked for ahead. -/
import Derived.Test.YtpbbhjifgaeklaaGreatDoorCSK31
import Derived.Test.YtpbbhjifgaeklaaGreatDoorCSK32
import Derived.Test.YtpbbhjifgaeklaaGreatDoorCSK18
import Derived.Deep.RegionHeld
namespace Go.Proofs.YtpbbhjifgaeklaaGreatDoor
open Go Go.RowKit

/-- nothing that is known stands in the way of p -/
structure FreeU (ks : List Kv) (p : Pv) : Prop where
  held : ks.any (heldP p.n) = false
  off : ∀ o, o ∈ offersT ks (worksI ks) ks.length → o.n ≠ p.n
  nm : ∀ k, k ∈ ks → k.p.n ≠ p.n
  st : ∀ k, k ∈ ks → 1 < k.st
  os : ∀ k, k ∈ ks → k.offer.small
  po : Ov.small ⟨p.n, p.e, p.u, p.r, p.pr⟩
  ta : ∀ x, x ∈ p.ahead → ∀ t, t ∈ x → Tv.small t
  tg : ∀ t, t ∈ p.ag → t.vs
  tb : ∀ t, t ∈ p.br → t.vs
  kg : ∀ k, k ∈ ks → ∀ t, t ∈ k.p.ag → t.vs
  kb : ∀ k, k ∈ ks → ∀ t, t ∈ k.p.br → t.vs
  a1 : ∀ k, k ∈ ks → cmB k.offer p.ag p.n = false
  a2 : ∀ k, k ∈ ks → cmB ⟨p.n, p.e, p.u, p.r, p.pr⟩ k.p.ag k.p.n = false
  b1 : ∀ k, k ∈ ks → cmB k.offer p.br p.n = false
  b2 : ∀ k, k ∈ ks → cmB ⟨p.n, p.e, p.u, p.r, p.pr⟩ k.p.br k.p.n = false
def UnpIs (ks : List Kv) (p : Pv) (w : World) (E : Ending) (w' : World) : Prop :=
  Below w.heap.size w w' ∧ if metB p.ahead (offersT ks (worksI ks) ks.length) = true then E = .returned .nilIface
    else ∃ (b : Nat) (i : Int), E = .returned (.iface 133 (.pointer (some ⟨b, 0, none⟩))) ∧ w'.cell? ⟨b, 0, none⟩ = some (.int .i64 7) ∧ w'.cell? ⟨b, 1, none⟩ = some (.int .i64 i)

set_option maxHeartbeats 8000000 in
set_option maxRecDepth 100000 in
theorem unpack_calls (v : Value) (ks : List Kv) (p : Pv) (A1 A2 A3 A4 A5 A6 A7 A8 A9 : Option Addr) (m1 m2 m3 m4 m5 m6 m7 m8 m9 c1 c2 c3 c4 c5 c6 c7 c8 c9 : Nat) (w : World) (h : KnownsAt w v ks) (hl : ks.length ≤ 40) (hp : PackAt w (.agg #[.string p.n, .int .i64 p.e, .string p.u, .string p.r, .slice A1 m1 c1, .slice A2 m2 c2, .slice A3 m3 c3, .slice A4 m4 c4, .slice A5 m5 c5, .slice A6 m6 c6, .slice A7 m7 c7, .slice A8 m8 c8, .slice A9 m9 c9]) p) (hf : FreeU ks p) :
    Calls Tryz.prog 96 #[v, .agg #[.string p.n, .int .i64 p.e, .string p.u, .string p.r, .slice A1 m1 c1, .slice A2 m2 c2, .slice A3 m3 c3, .slice A4 m4 c4, .slice A5 m5 c5, .slice A6 m6 c6, .slice A7 m7 c7, .slice A8 m8 c8, .slice A9 m9 c9]] w (UnpIs ks p w) := by
  have HKN := Lib.hid h
  obtain ⟨A, c, rfl, hc, hm, hr⟩ := h
  obtain ⟨kl, hkl⟩ : ∃ kl, ks.length = kl := ⟨_, rfl⟩
  have HKL := Lib.hid hkl
  have HR := Lib.hid hr
  have HF := Lib.hid hf
  obtain ⟨v1, v2, v3, v4, v5, v6, v7, v8, v9, hv, h1, h2, h3, h4, h5, h6, h7, h8, h9, hlo, hhi⟩ := hp
  injection hv with hv
  injection hv with hv
  simp only [List.cons.injEq] at hv
  obtain ⟨_, _, _, _, rfl, rfl, rfl, rfl, rfl, rfl, rfl, rfl, rfl, _⟩ := hv
  have HP2 := Lib.hid h2
  have HP3 := Lib.hid h3
  have HP4 := Lib.hid h4
  have HP6 := Lib.hid h6
  rw [hkl] at hc hm HKN ⊢
  have hb0 := below_alloc w (.cells #[.string p.n, .int .i64 p.e, .string p.u, .string p.r, .slice A1 m1 c1, .slice A2 m2 c2, .slice A3 m3 c3, .slice A4 m4 c4, .slice A5 m5 c5, .slice A6 m6 c6, .slice A7 m7 c7, .slice A8 m8 c8, .slice A9 m9 c9] 67)
  have hx0 := blk_new 67 w #[.string p.n, .int .i64 p.e, .string p.u, .string p.r, .slice A1 m1 c1, .slice A2 m2 c2, .slice A3 m3 c3, .slice A4 m4 c4, .slice A5 m5 c5, .slice A6 m6 c6, .slice A7 m7 c7, .slice A8 m8 c8, .slice A9 m9 c9]
  obtain ⟨W1, hW1⟩ : ∃ W, w.alloc (.cells #[.string p.n, .int .i64 p.e, .string p.u, .string p.r, .slice A1 m1 c1, .slice A2 m2 c2, .slice A3 m3 c3, .slice A4 m4 c4, .slice A5 m5 c5, .slice A6 m6 c6, .slice A7 m7 c7, .slice A8 m8 c8, .slice A9 m9 c9] 67) = W := ⟨_, rfl⟩
  rw [hW1] at hb0 hx0
  have HB1 := Lib.hid hb0
  have HX1 := Lib.hid hx0
  have k0 : W1.cell? ⟨w.heap.size, 0, none⟩ = some (.string p.n) := hx0.cell rfl
  clear hkl hr hf hlo hhi h1 h2 h3 h4 h5 h6 h7 h8 h9 hb0 hx0
  go_enter Tryz.func96, Tryz.ntmps96
  go_wp2_with fail
  refine (hasU_calls _ ks w.heap.size p.n _ (HKN.out.below HB1.out) k0).mono ?_
  rintro E w2 ⟨rfl, hb2⟩
  rw [HF.out.held]
  have HB2 := Lib.hid (HB1.out.trans (hb2.mono HB1.out.size))
  have HX2 := Lib.hid (HX1.out.keep hb2)
  clear k0 hb2 hW1 HB1 HX1
  go_wp2_with fail
  refine (offers_calls _ ks _ (HKN.out.below HB2.out) hl).mono ?_
  rintro E w3 ⟨v3, rfl, ho3, hb3⟩
  have HO3 := Lib.hid ho3
  obtain ⟨A3', c3', rfl, _⟩ := id ho3
  have HB3 := Lib.hid (HB2.out.trans (hb3.mono HB2.out.size))
  have HX3 := Lib.hid (HX2.out.keep hb3)
  obtain ⟨l3, hl3⟩ : ∃ l, (offersT ks (worksI ks) ks.length).length = l := ⟨_, rfl⟩
  rw [hl3] at HO3 ⊢
  clear ho3 hb3 HB2 HX2 hl3
  go_wp2_with fail
  refine (delO_none _ _ w.heap.size p.n _ HO3.out (HX3.out.cell rfl) HF.out.off).mono ?_
  rintro E w4 ⟨rfl, hb4⟩
  have HB4 := Lib.hid (HB3.out.trans (hb4.mono HB3.out.size))
  have HX4 := Lib.hid (HX3.out.keep hb4)
  have HO4 := Lib.hid (HO3.out.below hb4)
  have k5 : w4.cell? ⟨w.heap.size, 5, none⟩ = some (.slice A2 m2 c2) := HX4.out.cell rfl
  clear hb4 HB3 HX3 HO3
  go_wp2_with fail
  refine (met_calls _ _ p.ahead _ _ (HP2.out.below HB4.out) HO4.out HF.out.ta (fun o ho => by obtain ⟨k, hk, rfl⟩ := offers_mem ho; exact HF.out.os k hk)).mono ?_
  rintro E w5 ⟨i5, rfl, hb5⟩
  have HB5 := Lib.hid (HB4.out.trans (hb5.mono HB4.out.size))
  have HX5 := Lib.hid (HX4.out.keep hb5)
  clear hb5 HB4 HX4 HO4 k5
  cases hmb : metB p.ahead (offersT ks (worksI ks) ks.length) with
  | false =>
    have HM := Lib.hid hmb
    clear hmb
    go_wp2_with fail
    have hbb := below_alloc w5 (.cells #[.int .i64 7, .int .i64 i5] 134)
    have kk0 : (w5.alloc (.cells #[.int .i64 7, .int .i64 i5] 134)).cell? ⟨w5.heap.size, 0, none⟩ = some (.int .i64 7) := by go_cell
    have kk1 : (w5.alloc (.cells #[.int .i64 7, .int .i64 i5] 134)).cell? ⟨w5.heap.size, 1, none⟩ = some (.int .i64 i5) := by go_cell
    go_ret
    exact ⟨HB5.out.trans (hbb.mono HB5.out.size), by rw [if_neg (by rw [HM.out]; simp)]; exact ⟨_, _, rfl, kk0, kk1⟩⟩
  | true =>
    have HM := Lib.hid hmb
    clear hmb
    go_wp2_with fail
    go_loopw [34] (fun i wr => ∃ k : Nat, k ≤ kl ∧ i = .int .i64 k ∧ Hid (Below w5.heap.size w5 wr)) (fun i _ => kl - (intOf i).toNat)
    case atStart => exact ⟨0, Nat.zero_le _, rfl, Lib.hid (Below.refl _ _)⟩
    case round =>
      obtain ⟨k, hk, rfl, hB⟩ := hrel
      by_cases hlt : k < kl
      · obtain ⟨kv, hkv⟩ : ∃ kv, ks[k]? = some kv := ⟨ks[k]'(by have := HKL.out; omega), List.getElem?_eq_getElem _⟩
        have hmem := List.mem_of_getElem? hkv
        have hne : ks ≠ [] := fun e => by rw [e] at hkv; simp at hkv
        obtain ⟨bk, ok, rfl, hki⟩ := HR.out hne
        obtain ⟨Aw, At, B1, B2, B3, B4, B5, B6, B7, B8, B9, nw, nt, cw, ct, d1, d2, d3, d4, d5, d6, d7, d8, d9, hcs, hpk⟩ := (hki k kv hkv).cells
        obtain ⟨u1, u2, u3, u4, u5, u6, u7, u8, u9, hv, g1, g2, g3, g4, g5, g6, g7, g8, g9, glo, ghi⟩ := hpk
        injection hv with hv
        injection hv with hv
        simp only [List.cons.injEq] at hv
        obtain ⟨_, _, _, _, rfl, rfl, rfl, rfl, rfl, rfl, rfl, rfl, rfl, _⟩ := hv
        have HBw := Lib.hid (HB5.out.trans (hB.out.mono HB5.out.size))
        obtain ⟨cs, hcsd⟩ : ∃ cs : List Value, (kvC kv (.slice Aw nw cw) (.slice At nt ct) (.slice B1 kv.p.dep.length d1) (.slice B2 kv.p.ahead.length d2) (.slice B3 kv.p.ag.length d3) (.slice B4 kv.p.br.length d4) (.slice B5 kv.p.re.length d5) (.slice B6 kv.p.pr.length d6) (.slice B7 kv.p.se.length d7) (.slice B8 kv.p.li.length d8) (.slice B9 kv.p.fi.length d9)).toList = cs := ⟨_, rfl⟩
        have HRANGE := Lib.hid (show wr.rangeAt bk (ok + k * 20) cs from fun j u hj => kept HBw.out (hcs j u (by rw [← Array.getElem?_toList, hcsd]; exact hj)))
        have HLEN := Lib.hid (show cs.length = 20 from by rw [← hcsd]; rfl)
        have HONE := Lib.hid (show cs.toArray.all (·.oneCell') = true from by rw [← hcsd]; simp [kvC, Value.oneCell'])
        have HCS := Lib.hid (show cs.toArray = (kvC kv (.slice Aw nw cw) (.slice At nt ct) (.slice B1 kv.p.dep.length d1) (.slice B2 kv.p.ahead.length d2) (.slice B3 kv.p.ag.length d3) (.slice B4 kv.p.br.length d4) (.slice B5 kv.p.re.length d5) (.slice B6 kv.p.pr.length d6) (.slice B7 kv.p.se.length d7) (.slice B8 kv.p.li.length d8) (.slice B9 kv.p.fi.length d9)) from by rw [← hcsd])
        have HST := Lib.hid (HF.out.st kv hmem)
        have HNM := Lib.hid (HF.out.nm kv hmem)
        have CKO := Lib.hid (fun (W : World) => offer_calls kv.p.n kv.p.u kv.p.r kv.p.e B1 B2 B3 B4 B5 B6 B7 B8 B9 kv.p.dep.length kv.p.ahead.length kv.p.ag.length kv.p.br.length kv.p.re.length kv.p.pr.length kv.p.se.length kv.p.li.length kv.p.fi.length d1 d2 d3 d4 d5 d6 d7 d8 d9 W)
        have CPO := Lib.hid (fun (W : World) => offer_calls p.n p.u p.r p.e A1 A2 A3 A4 A5 A6 A7 A8 A9 m1 m2 m3 m4 m5 m6 m7 m8 m9 c1 c2 c3 c4 c5 c6 c7 c8 c9 W)
        have CWK := Lib.hid (fun (W : World) => works_calls kv.st W)
        have C12A := Lib.hid (fun (W : World) (hb5 : Below w5.heap.size w5 W) => have hb := HB5.out.trans (hb5.mono HB5.out.size); (HF.out.a1 kv hmem) ▸ cmeets_calls kv.offer _ _ p.ag p.n W (g6.below hb) (HP3.out.below hb) (HF.out.os kv hmem) HF.out.tg)
        have C12B := Lib.hid (fun (W : World) (hb5 : Below w5.heap.size w5 W) => have hb := HB5.out.trans (hb5.mono HB5.out.size); (HF.out.a2 kv hmem) ▸ cmeets_calls ⟨p.n, p.e, p.u, p.r, p.pr⟩ _ _ kv.p.ag kv.p.n W (HP6.out.below hb) (g3.below hb) HF.out.po (HF.out.kg kv hmem))
        have C14A := Lib.hid (fun (W : World) (hb5 : Below w5.heap.size w5 W) => have hb := HB5.out.trans (hb5.mono HB5.out.size); (HF.out.b1 kv hmem) ▸ cmeets_calls kv.offer _ _ p.br p.n W (g6.below hb) (HP4.out.below hb) (HF.out.os kv hmem) HF.out.tb)
        have C14B := Lib.hid (fun (W : World) (hb5 : Below w5.heap.size w5 W) => have hb := HB5.out.trans (hb5.mono HB5.out.size); (HF.out.b2 kv hmem) ▸ cmeets_calls ⟨p.n, p.e, p.u, p.r, p.pr⟩ _ _ kv.p.br kv.p.n W (HP6.out.below hb) (g4.below hb) HF.out.po (HF.out.kb kv hmem))
        unfold Ov.val Kv.offer at C12A C14A
        unfold Ov.val at C12B C14B
        clear hkv hmem hne hki hcs g1 g2 g3 g4 g5 g6 g7 g8 g9 glo ghi hcsd
        go_upto_region 10 with (first | (refine wpList_load_mid rfl 79 _ rfl bk (ok + k * 20) rfl cs _ HRANGE.out Tryz.underlying79 rfl (by rw [HLEN.out]; kernel_rfl) ?_) | (refine wpList_store_row rfl 79 _ _ rfl wr.heap.size cs.toArray rfl rfl 79 _ (heap_alloc_new wr _) (by rw [List.size_toArray, HLEN.out]; kernel_rfl) HLEN.out.symm HONE.out ?_))
        have hnr := new_row wr #[.int .i64 0, .int .i64 0, .string ⟨#[]⟩, .string ⟨#[]⟩, .bool false, .slice none 0 0, .slice none 0 0, .string ⟨#[]⟩, .int .i64 0, .string ⟨#[]⟩, .string ⟨#[]⟩, .slice none 0 0, .slice none 0 0, .slice none 0 0, .slice none 0 0, .slice none 0 0, .slice none 0 0, .slice none 0 0, .slice none 0 0, .slice none 0 0] cs.toArray 79
        obtain ⟨W9, hW9⟩ : ∃ W, (wr.alloc (.cells #[.int .i64 0, .int .i64 0, .string ⟨#[]⟩, .string ⟨#[]⟩, .bool false, .slice none 0 0, .slice none 0 0, .string ⟨#[]⟩, .int .i64 0, .string ⟨#[]⟩, .string ⟨#[]⟩, .slice none 0 0, .slice none 0 0, .slice none 0 0, .slice none 0 0, .slice none 0 0, .slice none 0 0, .slice none 0 0, .slice none 0 0, .slice none 0 0] 79)).setRow wr.heap.size cs.toArray = W := ⟨_, rfl⟩
        rw [hW9] at hnr ⊢
        obtain ⟨b9, hb9⟩ : ∃ b, wr.heap.size = b := ⟨_, rfl⟩
        rw [hb9] at hnr ⊢
        rw [HCS.out] at hnr
        have HX9 := Lib.hid hnr.1
        have HB9 := Lib.hid (hB.out.trans ((hb9 ▸ hnr.2 : Below wr.heap.size wr W9).mono hB.out.size))
        have q0 : W9.cell? ⟨b9, 7, none⟩ = some (.string kv.p.n) := HX9.out.cell rfl
        have q1 : W9.cell? ⟨b9, 8, none⟩ = some (.int .i64 kv.p.e) := HX9.out.cell rfl
        have q2 : W9.cell? ⟨b9, 9, none⟩ = some (.string kv.p.u) := HX9.out.cell rfl
        have q3 : W9.cell? ⟨b9, 10, none⟩ = some (.string kv.p.r) := HX9.out.cell rfl
        have q4 : W9.cell? ⟨b9, 11, none⟩ = some (.slice B1 kv.p.dep.length d1) := HX9.out.cell rfl
        have q5 : W9.cell? ⟨b9, 12, none⟩ = some (.slice B2 kv.p.ahead.length d2) := HX9.out.cell rfl
        have q6 : W9.cell? ⟨b9, 13, none⟩ = some (.slice B3 kv.p.ag.length d3) := HX9.out.cell rfl
        have q7 : W9.cell? ⟨b9, 14, none⟩ = some (.slice B4 kv.p.br.length d4) := HX9.out.cell rfl
        have q8 : W9.cell? ⟨b9, 15, none⟩ = some (.slice B5 kv.p.re.length d5) := HX9.out.cell rfl
        have q9 : W9.cell? ⟨b9, 16, none⟩ = some (.slice B6 kv.p.pr.length d6) := HX9.out.cell rfl
        have q10 : W9.cell? ⟨b9, 17, none⟩ = some (.slice B7 kv.p.se.length d7) := HX9.out.cell rfl
        have q11 : W9.cell? ⟨b9, 18, none⟩ = some (.slice B8 kv.p.li.length d8) := HX9.out.cell rfl
        have q12 : W9.cell? ⟨b9, 19, none⟩ = some (.slice B9 kv.p.fi.length d9) := HX9.out.cell rfl
        clear hnr hW9 hb9 HRANGE HLEN HONE HCS HBw hB
        go_wp2_with fail
        refine (CKO.out _).mono ?_
        rintro E w10 ⟨rfl, hb10⟩
        have HX10 := Lib.hid (HX9.out.keep hb10)
        have HB10 := Lib.hid (HB9.out.trans (hb10.mono HB9.out.size))
        clear hb10 HX9 HB9 q0 q1 q2 q3 q4 q5 q6 q7 q8 q9 q10 q11 q12
        go_upto_region 11 with fail
        have hbo := below_alloc w10 (.cells #[.string kv.p.n, .int .i64 kv.p.e, .string kv.p.u, .string kv.p.r, .slice B6 kv.p.pr.length d6] 84)
        have hxo := blk_new 84 w10 #[.string kv.p.n, .int .i64 kv.p.e, .string kv.p.u, .string kv.p.r, .slice B6 kv.p.pr.length d6]
        obtain ⟨W11, hW11⟩ : ∃ W, w10.alloc (.cells #[.string kv.p.n, .int .i64 kv.p.e, .string kv.p.u, .string kv.p.r, .slice B6 kv.p.pr.length d6] 84) = W := ⟨_, rfl⟩
        rw [hW11] at hbo hxo ⊢
        obtain ⟨b10, hb10⟩ : ∃ b, w10.heap.size = b := ⟨_, rfl⟩
        rw [hb10] at hxo ⊢
        have HX11 := Lib.hid (HX10.out.keep hbo)
        have HB11 := Lib.hid (HB10.out.trans (hbo.mono HB10.out.size))
        have HBW11 := Lib.hid (HB5.out.trans (HB11.out.mono HB5.out.size))
        have HXP := Lib.hid (HX5.out.keep HB11.out)
        have HXO := Lib.hid hxo
        clear hbo hxo hW11 hb10 HX10 HB10
        have e0 : W11.cell? ⟨b9, 0, none⟩ = some (.int .i64 kv.st) := HX11.out.cell rfl
        have e7 : W11.cell? ⟨b9, 7, none⟩ = some (.string kv.p.n) := HX11.out.cell rfl
        have ep : W11.cell? ⟨w.heap.size, 0, none⟩ = some (.string p.n) := HXP.out.cell rfl
        have hqf : (kv.p.n.toList == p.n.toList) = false := by rw [name_eq, decide_eq_false HNM.out]
        have hst : ¬ kv.st ≤ 1 := by have := HST.out; omega
        have HCELLS := Lib.hid (show W11.cell? ⟨w.heap.size, 0, none⟩ = some (.string p.n) ∧ W11.cell? ⟨w.heap.size, 1, none⟩ = some (.int .i64 p.e) ∧ W11.cell? ⟨w.heap.size, 2, none⟩ = some (.string p.u) ∧ W11.cell? ⟨w.heap.size, 3, none⟩ = some (.string p.r) ∧ W11.cell? ⟨w.heap.size, 4, none⟩ = some (.slice A1 m1 c1) ∧ W11.cell? ⟨w.heap.size, 5, none⟩ = some (.slice A2 m2 c2) ∧ W11.cell? ⟨w.heap.size, 6, none⟩ = some (.slice A3 m3 c3) ∧ W11.cell? ⟨w.heap.size, 7, none⟩ = some (.slice A4 m4 c4) ∧ W11.cell? ⟨w.heap.size, 8, none⟩ = some (.slice A5 m5 c5) ∧ W11.cell? ⟨w.heap.size, 9, none⟩ = some (.slice A6 m6 c6) ∧ W11.cell? ⟨w.heap.size, 10, none⟩ = some (.slice A7 m7 c7) ∧ W11.cell? ⟨w.heap.size, 11, none⟩ = some (.slice A8 m8 c8) ∧ W11.cell? ⟨w.heap.size, 12, none⟩ = some (.slice A9 m9 c9) ∧ W11.cell? ⟨b9, 0, none⟩ = some (.int .i64 kv.st) ∧ W11.cell? ⟨b9, 7, none⟩ = some (.string kv.p.n) ∧ W11.cell? ⟨b9, 13, none⟩ = some (.slice B3 kv.p.ag.length d3) ∧ W11.cell? ⟨b9, 14, none⟩ = some (.slice B4 kv.p.br.length d4) ∧ W11.cell? ⟨b10, 0, none⟩ = some (.string kv.p.n) ∧ W11.cell? ⟨b10, 1, none⟩ = some (.int .i64 kv.p.e) ∧ W11.cell? ⟨b10, 2, none⟩ = some (.string kv.p.u) ∧ W11.cell? ⟨b10, 3, none⟩ = some (.string kv.p.r) ∧ W11.cell? ⟨b10, 4, none⟩ = some (.slice B6 kv.p.pr.length d6) from ⟨HXP.out.cell rfl, HXP.out.cell rfl, HXP.out.cell rfl, HXP.out.cell rfl, HXP.out.cell rfl, HXP.out.cell rfl, HXP.out.cell rfl, HXP.out.cell rfl, HXP.out.cell rfl, HXP.out.cell rfl, HXP.out.cell rfl, HXP.out.cell rfl, HXP.out.cell rfl, HX11.out.cell rfl, HX11.out.cell rfl, HX11.out.cell rfl, HX11.out.cell rfl, HXO.out.cell rfl, HXO.out.cell rfl, HXO.out.cell rfl, HXO.out.cell rfl, HXO.out.cell rfl⟩)
        go_upto_region 12 with fail
        clear e0 e7 ep
        refine wp_region_held_drew (S := (fun W => (W.cell? ⟨w.heap.size, 0, none⟩ = some (.string p.n) ∧ W.cell? ⟨w.heap.size, 1, none⟩ = some (.int .i64 p.e) ∧ W.cell? ⟨w.heap.size, 2, none⟩ = some (.string p.u) ∧ W.cell? ⟨w.heap.size, 3, none⟩ = some (.string p.r) ∧ W.cell? ⟨w.heap.size, 4, none⟩ = some (.slice A1 m1 c1) ∧ W.cell? ⟨w.heap.size, 5, none⟩ = some (.slice A2 m2 c2) ∧ W.cell? ⟨w.heap.size, 6, none⟩ = some (.slice A3 m3 c3) ∧ W.cell? ⟨w.heap.size, 7, none⟩ = some (.slice A4 m4 c4) ∧ W.cell? ⟨w.heap.size, 8, none⟩ = some (.slice A5 m5 c5) ∧ W.cell? ⟨w.heap.size, 9, none⟩ = some (.slice A6 m6 c6) ∧ W.cell? ⟨w.heap.size, 10, none⟩ = some (.slice A7 m7 c7) ∧ W.cell? ⟨w.heap.size, 11, none⟩ = some (.slice A8 m8 c8) ∧ W.cell? ⟨w.heap.size, 12, none⟩ = some (.slice A9 m9 c9) ∧ W.cell? ⟨b9, 0, none⟩ = some (.int .i64 kv.st) ∧ W.cell? ⟨b9, 7, none⟩ = some (.string kv.p.n) ∧ W.cell? ⟨b9, 13, none⟩ = some (.slice B3 kv.p.ag.length d3) ∧ W.cell? ⟨b9, 14, none⟩ = some (.slice B4 kv.p.br.length d4) ∧ W.cell? ⟨b10, 0, none⟩ = some (.string kv.p.n) ∧ W.cell? ⟨b10, 1, none⟩ = some (.int .i64 kv.p.e) ∧ W.cell? ⟨b10, 2, none⟩ = some (.string kv.p.u) ∧ W.cell? ⟨b10, 3, none⟩ = some (.string kv.p.r) ∧ W.cell? ⟨b10, 4, none⟩ = some (.slice B6 kv.p.pr.length d6)) ∧ Below w5.heap.size w5 W)) (by kernel_rfl) ?_ (fun hHeld => ?_)
        · exact ⟨HCELLS.out, HB11.out.drew⟩
        refine wpAnyH_take (i := 0) (v := ?_) rfl (by kernel_rfl) (by kernel_rfl) (by kernel_rfl) (fun _ _ _ h => h) (Or.inl ⟨by rfl, ?_⟩) (by assumption) ?_
        rotate_left
        · (intro w hSw; (try dsimp only at hSw); go_simp; (try with_reducible rfl))
        (try simp only [List.getElem_toArray, List.getElem_cons_zero, Act.put, List.setIfInBounds_toArray, List.set_cons_zero, List.set_cons_succ])
        refine wpAnyH_take (i := 1) (v := ?_) rfl (by kernel_rfl) (by kernel_rfl) (by kernel_rfl) (fun _ _ _ h => h) (Or.inl ⟨by rfl, ?_⟩) (by assumption) ?_
        rotate_left
        · (intro w hSw; (try dsimp only at hSw); go_simp; (try with_reducible rfl))
        (try simp only [List.getElem_toArray, List.getElem_cons_succ, List.getElem_cons_zero, Act.put, List.setIfInBounds_toArray, List.set_cons_zero, List.set_cons_succ])
        refine wpAnyH_take (i := 2) (v := ?_) rfl (by kernel_rfl) (by kernel_rfl) (by kernel_rfl) (fun _ _ _ h => h) (Or.inl ⟨by rfl, ?_⟩) (by assumption) ?_
        rotate_left
        · (intro w hSw; (try dsimp only at hSw); go_simp; (try with_reducible rfl))
        (try simp only [List.getElem_toArray, List.getElem_cons_succ, List.getElem_cons_zero, Act.put, List.setIfInBounds_toArray, List.set_cons_zero, List.set_cons_succ])
        refine wpAnyH_take (i := 3) (v := ?_) rfl (by kernel_rfl) (by kernel_rfl) (by kernel_rfl) (fun _ _ _ h => h) (Or.inl ⟨by rfl, ?_⟩) (by assumption) ?_
        rotate_left
        · (intro w hSw; (try dsimp only at hSw); go_simp; (try with_reducible rfl))
        (try simp only [List.getElem_toArray, List.getElem_cons_succ, List.getElem_cons_zero, Act.put, List.setIfInBounds_toArray, List.set_cons_zero, List.set_cons_succ])
        refine wpAnyH_take (i := 4) (v := ?_) rfl (by kernel_rfl) (by kernel_rfl) (by kernel_rfl) (fun _ _ _ h => h) (Or.inl ⟨by rfl, ?_⟩) (by assumption) ?_
        rotate_left
        · (intro w hSw; (try dsimp only at hSw); go_simp; (try with_reducible rfl))
        (try simp only [List.getElem_toArray, List.getElem_cons_succ, List.getElem_cons_zero, Act.put, List.setIfInBounds_toArray, List.set_cons_zero, List.set_cons_succ])
        refine wpAnyH_ready (rs := [5]) (by kernel_rfl) (by simp) ?_
        refine AllReadyH.cons rfl (fun K hK => ?_) AllReadyH.nil
        go_simp
        go_at_call 166
        refine Calls.mono (C12A.out _ hHeld.2) ?_
        rintro E y5 ⟨rfl, hby⟩
        (try go_wp2_with fail)
        refine hK.out _ _ ?_ (fun hHeld2 => ?_)
        · exact ⟨⟨kept hby hHeld.1.1, kept hby hHeld.1.2.1, kept hby hHeld.1.2.2.1, kept hby hHeld.1.2.2.2.1, kept hby hHeld.1.2.2.2.2.1, kept hby hHeld.1.2.2.2.2.2.1, kept hby hHeld.1.2.2.2.2.2.2.1, kept hby hHeld.1.2.2.2.2.2.2.2.1, kept hby hHeld.1.2.2.2.2.2.2.2.2.1, kept hby hHeld.1.2.2.2.2.2.2.2.2.2.1, kept hby hHeld.1.2.2.2.2.2.2.2.2.2.2.1, kept hby hHeld.1.2.2.2.2.2.2.2.2.2.2.2.1, kept hby hHeld.1.2.2.2.2.2.2.2.2.2.2.2.2.1, kept hby hHeld.1.2.2.2.2.2.2.2.2.2.2.2.2.2.1, kept hby hHeld.1.2.2.2.2.2.2.2.2.2.2.2.2.2.2.1, kept hby hHeld.1.2.2.2.2.2.2.2.2.2.2.2.2.2.2.2.1, kept hby hHeld.1.2.2.2.2.2.2.2.2.2.2.2.2.2.2.2.2.1, kept hby hHeld.1.2.2.2.2.2.2.2.2.2.2.2.2.2.2.2.2.2.1, kept hby hHeld.1.2.2.2.2.2.2.2.2.2.2.2.2.2.2.2.2.2.2.1, kept hby hHeld.1.2.2.2.2.2.2.2.2.2.2.2.2.2.2.2.2.2.2.2.1, kept hby hHeld.1.2.2.2.2.2.2.2.2.2.2.2.2.2.2.2.2.2.2.2.2.1, kept hby hHeld.1.2.2.2.2.2.2.2.2.2.2.2.2.2.2.2.2.2.2.2.2.2⟩, hHeld.2.trans (hby.mono hHeld.2.size)⟩
        clear hK K hHeld
        have hHeld := hHeld2
        clear hHeld2
        (try simp only [List.getElem_toArray, List.getElem_cons_succ, List.getElem_cons_zero, Act.put, List.setIfInBounds_toArray, List.set_cons_zero, List.set_cons_succ])
        refine wpAnyH_take (i := 6) (v := ?_) rfl (by kernel_rfl) (by kernel_rfl) (by kernel_rfl) (fun _ _ _ h => h) (Or.inl ⟨by rfl, ?_⟩) (by assumption) ?_
        rotate_left
        · (intro w hSw; (try dsimp only at hSw); go_simp; (try with_reducible rfl))
        (try simp only [List.getElem_toArray, List.getElem_cons_succ, List.getElem_cons_zero, Act.put, List.setIfInBounds_toArray, List.set_cons_zero, List.set_cons_succ])
        refine wpAnyH_take (i := 7) (v := ?_) rfl (by kernel_rfl) (by kernel_rfl) (by kernel_rfl) (fun _ _ _ h => h) (Or.inl ⟨by rfl, ?_⟩) (by assumption) ?_
        rotate_left
        · (intro w hSw; (try dsimp only at hSw); go_simp; (try with_reducible rfl))
        (try simp only [List.getElem_toArray, List.getElem_cons_succ, List.getElem_cons_zero, Act.put, List.setIfInBounds_toArray, List.set_cons_zero, List.set_cons_succ])
        refine wpAnyH_take (i := 9) (v := ?_) rfl (by kernel_rfl) (by kernel_rfl) (by kernel_rfl) (fun _ _ _ h => h) (Or.inl ⟨by rfl, ?_⟩) (by assumption) ?_
        rotate_left
        · (intro w hSw; (try dsimp only at hSw); go_simp; (try with_reducible rfl))
        (try simp only [List.getElem_toArray, List.getElem_cons_succ, List.getElem_cons_zero, Act.put, List.setIfInBounds_toArray, List.set_cons_zero, List.set_cons_succ])
        refine wpAnyH_take (i := 10) (v := ?_) rfl (by kernel_rfl) (by kernel_rfl) (by kernel_rfl) (fun _ _ _ h => h) (Or.inl ⟨by rfl, ?_⟩) (by assumption) ?_
        rotate_left
        · (intro w hSw; (try dsimp only at hSw); go_simp; (try with_reducible rfl))
        (try simp only [List.getElem_toArray, List.getElem_cons_succ, List.getElem_cons_zero, Act.put, List.setIfInBounds_toArray, List.set_cons_zero, List.set_cons_succ])
        refine wpAnyH_take (i := 11) (v := ?_) rfl (by kernel_rfl) (by kernel_rfl) (by kernel_rfl) (fun _ _ _ h => h) (Or.inl ⟨by rfl, ?_⟩) (by assumption) ?_
        rotate_left
        · (intro w hSw; (try dsimp only at hSw); go_simp; (try with_reducible rfl))
        (try simp only [List.getElem_toArray, List.getElem_cons_succ, List.getElem_cons_zero, Act.put, List.setIfInBounds_toArray, List.set_cons_zero, List.set_cons_succ])
        refine wpAnyH_take (i := 12) (v := ?_) rfl (by kernel_rfl) (by kernel_rfl) (by kernel_rfl) (fun _ _ _ h => h) (Or.inl ⟨by rfl, ?_⟩) (by assumption) ?_
        rotate_left
        · (intro w hSw; (try dsimp only at hSw); go_simp; (try with_reducible rfl))
        (try simp only [List.getElem_toArray, List.getElem_cons_succ, List.getElem_cons_zero, Act.put, List.setIfInBounds_toArray, List.set_cons_zero, List.set_cons_succ])
        refine wpAnyH_take (i := 13) (v := ?_) rfl (by kernel_rfl) (by kernel_rfl) (by kernel_rfl) (fun _ _ _ h => h) (Or.inl ⟨by rfl, ?_⟩) (by assumption) ?_
        rotate_left
        · (intro w hSw; (try dsimp only at hSw); go_simp; (try with_reducible rfl))
        (try simp only [List.getElem_toArray, List.getElem_cons_succ, List.getElem_cons_zero, Act.put, List.setIfInBounds_toArray, List.set_cons_zero, List.set_cons_succ])
        refine wpAnyH_take (i := 14) (v := ?_) rfl (by kernel_rfl) (by kernel_rfl) (by kernel_rfl) (fun _ _ _ h => h) (Or.inl ⟨by rfl, ?_⟩) (by assumption) ?_
        rotate_left
        · (intro w hSw; (try dsimp only at hSw); go_simp; (try with_reducible rfl))
        (try simp only [List.getElem_toArray, List.getElem_cons_succ, List.getElem_cons_zero, Act.put, List.setIfInBounds_toArray, List.set_cons_zero, List.set_cons_succ])
        refine wpAnyH_ready (rs := [8]) (by kernel_rfl) (by simp) ?_
        refine AllReadyH.cons rfl (fun K hK => ?_) AllReadyH.nil
        go_simp
        go_at_call 101
        refine Calls.mono (CPO.out _) ?_
        rintro E y8 ⟨rfl, hbz⟩
        (try go_wp2_with fail)
        refine hK.out _ _ ?_ (fun hHeld2 => ?_)
        · exact ⟨⟨kept hbz hHeld.1.1, kept hbz hHeld.1.2.1, kept hbz hHeld.1.2.2.1, kept hbz hHeld.1.2.2.2.1, kept hbz hHeld.1.2.2.2.2.1, kept hbz hHeld.1.2.2.2.2.2.1, kept hbz hHeld.1.2.2.2.2.2.2.1, kept hbz hHeld.1.2.2.2.2.2.2.2.1, kept hbz hHeld.1.2.2.2.2.2.2.2.2.1, kept hbz hHeld.1.2.2.2.2.2.2.2.2.2.1, kept hbz hHeld.1.2.2.2.2.2.2.2.2.2.2.1, kept hbz hHeld.1.2.2.2.2.2.2.2.2.2.2.2.1, kept hbz hHeld.1.2.2.2.2.2.2.2.2.2.2.2.2.1, kept hbz hHeld.1.2.2.2.2.2.2.2.2.2.2.2.2.2.1, kept hbz hHeld.1.2.2.2.2.2.2.2.2.2.2.2.2.2.2.1, kept hbz hHeld.1.2.2.2.2.2.2.2.2.2.2.2.2.2.2.2.1, kept hbz hHeld.1.2.2.2.2.2.2.2.2.2.2.2.2.2.2.2.2.1, kept hbz hHeld.1.2.2.2.2.2.2.2.2.2.2.2.2.2.2.2.2.2.1, kept hbz hHeld.1.2.2.2.2.2.2.2.2.2.2.2.2.2.2.2.2.2.2.1, kept hbz hHeld.1.2.2.2.2.2.2.2.2.2.2.2.2.2.2.2.2.2.2.2.1, kept hbz hHeld.1.2.2.2.2.2.2.2.2.2.2.2.2.2.2.2.2.2.2.2.2.1, kept hbz hHeld.1.2.2.2.2.2.2.2.2.2.2.2.2.2.2.2.2.2.2.2.2.2⟩, hHeld.2.trans (hbz.mono hHeld.2.size)⟩
        clear hK K hHeld
        have hHeld := hHeld2
        clear hHeld2
        (try simp only [List.getElem_toArray, List.getElem_cons_succ, List.getElem_cons_zero, Act.put, List.setIfInBounds_toArray, List.set_cons_zero, List.set_cons_succ])
        refine wpAnyH_ready (rs := [15]) (by kernel_rfl) (by simp) ?_
        refine AllReadyH.cons rfl (fun K hK => ?_) AllReadyH.nil
        go_simp
        go_at_call 166
        refine Calls.mono (C12B.out _ hHeld.2) ?_
        rintro E y15 ⟨rfl, hbu⟩
        (try go_wp2_with fail)
        refine hK.out _ _ ?_ (fun hHeld2 => ?_)
        · exact ⟨⟨kept hbu hHeld.1.1, kept hbu hHeld.1.2.1, kept hbu hHeld.1.2.2.1, kept hbu hHeld.1.2.2.2.1, kept hbu hHeld.1.2.2.2.2.1, kept hbu hHeld.1.2.2.2.2.2.1, kept hbu hHeld.1.2.2.2.2.2.2.1, kept hbu hHeld.1.2.2.2.2.2.2.2.1, kept hbu hHeld.1.2.2.2.2.2.2.2.2.1, kept hbu hHeld.1.2.2.2.2.2.2.2.2.2.1, kept hbu hHeld.1.2.2.2.2.2.2.2.2.2.2.1, kept hbu hHeld.1.2.2.2.2.2.2.2.2.2.2.2.1, kept hbu hHeld.1.2.2.2.2.2.2.2.2.2.2.2.2.1, kept hbu hHeld.1.2.2.2.2.2.2.2.2.2.2.2.2.2.1, kept hbu hHeld.1.2.2.2.2.2.2.2.2.2.2.2.2.2.2.1, kept hbu hHeld.1.2.2.2.2.2.2.2.2.2.2.2.2.2.2.2.1, kept hbu hHeld.1.2.2.2.2.2.2.2.2.2.2.2.2.2.2.2.2.1, kept hbu hHeld.1.2.2.2.2.2.2.2.2.2.2.2.2.2.2.2.2.2.1, kept hbu hHeld.1.2.2.2.2.2.2.2.2.2.2.2.2.2.2.2.2.2.2.1, kept hbu hHeld.1.2.2.2.2.2.2.2.2.2.2.2.2.2.2.2.2.2.2.2.1, kept hbu hHeld.1.2.2.2.2.2.2.2.2.2.2.2.2.2.2.2.2.2.2.2.2.1, kept hbu hHeld.1.2.2.2.2.2.2.2.2.2.2.2.2.2.2.2.2.2.2.2.2.2⟩, hHeld.2.trans (hbu.mono hHeld.2.size)⟩
        clear hK K hHeld
        have hHeld := hHeld2
        clear hHeld2
        (try simp only [List.getElem_toArray, List.getElem_cons_succ, List.getElem_cons_zero, Act.put, List.setIfInBounds_toArray, List.set_cons_zero, List.set_cons_succ])
        refine wpAnyH_take (i := 16) (v := ?_) rfl (by kernel_rfl) (by kernel_rfl) (by kernel_rfl) (fun _ _ _ h => h) (Or.inl ⟨by rfl, ?_⟩) (by assumption) ?_
        rotate_left
        · (intro w hSw; (try dsimp only at hSw); go_simp; (try with_reducible rfl))
        (try simp only [List.getElem_toArray, List.getElem_cons_succ, List.getElem_cons_zero, Act.put, List.setIfInBounds_toArray, List.set_cons_zero, List.set_cons_succ])
        refine wpAnyH_take (i := 17) (v := ?_) rfl (by kernel_rfl) (by kernel_rfl) (by kernel_rfl) (fun _ _ _ h => h) (Or.inl ⟨by rfl, ?_⟩) (by assumption) ?_
        rotate_left
        · (intro w hSw; (try dsimp only at hSw); go_simp; (try with_reducible rfl))
        (try simp only [List.getElem_toArray, List.getElem_cons_succ, List.getElem_cons_zero, Act.put, List.setIfInBounds_toArray, List.set_cons_zero, List.set_cons_succ])
        refine wpAnyH_done (by kernel_rfl) ?_ _
        have HCELLS2 := Lib.hid hHeld.1
        have HBX2 := Lib.hid hHeld.2
        clear hHeld
        obtain ⟨wb, hwb⟩ : ∃ wb, worksB kv.st = wb := ⟨_, rfl⟩
        rw [hwb] at CWK
        clear hwb
        cases wb with
        | true =>
          go_upto_region 14 with fail
          refine wp_region_held_drew (S := (fun W => (W.cell? ⟨w.heap.size, 0, none⟩ = some (.string p.n) ∧ W.cell? ⟨w.heap.size, 1, none⟩ = some (.int .i64 p.e) ∧ W.cell? ⟨w.heap.size, 2, none⟩ = some (.string p.u) ∧ W.cell? ⟨w.heap.size, 3, none⟩ = some (.string p.r) ∧ W.cell? ⟨w.heap.size, 4, none⟩ = some (.slice A1 m1 c1) ∧ W.cell? ⟨w.heap.size, 5, none⟩ = some (.slice A2 m2 c2) ∧ W.cell? ⟨w.heap.size, 6, none⟩ = some (.slice A3 m3 c3) ∧ W.cell? ⟨w.heap.size, 7, none⟩ = some (.slice A4 m4 c4) ∧ W.cell? ⟨w.heap.size, 8, none⟩ = some (.slice A5 m5 c5) ∧ W.cell? ⟨w.heap.size, 9, none⟩ = some (.slice A6 m6 c6) ∧ W.cell? ⟨w.heap.size, 10, none⟩ = some (.slice A7 m7 c7) ∧ W.cell? ⟨w.heap.size, 11, none⟩ = some (.slice A8 m8 c8) ∧ W.cell? ⟨w.heap.size, 12, none⟩ = some (.slice A9 m9 c9) ∧ W.cell? ⟨b9, 0, none⟩ = some (.int .i64 kv.st) ∧ W.cell? ⟨b9, 7, none⟩ = some (.string kv.p.n) ∧ W.cell? ⟨b9, 13, none⟩ = some (.slice B3 kv.p.ag.length d3) ∧ W.cell? ⟨b9, 14, none⟩ = some (.slice B4 kv.p.br.length d4) ∧ W.cell? ⟨b10, 0, none⟩ = some (.string kv.p.n) ∧ W.cell? ⟨b10, 1, none⟩ = some (.int .i64 kv.p.e) ∧ W.cell? ⟨b10, 2, none⟩ = some (.string kv.p.u) ∧ W.cell? ⟨b10, 3, none⟩ = some (.string kv.p.r) ∧ W.cell? ⟨b10, 4, none⟩ = some (.slice B6 kv.p.pr.length d6)) ∧ Below w5.heap.size w5 W)) (by kernel_rfl) ?_ (fun hHeld => ?_)
          · exact ⟨HCELLS2.out, HBX2.out.drew⟩
          refine wpAnyH_take (i := 0) (v := ?_) rfl (by kernel_rfl) (by kernel_rfl) (by kernel_rfl) (fun _ _ _ h => h) (Or.inl ⟨by rfl, ?_⟩) (by assumption) ?_
          rotate_left
          · (intro w hSw; (try dsimp only at hSw); go_simp; (try with_reducible rfl))
          (try simp only [List.getElem_toArray, List.getElem_cons_zero, Act.put, List.setIfInBounds_toArray, List.set_cons_zero, List.set_cons_succ])
          refine wpAnyH_take (i := 1) (v := ?_) rfl (by kernel_rfl) (by kernel_rfl) (by kernel_rfl) (fun _ _ _ h => h) (Or.inl ⟨by rfl, ?_⟩) (by assumption) ?_
          rotate_left
          · (intro w hSw; (try dsimp only at hSw); go_simp; (try with_reducible rfl))
          (try simp only [List.getElem_toArray, List.getElem_cons_succ, List.getElem_cons_zero, Act.put, List.setIfInBounds_toArray, List.set_cons_zero, List.set_cons_succ])
          refine wpAnyH_take (i := 2) (v := ?_) rfl (by kernel_rfl) (by kernel_rfl) (by kernel_rfl) (fun _ _ _ h => h) (Or.inl ⟨by rfl, ?_⟩) (by assumption) ?_
          rotate_left
          · (intro w hSw; (try dsimp only at hSw); go_simp; (try with_reducible rfl))
          (try simp only [List.getElem_toArray, List.getElem_cons_succ, List.getElem_cons_zero, Act.put, List.setIfInBounds_toArray, List.set_cons_zero, List.set_cons_succ])
          refine wpAnyH_ready (rs := [3]) (by kernel_rfl) (by simp) ?_
          refine AllReadyH.cons rfl (fun K hK => ?_) AllReadyH.nil
          go_simp
          go_at_call 107
          refine Calls.mono (CWK.out _) ?_
          rintro E y3 ⟨rfl, rfl⟩
          (try go_wp2_with fail)
          refine hK.out _ _ ?_ (fun hHeld2 => ?_)
          · exact hHeld
          clear hK K hHeld
          have hHeld := hHeld2
          clear hHeld2
          (try simp only [List.getElem_toArray, List.getElem_cons_succ, List.getElem_cons_zero, Act.put, List.setIfInBounds_toArray, List.set_cons_zero, List.set_cons_succ])
          refine wpAnyH_take (i := 4) (v := ?_) rfl (by kernel_rfl) (by kernel_rfl) (by kernel_rfl) (fun _ _ _ h => h) (Or.inl ⟨by rfl, ?_⟩) (by assumption) ?_
          rotate_left
          · (intro w hSw; (try dsimp only at hSw); go_simp; (try with_reducible rfl))
          (try simp only [List.getElem_toArray, List.getElem_cons_succ, List.getElem_cons_zero, Act.put, List.setIfInBounds_toArray, List.set_cons_zero, List.set_cons_succ])
          refine wpAnyH_take (i := 5) (v := ?_) rfl (by kernel_rfl) (by kernel_rfl) (by kernel_rfl) (fun _ _ _ h => h) (Or.inl ⟨by rfl, ?_⟩) (by assumption) ?_
          rotate_left
          · (intro w hSw; (try dsimp only at hSw); go_simp; (try with_reducible rfl))
          (try simp only [List.getElem_toArray, List.getElem_cons_succ, List.getElem_cons_zero, Act.put, List.setIfInBounds_toArray, List.set_cons_zero, List.set_cons_succ])
          refine wpAnyH_take (i := 6) (v := ?_) rfl (by kernel_rfl) (by kernel_rfl) (by kernel_rfl) (fun _ _ _ h => h) (Or.inl ⟨by rfl, ?_⟩) (by assumption) ?_
          rotate_left
          · (intro w hSw; (try dsimp only at hSw); go_simp; (try with_reducible rfl))
          (try simp only [List.getElem_toArray, List.getElem_cons_succ, List.getElem_cons_zero, Act.put, List.setIfInBounds_toArray, List.set_cons_zero, List.set_cons_succ])
          refine wpAnyH_take (i := 7) (v := ?_) rfl (by kernel_rfl) (by kernel_rfl) (by kernel_rfl) (fun _ _ _ h => h) (Or.inl ⟨by rfl, ?_⟩) (by assumption) ?_
          rotate_left
          · (intro w hSw; (try dsimp only at hSw); go_simp; (try with_reducible rfl))
          (try simp only [List.getElem_toArray, List.getElem_cons_succ, List.getElem_cons_zero, Act.put, List.setIfInBounds_toArray, List.set_cons_zero, List.set_cons_succ])
          refine wpAnyH_take (i := 8) (v := ?_) rfl (by kernel_rfl) (by kernel_rfl) (by kernel_rfl) (fun _ _ _ h => h) (Or.inl ⟨by rfl, ?_⟩) (by assumption) ?_
          rotate_left
          · (intro w hSw; (try dsimp only at hSw); go_simp; (try with_reducible rfl))
          (try simp only [List.getElem_toArray, List.getElem_cons_succ, List.getElem_cons_zero, Act.put, List.setIfInBounds_toArray, List.set_cons_zero, List.set_cons_succ])
          refine wpAnyH_take (i := 9) (v := ?_) rfl (by kernel_rfl) (by kernel_rfl) (by kernel_rfl) (fun _ _ _ h => h) (Or.inl ⟨by rfl, ?_⟩) (by assumption) ?_
          rotate_left
          · (intro w hSw; (try dsimp only at hSw); go_simp; (try with_reducible rfl))
          (try simp only [List.getElem_toArray, List.getElem_cons_succ, List.getElem_cons_zero, Act.put, List.setIfInBounds_toArray, List.set_cons_zero, List.set_cons_succ])
          refine wpAnyH_ready (rs := [10]) (by kernel_rfl) (by simp) ?_
          refine AllReadyH.cons rfl (fun K hK => ?_) AllReadyH.nil
          go_simp
          go_at_call 166
          refine Calls.mono (C14A.out _ hHeld.2) ?_
          rintro E y10 ⟨rfl, hby⟩
          (try go_wp2_with fail)
          refine hK.out _ _ ?_ (fun hHeld2 => ?_)
          · exact ⟨⟨kept hby hHeld.1.1, kept hby hHeld.1.2.1, kept hby hHeld.1.2.2.1, kept hby hHeld.1.2.2.2.1, kept hby hHeld.1.2.2.2.2.1, kept hby hHeld.1.2.2.2.2.2.1, kept hby hHeld.1.2.2.2.2.2.2.1, kept hby hHeld.1.2.2.2.2.2.2.2.1, kept hby hHeld.1.2.2.2.2.2.2.2.2.1, kept hby hHeld.1.2.2.2.2.2.2.2.2.2.1, kept hby hHeld.1.2.2.2.2.2.2.2.2.2.2.1, kept hby hHeld.1.2.2.2.2.2.2.2.2.2.2.2.1, kept hby hHeld.1.2.2.2.2.2.2.2.2.2.2.2.2.1, kept hby hHeld.1.2.2.2.2.2.2.2.2.2.2.2.2.2.1, kept hby hHeld.1.2.2.2.2.2.2.2.2.2.2.2.2.2.2.1, kept hby hHeld.1.2.2.2.2.2.2.2.2.2.2.2.2.2.2.2.1, kept hby hHeld.1.2.2.2.2.2.2.2.2.2.2.2.2.2.2.2.2.1, kept hby hHeld.1.2.2.2.2.2.2.2.2.2.2.2.2.2.2.2.2.2.1, kept hby hHeld.1.2.2.2.2.2.2.2.2.2.2.2.2.2.2.2.2.2.2.1, kept hby hHeld.1.2.2.2.2.2.2.2.2.2.2.2.2.2.2.2.2.2.2.2.1, kept hby hHeld.1.2.2.2.2.2.2.2.2.2.2.2.2.2.2.2.2.2.2.2.2.1, kept hby hHeld.1.2.2.2.2.2.2.2.2.2.2.2.2.2.2.2.2.2.2.2.2.2⟩, hHeld.2.trans (hby.mono hHeld.2.size)⟩
          clear hK K hHeld
          have hHeld := hHeld2
          clear hHeld2
          (try simp only [List.getElem_toArray, List.getElem_cons_succ, List.getElem_cons_zero, Act.put, List.setIfInBounds_toArray, List.set_cons_zero, List.set_cons_succ])
          refine wpAnyH_take (i := 11) (v := ?_) rfl (by kernel_rfl) (by kernel_rfl) (by kernel_rfl) (fun _ _ _ h => h) (Or.inl ⟨by rfl, ?_⟩) (by assumption) ?_
          rotate_left
          · (intro w hSw; (try dsimp only at hSw); go_simp; (try with_reducible rfl))
          (try simp only [List.getElem_toArray, List.getElem_cons_succ, List.getElem_cons_zero, Act.put, List.setIfInBounds_toArray, List.set_cons_zero, List.set_cons_succ])
          refine wpAnyH_take (i := 12) (v := ?_) rfl (by kernel_rfl) (by kernel_rfl) (by kernel_rfl) (fun _ _ _ h => h) (Or.inl ⟨by rfl, ?_⟩) (by assumption) ?_
          rotate_left
          · (intro w hSw; (try dsimp only at hSw); go_simp; (try with_reducible rfl))
          (try simp only [List.getElem_toArray, List.getElem_cons_succ, List.getElem_cons_zero, Act.put, List.setIfInBounds_toArray, List.set_cons_zero, List.set_cons_succ])
          refine wpAnyH_take (i := 14) (v := ?_) rfl (by kernel_rfl) (by kernel_rfl) (by kernel_rfl) (fun _ _ _ h => h) (Or.inl ⟨by rfl, ?_⟩) (by assumption) ?_
          rotate_left
          · (intro w hSw; (try dsimp only at hSw); go_simp; (try with_reducible rfl))
          (try simp only [List.getElem_toArray, List.getElem_cons_succ, List.getElem_cons_zero, Act.put, List.setIfInBounds_toArray, List.set_cons_zero, List.set_cons_succ])
          refine wpAnyH_take (i := 15) (v := ?_) rfl (by kernel_rfl) (by kernel_rfl) (by kernel_rfl) (fun _ _ _ h => h) (Or.inl ⟨by rfl, ?_⟩) (by assumption) ?_
          rotate_left
          · (intro w hSw; (try dsimp only at hSw); go_simp; (try with_reducible rfl))
          (try simp only [List.getElem_toArray, List.getElem_cons_succ, List.getElem_cons_zero, Act.put, List.setIfInBounds_toArray, List.set_cons_zero, List.set_cons_succ])
          refine wpAnyH_take (i := 16) (v := ?_) rfl (by kernel_rfl) (by kernel_rfl) (by kernel_rfl) (fun _ _ _ h => h) (Or.inl ⟨by rfl, ?_⟩) (by assumption) ?_
          rotate_left
          · (intro w hSw; (try dsimp only at hSw); go_simp; (try with_reducible rfl))
          (try simp only [List.getElem_toArray, List.getElem_cons_succ, List.getElem_cons_zero, Act.put, List.setIfInBounds_toArray, List.set_cons_zero, List.set_cons_succ])
          refine wpAnyH_take (i := 17) (v := ?_) rfl (by kernel_rfl) (by kernel_rfl) (by kernel_rfl) (fun _ _ _ h => h) (Or.inl ⟨by rfl, ?_⟩) (by assumption) ?_
          rotate_left
          · (intro w hSw; (try dsimp only at hSw); go_simp; (try with_reducible rfl))
          (try simp only [List.getElem_toArray, List.getElem_cons_succ, List.getElem_cons_zero, Act.put, List.setIfInBounds_toArray, List.set_cons_zero, List.set_cons_succ])
          refine wpAnyH_take (i := 18) (v := ?_) rfl (by kernel_rfl) (by kernel_rfl) (by kernel_rfl) (fun _ _ _ h => h) (Or.inl ⟨by rfl, ?_⟩) (by assumption) ?_
          rotate_left
          · (intro w hSw; (try dsimp only at hSw); go_simp; (try with_reducible rfl))
          (try simp only [List.getElem_toArray, List.getElem_cons_succ, List.getElem_cons_zero, Act.put, List.setIfInBounds_toArray, List.set_cons_zero, List.set_cons_succ])
          refine wpAnyH_take (i := 19) (v := ?_) rfl (by kernel_rfl) (by kernel_rfl) (by kernel_rfl) (fun _ _ _ h => h) (Or.inl ⟨by rfl, ?_⟩) (by assumption) ?_
          rotate_left
          · (intro w hSw; (try dsimp only at hSw); go_simp; (try with_reducible rfl))
          (try simp only [List.getElem_toArray, List.getElem_cons_succ, List.getElem_cons_zero, Act.put, List.setIfInBounds_toArray, List.set_cons_zero, List.set_cons_succ])
          refine wpAnyH_ready (rs := [13]) (by kernel_rfl) (by simp) ?_
          refine AllReadyH.cons rfl (fun K hK => ?_) AllReadyH.nil
          go_simp
          go_at_call 101
          refine Calls.mono (CPO.out _) ?_
          rintro E y13 ⟨rfl, hbz⟩
          (try go_wp2_with fail)
          refine hK.out _ _ ?_ (fun hHeld2 => ?_)
          · exact ⟨⟨kept hbz hHeld.1.1, kept hbz hHeld.1.2.1, kept hbz hHeld.1.2.2.1, kept hbz hHeld.1.2.2.2.1, kept hbz hHeld.1.2.2.2.2.1, kept hbz hHeld.1.2.2.2.2.2.1, kept hbz hHeld.1.2.2.2.2.2.2.1, kept hbz hHeld.1.2.2.2.2.2.2.2.1, kept hbz hHeld.1.2.2.2.2.2.2.2.2.1, kept hbz hHeld.1.2.2.2.2.2.2.2.2.2.1, kept hbz hHeld.1.2.2.2.2.2.2.2.2.2.2.1, kept hbz hHeld.1.2.2.2.2.2.2.2.2.2.2.2.1, kept hbz hHeld.1.2.2.2.2.2.2.2.2.2.2.2.2.1, kept hbz hHeld.1.2.2.2.2.2.2.2.2.2.2.2.2.2.1, kept hbz hHeld.1.2.2.2.2.2.2.2.2.2.2.2.2.2.2.1, kept hbz hHeld.1.2.2.2.2.2.2.2.2.2.2.2.2.2.2.2.1, kept hbz hHeld.1.2.2.2.2.2.2.2.2.2.2.2.2.2.2.2.2.1, kept hbz hHeld.1.2.2.2.2.2.2.2.2.2.2.2.2.2.2.2.2.2.1, kept hbz hHeld.1.2.2.2.2.2.2.2.2.2.2.2.2.2.2.2.2.2.2.1, kept hbz hHeld.1.2.2.2.2.2.2.2.2.2.2.2.2.2.2.2.2.2.2.2.1, kept hbz hHeld.1.2.2.2.2.2.2.2.2.2.2.2.2.2.2.2.2.2.2.2.2.1, kept hbz hHeld.1.2.2.2.2.2.2.2.2.2.2.2.2.2.2.2.2.2.2.2.2.2⟩, hHeld.2.trans (hbz.mono hHeld.2.size)⟩
          clear hK K hHeld
          have hHeld := hHeld2
          clear hHeld2
          (try simp only [List.getElem_toArray, List.getElem_cons_succ, List.getElem_cons_zero, Act.put, List.setIfInBounds_toArray, List.set_cons_zero, List.set_cons_succ])
          refine wpAnyH_ready (rs := [20]) (by kernel_rfl) (by simp) ?_
          refine AllReadyH.cons rfl (fun K hK => ?_) AllReadyH.nil
          go_simp
          go_at_call 166
          refine Calls.mono (C14B.out _ hHeld.2) ?_
          rintro E y20 ⟨rfl, hbu⟩
          (try go_wp2_with fail)
          refine hK.out _ _ ?_ (fun hHeld2 => ?_)
          · exact ⟨⟨kept hbu hHeld.1.1, kept hbu hHeld.1.2.1, kept hbu hHeld.1.2.2.1, kept hbu hHeld.1.2.2.2.1, kept hbu hHeld.1.2.2.2.2.1, kept hbu hHeld.1.2.2.2.2.2.1, kept hbu hHeld.1.2.2.2.2.2.2.1, kept hbu hHeld.1.2.2.2.2.2.2.2.1, kept hbu hHeld.1.2.2.2.2.2.2.2.2.1, kept hbu hHeld.1.2.2.2.2.2.2.2.2.2.1, kept hbu hHeld.1.2.2.2.2.2.2.2.2.2.2.1, kept hbu hHeld.1.2.2.2.2.2.2.2.2.2.2.2.1, kept hbu hHeld.1.2.2.2.2.2.2.2.2.2.2.2.2.1, kept hbu hHeld.1.2.2.2.2.2.2.2.2.2.2.2.2.2.1, kept hbu hHeld.1.2.2.2.2.2.2.2.2.2.2.2.2.2.2.1, kept hbu hHeld.1.2.2.2.2.2.2.2.2.2.2.2.2.2.2.2.1, kept hbu hHeld.1.2.2.2.2.2.2.2.2.2.2.2.2.2.2.2.2.1, kept hbu hHeld.1.2.2.2.2.2.2.2.2.2.2.2.2.2.2.2.2.2.1, kept hbu hHeld.1.2.2.2.2.2.2.2.2.2.2.2.2.2.2.2.2.2.2.1, kept hbu hHeld.1.2.2.2.2.2.2.2.2.2.2.2.2.2.2.2.2.2.2.2.1, kept hbu hHeld.1.2.2.2.2.2.2.2.2.2.2.2.2.2.2.2.2.2.2.2.2.1, kept hbu hHeld.1.2.2.2.2.2.2.2.2.2.2.2.2.2.2.2.2.2.2.2.2.2⟩, hHeld.2.trans (hbu.mono hHeld.2.size)⟩
          clear hK K hHeld
          have hHeld := hHeld2
          clear hHeld2
          (try simp only [List.getElem_toArray, List.getElem_cons_succ, List.getElem_cons_zero, Act.put, List.setIfInBounds_toArray, List.set_cons_zero, List.set_cons_succ])
          refine wpAnyH_take (i := 21) (v := ?_) rfl (by kernel_rfl) (by kernel_rfl) (by kernel_rfl) (fun _ _ _ h => h) (Or.inl ⟨by rfl, ?_⟩) (by assumption) ?_
          rotate_left
          · (intro w hSw; (try dsimp only at hSw); go_simp; (try with_reducible rfl))
          (try simp only [List.getElem_toArray, List.getElem_cons_succ, List.getElem_cons_zero, Act.put, List.setIfInBounds_toArray, List.set_cons_zero, List.set_cons_succ])
          refine wpAnyH_take (i := 22) (v := ?_) rfl (by kernel_rfl) (by kernel_rfl) (by kernel_rfl) (fun _ _ _ h => h) (Or.inl ⟨by rfl, ?_⟩) (by assumption) ?_
          rotate_left
          · (intro w hSw; (try dsimp only at hSw); go_simp; (try with_reducible rfl))
          (try simp only [List.getElem_toArray, List.getElem_cons_succ, List.getElem_cons_zero, Act.put, List.setIfInBounds_toArray, List.set_cons_zero, List.set_cons_succ])
          refine wpAnyH_take (i := 23) (v := ?_) rfl (by kernel_rfl) (by kernel_rfl) (by kernel_rfl) (fun _ _ _ h => h) (Or.inl ⟨by rfl, ?_⟩) (by assumption) ?_
          rotate_left
          · (intro w hSw; (try dsimp only at hSw); go_simp; (try with_reducible rfl))
          (try simp only [List.getElem_toArray, List.getElem_cons_succ, List.getElem_cons_zero, Act.put, List.setIfInBounds_toArray, List.set_cons_zero, List.set_cons_succ])
          refine wpAnyH_done (by kernel_rfl) ?_ _
          have HBX3 := Lib.hid hHeld.2
          clear hHeld
          go_wp2_with fail
          go_roundw
          case rel => exact ⟨k + 1, by omega, by go_num, HBX3⟩
          case measure => simp [intOf]; omega
        | false =>
          go_upto_region 14 with fail
          refine wp_region_held_drew (S := (fun W => (W.cell? ⟨w.heap.size, 0, none⟩ = some (.string p.n) ∧ W.cell? ⟨w.heap.size, 1, none⟩ = some (.int .i64 p.e) ∧ W.cell? ⟨w.heap.size, 2, none⟩ = some (.string p.u) ∧ W.cell? ⟨w.heap.size, 3, none⟩ = some (.string p.r) ∧ W.cell? ⟨w.heap.size, 4, none⟩ = some (.slice A1 m1 c1) ∧ W.cell? ⟨w.heap.size, 5, none⟩ = some (.slice A2 m2 c2) ∧ W.cell? ⟨w.heap.size, 6, none⟩ = some (.slice A3 m3 c3) ∧ W.cell? ⟨w.heap.size, 7, none⟩ = some (.slice A4 m4 c4) ∧ W.cell? ⟨w.heap.size, 8, none⟩ = some (.slice A5 m5 c5) ∧ W.cell? ⟨w.heap.size, 9, none⟩ = some (.slice A6 m6 c6) ∧ W.cell? ⟨w.heap.size, 10, none⟩ = some (.slice A7 m7 c7) ∧ W.cell? ⟨w.heap.size, 11, none⟩ = some (.slice A8 m8 c8) ∧ W.cell? ⟨w.heap.size, 12, none⟩ = some (.slice A9 m9 c9) ∧ W.cell? ⟨b9, 0, none⟩ = some (.int .i64 kv.st) ∧ W.cell? ⟨b9, 7, none⟩ = some (.string kv.p.n) ∧ W.cell? ⟨b9, 13, none⟩ = some (.slice B3 kv.p.ag.length d3) ∧ W.cell? ⟨b9, 14, none⟩ = some (.slice B4 kv.p.br.length d4) ∧ W.cell? ⟨b10, 0, none⟩ = some (.string kv.p.n) ∧ W.cell? ⟨b10, 1, none⟩ = some (.int .i64 kv.p.e) ∧ W.cell? ⟨b10, 2, none⟩ = some (.string kv.p.u) ∧ W.cell? ⟨b10, 3, none⟩ = some (.string kv.p.r) ∧ W.cell? ⟨b10, 4, none⟩ = some (.slice B6 kv.p.pr.length d6)) ∧ Below w5.heap.size w5 W)) (by kernel_rfl) ?_ (fun hHeld => ?_)
          · exact ⟨HCELLS2.out, HBX2.out.drew⟩
          refine wpAnyH_take (i := 0) (v := ?_) rfl (by kernel_rfl) (by kernel_rfl) (by kernel_rfl) (fun _ _ _ h => h) (Or.inl ⟨by rfl, ?_⟩) (by assumption) ?_
          rotate_left
          · (intro w hSw; (try dsimp only at hSw); go_simp; (try with_reducible rfl))
          (try simp only [List.getElem_toArray, List.getElem_cons_zero, Act.put, List.setIfInBounds_toArray, List.set_cons_zero, List.set_cons_succ])
          refine wpAnyH_take (i := 1) (v := ?_) rfl (by kernel_rfl) (by kernel_rfl) (by kernel_rfl) (fun _ _ _ h => h) (Or.inl ⟨by rfl, ?_⟩) (by assumption) ?_
          rotate_left
          · (intro w hSw; (try dsimp only at hSw); go_simp; (try with_reducible rfl))
          (try simp only [List.getElem_toArray, List.getElem_cons_succ, List.getElem_cons_zero, Act.put, List.setIfInBounds_toArray, List.set_cons_zero, List.set_cons_succ])
          refine wpAnyH_take (i := 2) (v := ?_) rfl (by kernel_rfl) (by kernel_rfl) (by kernel_rfl) (fun _ _ _ h => h) (Or.inl ⟨by rfl, ?_⟩) (by assumption) ?_
          rotate_left
          · (intro w hSw; (try dsimp only at hSw); go_simp; (try with_reducible rfl))
          (try simp only [List.getElem_toArray, List.getElem_cons_succ, List.getElem_cons_zero, Act.put, List.setIfInBounds_toArray, List.set_cons_zero, List.set_cons_succ])
          refine wpAnyH_ready (rs := [3]) (by kernel_rfl) (by simp) ?_
          refine AllReadyH.cons rfl (fun K hK => ?_) AllReadyH.nil
          go_simp
          go_at_call 107
          refine Calls.mono (CWK.out _) ?_
          rintro E y3 ⟨rfl, rfl⟩
          (try go_wp2_with fail)
          refine hK.out _ _ ?_ (fun hHeld2 => ?_)
          · exact hHeld
          clear hK K hHeld
          have hHeld := hHeld2
          clear hHeld2
          (try simp only [List.getElem_toArray, List.getElem_cons_succ, List.getElem_cons_zero, Act.put, List.setIfInBounds_toArray, List.set_cons_zero, List.set_cons_succ])
          refine wpAnyH_take (i := 4) (v := ?_) rfl (by kernel_rfl) (by kernel_rfl) (by kernel_rfl) (fun _ _ _ h => h) (Or.inl ⟨by rfl, ?_⟩) (by assumption) ?_
          rotate_left
          · (intro w hSw; (try dsimp only at hSw); go_simp; (try with_reducible rfl))
          (try simp only [List.getElem_toArray, List.getElem_cons_succ, List.getElem_cons_zero, Act.put, List.setIfInBounds_toArray, List.set_cons_zero, List.set_cons_succ])
          refine wpAnyH_take (i := 5) (v := undef) rfl (by kernel_rfl) (by kernel_rfl) (by kernel_rfl) (fun _ _ _ h => h) (Or.inr ⟨by rfl, rfl⟩) (by assumption) ?_
          (try simp only [List.getElem_toArray, List.getElem_cons_succ, List.getElem_cons_zero, Act.put, List.setIfInBounds_toArray, List.set_cons_zero, List.set_cons_succ])
          refine wpAnyH_take (i := 6) (v := undef) rfl (by kernel_rfl) (by kernel_rfl) (by kernel_rfl) (fun _ _ _ h => h) (Or.inr ⟨by rfl, rfl⟩) (by assumption) ?_
          (try simp only [List.getElem_toArray, List.getElem_cons_succ, List.getElem_cons_zero, Act.put, List.setIfInBounds_toArray, List.set_cons_zero, List.set_cons_succ])
          refine wpAnyH_take (i := 7) (v := undef) rfl (by kernel_rfl) (by kernel_rfl) (by kernel_rfl) (fun _ _ _ h => h) (Or.inr ⟨by rfl, rfl⟩) (by assumption) ?_
          (try simp only [List.getElem_toArray, List.getElem_cons_succ, List.getElem_cons_zero, Act.put, List.setIfInBounds_toArray, List.set_cons_zero, List.set_cons_succ])
          refine wpAnyH_take (i := 8) (v := undef) rfl (by kernel_rfl) (by kernel_rfl) (by kernel_rfl) (fun _ _ _ h => h) (Or.inr ⟨by rfl, rfl⟩) (by assumption) ?_
          (try simp only [List.getElem_toArray, List.getElem_cons_succ, List.getElem_cons_zero, Act.put, List.setIfInBounds_toArray, List.set_cons_zero, List.set_cons_succ])
          refine wpAnyH_take (i := 9) (v := undef) rfl (by kernel_rfl) (by kernel_rfl) (by kernel_rfl) (fun _ _ _ h => h) (Or.inr ⟨by rfl, rfl⟩) (by assumption) ?_
          (try simp only [List.getElem_toArray, List.getElem_cons_succ, List.getElem_cons_zero, Act.put, List.setIfInBounds_toArray, List.set_cons_zero, List.set_cons_succ])
          refine wpAnyH_take (i := 10) (v := undef) rfl (by kernel_rfl) (by kernel_rfl) (by kernel_rfl) (fun _ _ _ h => h) (Or.inr ⟨by rfl, rfl⟩) (by assumption) ?_
          (try simp only [List.getElem_toArray, List.getElem_cons_succ, List.getElem_cons_zero, Act.put, List.setIfInBounds_toArray, List.set_cons_zero, List.set_cons_succ])
          refine wpAnyH_take (i := 11) (v := undef) rfl (by kernel_rfl) (by kernel_rfl) (by kernel_rfl) (fun _ _ _ h => h) (Or.inr ⟨by rfl, rfl⟩) (by assumption) ?_
          (try simp only [List.getElem_toArray, List.getElem_cons_succ, List.getElem_cons_zero, Act.put, List.setIfInBounds_toArray, List.set_cons_zero, List.set_cons_succ])
          refine wpAnyH_take (i := 12) (v := undef) rfl (by kernel_rfl) (by kernel_rfl) (by kernel_rfl) (fun _ _ _ h => h) (Or.inr ⟨by rfl, rfl⟩) (by assumption) ?_
          (try simp only [List.getElem_toArray, List.getElem_cons_succ, List.getElem_cons_zero, Act.put, List.setIfInBounds_toArray, List.set_cons_zero, List.set_cons_succ])
          refine wpAnyH_take (i := 13) (v := undef) rfl (by kernel_rfl) (by kernel_rfl) (by kernel_rfl) (fun _ _ _ h => h) (Or.inr ⟨by rfl, rfl⟩) (by assumption) ?_
          (try simp only [List.getElem_toArray, List.getElem_cons_succ, List.getElem_cons_zero, Act.put, List.setIfInBounds_toArray, List.set_cons_zero, List.set_cons_succ])
          refine wpAnyH_take (i := 14) (v := undef) rfl (by kernel_rfl) (by kernel_rfl) (by kernel_rfl) (fun _ _ _ h => h) (Or.inr ⟨by rfl, rfl⟩) (by assumption) ?_
          (try simp only [List.getElem_toArray, List.getElem_cons_succ, List.getElem_cons_zero, Act.put, List.setIfInBounds_toArray, List.set_cons_zero, List.set_cons_succ])
          refine wpAnyH_take (i := 15) (v := undef) rfl (by kernel_rfl) (by kernel_rfl) (by kernel_rfl) (fun _ _ _ h => h) (Or.inr ⟨by rfl, rfl⟩) (by assumption) ?_
          (try simp only [List.getElem_toArray, List.getElem_cons_succ, List.getElem_cons_zero, Act.put, List.setIfInBounds_toArray, List.set_cons_zero, List.set_cons_succ])
          refine wpAnyH_take (i := 16) (v := undef) rfl (by kernel_rfl) (by kernel_rfl) (by kernel_rfl) (fun _ _ _ h => h) (Or.inr ⟨by rfl, rfl⟩) (by assumption) ?_
          (try simp only [List.getElem_toArray, List.getElem_cons_succ, List.getElem_cons_zero, Act.put, List.setIfInBounds_toArray, List.set_cons_zero, List.set_cons_succ])
          refine wpAnyH_take (i := 17) (v := undef) rfl (by kernel_rfl) (by kernel_rfl) (by kernel_rfl) (fun _ _ _ h => h) (Or.inr ⟨by rfl, rfl⟩) (by assumption) ?_
          (try simp only [List.getElem_toArray, List.getElem_cons_succ, List.getElem_cons_zero, Act.put, List.setIfInBounds_toArray, List.set_cons_zero, List.set_cons_succ])
          refine wpAnyH_take (i := 18) (v := undef) rfl (by kernel_rfl) (by kernel_rfl) (by kernel_rfl) (fun _ _ _ h => h) (Or.inr ⟨by rfl, rfl⟩) (by assumption) ?_
          (try simp only [List.getElem_toArray, List.getElem_cons_succ, List.getElem_cons_zero, Act.put, List.setIfInBounds_toArray, List.set_cons_zero, List.set_cons_succ])
          refine wpAnyH_take (i := 19) (v := undef) rfl (by kernel_rfl) (by kernel_rfl) (by kernel_rfl) (fun _ _ _ h => h) (Or.inr ⟨by rfl, rfl⟩) (by assumption) ?_
          (try simp only [List.getElem_toArray, List.getElem_cons_succ, List.getElem_cons_zero, Act.put, List.setIfInBounds_toArray, List.set_cons_zero, List.set_cons_succ])
          refine wpAnyH_take (i := 20) (v := undef) rfl (by kernel_rfl) (by kernel_rfl) (by kernel_rfl) (fun _ _ _ h => h) (Or.inr ⟨by rfl, rfl⟩) (by assumption) ?_
          (try simp only [List.getElem_toArray, List.getElem_cons_succ, List.getElem_cons_zero, Act.put, List.setIfInBounds_toArray, List.set_cons_zero, List.set_cons_succ])
          refine wpAnyH_take (i := 21) (v := undef) rfl (by kernel_rfl) (by kernel_rfl) (by kernel_rfl) (fun _ _ _ h => h) (Or.inr ⟨by rfl, rfl⟩) (by assumption) ?_
          (try simp only [List.getElem_toArray, List.getElem_cons_succ, List.getElem_cons_zero, Act.put, List.setIfInBounds_toArray, List.set_cons_zero, List.set_cons_succ])
          refine wpAnyH_take (i := 22) (v := ?_) rfl (by kernel_rfl) (by kernel_rfl) (by kernel_rfl) (fun _ _ _ h => h) (Or.inl ⟨by rfl, ?_⟩) (by assumption) ?_
          rotate_left
          · (intro w hSw; (try dsimp only at hSw); go_simp; (try with_reducible rfl))
          (try simp only [List.getElem_toArray, List.getElem_cons_succ, List.getElem_cons_zero, Act.put, List.setIfInBounds_toArray, List.set_cons_zero, List.set_cons_succ])
          refine wpAnyH_take (i := 23) (v := ?_) rfl (by kernel_rfl) (by kernel_rfl) (by kernel_rfl) (fun _ _ _ h => h) (Or.inl ⟨by rfl, ?_⟩) (by assumption) ?_
          rotate_left
          · (intro w hSw; (try dsimp only at hSw); go_simp; (try with_reducible rfl))
          (try simp only [List.getElem_toArray, List.getElem_cons_succ, List.getElem_cons_zero, Act.put, List.setIfInBounds_toArray, List.set_cons_zero, List.set_cons_succ])
          refine wpAnyH_done (by kernel_rfl) ?_ _
          have HBX3 := Lib.hid hHeld.2
          clear hHeld
          go_wp2_with fail
          go_roundw
          case rel => exact ⟨k + 1, by omega, by go_num, HBX3⟩
          case measure => simp [intOf]; omega
      · obtain rfl : k = kl := by omega
        go_wp2_with fail
        go_ret
        exact ⟨HB5.out.trans (hB.out.mono HB5.out.size), by rw [if_pos HM.out]; rfl⟩
end Go.Proofs.YtpbbhjifgaeklaaGreatDoor

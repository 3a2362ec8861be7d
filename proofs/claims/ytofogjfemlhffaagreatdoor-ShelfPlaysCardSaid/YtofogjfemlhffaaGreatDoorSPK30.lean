/- The reference's Clash. · The reference's Asked: may what is asked for be. -/
import Derived.Test.YtofogjfemlhffaaGreatDoorSPK29
import Derived.Test.YtofogjfemlhffaaGreatDoorSPK11
import Derived.Test.YtofogjfemlhffaaGreatDoorSPK5
namespace Go.Proofs.YtofogjfemlhffaaGreatDoor
open Go Go.RowKit Go.Maps

def hitR (Wm : Fm) (pn : ByteArray) (tk : ByteArray → Bool) (f n : ByteArray) : Bool := !decide (n = pn) && (pathsR Wm n).any (hitQ tk n f)
def hitP (np : Bool) (tk : ByteArray → Bool) (n f q : ByteArray) : Bool := !np && hitQ tk n f q
theorem any_hitP (np : Bool) (tk : ByteArray → Bool) (n f : ByteArray) (P : List ByteArray) : (!np && P.any (hitQ tk n f)) = P.any (hitP np tk n f) := by
  cases np with
  | false => show P.any _ = P.any _; congr 1
  | true =>
    show false = _
    symm
    rw [List.any_eq_false]
    exact fun q _ => by unfold hitP; simp
def clashR (Wm : Fm) (own : List ByteArray) (pn : ByteArray) (tk : ByteArray → Bool) (fi : List Fv) : Int × ByteArray := clashF own (hitR Wm pn tk) fi 0

set_option maxHeartbeats 4000000 in
set_option maxRecDepth 100000 in
theorem rclash_calls (r b0 b1 b2 cq : Nat) (Wm Dm Sm : Fm) (own : List ByteArray) (p : Pv) (tk : ByteArray → Bool) (v1 v2 v3 v4 v5 v6 v7 v8 v9 : Value) (w : World) (h : RShAt w r b0 b1 b2 Wm Dm Sm) (hown : OwnersR Wm own) (hl : Wm.length ≤ 1000000) (hz0 : ∀ q n, getF Wm q = some n → q.size ≤ 900000 ∧ n.size ≤ 900000) (hp : FieldsAt w v9 p.fi) (hz : ∀ f ∈ p.fi, f.n.size ≤ 1000)
    (C : ∀ (W : World) (s : ByteArray), Below w.heap.size w W → Calls Tryz.prog 8 #[.string s, .pointer (some ⟨cq, 0, none⟩)] W (BoolIs (tk s) W)) :
    Calls Tryz.prog 9 #[.pointer (some ⟨r, 0, none⟩), .agg #[.string p.n, .int .i64 p.e, .string p.u, .string p.r, v1, v2, v3, v4, v5, v6, v7, v8, v9], .func (.func 8) #[] #[.pointer (some ⟨cq, 0, none⟩)]] w fun E w' => E = .returned (.tuple #[.int .i64 (clashR Wm own p.n tk p.fi).1, .string (clashR Wm own p.n tk p.fi).2]) ∧ Below w.heap.size w w' := by
  have hb0 := below_alloc w (.cells #[.string p.n, .int .i64 p.e, .string p.u, .string p.r, v1, v2, v3, v4, v5, v6, v7, v8, v9] 43)
  have X0 := packBox_new w p v1 v2 v3 v4 v5 v6 v7 v8 v9 43
  have HC := Lib.hid C
  have HZW : ∀ q n, getF Wm q = some n → n.size ≤ maxLen := fun q n h => Nat.le_trans (hz0 q n h).2 (by unfold maxLen; omega)
  have CO := Lib.hid (fun (W : World) (hb : Below w.heap.size w W) => show Calls Tryz.prog 24 #[.pointer (some ⟨r, 0, none⟩)] W (StrsIs own W) from (rowners_calls r b0 b1 b2 Wm Dm Sm W (h.keep hb) hl HZW).mono fun E w' ⟨l, q1, _, q3⟩ => (OwnersR.eq q1 hown) ▸ q3)
  have CP := Lib.hid (fun (W : World) (hb : Below w.heap.size w W) (n : ByteArray) => rpaths_calls r b0 b1 b2 Wm Dm Sm n W (h.keep hb) hl)
  have HPZ := Lib.hid (fun (n : ByteArray) => show ∀ q ∈ pathsR Wm n, q.size ≤ 900000 from fun q hq => (hz0 q n ((mem_pathsR h.m0.2).1 hq)).1)
  have HZ := Lib.hid hz
  unfold clashR
  have HFA := Lib.hid hp
  obtain ⟨A9, c9, rfl, hc9, hm9, hr9⟩ := hp.open
  obtain ⟨pn, pe, pu, pr, dep, ahd, ag, br, re, prr, se, li, fi⟩ := p
  simp only at *
  have HR9 := Lib.hid hr9
  obtain ⟨len, hlen⟩ : ∃ len, fi.length = len := ⟨_, rfl⟩
  have HL := Lib.hid hlen
  rw [hlen] at hc9 hm9 hb0 X0 ⊢
  obtain ⟨hit, hhit⟩ : ∃ hit, hitR Wm pn tk = hit := ⟨_, rfl⟩
  have HHit := Lib.hid hhit
  rw [hhit]
  have c0 := X0.c0
  have c10 := X0.c12
  clear C h hp hz hown hr9 hlen hhit HZW hz0
  go_enter Tryz.func9, Tryz.ntmps9
  go_wp2_with fail
  obtain ⟨W0, hW0⟩ : ∃ W, w.alloc (.cells #[.string pn, .int .i64 pe, .string pu, .string pr, v1, v2, v3, v4, v5, v6, v7, v8, .slice A9 len c9] 43) = W := ⟨_, rfl⟩
  rw [hW0] at hb0 X0
  (try rw [hW0])
  obtain ⟨m, hmm⟩ : ∃ m, w.heap.size = m := ⟨_, rfl⟩
  have HM := Lib.hid hmm
  rw [hmm] at X0
  (try rw [hmm])
  have HB0 := Lib.hid hb0
  have HX := Lib.hid X0
  clear hb0 X0 c0 c10 hW0
  (try clear hmm)
  go_loopw [18] (fun i wr => ∃ k : Nat, k ≤ len ∧ i = .int .i64 k ∧ Hid (clashF own hit fi 0 = clashF own hit (fi.drop k) k) ∧ Hid (Below W0.heap.size W0 wr)) (fun i _ => len - (intOf i).toNat)
  case atStart => exact ⟨0, Nat.zero_le _, rfl, Lib.hid rfl, Lib.hid (Below.refl _ _)⟩
  case round =>
    obtain ⟨k, hk, rfl, hcf, hB⟩ := hrel
    have HBr := Lib.hid (step_below HB0.out hB.out)
    by_cases hlt : k < len
    · obtain ⟨f, ht⟩ : ∃ f, fi[k]? = some f := ⟨fi[k]'(by have := HL.out; omega), List.getElem?_eq_getElem _⟩
      have hne : fi ≠ [] := fun e => by rw [e] at ht; cases ht
      obtain ⟨b9, o9, rfl, hi9⟩ := HR9.out hne
      have c0 := kept HBr.out (hi9 k f ht).1
      have c1 := kept HBr.out (hi9 k f ht).2
      have HT := Lib.hid ht
      have hfs : f.n.size ≤ 1000 := HZ.out f (List.mem_of_getElem? ht)
      obtain ⟨fn, fv⟩ := f
      simp only at c0 c1 hfs
      have hba := below_alloc wr (.cells #[.string fn, .string fv] 72)
      have HBa := Lib.hid (step_below HBr.out hba)
      have HC0 := Lib.hid (step_below hB.out hba)
      have xf : (wr.alloc (.cells #[.string fn, .string fv] 72)).cell? ⟨wr.heap.size, 0, none⟩ = some (.string fn) := by go_cell
      have XF := Lib.hid xf
      have HX2 := Lib.hid ((HX.out.below hB.out).below hba)
      have C1 := Lib.hid (CO.out _ HBa.out)
      clear ht hne hi9 hba xf
      go_wp2_with fail
      refine C1.out.mono ?_
      rintro E w2 ⟨v2', rfl, hU, hb⟩
      have HB2 := Lib.hid (step_below HBa.out hb)
      have HC2 := Lib.hid (step_below HC0.out hb)
      have HX3 := Lib.hid (HX2.out.below hb)
      have XF2 := Lib.hid (kept hb XF.out)
      obtain ⟨mf, hmf⟩ : ∃ mf, wr.heap.size = mf := ⟨_, rfl⟩
      rw [hmf] at XF2
      (try rw [hmf])
      obtain ⟨A, cc, rfl, hc, hm, hr⟩ := hU.open
      obtain ⟨lo, hlo⟩ : ∃ lo, own.length = lo := ⟨_, rfl⟩
      have HLO := Lib.hid hlo
      have HR := Lib.hid hr
      rw [hlo] at hc hm ⊢
      clear hU hb C1 hr hlo c0 c1 XF HX2 HBa hmf
      go_wp2_with fail
      go_loopw [26] (fun i w3 => ∃ j : Nat, j ≤ lo ∧ i = .int .i64 j ∧ Hid (own.find? (hit fn) = (own.drop j).find? (hit fn)) ∧ Hid (Below w2.heap.size w2 w3)) (fun i _ => lo - (intOf i).toNat)
      case atStart => exact ⟨0, Nat.zero_le _, rfl, Lib.hid rfl, Lib.hid (Below.refl _ _)⟩
      case round =>
        obtain ⟨j, hj, rfl, hfd, hB3⟩ := hrel
        have HBw3 := Lib.hid (step_below HB2.out hB3.out)
        have HX4 := Lib.hid (HX3.out.below hB3.out)
        have XF4 := Lib.hid (kept hB3.out XF2.out)
        by_cases hjl : j < lo
        · obtain ⟨n, hn⟩ : ∃ n, own[j]? = some n := ⟨own[j]'(by have := HLO.out; omega), List.getElem?_eq_getElem _⟩
          have hne : own ≠ [] := fun e => by rw [e] at hn; cases hn
          obtain ⟨b, off, rfl, hi'⟩ := HR.out hne
          have c0 := kept hB3.out (hi' j n hn)
          have HN := Lib.hid hn
          have x0 := HX4.out.c0
          have HFD := Lib.hid (find_drop (p := hit fn) hn)
          have HIT : Hid (hit fn n = true → clashF own hit fi 0 = ((k : Int), n)) := Lib.hid fun h => hcf.out.trans (clashF_hit HT.out ((hfd.out.trans HFD.out).trans (if_pos h)))
          have HMS : Hid (hit fn n = false → own.find? (hit fn) = (own.drop (j + 1)).find? (hit fn)) := Lib.hid fun h => hfd.out.trans (HFD.out.trans (if_neg (by rw [h]; decide)))
          clear hn hne hi'
          obtain ⟨np, hnp⟩ : ∃ np, decide (n = pn) = np := ⟨_, rfl⟩
          have hqn : (n.toList == pn.toList) = np := by rw [← hnp]; exact name_eq n pn
          have C2 := Lib.hid (CP.out _ HBw3.out n)
          have HPZ2 := Lib.hid (HPZ.out n)
          have HAN : Hid (hit fn n = (pathsR Wm n).any (hitP np tk n fn)) := Lib.hid (by rw [← HHit.out]; unfold hitR; rw [hnp]; exact any_hitP _ _ _ _ _)
          obtain ⟨P, hP⟩ : ∃ P, pathsR Wm n = P := ⟨_, rfl⟩
          rw [hP] at C2 HPZ2 HAN
          clear hnp hP
          · go_wp2_with fail
            refine C2.out.mono ?_
            rintro E w4 ⟨vP, rfl, hro, hb⟩
            obtain ⟨A4, c4, hv4, hc4, hm4, hr4⟩ := hro.open
            subst hv4
            have HB4 := Lib.hid (step_below HBw3.out hb)
            have HX5 := Lib.hid (HX4.out.below hb)
            have XF5 := Lib.hid (kept hb XF4.out)
            obtain ⟨lp, hlp⟩ : ∃ lp, P.length = lp := ⟨_, rfl⟩
            have HLP := Lib.hid hlp
            have HR4 := Lib.hid hr4
            have HB34 := Lib.hid (step_below hB3.out hb)
            rw [hlp] at hc4 hm4 ⊢
            clear hro hb hr4 hlp C2 c0 x0 hc hcf
            go_wp2_with fail
            go_loopw [34] (fun i w5 => ∃ t : Nat, t ≤ lp ∧ i = .int .i64 t ∧ Hid (P.any (hitP np tk n fn) = (P.drop t).any (hitP np tk n fn)) ∧ Hid (Below w4.heap.size w4 w5)) (fun i _ => lp - (intOf i).toNat)
            case atStart => exact ⟨0, Nat.zero_le _, rfl, Lib.hid rfl, Lib.hid (Below.refl _ _)⟩
            case round =>
              obtain ⟨t, htt, rfl, hany, hB5⟩ := hrel
              have xf := kept hB5.out XF5.out
              have HBw5 := Lib.hid (step_below HB4.out hB5.out)
              by_cases htl : t < lp
              · obtain ⟨q, hq5⟩ : ∃ q, P[t]? = some q := ⟨P[t]'(by have := HLP.out; omega), List.getElem?_eq_getElem _⟩
                have hne : P ≠ [] := fun e => by rw [e] at hq5; cases hq5
                obtain ⟨b5, o5, rfl, hi5⟩ := HR4.out hne
                have c0 := kept hB5.out (hi5 t q hq5)
                have hqs : q.size ≤ 900000 := HPZ2.out q (List.mem_of_getElem? hq5)
                have HAD := Lib.hid (any_drop (p := hitP np tk n fn) hq5)
                have K1 := Lib.hid (fun W => pref_calls q (fn ++ slB) W)
                have K2 := Lib.hid (fun W => pref_calls fn (q ++ slB) W)
                have g1 : ¬ 9223372036854775807 < fn.size + 1 := by omega
                have g2 : ¬ 9223372036854775807 < q.size + 1 := by omega
                have HH : Hid (hitP np tk n fn q = (!np && ((hasP (fn ++ slB) q || hasP (q ++ slB) fn) || (decide (q = fn) && !tk n)))) := Lib.hid rfl
                have x0 := (HX5.out.below hB5.out).c0
                obtain ⟨b1, hb1⟩ : ∃ b1, hasP (fn ++ slB) q = b1 := ⟨_, rfl⟩
                obtain ⟨b2, hb2⟩ : ∃ b2, hasP (q ++ slB) fn = b2 := ⟨_, rfl⟩
                obtain ⟨b3, hb3⟩ : ∃ b3, decide (q = fn) = b3 := ⟨_, rfl⟩
                rw [hb1] at K1
                rw [hb2] at K2
                rw [hb1, hb2, hb3] at HH
                have hqf : (q.toList == fn.toList) = b3 := by rw [← hb3]; exact name_eq q fn
                unfold slB at K1 K2
                have K3 := Lib.hid (HC.out _ n HBw5.out)
                obtain ⟨b4, hb4⟩ : ∃ b4, tk n = b4 := ⟨_, rfl⟩
                rw [hb4] at K3 HH
                clear hq5 hne hi5 hb1 hb2 hb3 hb4
                have HYes : Hid (hitP np tk n fn q = true → clashF own hit fi 0 = ((k : Int), n)) := Lib.hid fun h => HIT.out (HAN.out.trans (hany.out.trans (HAD.out.trans (by rw [h]; rfl))))
                have HNo : Hid (hitP np tk n fn q = false → P.any (hitP np tk n fn) = (P.drop (t + 1)).any (hitP np tk n fn)) := Lib.hid fun h => hany.out.trans (HAD.out.trans (by rw [h]; rfl))
                cases np
                · go_wp2_with fail
                  refine (K1.out _).mono ?_
                  rintro E wz ⟨rfl, rfl⟩
                  cases b1
                  · go_wp2_with fail
                    refine (K2.out _).mono ?_
                    rintro E wz ⟨rfl, rfl⟩
                    cases b2
                    · cases b3
                      · go_wp2_with fail
                        go_roundw
                        case rel => first | exact ⟨t + 1, by omega, by go_num, Lib.hid (HNo.out (by rw [HH.out]; rfl)), hB5⟩ | ((repeat apply Exists.intro); exact ⟨⟨t + 1, by omega, by go_num, Lib.hid (HNo.out (by rw [HH.out]; rfl)), hB5⟩, rfl⟩)
                        case measure => simp [intOf]; omega
                      · go_wp2_with fail
                        refine K3.out.mono ?_
                        rintro E w6 ⟨rfl, hb6⟩
                        have HB6 := Lib.hid (step_below hB5.out hb6)
                        have HBw6 := Lib.hid (step_below HBw5.out hb6)
                        cases b4
                        · go_wp2_with fail
                          go_ret2
                          exact ⟨by rw [HYes.out (by rw [HH.out]; rfl)]; rfl, HBw6.out⟩
                        · go_wp2_with fail
                          go_roundw
                          case rel => first | exact ⟨t + 1, by omega, by go_num, Lib.hid (HNo.out (by rw [HH.out]; rfl)), HB6⟩ | ((repeat apply Exists.intro); exact ⟨⟨t + 1, by omega, by go_num, Lib.hid (HNo.out (by rw [HH.out]; rfl)), HB6⟩, rfl⟩)
                          case measure => simp [intOf]; omega
                    · go_wp2_with fail
                      go_ret2
                      exact ⟨by rw [HYes.out (by rw [HH.out]; rfl)]; rfl, HBw5.out⟩
                  · go_wp2_with fail
                    go_ret2
                    exact ⟨by rw [HYes.out (by rw [HH.out]; rfl)]; rfl, HBw5.out⟩
                · go_wp2_with fail
                  refine (K1.out _).mono ?_
                  rintro E wz ⟨rfl, rfl⟩
                  cases b1
                  · go_wp2_with fail
                    refine (K2.out _).mono ?_
                    rintro E wz ⟨rfl, rfl⟩
                    go_wp2_with fail
                    go_roundw
                    case rel => first | exact ⟨t + 1, by omega, by go_num, Lib.hid (HNo.out (by rw [HH.out]; rfl)), hB5⟩ | ((repeat apply Exists.intro); exact ⟨⟨t + 1, by omega, by go_num, Lib.hid (HNo.out (by rw [HH.out]; rfl)), hB5⟩, rfl⟩)
                    case measure => simp [intOf]; omega
                  · go_wp2_with fail
                    go_roundw
                    case rel => first | exact ⟨t + 1, by omega, by go_num, Lib.hid (HNo.out (by rw [HH.out]; rfl)), hB5⟩ | ((repeat apply Exists.intro); exact ⟨⟨t + 1, by omega, by go_num, Lib.hid (HNo.out (by rw [HH.out]; rfl)), hB5⟩, rfl⟩)
                    case measure => simp [intOf]; omega
              · obtain rfl : t = lp := by omega
                have HM0 : Hid (hit fn n = false) := Lib.hid (HAN.out.trans (hany.out.trans (by rw [List.drop_of_length_le (Nat.le_of_eq HLP.out)]; rfl)))
                have HB35 := Lib.hid (step_below HB34.out hB5.out)
                go_wp2_with fail
                go_roundw
                case rel => exact ⟨j + 1, by omega, by go_num, Lib.hid (HMS.out HM0.out), HB35⟩
                case measure => simp [intOf]; omega
        · obtain rfl : j = lo := by omega
          have HFN : Hid (own.find? (hit fn) = none) := Lib.hid (hfd.out.trans (by rw [List.drop_of_length_le (Nat.le_of_eq HLO.out)]; rfl))
          have HC3 := Lib.hid (step_below HC2.out hB3.out)
          have HN0 : Hid (clashF own hit fi 0 = clashF own hit (fi.drop (k + 1)) (k + 1)) := Lib.hid (hcf.out.trans (clashF_miss HT.out HFN.out))
          go_wp2_with fail
          go_roundw
          case rel => first | exact ⟨k + 1, by omega, by go_num, HN0, HC3⟩ | ((repeat apply Exists.intro); exact ⟨⟨k + 1, by omega, by go_num, HN0, HC3⟩, rfl⟩)
          case measure => simp [intOf]; omega
    · obtain rfl : k = len := by omega
      have HE := Lib.hid (hcf.out.trans (clashF_end (own := own) (hit := hit) (fi := fi) (by have := HL.out; omega)))
      go_wp2_with fail
      go_ret2
      exact ⟨by rw [HE.out]; rfl, HBr.out⟩
end Go.Proofs.YtofogjfemlhffaaGreatDoor

namespace Go.Proofs.YtofogjfemlhffaaGreatDoor
open Go.RowKit

/-- what the reference finds wrong of a term -/
theorem wrong_ref (t : Tv) : wrongT t = (!VP.nameP t.n.data.toList || !inB t.op 0 5 || (decide (t.op = 0) && !(decide (t.e = 0) && decide (t.u.data.toList = []) && decide (t.r.data.toList = []))) || (!decide (t.op = 0) && !VP.rightP t.e t.u.data.toList t.r.data.toList)) := by
  unfold wrongT VP.rightT inB
  show (!(VP.nameP t.n.data.toList && (if t.op = 0 then decide (t.e = 0) && decide (t.u.data.toList = []) && decide (t.r.data.toList = []) else decide (0 ≤ t.op) && decide (t.op ≤ 5) && VP.rightP t.e t.u.data.toList t.r.data.toList))) = _
  by_cases h0 : t.op = 0
  · rw [if_pos h0, decide_eq_true h0, h0]
    cases VP.nameP t.n.data.toList <;> simp
  · rw [if_neg h0, decide_eq_false h0]
    cases VP.nameP t.n.data.toList <;> cases decide (0 ≤ t.op) <;> cases decide (t.op ≤ 5) <;> simp

set_option maxHeartbeats 2000000 in
set_option maxRecDepth 100000 in
theorem refAsked_calls (v : Value) (L : List (List Tv)) (w : World) (hE : Env w) (h : AskedAt w v L) (hs : ∀ x ∈ L, ∀ t ∈ x, t.small) (h40 : ∀ x ∈ L, x.length ≤ 1000) :
    Calls Tryz.prog 92 #[v] w (BoolIs (VP.askedP (tmL L)) w) := by
  have F := Lib.hid (asked_eq L)
  obtain ⟨A, c, rfl, hc, hm, hr⟩ := h
  obtain ⟨len, hlen⟩ : ∃ len, L.length = len := ⟨_, rfl⟩
  have HL := Lib.hid hlen
  have HS := Lib.hid hs
  have H40 := Lib.hid h40
  have HR := Lib.hid hr
  rw [hlen] at hc hm ⊢
  clear hlen hr hs h40
  go_enter Tryz.func92, Tryz.ntmps92
  go_wp2_with fail
  go_loopw [3, 10] (fun n i wr => ∃ k m : Nat, k ≤ len ∧ i = .int .i64 k ∧ n = .int .i64 m ∧ m ≤ 30 ∧ Hid (m = sumL (L.take k)) ∧ Hid ((L.take k).all goodL = true) ∧ Below w.heap.size w wr) (fun _ i _ => len - (intOf i).toNat)
  case atStart => exact ⟨0, 0, Nat.zero_le _, rfl, rfl, by omega, rfl, rfl, Below.refl _ _⟩
  case round =>
    obtain ⟨k, m, hk, rfl, rfl, hm30, hsum, hall, hB⟩ := hrel
    by_cases hlt : k < len
    · have hne : L ≠ [] := by
        intro e
        have := HL.out
        rw [e] at this
        simp at this
        omega
      obtain ⟨x, hx⟩ : ∃ x, L[k]? = some x := ⟨L[k]'(by have := HL.out; omega), List.getElem?_eq_getElem _⟩
      obtain ⟨b, off, rfl, hi⟩ := HR.out hne
      obtain ⟨vx, hc0, hT⟩ := hi k x hx
      clear hi hne
      have hT1 := hT.below hB
      have c0 := kept hB hc0
      have HX := Lib.hid hx
      have HSX := Lib.hid (HS.out x (List.mem_of_getElem? hx))
      have HN := Lib.hid (sumL_take_succ hx)
      have HN2 := Lib.hid (sumL_take_le L (k + 1))
      obtain ⟨A', c', rfl, hc', hm', hr'⟩ := hT1
      have HR' := Lib.hid hr'
      clear hx hc0 hT hr'
      have hx1000 := H40.out x (List.mem_of_getElem? HX.out)
      obtain ⟨xl, hxl⟩ : ∃ xl, x.length = xl := ⟨_, rfl⟩
      have HXL := Lib.hid hxl
      rw [hxl] at hc' hm' hx1000 c0
      clear hxl hm'
      by_cases hx0 : xl = 0
      · have HB : Hid (goodL x = false) := by
          have e : x = [] := List.eq_nil_of_length_eq_zero (HXL.out.trans hx0)
          unfold goodL
          rw [e]; exact rfl
        have hxb : ((xl : Int) == 0) = true := by rw [beq_iff_eq]; omega
        clear hx0
        go_wp2_with fail
        go_ret
        exact ⟨ret_bool (by rw [F.out, all_stop HX.out HB.out]; rfl), hB⟩
      · have hxb : ((xl : Int) == 0) = false := by rw [beq_eq_false_iff_ne]; omega
        have HNE : Hid (x.isEmpty = false) := by
          cases x with
          | nil => exact absurd HXL.out.symm hx0
          | cons _ _ => exact rfl
        clear hx0
        by_cases hn : 30 < m + xl
        · have hnb : decide ((30 : Int) < (m : Int) + (xl : Int)) = true := decide_eq_true (by omega)
          have hover : Hid (sumL L ≤ 30 → False) := fun h => by
            have h1 := HN.out
            have h2 := HN2.out
            have h3 := hsum.out
            have h4 := HXL.out
            omega
          go_wp2_with fail
          go_ret
          exact ⟨ret_bool (by rw [F.out, decide_eq_false (fun h => hover.out h)]; simp), hB⟩
        · have hnb : decide ((30 : Int) < (m : Int) + (xl : Int)) = false := decide_eq_false (by omega)
          obtain ⟨wo, rfl⟩ : ∃ wo : World, wo = wr := ⟨_, rfl⟩
          have HBo := Lib.hid hB
          go_wp2_with fail
          clear c0
          go_loopw [27] (fun i wr => ∃ j : Nat, j ≤ xl ∧ i = .int .i64 j ∧ Hid ((x.take j).any wrongT = false) ∧ Below w.heap.size w wr ∧ Below wo.heap.size wo wr) (fun i _ => xl - (intOf i).toNat)
          case atStart => exact ⟨0, Nat.zero_le _, rfl, rfl, HBo.out, Below.refl _ _⟩
          case round =>
            obtain ⟨j, hj, rfl, hany, hB, hBo⟩ := hrel
            by_cases hjt : j < xl
            · obtain ⟨t, ht⟩ : ∃ t, x[j]? = some t := ⟨x[j]'(by have := HXL.out; omega), List.getElem?_eq_getElem _⟩
              have hxne : x ≠ [] := by
                intro e
                have := HXL.out
                rw [e] at this
                simp at this
                omega
              obtain ⟨b', off', rfl, hi⟩ := HR'.out hxne
              obtain ⟨hT0, hok⟩ := hi j t ht
              clear hi hxne
              obtain ⟨hs1, hs2, hs3, hk1, hk2, hk3, hk4⟩ := HSX.out t (List.mem_of_getElem? ht)
              have hT := hT0.below hBo
              have HT := Lib.hid ht
              have HW := Lib.hid (wrong_ref t)
              have hE1 := hE.below hB
              obtain ⟨n, op, e, u, r⟩ := t
              obtain ⟨c0, c1, c2, c3, c4⟩ := hT
              dsimp only at c0 c1 c2 c3 c4 HW hs1 hs2 hs3 hk1 hk2 hk3 hk4
              clear ht hT0 hok
              have hb1 := below_alloc wr (.cells #[.string n, .int .i64 op, .int .i64 e, .string u, .string r] 96)
              have hB1 := step_below hB hb1
              have hBo1 := step_below hBo hb1
              replace hE1 := hE1.below hb1
              have HBk := Lib.hid hB
              have HBok := Lib.hid hBo
              clear hb1 hB hBo
              have hd : VP.nameP n.data.toList = true ∨ VP.nameP n.data.toList = false := by cases VP.nameP n.data.toList <;> simp
              have hin : inB op 0 5 = true ∨ inB op 0 5 = false := by cases inB op 0 5 <;> simp
              go_wp2_with fail
              refine (packName_calls n _ (by omega)).mono ?_
              rintro E w1 ⟨rfl, rfl⟩
              rcases hd with hd | hd
              · have HD := Lib.hid hd
                rw [hd]
                clear hd
                go_wp2_with fail
                refine (in_calls op 0 5 _).mono ?_
                rintro E w1 ⟨rfl, rfl⟩
                rcases hin with hin | hin
                · have HI := Lib.hid hin
                  rw [hin]
                  clear hin
                  go_wp2_with fail
                  · have hw : wrongT ⟨n, op, e, u, r⟩ = false := by rw [HW.out, HD.out, HI.out, ← Lib.toList_data, ← Lib.toList_data]; simp [*]
                    go_roundw
                    case rel => exact ⟨j + 1, by omega, by go_num, Lib.hid (any_take_succ hany.out HT.out hw), step_below HBk.out (below_alloc _ _), step_below HBok.out (below_alloc _ _)⟩
                    case measure => simp [intOf]; omega
                  · have hw : wrongT ⟨n, op, e, u, r⟩ = true := by rw [HW.out, HD.out, HI.out, ← Lib.toList_data, ← Lib.toList_data]; simp [*]
                    have HB : Hid (goodL x = false) := by unfold goodL; rw [any_stop HT.out hw]; simp; exact trivial
                    go_ret
                    exact ⟨ret_bool (by rw [F.out, all_stop HX.out HB.out]; rfl), step_below HBk.out (below_alloc _ _)⟩
                  · have hw : wrongT ⟨n, op, e, u, r⟩ = true := by rw [HW.out, HD.out, HI.out, ← Lib.toList_data, ← Lib.toList_data]; simp [*]
                    have HB : Hid (goodL x = false) := by unfold goodL; rw [any_stop HT.out hw]; simp; exact trivial
                    go_ret
                    exact ⟨ret_bool (by rw [F.out, all_stop HX.out HB.out]; rfl), step_below HBk.out (below_alloc _ _)⟩
                  · have hw : wrongT ⟨n, op, e, u, r⟩ = true := by rw [HW.out, HD.out, HI.out, ← Lib.toList_data, ← Lib.toList_data]; simp [*]
                    have HB : Hid (goodL x = false) := by unfold goodL; rw [any_stop HT.out hw]; simp; exact trivial
                    go_ret
                    exact ⟨ret_bool (by rw [F.out, all_stop HX.out HB.out]; rfl), step_below HBk.out (below_alloc _ _)⟩
                  · have hne0 : ¬ op = 0 := by assumption
                    have HNE0 := Lib.hid hne0
                    have hv : VP.rightP e u.data.toList r.data.toList = true ∨ VP.rightP e u.data.toList r.data.toList = false := by cases VP.rightP e u.data.toList r.data.toList <;> simp
                    refine (refRight_calls e u r _ hE1 hk1 hk2 (by omega) (by omega)).mono ?_
                    rintro E w2 ⟨rfl, hb⟩
                    have hB2 := step_below hB1 hb
                    have hBo2 := step_below hBo1 hb
                    clear hb
                    rcases hv with hv | hv
                    · have HV := Lib.hid hv
                      rw [hv]
                      clear hv
                      go_wp2_with fail
                      go_roundw
                      case rel => exact ⟨j + 1, by omega, by go_num, Lib.hid (any_take_succ hany.out HT.out (by rw [HW.out, HD.out, HI.out, HV.out, decide_eq_false HNE0.out]; rfl)), hB2, hBo2⟩
                      case measure => simp [intOf]; omega
                    · have HV := Lib.hid hv
                      rw [hv]
                      clear hv
                      have HB : Hid (goodL x = false) := by unfold goodL; rw [any_stop HT.out (by rw [HW.out, HD.out, HI.out, HV.out, decide_eq_false HNE0.out]; rfl)]; simp; exact trivial
                      go_wp2_with fail
                      go_ret
                      exact ⟨ret_bool (by rw [F.out, all_stop HX.out HB.out]; rfl), hB2⟩
                · have HB : Hid (goodL x = false) := by unfold goodL; rw [any_stop HT.out (by rw [HW.out, hin]; simp)]; simp; exact trivial
                  rw [hin]
                  clear hin
                  go_wp2_with fail
                  go_ret
                  exact ⟨ret_bool (by rw [F.out, all_stop HX.out HB.out]; rfl), hB1⟩
              · have HB : Hid (goodL x = false) := by unfold goodL; rw [any_stop HT.out (by rw [HW.out, hd]; simp)]; simp; exact trivial
                rw [hd]
                clear hd
                go_wp2_with fail
                go_ret
                exact ⟨ret_bool (by rw [F.out, all_stop HX.out HB.out]; rfl), hB1⟩
            · obtain rfl : j = xl := by omega
              have HB : Hid (goodL x = true) := by
                have h1 := hany.out
                rw [← HXL.out] at h1
                unfold goodL; rw [any_done h1, HNE.out]; exact rfl
              go_wp2_with fail
              go_roundw
              case rel => exact ⟨k + 1, m + j, by omega, by go_num, by go_num, by omega, Lib.hid (by rw [HN.out, ← hsum.out, HXL.out]), Lib.hid (all_take_succ hall.out HX.out HB.out), hB⟩
              case measure => simp [intOf]; omega
    · obtain rfl : k = len := by omega
      go_wp2_with fail
      go_ret
      refine ⟨ret_bool ?_, hB⟩
      have h1 := hall.out
      have h2 := hsum.out
      rw [← HL.out] at h1
      rw [← HL.out, List.take_length] at h2
      rw [F.out, all_done h1, decide_eq_true (by omega)]
      rfl
end Go.Proofs.YtofogjfemlhffaaGreatDoor

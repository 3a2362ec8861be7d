/- The shelf's Clash: plain, and walked at each of the closures that are handed to it. · shelf.Choice: plain, and walked. · The shelf's owned: plain; and what its parts need. -/
import Derived.Test.YtofogjfemlhffaaGreatDoorSPK17
import Derived.Test.YtofogjfemlhffaaGreatDoorSPK11
import Derived.BigQuiet
namespace Go.Proofs.YtofogjfemlhffaaGreatDoor
open Go Go.RowKit Go.Maps

def slB : ByteArray := ⟨#[47]⟩
def aboveB (q f : ByteArray) : Bool := hasP (f ++ slB) q || hasP (q ++ slB) f
def hitQ (tk : ByteArray → Bool) (n f q : ByteArray) : Bool := aboveB q f || (decide (q = f) && !tk n)
def hitN (D : Dk) (pn : ByteArray) (tk : ByteArray → Bool) (f n : ByteArray) : Bool := !decide (n = pn) && (pathsD D n).any (hitQ tk n f)
def clashF (own : List ByteArray) (hit : ByteArray → ByteArray → Bool) : List Fv → Nat → Int × ByteArray
  | [], _ => (-1, ⟨#[]⟩)
  | f :: r, i => match own.find? (hit f.n) with
    | some n => ((i : Int), n)
    | none => clashF own hit r (i + 1)
def clashD (D : Dk) (pn : ByteArray) (tk : ByteArray → Bool) (fi : List Fv) : Int × ByteArray := clashF (ownersD D) (hitN D pn tk) fi 0
theorem clashF_hit {own : List ByteArray} {hit : ByteArray → ByteArray → Bool} {fi : List Fv} {i : Nat} {f : Fv} {n : ByteArray} (hf : fi[i]? = some f) (hn : own.find? (hit f.n) = some n) : clashF own hit (fi.drop i) i = ((i : Int), n) := by
  rw [dropL_cons hf, clashF, hn]
theorem clashF_miss {own : List ByteArray} {hit : ByteArray → ByteArray → Bool} {fi : List Fv} {i : Nat} {f : Fv} (hf : fi[i]? = some f) (hn : own.find? (hit f.n) = none) : clashF own hit (fi.drop i) i = clashF own hit (fi.drop (i + 1)) (i + 1) := by
  rw [dropL_cons hf, clashF, hn]
theorem clashF_end {own : List ByteArray} {hit : ByteArray → ByteArray → Bool} {fi : List Fv} {i : Nat} (h : fi.length ≤ i) : clashF own hit (fi.drop i) i = (-1, ⟨#[]⟩) := by
  rw [List.drop_of_length_le h]; rfl
theorem find_drop {α : Type} {p : α → Bool} {l : List α} {k : Nat} {x : α} (h : l[k]? = some x) : (l.drop k).find? p = if p x then some x else (l.drop (k + 1)).find? p := by
  rw [dropL_cons h, List.find?_cons]
  cases p x <;> rfl
theorem any_drop {α : Type} {p : α → Bool} {l : List α} {k : Nat} {x : α} (h : l[k]? = some x) : (l.drop k).any p = (p x || (l.drop (k + 1)).any p) := by
  rw [dropL_cons h, List.any_cons]
theorem pref_calls (s p : ByteArray) (w : World) : Calls Tryz.prog 26 #[.string s, .string p] w fun E w' => E = .returned (.bool (hasP p s)) ∧ w = w' :=
  (Tryz.strings_HasPrefix s p w).mono fun _ _ ⟨he, hw⟩ => ⟨he, hw.symm⟩
set_option maxHeartbeats 4000000 in
set_option maxRecDepth 100000 in
theorem clashP_calls (sh d : Nat) (cq : Nat) (D : Dk) (p : Pv) (tk : ByteArray → Bool) (v1 v2 v3 v4 v5 v6 v7 v8 v9 : Value) (w : World) (hE : Env w) (h : ShAt w sh d D) (hk : DkOk D) (hf : FitD 900000 D) (hp : FieldsAt w v9 p.fi) (hz : ∀ f ∈ p.fi, f.n.size ≤ 1000)
    (C : ∀ (W : World) (s : ByteArray), Below w.heap.size w W → Calls Tryz.prog 8 #[.string s, .pointer (some ⟨cq, 0, none⟩)] W (BoolIs (tk s) W)) :
    Calls Tryz.prog 10 #[.pointer (some ⟨sh, 0, none⟩), .agg #[.string p.n, .int .i64 p.e, .string p.u, .string p.r, v1, v2, v3, v4, v5, v6, v7, v8, v9], .func (.func 8) #[] #[.pointer (some ⟨cq, 0, none⟩)]] w fun E w' => E = .returned (.tuple #[.int .i64 (clashD D p.n tk p.fi).1, .string (clashD D p.n tk p.fi).2]) ∧ Below w.heap.size w w' := by
  have hb0 := below_alloc w (.cells #[.string p.n, .int .i64 p.e, .string p.u, .string p.r, v1, v2, v3, v4, v5, v6, v7, v8, v9] 43)
  have X0 := packBox_new w p v1 v2 v3 v4 v5 v6 v7 v8 v9 43
  have HC := Lib.hid C
  have CO := Lib.hid (fun (W : World) (hb : Below w.heap.size w W) => owners_calls sh d D W (h.keep hb) hk)
  have CP := Lib.hid (fun (W : World) (hb : Below w.heap.size w W) (n : ByteArray) (hn : n.size ≤ 80) => paths_row sh d D n W (hE.below hb) (h.keep hb) (hf.mono (by omega)) (by omega))
  have HON := Lib.hid (ownersD_size hf)
  have HPL := Lib.hid (fun n => pathsD_len (hf.mono (by omega : 900000 ≤ 1000000)) n)
  have HPZ := Lib.hid (fun n => pathsD_size hf n)
  have HOL := Lib.hid (ownersD_len hk)
  have HZ := Lib.hid hz
  unfold clashD
  obtain ⟨own, hown⟩ : ∃ own, ownersD D = own := ⟨_, rfl⟩
  rw [hown] at CO HON HOL ⊢
  have HFA := Lib.hid hp
  obtain ⟨A9, c9, rfl, hc9, hm9, hr9⟩ := hp.open
  obtain ⟨pn, pe, pu, pr, dep, ahd, ag, br, re, prr, se, li, fi⟩ := p
  simp only at *
  have HR9 := Lib.hid hr9
  obtain ⟨len, hlen⟩ : ∃ len, fi.length = len := ⟨_, rfl⟩
  have HL := Lib.hid hlen
  rw [hlen] at hc9 hm9 hb0 X0 ⊢
  obtain ⟨hit, hhit⟩ : ∃ hit, hitN D pn tk = hit := ⟨_, rfl⟩
  have HHit := Lib.hid hhit
  rw [hhit]
  have c0 := X0.c0
  have c10 := X0.c12
  clear C hE h hk hf hp hz hown hr9 hlen hhit
  go_enter Tryz.func10, Tryz.ntmps10
  go_wp2_with fail
  obtain ⟨W0, hW0⟩ : ∃ W, w.alloc (.cells #[.string pn, .int .i64 pe, .string pu, .string pr, v1, v2, v3, v4, v5, v6, v7, v8, .slice A9 len c9] 43) = W := ⟨_, rfl⟩
  rw [hW0] at hb0 X0
  (try rw [hW0])
  obtain ⟨m, hmm⟩ : ∃ m, w.heap.size = m := ⟨_, rfl⟩
  have HM := Lib.hid hmm
  rw [hmm] at X0
  (try rw [hmm])
  have HB0 := Lib.hid hb0
  have HX := Lib.hid X0
  clear hb0 X0 c0 c10 hW0
  (try clear hmm)
  go_loopw [18] (fun i wr => ∃ k : Nat, k ≤ len ∧ i = .int .i64 k ∧ Hid (clashF own hit fi 0 = clashF own hit (fi.drop k) k) ∧ Hid (Below W0.heap.size W0 wr)) (fun i _ => len - (intOf i).toNat)
  case atStart => exact ⟨0, Nat.zero_le _, rfl, Lib.hid rfl, Lib.hid (Below.refl _ _)⟩
  case round =>
    obtain ⟨k, hk, rfl, hcf, hB⟩ := hrel
    have HBr := Lib.hid (step_below HB0.out hB.out)
    by_cases hlt : k < len
    · obtain ⟨f, ht⟩ : ∃ f, fi[k]? = some f := ⟨fi[k]'(by have := HL.out; omega), List.getElem?_eq_getElem _⟩
      have hne : fi ≠ [] := fun e => by rw [e] at ht; cases ht
      obtain ⟨b9, o9, rfl, hi9⟩ := HR9.out hne
      have c0 := kept HBr.out (hi9 k f ht).1
      have c1 := kept HBr.out (hi9 k f ht).2
      have HT := Lib.hid ht
      have hfs : f.n.size ≤ 1000 := HZ.out f (List.mem_of_getElem? ht)
      obtain ⟨fn, fv⟩ := f
      simp only at c0 c1 hfs
      have hba := below_alloc wr (.cells #[.string fn, .string fv] 72)
      have HBa := Lib.hid (step_below HBr.out hba)
      have HC0 := Lib.hid (step_below hB.out hba)
      have xf : (wr.alloc (.cells #[.string fn, .string fv] 72)).cell? ⟨wr.heap.size, 0, none⟩ = some (.string fn) := by go_cell
      have XF := Lib.hid xf
      have HX2 := Lib.hid ((HX.out.below hB.out).below hba)
      have C1 := Lib.hid (CO.out _ HBa.out)
      clear ht hne hi9 hba xf
      go_wp2_with fail
      refine C1.out.mono ?_
      rintro E w2 ⟨v2', rfl, hU, hb⟩
      have HB2 := Lib.hid (step_below HBa.out hb)
      have HC2 := Lib.hid (step_below HC0.out hb)
      have HX3 := Lib.hid (HX2.out.below hb)
      have XF2 := Lib.hid (kept hb XF.out)
      obtain ⟨mf, hmf⟩ : ∃ mf, wr.heap.size = mf := ⟨_, rfl⟩
      rw [hmf] at XF2
      (try rw [hmf])
      obtain ⟨A, cc, rfl, hc, hm, hr⟩ := hU.1.open
      obtain ⟨lo, hlo⟩ : ∃ lo, own.length = lo := ⟨_, rfl⟩
      have HLO := Lib.hid hlo
      have HR := Lib.hid hr
      rw [hlo] at hc hm ⊢
      clear hU hb C1 hr hlo c0 c1 XF HX2 HBa hmf
      go_wp2_with fail
      go_loopw [26] (fun i w3 => ∃ j : Nat, j ≤ lo ∧ i = .int .i64 j ∧ Hid (own.find? (hit fn) = (own.drop j).find? (hit fn)) ∧ Hid (Below w2.heap.size w2 w3)) (fun i _ => lo - (intOf i).toNat)
      case atStart => exact ⟨0, Nat.zero_le _, rfl, Lib.hid rfl, Lib.hid (Below.refl _ _)⟩
      case round =>
        obtain ⟨j, hj, rfl, hfd, hB3⟩ := hrel
        have HBw3 := Lib.hid (step_below HB2.out hB3.out)
        have HX4 := Lib.hid (HX3.out.below hB3.out)
        have XF4 := Lib.hid (kept hB3.out XF2.out)
        by_cases hjl : j < lo
        · obtain ⟨n, hn⟩ : ∃ n, own[j]? = some n := ⟨own[j]'(by have := HLO.out; omega), List.getElem?_eq_getElem _⟩
          have hne : own ≠ [] := fun e => by rw [e] at hn; cases hn
          obtain ⟨b, off, rfl, hi'⟩ := HR.out hne
          have c0 := kept hB3.out (hi' j n hn)
          have HN := Lib.hid hn
          have x0 := HX4.out.c0
          have HFD := Lib.hid (find_drop (p := hit fn) hn)
          have hns := HON.out n (List.mem_of_getElem? hn)
          have HIT : Hid (hit fn n = true → clashF own hit fi 0 = ((k : Int), n)) := Lib.hid fun h => hcf.out.trans (clashF_hit HT.out ((hfd.out.trans HFD.out).trans (if_pos h)))
          have HMS : Hid (hit fn n = false → own.find? (hit fn) = (own.drop (j + 1)).find? (hit fn)) := Lib.hid fun h => hfd.out.trans (HFD.out.trans (if_neg (by rw [h]; decide)))
          clear hn hne hi'
          by_cases hpn : n = pn
          · have hq : (n.toList == pn.toList) = true := by rw [hpn]; simp
            have HM0 : Hid (hit fn n = false) := Lib.hid (by rw [← HHit.out]; unfold hitN; rw [decide_eq_true hpn]; rfl)
            clear hpn
            go_wp2_with fail
            go_roundw
            case rel => first | exact ⟨j + 1, by omega, by go_num, Lib.hid (hfd.out.trans (HFD.out.trans (if_neg (by rw [HM0.out]; decide)))), hB3⟩ | ((repeat apply Exists.intro); exact ⟨⟨j + 1, by omega, by go_num, Lib.hid (hfd.out.trans (HFD.out.trans (if_neg (by rw [HM0.out]; decide)))), hB3⟩, rfl⟩)
            case measure => simp [intOf]; omega
          · have hq : (n.toList == pn.toList) = false := beq_eq_false_iff_ne.2 fun e => hpn (data_inj (by rwa [Lib.toList_data, Lib.toList_data] at e))
            have HNP := Lib.hid hpn
            have C2 := Lib.hid (CP.out _ HBw3.out n hns)
            have HPL2 := Lib.hid (HPL.out n)
            have HPZ2 := Lib.hid (HPZ.out n)
            have HAN : Hid (hit fn n = (pathsD D n).any (hitQ tk n fn)) := Lib.hid (by rw [← HHit.out]; unfold hitN; rw [decide_eq_false HNP.out]; rfl)
            obtain ⟨P, hP⟩ : ∃ P, pathsD D n = P := ⟨_, rfl⟩
            rw [hP] at C2 HPL2 HPZ2 HAN
            clear hpn hP
            go_wp2_with fail
            refine C2.out.mono ?_
            rintro E w4 ⟨vP, rfl, hro, hb⟩
            obtain ⟨A4, c4, hv4, hc4, hm4, hr4⟩ := (hro.strs (by have := HPL2.out; omega)).1.open
            subst hv4
            have HB4 := Lib.hid (step_below HBw3.out hb)
            have HX5 := Lib.hid (HX4.out.below hb)
            have XF5 := Lib.hid (kept hb XF4.out)
            obtain ⟨lp, hlp⟩ : ∃ lp, P.length = lp := ⟨_, rfl⟩
            have HLP := Lib.hid hlp
            have HR4 := Lib.hid hr4
            have HB34 := Lib.hid (step_below hB3.out hb)
            rw [hlp] at hc4 hm4 ⊢
            clear hro hb hr4 hlp C2 c0 x0 hc
            go_wp2_with fail
            go_loopw [38] (fun i w5 => ∃ t : Nat, t ≤ lp ∧ i = .int .i64 t ∧ Hid (P.any (hitQ tk n fn) = (P.drop t).any (hitQ tk n fn)) ∧ Hid (Below w4.heap.size w4 w5)) (fun i _ => lp - (intOf i).toNat)
            case atStart => exact ⟨0, Nat.zero_le _, rfl, Lib.hid rfl, Lib.hid (Below.refl _ _)⟩
            case round =>
              obtain ⟨t, htt, rfl, hany, hB5⟩ := hrel
              have xf := kept hB5.out XF5.out
              have HBw5 := Lib.hid (step_below HB4.out hB5.out)
              by_cases htl : t < lp
              · obtain ⟨q, hq5⟩ : ∃ q, P[t]? = some q := ⟨P[t]'(by have := HLP.out; omega), List.getElem?_eq_getElem _⟩
                have hne : P ≠ [] := fun e => by rw [e] at hq5; cases hq5
                obtain ⟨b5, o5, rfl, hi5⟩ := HR4.out hne
                have c0 := kept hB5.out (hi5 t q hq5)
                have hqs : q.size ≤ 900000 := HPZ2.out q (List.mem_of_getElem? hq5)
                have HAD := Lib.hid (any_drop (p := hitQ tk n fn) hq5)
                have K1 := Lib.hid (fun W => pref_calls q (fn ++ slB) W)
                have K2 := Lib.hid (fun W => pref_calls fn (q ++ slB) W)
                have g1 : ¬ 9223372036854775807 < fn.size + 1 := by omega
                have g2 : ¬ 9223372036854775807 < q.size + 1 := by omega
                have HH : Hid (hitQ tk n fn q = ((hasP (fn ++ slB) q || hasP (q ++ slB) fn) || (decide (q = fn) && !tk n))) := Lib.hid rfl
                obtain ⟨b1, hb1⟩ : ∃ b1, hasP (fn ++ slB) q = b1 := ⟨_, rfl⟩
                obtain ⟨b2, hb2⟩ : ∃ b2, hasP (q ++ slB) fn = b2 := ⟨_, rfl⟩
                obtain ⟨b3, hb3⟩ : ∃ b3, decide (q = fn) = b3 := ⟨_, rfl⟩
                rw [hb1] at K1
                rw [hb2] at K2
                rw [hb1, hb2, hb3] at HH
                have hqf : (q.toList == fn.toList) = b3 := by rw [← hb3]; exact name_eq q fn
                unfold slB at K1 K2
                have K3 := Lib.hid (HC.out _ n HBw5.out)
                obtain ⟨b4, hb4⟩ : ∃ b4, tk n = b4 := ⟨_, rfl⟩
                rw [hb4] at K3 HH
                clear hq5 hne hi5 hb1 hb2 hb3 hb4
                have HYes : Hid (hitQ tk n fn q = true → clashF own hit fi 0 = ((k : Int), n)) := Lib.hid fun h => HIT.out (HAN.out.trans (hany.out.trans (HAD.out.trans (by rw [h]; rfl))))
                have HNo : Hid (hitQ tk n fn q = false → P.any (hitQ tk n fn) = (P.drop (t + 1)).any (hitQ tk n fn)) := Lib.hid fun h => hany.out.trans (HAD.out.trans (by rw [h]; rfl))
                go_wp2_with fail
                refine (K1.out _).mono ?_
                rintro E wz ⟨rfl, rfl⟩
                cases b1
                · go_wp2_with fail
                  refine (K2.out _).mono ?_
                  rintro E wz ⟨rfl, rfl⟩
                  cases b2
                  · cases b3
                    · go_wp2_with fail
                      go_roundw
                      case rel => first | exact ⟨t + 1, by omega, by go_num, Lib.hid (HNo.out (by rw [HH.out]; rfl)), hB5⟩ | ((repeat apply Exists.intro); exact ⟨⟨t + 1, by omega, by go_num, Lib.hid (HNo.out (by rw [HH.out]; rfl)), hB5⟩, rfl⟩)
                      case measure => simp [intOf]; omega
                    · go_wp2_with fail
                      refine K3.out.mono ?_
                      rintro E w6 ⟨rfl, hb6⟩
                      have HB6 := Lib.hid (step_below hB5.out hb6)
                      have HBw6 := Lib.hid (step_below HBw5.out hb6)
                      cases b4
                      · go_wp2_with fail
                        go_ret2
                        exact ⟨by rw [HYes.out (by rw [HH.out]; rfl)]; rfl, HBw6.out⟩
                      · go_wp2_with fail
                        go_roundw
                        case rel => first | exact ⟨t + 1, by omega, by go_num, Lib.hid (HNo.out (by rw [HH.out]; rfl)), HB6⟩ | ((repeat apply Exists.intro); exact ⟨⟨t + 1, by omega, by go_num, Lib.hid (HNo.out (by rw [HH.out]; rfl)), HB6⟩, rfl⟩)
                        case measure => simp [intOf]; omega
                  · go_wp2_with fail
                    go_ret2
                    exact ⟨by rw [HYes.out (by rw [HH.out]; rfl)]; rfl, HBw5.out⟩
                · go_wp2_with fail
                  go_ret2
                  exact ⟨by rw [HYes.out (by rw [HH.out]; rfl)]; rfl, HBw5.out⟩
              · obtain rfl : t = lp := by omega
                have HM0 : Hid (hit fn n = false) := Lib.hid (HAN.out.trans (hany.out.trans (by rw [List.drop_of_length_le (Nat.le_of_eq HLP.out)]; rfl)))
                have HB35 := Lib.hid (step_below HB34.out hB5.out)
                go_wp2_with fail
                go_roundw
                case rel => exact ⟨j + 1, by omega, by go_num, Lib.hid (HMS.out HM0.out), HB35⟩
                case measure => simp [intOf]; omega
        · obtain rfl : j = lo := by omega
          have HFN : Hid (own.find? (hit fn) = none) := Lib.hid (hfd.out.trans (by rw [List.drop_of_length_le (Nat.le_of_eq HLO.out)]; rfl))
          have HC3 := Lib.hid (step_below HC2.out hB3.out)
          have HN0 : Hid (clashF own hit fi 0 = clashF own hit (fi.drop (k + 1)) (k + 1)) := Lib.hid (hcf.out.trans (clashF_miss HT.out HFN.out))
          go_wp2_with fail
          go_roundw
          case rel => first | exact ⟨k + 1, by omega, by go_num, HN0, HC3⟩ | ((repeat apply Exists.intro); exact ⟨⟨k + 1, by omega, by go_num, HN0, HC3⟩, rfl⟩)
          case measure => simp [intOf]; omega
    · obtain rfl : k = len := by omega
      have HE := Lib.hid (hcf.out.trans (clashF_end (own := own) (hit := hit) (fi := fi) (by have := HL.out; omega)))
      go_wp2_with fail
      go_ret2
      exact ⟨by rw [HE.out]; rfl, HBr.out⟩
end Go.Proofs.YtofogjfemlhffaaGreatDoor

namespace Go.Proofs.YtofogjfemlhffaaGreatDoor
open Go Go.RowKit Go.Maps

def sameO (a b : Option ByteArray) : Bool := match a, b with | some x, some y => decide (x = y) | _, _ => false
/-- 0 takes, 1 leaves, 2 asks -/
def choiceD (old now : Option ByteArray) (next : ByteArray) : Nat :=
  match old, now with
  | none, none => 0
  | old, now => if sameO now (some next) then 1 else match old with
    | none => 2
    | some o => if decide (o = next) then 1 else if sameO now (some o) then 0 else 2

theorem same_calls (B : Nat) (a b : Option ByteArray) (va vb : Value) (w : World) (ha : PtrAt B w va a) (hb : PtrAt B w vb b) : Calls Tryz.prog 61 #[va, vb] w (BoolIs (sameO a b) w) := by
  cases a with
  | none =>
    obtain rfl : va = .pointer none := ha
    obtain ⟨p, rfl⟩ : ∃ p, vb = .pointer p := by
      cases b with
      | none => exact ⟨_, hb⟩
      | some y => obtain ⟨g, h, _⟩ := hb; exact ⟨_, h⟩
    clear hb
    have hs : sameO none b = false := rfl
    rw [hs]
    go_enter Tryz.func61, Tryz.ntmps61
    go_wp2_with fail
    go_quiet (fail)
    go_wp2_with fail
    go_ret
    exact ⟨rfl, below_drewN _ _ _⟩
  | some x =>
    obtain ⟨ga, rfl, _, ca⟩ := ha
    cases b with
    | none =>
      obtain rfl : vb = .pointer none := hb
      have hs : sameO (some x) none = false := rfl
      rw [hs]
      go_enter Tryz.func61, Tryz.ntmps61
      go_wp2_with fail
      go_quiet (fail)
      go_wp2_with fail
      go_ret
      exact ⟨rfl, below_drewN _ _ _⟩
    | some y =>
      obtain ⟨gb, rfl, _, cb⟩ := hb
      have hs : sameO (some x) (some y) = decide (x = y) := rfl
      rw [hs]
      obtain ⟨b3, hb3⟩ : ∃ b3, decide (x = y) = b3 := ⟨_, rfl⟩
      have hqf : (x.toList == y.toList) = b3 := by rw [← hb3]; exact name_eq x y
      rw [hb3]
      clear hb3 hs
      go_enter Tryz.func61, Tryz.ntmps61
      go_wp2_with fail
      go_quiet (fail)
      go_wp2_with fail
      go_ret
      exact ⟨rfl, below_drewN _ _ _⟩
theorem choice_calls (B : Nat) (old now : Option ByteArray) (next : ByteArray) (vo vn vx : Value) (w : World) (ho : PtrAt B w vo old) (hn : PtrAt B w vn now) (hx : PtrAt B w vx (some next)) : Calls Tryz.prog 32 #[vo, vn, vx] w fun E w' => E = .returned (.int .i64 (choiceD old now next)) ∧ Below w.heap.size w w' := by
  have S1 := Lib.hid (fun (W : World) (hb : Below w.heap.size w W) => same_calls B now (some next) vn vx W (hn.below hb) (hx.below hb))
  have S2 := Lib.hid (fun (W : World) (hb : Below w.heap.size w W) => same_calls B old (some next) vo vx W (ho.below hb) (hx.below hb))
  have S3 := Lib.hid (fun (W : World) (hb : Below w.heap.size w W) => same_calls B now old vn vo W (hn.below hb) (ho.below hb))
  obtain ⟨gx, rfl, -, -⟩ := hx
  cases old with
  | none =>
    obtain rfl : vo = .pointer none := ho
    cases now with
    | none =>
      obtain rfl : vn = .pointer none := hn
      have hs : choiceD none none next = 0 := rfl
      rw [hs]
      clear S1 S2 S3 hs
      go_enter Tryz.func32, Tryz.ntmps32
      go_wp2_with fail
      go_ret
      exact ⟨rfl, Below.refl _ _⟩
    | some y =>
      obtain ⟨gn, rfl, -, -⟩ := hn
      obtain ⟨b1, hb1⟩ : ∃ b1, sameO (some y) (some next) = b1 := ⟨_, rfl⟩
      have hs : choiceD none (some y) next = if b1 then 1 else 2 := by rw [← hb1]; rfl
      rw [hb1] at S1
      rw [hs]
      clear S2 S3 hs hb1
      go_enter Tryz.func32, Tryz.ntmps32
      go_wp2_with fail
      refine (S1.out _ (Below.refl _ _)).mono ?_
      rintro E wz ⟨rfl, hb⟩
      have HB := Lib.hid hb
      clear hb
      cases b1
      · go_wp2_with fail
        go_ret
        exact ⟨rfl, HB.out⟩
      · go_wp2_with fail
        go_ret
        exact ⟨rfl, HB.out⟩
  | some x =>
    obtain ⟨go, rfl, -, -⟩ := ho
    obtain ⟨b1, hb1⟩ : ∃ b1, sameO now (some next) = b1 := ⟨_, rfl⟩
    obtain ⟨b2, hb2⟩ : ∃ b2, sameO (some x) (some next) = b2 := ⟨_, rfl⟩
    obtain ⟨b3, hb3⟩ : ∃ b3, sameO now (some x) = b3 := ⟨_, rfl⟩
    have hs : choiceD (some x) now next = if b1 then 1 else if b2 then 1 else if b3 then 0 else 2 := by
      rw [← hb1, ← hb2, ← hb3]
      cases now <;> rfl
    rw [hb1] at S1
    rw [hb2] at S2
    rw [hb3] at S3
    rw [hs]
    clear hb1 hb2 hb3 hs
    go_enter Tryz.func32, Tryz.ntmps32
    go_wp2_with fail
    refine (S1.out _ (Below.refl _ _)).mono ?_
    rintro E wz ⟨rfl, hb⟩
    have HB := Lib.hid hb
    clear hb
    cases b1
    · go_wp2_with fail
      refine (S2.out _ HB.out).mono ?_
      rintro E wz ⟨rfl, hb⟩
      replace HB := Lib.hid (step_below HB.out hb)
      clear hb
      cases b2
      · go_wp2_with fail
        refine (S3.out _ HB.out).mono ?_
        rintro E wz ⟨rfl, hb⟩
        replace HB := Lib.hid (step_below HB.out hb)
        clear hb
        cases b3
        · go_wp2_with fail
          go_ret
          exact ⟨rfl, HB.out⟩
        · go_wp2_with fail
          go_ret
          exact ⟨rfl, HB.out⟩
      · go_wp2_with fail
        go_ret
        exact ⟨rfl, HB.out⟩
    · go_wp2_with fail
      go_ret
      exact ⟨rfl, HB.out⟩
end Go.Proofs.YtofogjfemlhffaaGreatDoor

namespace Go.Proofs.YtofogjfemlhffaaGreatDoor
open Go Go.RowKit Go.Maps

def leftO (D : Dk) (ps : List ByteArray) (n : ByteArray) : List ByteArray := (pathsD D n).filter fun q => !hasB ps q
def own1 (pn : ByteArray) (ps : List ByteArray) : List ByteArray → Dk → Int × Dk
  | [], D => (0, D)
  | n :: r, D => if n = pn ∨ (leftO D ps n).length = (pathsD D n).length then own1 pn ps r D else thenD (setD D n (leftO D ps n)) (own1 pn ps r)
def own2 : List ByteArray → List ByteArray → Dk → Int × Dk × List ByteArray
  | [], ps, D => (0, D, ps)
  | q :: r, ps, D => if hasB ps q then own2 r ps D else if noSet D q then (if (goneD D (thP ++ q)).1 = 0 then own2 r ps (goneD D (thP ++ q)).2 else ((goneD D (thP ++ q)).1, (goneD D (thP ++ q)).2, ps)) else own2 r (ps ++ [q]) D
theorem lines_left {X : Nat} {D : Dk} (hf : FitD X D) (ps : List ByteArray) (n : ByteArray) : (linesT (leftO D ps n)).size ≤ X := Nat.le_trans (lines_sub List.filter_sublist) (lines_paths hf n)
theorem own1_fit {X : Nat} (pn : ByteArray) (ps : List ByteArray) : ∀ (l : List ByteArray) (D : Dk), FitD X D → FitD X (own1 pn ps l D).2
  | [], _, h => h
  | n :: r, D, h => by
    rw [own1]
    split
    · exact own1_fit pn ps r D h
    · exact thenD_fit (setD_fit h n _ (lines_left h ps n)) fun D h => own1_fit pn ps r D h
theorem own2_fit {X : Nat} : ∀ (l ps : List ByteArray) (D : Dk), FitD X D → FitD X (own2 l ps D).2.1
  | [], _, _, h => h
  | q :: r, ps, D, h => by
    rw [own2]
    split
    · exact own2_fit r ps D h
    · split
      · split
        · exact own2_fit r ps _ (goneD_fit h _)
        · exact goneD_fit h _
      · exact own2_fit r _ D h
theorem own2_sub : ∀ (l ps : List ByteArray) (D : Dk), ∃ K, K.Sublist l ∧ (own2 l ps D).2.2 = ps ++ K
  | [], ps, _ => ⟨[], List.Sublist.slnil, (List.append_nil ps).symm⟩
  | q :: r, ps, D => by
    rw [own2]
    split
    · obtain ⟨K, h, e⟩ := own2_sub r ps D
      exact ⟨K, h.cons _, e⟩
    · split
      · split
        · obtain ⟨K, h, e⟩ := own2_sub r ps (goneD D (thP ++ q)).2
          exact ⟨K, h.cons _, e⟩
        · exact ⟨[], List.nil_sublist _, (List.append_nil ps).symm⟩
      · obtain ⟨K, h, e⟩ := own2_sub r (ps ++ [q]) D
        exact ⟨q :: K, h.cons_cons _, by rw [e, List.append_assoc]; rfl⟩
theorem own1_skip {pn : ByteArray} {ps L : List ByteArray} {D : Dk} {k : Nat} {n : ByteArray} (hx : L[k]? = some n) (h : n = pn ∨ (leftO D ps n).length = (pathsD D n).length) : own1 pn ps (L.drop k) D = own1 pn ps (L.drop (k + 1)) D := by
  rw [dropL_cons hx, own1, if_pos h]
theorem own1_set {pn : ByteArray} {ps L : List ByteArray} {D : Dk} {k : Nat} {n : ByteArray} (hx : L[k]? = some n) (h1 : n ≠ pn) (h2 : (leftO D ps n).length ≠ (pathsD D n).length) : own1 pn ps (L.drop k) D = thenD (setD D n (leftO D ps n)) (own1 pn ps (L.drop (k + 1))) := by
  rw [dropL_cons hx, own1, if_neg (by intro h; rcases h with h | h <;> contradiction)]
theorem own1_end {pn : ByteArray} {ps L : List ByteArray} {D : Dk} {k : Nat} (h : L.length ≤ k) : own1 pn ps (L.drop k) D = (0, D) := by
  rw [List.drop_of_length_le h]; rfl

theorem paths_few {D : Dk} (hf : FitD 900000 D) (n : ByteArray) : (pathsD D n).length ≤ 900001 := by
  have hp := VP.pieces_count 10
  unfold pathsD
  cases hg : getF D.now (owP ++ n) with
  | none => exact Nat.zero_le _
  | some t =>
    show (pathsT t).length ≤ _
    unfold pathsT
    split
    · exact Nat.zero_le _
    · have hpc := hp t.data.toList
      have h1 := size_eq_length t
      have h2 := (hf _ _ hg).2
      unfold piecesB
      rw [List.length_map]
      omega
/-- texts whose row is no part of the disk -/
def RowS (d : Nat) (W : World) (v : Value) (L : List ByteArray) : Prop := StrsAt W v L ∧ (L ≠ [] → ∀ b off n c, v = .slice (some ⟨b, off, none⟩) n c → ¬ foot W d b)
theorem RowS.off {d : Nat} {W W' : World} {v : Value} {L : List ByteArray} (h : RowS d W v L) (ho : Off d W W') : RowS d W' v L := by
  obtain ⟨⟨A, c, rfl, hc, hm, hr⟩, ht⟩ := h
  have hcell : L ≠ [] → ∀ b off n c', Value.slice A L.length c = .slice (some ⟨b, off, none⟩) n c' → b < W.heap.size := fun hn b off n c' e => by
    cases L with
    | nil => exact absurd rfl hn
    | cons x r =>
      have hn' : (x :: r).flatMap strC ≠ [] := by rw [flat_strs]; exact List.cons_ne_nil _ _
      obtain ⟨b', off', hA, hi⟩ := hr (by first | exact hn' | exact hn)
      injection e with e1 _ _
      rw [e1] at hA
      injection hA with hA
      injection hA with hA _
      subst hA
      exact cell_lt (hi 0 (.string x) rfl)
  refine ⟨⟨A, c, rfl, hc, hm, fun hn => ?_⟩, fun hn b off n c' e => not_foot ho (hcell hn b off n c' e) (ht hn b off n c' e)⟩
  obtain ⟨b, off, rfl, hi⟩ := hr hn
  exact ⟨b, off, rfl, fun j u hj => keptO ho (ht (by first | exact hn | (intro e; subst e; exact hn rfl)) b off _ _ rfl) (hi j u hj)⟩
theorem RowS.new {d : Nat} {W W' : World} {v : Value} {L : List ByteArray} {D : Dk} (h : StrsUp W.heap.size W' v L) (hd : DiskAt W d D) (hb : Below W.heap.size W W') : RowS d W' v L :=
  ⟨h.1, fun _ b off n c e => new_not_foot hd hb (h.2 b off n c e)⟩
theorem RowS.at {d : Nat} {W : World} {A : Option Addr} {n c k : Nat} {L : List ByteArray} {x : ByteArray} (h : RowS d W (.slice A n c) L) (hx : L[k]? = some x) : ∃ b off, A = some ⟨b, off, none⟩ ∧ W.cell? ⟨b, off + k, none⟩ = some (.string x) := by
  obtain ⟨A', c', e, _, _, hr⟩ := h.1.open
  injection e with e1 _ _
  subst e1
  obtain ⟨b, off, hA, hi⟩ := hr (fun e => by rw [e] at hx; cases hx)
  exact ⟨b, off, hA, hi k x hx⟩

set_option maxRecDepth 100000 in
theorem del_nilO (cq : Nat) (w : World) : Calls Tryz.prog 65 #[.slice none 0 0, .func (.func 66) #[] #[.pointer (some ⟨cq, 0, none⟩)]] w fun E w' => E = .returned (.slice none 0 0) ∧ w = w' := by
  have CI : Calls Tryz.prog 84 #[.slice none 0 0, .func (.func 66) #[] #[.pointer (some ⟨cq, 0, none⟩)]] w fun E w' => E = .returned (.int .i64 (-1)) ∧ w = w' := by
    go_enter Tryz.func84, Tryz.ntmps84
    go_wp2_with fail
    refine wp_loop_rounds 1 ?_
    rw [rounds_succ]
    go_wp2_with fail
    go_ret
    exact ⟨rfl, rfl⟩
  have CI := Lib.hid CI
  go_enter Tryz.func65, Tryz.ntmps65
  go_wp2_with fail
  refine CI.out.mono ?_
  rintro E w1 ⟨rfl, rfl⟩
  go_wp2_with fail
  go_ret
  exact ⟨rfl, rfl⟩
/-- what an owner keeps: from the row of its paths -/
theorem delO_any (cq : Nat) (vp v1 : Value) (ps L : List ByteArray) (w w1 : World) (hro : RowOf w.heap.size w1 v1 L) (hb : Below w.heap.size w w1) (hl : L.length ≤ 900001) (hC : ∀ W, Below w.heap.size w W → W.cell? ⟨cq, 0, none⟩ = some vp ∧ StrsAt W vp ps) :
    Calls Tryz.prog 65 #[v1, .func (.func 66) #[] #[.pointer (some ⟨cq, 0, none⟩)]] w1 fun E w' => ∃ v', E = .returned v' ∧ StrsUp w.heap.size w' v' (L.filter fun q => !hasB ps q) ∧ Below w.heap.size w w' := by
  rcases hro with ⟨rfl, rfl⟩ | ⟨g, rfl, hg, hbg⟩
  · exact (del_nilO cq w1).mono fun E w' ⟨he, hw⟩ => ⟨_, he, strsUp_nil _ _ _, by subst hw; exact hb⟩
  · refine (delO_row w.heap.size g L.length cq L (hasB ps) _ w1 hg hbg (delSt_start (hasB ps) hbg) (Nat.le_refl _) (by unfold maxLen; omega) (by omega) fun W x hW hx => ?_).mono ?_
    · have hbW := below_grownBy hb hW hb.size hg
      exact owned1_calls cq vp ps x W (hC W hbW).1 (hC W hbW).2
    · rintro E w2 ⟨v2, rfl, ho, hgr⟩
      exact ⟨v2, rfl, row_strsUp ho (Nat.le_trans (List.length_filter_le _ _) (by omega)), below_grownBy hb hgr hb.size hg⟩
end Go.Proofs.YtofogjfemlhffaaGreatDoor

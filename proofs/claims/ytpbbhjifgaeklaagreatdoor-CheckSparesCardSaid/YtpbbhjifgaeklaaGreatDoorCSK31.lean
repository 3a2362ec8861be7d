/- stevedorekeep.known: packages that are short enough, no two of one name. · What is known, and short enough, is fit for the walks of check. · check.Unpack's first closure: one of this name that is held. · check.Unpack's second closure; slices.DeleteFunc where none is of this name. -/
import Derived.Test.YtpbbhjifgaeklaaGreatDoorCSK30
import Derived.Test.YtpbbhjifgaeklaaGreatDoorCSK5
import Derived.Test.YtpbbhjifgaeklaaGreatDoorCSK28
import Derived.Test.YtpbbhjifgaeklaaGreatDoorCSK6
import Derived.BigQuiet
import Derived.Test.YtpbbhjifgaeklaaGreatDoorCSK16
import Derived.Test.YtpbbhjifgaeklaaGreatDoorCSK11
namespace Go.Proofs.YtpbbhjifgaeklaaGreatDoor
open Go Go.RowKit

def kOk (k : Kv) : Bool := saysB k.p && (shortB k.u k.r && (!(decide (k.st < 0)) && !(decide (7 < k.st))))
def uniB (ks : List Kv) (i : Nat) (k : Kv) : Bool := (ks.take i).all fun q => !(decide (q.p.n = k.p.n))
def kAt (ks : List Kv) (i : Nat) : Bool := match ks[i]? with
  | some k => kOk k && uniB ks i k
  | none => true
def knownB (ks : List Kv) : Bool := decide (ks.length ≤ 15) && (List.range ks.length).all (kAt ks)
theorem known_no {ks : List Kv} {i : Nat} {k : Kv} (hk : ks[i]? = some k) (h : (kOk k && uniB ks i k) = false) : knownB ks = false := by
  have hi := (List.getElem?_eq_some_iff.1 hk).1
  have h1 : kAt ks i = false := by unfold kAt; rw [hk]; exact h
  have h2 : (List.range ks.length).all (kAt ks) = false := by
    rw [List.all_eq_false]
    exact ⟨i, List.mem_range.2 hi, by rw [h1]; simp⟩
  unfold knownB
  rw [h2, Bool.and_false]
theorem uni_no {ks : List Kv} {i j : Nat} {k q : Kv} (hq : ks[j]? = some q) (hj : j < i) (he : q.p.n = k.p.n) : uniB ks i k = false := by
  unfold uniB
  rw [List.all_eq_false]
  refine ⟨q, ?_, by rw [he]; simp⟩
  rw [List.mem_iff_getElem?]
  exact ⟨j, by rw [List.getElem?_take_of_lt hj]; exact hq⟩
theorem uni_yes {ks : List Kv} {i : Nat} {k : Kv} (h : ∀ (j : Nat) (q : Kv), j < i → ks[j]? = some q → q.p.n ≠ k.p.n) : uniB ks i k = true := by
  unfold uniB
  rw [List.all_eq_true]
  intro q hq
  obtain ⟨j, hj⟩ := List.mem_iff_getElem?.1 hq
  have hji : j < i := by
    rcases Nat.lt_or_ge j i with h | h
    · exact h
    · rw [List.getElem?_take_eq_none h] at hj
      cases hj
  rw [List.getElem?_take_of_lt hji] at hj
  have := h j q hji hj
  simp [this]
theorem known_yes {ks : List Kv} (hl : ks.length ≤ 15) (h : ∀ j, j < ks.length → kAt ks j = true) : knownB ks = true := by
  unfold knownB
  rw [decide_eq_true hl, Bool.true_and, List.all_eq_true]
  exact fun j hj => h j (List.mem_range.1 hj)

set_option maxHeartbeats 8000000 in
set_option maxRecDepth 100000 in
theorem known_calls (v : Value) (ks : List Kv) (w : World) (h : KnownsAt w v ks) :
    Calls Tryz.prog 32 #[v] w (BoolIs (knownB ks) w) := by
  obtain ⟨A, c, rfl, hc, hm, hr⟩ := h
  obtain ⟨kl, hkl⟩ : ∃ kl, ks.length = kl := ⟨_, rfl⟩
  have HKL := Lib.hid hkl
  have HR := Lib.hid hr
  rw [hkl] at hc hm ⊢
  clear hkl hr
  by_cases h15 : 15 < kl
  · have F := Lib.hid (show knownB ks = false from by unfold knownB; rw [HKL.out, decide_eq_false (by omega), Bool.false_and])
    go_enter Tryz.func32, Tryz.ntmps32
    go_wp2
    go_ret
    exact ⟨ret_bool F.out.symm, Below.refl _ _⟩
  · go_enter Tryz.func32, Tryz.ntmps32
    go_wp2_with fail
    go_loopw [3] (fun i wr => ∃ k1 : Nat, k1 ≤ kl ∧ i = .int .i64 k1 ∧ Hid (∀ j, j < k1 → kAt ks j = true) ∧ Hid (Below w.heap.size w wr)) (fun i _ => kl - (intOf i).toNat)
    case atStart => exact ⟨0, Nat.zero_le _, rfl, Lib.hid (fun j hj => by omega), Lib.hid (Below.refl _ _)⟩
    case round =>
      obtain ⟨k1, hk1, rfl, hall, hB⟩ := hrel
      by_cases hlt : k1 < kl
      · obtain ⟨kv, hkv⟩ : ∃ kv, ks[k1]? = some kv := ⟨ks[k1]'(by have := HKL.out; omega), List.getElem?_eq_getElem _⟩
        have hneK : ks ≠ [] := fun e => by rw [e] at hkv; simp at hkv
        obtain ⟨bk, ok, rfl, hki⟩ := HR.out hneK
        have HKI := Lib.hid hki
        obtain ⟨Aw, At, A1, A2, A3, A4, A5, A6, A7, A8, A9, nw, nt, cw, ct, c1, c2, c3, c4, c5, c6, c7, c8, c9, hcs, hpk⟩ := ((hki k1 kv hkv).below hB.out).cells
        have p0 : wr.cell? ⟨bk, ok + k1 * 20, none⟩ = some (.int .i64 kv.st) := hcs 0 _ rfl
        have p1 : wr.cell? ⟨bk, ok + k1 * 20 + 1, none⟩ = some (.int .i64 kv.e) := hcs 1 _ rfl
        have p2 : wr.cell? ⟨bk, ok + k1 * 20 + 1 + 1, none⟩ = some (.string kv.u) := hcs 2 _ rfl
        have p3 : wr.cell? ⟨bk, ok + k1 * 20 + 1 + 2, none⟩ = some (.string kv.r) := hcs 3 _ rfl
        have q0 : wr.cell? ⟨bk, ok + k1 * 20 + 7, none⟩ = some (.string kv.p.n) := hcs 7 _ rfl
        have q1 : wr.cell? ⟨bk, ok + k1 * 20 + 7 + 1, none⟩ = some (.int .i64 kv.p.e) := hcs 8 _ rfl
        have q2 : wr.cell? ⟨bk, ok + k1 * 20 + 7 + 2, none⟩ = some (.string kv.p.u) := hcs 9 _ rfl
        have q3 : wr.cell? ⟨bk, ok + k1 * 20 + 7 + 3, none⟩ = some (.string kv.p.r) := hcs 10 _ rfl
        have q4 : wr.cell? ⟨bk, ok + k1 * 20 + 7 + 4, none⟩ = some (.slice A1 kv.p.dep.length c1) := hcs 11 _ rfl
        have q5 : wr.cell? ⟨bk, ok + k1 * 20 + 7 + 5, none⟩ = some (.slice A2 kv.p.ahead.length c2) := hcs 12 _ rfl
        have q6 : wr.cell? ⟨bk, ok + k1 * 20 + 7 + 6, none⟩ = some (.slice A3 kv.p.ag.length c3) := hcs 13 _ rfl
        have q7 : wr.cell? ⟨bk, ok + k1 * 20 + 7 + 7, none⟩ = some (.slice A4 kv.p.br.length c4) := hcs 14 _ rfl
        have q8 : wr.cell? ⟨bk, ok + k1 * 20 + 7 + 8, none⟩ = some (.slice A5 kv.p.re.length c5) := hcs 15 _ rfl
        have q9 : wr.cell? ⟨bk, ok + k1 * 20 + 7 + 9, none⟩ = some (.slice A6 kv.p.pr.length c6) := hcs 16 _ rfl
        have q10 : wr.cell? ⟨bk, ok + k1 * 20 + 7 + 10, none⟩ = some (.slice A7 kv.p.se.length c7) := hcs 17 _ rfl
        have q11 : wr.cell? ⟨bk, ok + k1 * 20 + 7 + 11, none⟩ = some (.slice A8 kv.p.li.length c8) := hcs 18 _ rfl
        have q12 : wr.cell? ⟨bk, ok + k1 * 20 + 7 + 12, none⟩ = some (.slice A9 kv.p.fi.length c9) := hcs 19 _ rfl
        have CS := Lib.hid (fun (W : World) (hb : Below wr.heap.size wr W) => keepSays_calls _ kv.p W (hpk.below hb))
        have CH := Lib.hid (fun (W : World) => short_calls kv.e kv.u kv.r W)
        have HNO := Lib.hid (fun (hf : (kOk kv && uniB ks k1 kv) = false) => known_no hkv hf)
        have HKV := Lib.hid hkv
        have i1 : (k1 : Int) < kl := by omega
        have i2 : (0 : Int) ≤ k1 := by omega
        obtain ⟨sb, hsb⟩ : ∃ sb, saysB kv.p = sb := ⟨_, rfl⟩
        obtain ⟨hb, hhb⟩ : ∃ hb, shortB kv.u kv.r = hb := ⟨_, rfl⟩
        rw [hsb] at CS
        rw [hhb] at CH
        obtain ⟨st, hst⟩ : ∃ st, kv.st = st := ⟨_, rfl⟩
        rw [hst] at p0
        have HOK := Lib.hid (show kOk kv = (sb && (hb && (!(decide (st < 0)) && !(decide (7 < st))))) from by unfold kOk; rw [hsb, hhb, hst])
        clear hkv hneK hki hcs hpk hsb hhb hst
        cases sb with
        | false =>
          have F := Lib.hid (HNO.out (by rw [HOK.out]; simp))
          clear HNO HOK
          go_wp2_with fail
          refine (CS.out _ (Below.refl _ _)).mono ?_
          rintro E w1 ⟨rfl, hb1⟩
          have HB1 := Lib.hid (hB.out.trans (hb1.mono hB.out.size))
          clear CS hb1 p0 p1 p2 p3 q0 q1 q2 q3 q4 q5 q6 q7 q8 q9 q10 q11 q12
          go_wp2_with fail
          go_ret
          exact ⟨ret_bool F.out.symm, HB1.out⟩
        | true =>
          cases hb with
          | false =>
            have F := Lib.hid (HNO.out (by rw [HOK.out]; simp))
            clear HNO HOK
            go_wp2_with fail
            refine (CS.out _ (Below.refl _ _)).mono ?_
            rintro E w1 ⟨rfl, hb1⟩
            have HB1 := Lib.hid (hB.out.trans (hb1.mono hB.out.size))
            replace p0 := kept hb1 p0
            replace p1 := kept hb1 p1
            replace p2 := kept hb1 p2
            replace p3 := kept hb1 p3
            clear CS hb1 q0 q1 q2 q3 q4 q5 q6 q7 q8 q9 q10 q11 q12
            go_wp2_with fail
            refine (CH.out _).mono ?_
            rintro E w2 ⟨rfl, hb2⟩
            have HB2 := Lib.hid (HB1.out.trans (hb2.mono HB1.out.size))
            clear CH hb2 p0 p1 p2 p3
            go_wp2_with fail
            go_ret
            exact ⟨ret_bool F.out.symm, HB2.out⟩
          | true =>
            go_wp2_with fail
            refine (CS.out _ (Below.refl _ _)).mono ?_
            rintro E w1 ⟨rfl, hb1⟩
            have HB1 := Lib.hid (hB.out.trans (hb1.mono hB.out.size))
            replace p0 := kept hb1 p0
            replace p1 := kept hb1 p1
            replace p2 := kept hb1 p2
            replace p3 := kept hb1 p3
            have r0 := kept hb1 q0
            clear CS hb1 q0 q1 q2 q3 q4 q5 q6 q7 q8 q9 q10 q11 q12
            go_wp2_with fail
            refine (CH.out _).mono ?_
            rintro E w2 ⟨rfl, hb2⟩
            have HB2 := Lib.hid (HB1.out.trans (hb2.mono HB1.out.size))
            replace p0 := kept hb2 p0
            have HR0 := Lib.hid (kept hb2 r0)
            clear CH hb2 p1 p2 p3 r0
            by_cases hlo : st < 0
            · have F := Lib.hid (HNO.out (by rw [HOK.out]; simp [hlo]))
              clear HNO HOK
              go_wp2_with fail
              go_ret
              exact ⟨ret_bool F.out.symm, HB2.out⟩
            · by_cases hhi : 7 < st
              · have F := Lib.hid (HNO.out (by rw [HOK.out]; simp [hhi]))
                clear HNO HOK
                go_wp2_with fail
                go_ret
                exact ⟨ret_bool F.out.symm, HB2.out⟩
              · have HOK2 := Lib.hid (show kOk kv = true from by rw [HOK.out]; simp [hlo, hhi])
                clear HOK
                go_wp2_with fail
                clear p0 hlo hhi
                go_loopw [4] (fun i wq => ∃ k2 : Nat, k2 ≤ k1 ∧ i = .int .i64 k2 ∧ Hid (∀ (j : Nat) (q : Kv), j < k2 → ks[j]? = some q → q.p.n ≠ kv.p.n) ∧ Hid (Below w2.heap.size w2 wq)) (fun i _ => k1 - (intOf i).toNat)
                case atStart => exact ⟨0, Nat.zero_le _, rfl, Lib.hid (fun j q hj => by omega), Lib.hid (Below.refl _ _)⟩
                case round =>
                  obtain ⟨k2, hk2, rfl, hne, hB2⟩ := hrel
                  by_cases hlt2 : k2 < k1
                  · obtain ⟨kq, hkq⟩ : ∃ kq, ks[k2]? = some kq := ⟨ks[k2]'(by have := HKL.out; omega), List.getElem?_eq_getElem _⟩
                    obtain ⟨_, _, _, _, _, _, _, _, _, _, _, _, _, _, _, _, _, _, _, _, _, _, _, _, hcq, _⟩ := ((HKI.out k2 kq hkq).below (HB2.out.trans (hB2.out.mono HB2.out.size))).cells
                    have s0 : wr.cell? ⟨bk, ok + k1 * 20 + 7, none⟩ = some (.string kv.p.n) := kept hB2.out HR0.out
                    have s1 : wr.cell? ⟨bk, ok + k2 * 20 + 7, none⟩ = some (.string kq.p.n) := hcq 7 _ rfl
                    have i3 : (k2 : Int) < kl := by omega
                    have i4 : (0 : Int) ≤ k2 := by omega
                    obtain ⟨qn, hqn⟩ : ∃ q, kq.p.n = q := ⟨_, rfl⟩
                    rw [hqn] at s1
                    obtain ⟨b3, hb3⟩ : ∃ b3, decide (qn = kv.p.n) = b3 := ⟨_, rfl⟩
                    have hqf : (qn.toList == kv.p.n.toList) = b3 := by rw [← hb3]; exact name_eq qn kv.p.n
                    have HQ := Lib.hid hkq
                    have HQN := Lib.hid hqn
                    have HB3 := Lib.hid hb3
                    clear hkq hcq hqn hb3
                    go_wp2_with fail
                    go_quiet (fail)
                    clear s0 s1
                    have HBD := Lib.hid (fun n => hB2.out.trans (below_drewN w2.heap.size wr n))
                    cases b3 with
                    | true =>
                      have F := Lib.hid (HNO.out (by rw [uni_no HQ.out hlt2 (HQN.out.trans (of_decide_eq_true HB3.out)), Bool.and_false]))
                      go_wp2_with fail
                      go_ret
                      exact ⟨ret_bool F.out.symm, HB2.out.trans ((HBD.out _).mono HB2.out.size)⟩
                    | false =>
                      have HNE := Lib.hid (show ∀ (j : Nat) (q : Kv), j < k2 + 1 → ks[j]? = some q → q.p.n ≠ kv.p.n from fun j q hj hq => by
                        rcases Nat.lt_or_ge j k2 with h | h
                        · exact hne.out j q h hq
                        · obtain rfl : j = k2 := by omega
                          obtain rfl : kq = q := Option.some.inj (HQ.out.symm.trans hq)
                          rw [HQN.out]
                          exact of_decide_eq_false HB3.out)
                      go_wp2_with fail
                      go_roundw
                      case rel => exact ⟨k2 + 1, by omega, by go_num, HNE, Lib.hid (HBD.out _)⟩
                      case measure => simp [intOf]; omega
                  · obtain rfl : k2 = k1 := by omega
                    have HK1 := Lib.hid (show kAt ks k2 = true from by unfold kAt; rw [HKV.out]; show (kOk kv && uniB ks k2 kv) = true; rw [HOK2.out, uni_yes hne.out]; rfl)
                    have HALL := Lib.hid (show ∀ j, j < k2 + 1 → kAt ks j = true from fun j hj => by
                      rcases Nat.lt_or_ge j k2 with h | h
                      · exact hall.out j h
                      · obtain rfl : j = k2 := by omega
                        exact HK1.out)
                    go_wp2_with fail
                    go_roundw
                    case rel => exact ⟨k2 + 1, by omega, by go_num, HALL, Lib.hid (HB2.out.trans (hB2.out.mono HB2.out.size))⟩
                    case measure => simp [intOf]; omega
      · obtain rfl : k1 = kl := by omega
        have F := Lib.hid (known_yes (by have := HKL.out; omega) (fun j hj => hall.out j (by have := HKL.out; omega)))
        go_wp2_with fail
        go_ret
        exact ⟨ret_bool F.out.symm, hB.out⟩
end Go.Proofs.YtpbbhjifgaeklaaGreatDoor

namespace Go.Proofs.YtpbbhjifgaeklaaGreatDoor
open Go Go.RowKit

theorem ks_ok {w : World} {v : Value} {ks : List Kv} (h : KnownsAt w v ks) (hb : knownB ks = true) : KsOk ks := by
  obtain ⟨A, c, hv, hc, hm, hr⟩ := h
  unfold knownB at hb
  rw [Bool.and_eq_true, List.all_eq_true] at hb
  have hl := of_decide_eq_true hb.1
  have key : ∀ k, k ∈ ks → kOk k = true ∧ ∃ b o, KnownAt w b o k := by
    intro k hk
    obtain ⟨i, hi⟩ := List.mem_iff_getElem?.1 hk
    have h1 := hb.2 i (List.mem_range.2 (List.getElem?_eq_some_iff.1 hi).1)
    unfold kAt at h1
    rw [hi] at h1
    have h2 : (kOk k && uniB ks i k) = true := h1
    rw [Bool.and_eq_true] at h2
    obtain ⟨b, o, _, hi2⟩ := hr (fun e => by rw [e] at hk; cases hk)
    exact ⟨h2.1, b, _, hi2 i k hi⟩
  have parts : ∀ k, k ∈ ks → (0 ≤ k.st ∧ k.st ≤ 7) ∧ k.offer.small ∧ k.p.dep.length ≤ 40 ∧ k.p.ahead.length ≤ 40 ∧ (∀ x ∈ k.p.dep, ∀ t ∈ x, Tv.small t) ∧ (∀ x ∈ k.p.ahead, ∀ t ∈ x, Tv.small t) := by
    intro k hk
    obtain ⟨ho, b, o, hka⟩ := key k hk
    obtain ⟨Aw, At, A1, A2, A3, A4, A5, A6, A7, A8, A9, nw, nt, cw, ct, c1, c2, c3, c4, c5, c6, c7, c8, c9, hcs, v1, v2, v3, v4, v5, v6, v7, v8, v9, hv, h1, h2, h3, h4, h5, h6, _⟩ := hka.cells
    unfold kOk saysB at ho
    simp only [Bool.and_eq_true, Bool.not_eq_true', decide_eq_true_eq, decide_eq_false_iff_not] at ho
    obtain ⟨⟨_, hsh, hd, ha, _, _, _, hp, _⟩, _, hs0, hs7⟩ := ho
    have hd1 := hd
    have ha1 := ha
    unfold termsB at hd1 ha1
    unfold shortB at hsh
    simp only [Bool.and_eq_true, decide_eq_true_eq] at hd1 ha1 hsh
    exact ⟨⟨by omega, by omega⟩, ⟨by show k.p.u.size ≤ 1000; omega, by show k.p.r.size ≤ 1000; omega, small_flat h6 hp⟩, hd1.1, ha1.1, small_of h1 hd, small_of h2 ha⟩
  exact ⟨by omega, fun k hk => ⟨k.st.toNat, by have := (parts k hk).1; omega, by have := (parts k hk).1; omega⟩, fun k hk => (parts k hk).2.1, fun k hk => (parts k hk).2.2.1, fun k hk => (parts k hk).2.2.2.1, fun k hk => (parts k hk).2.2.2.2.1, fun k hk => (parts k hk).2.2.2.2.2⟩
end Go.Proofs.YtpbbhjifgaeklaaGreatDoor

namespace Go.Proofs.YtpbbhjifgaeklaaGreatDoor
open Go Go.RowKit

set_option maxHeartbeats 4000000 in
set_option maxRecDepth 100000 in
theorem unp1_calls (x3 : Nat) (cs : Array Value) (n pn : ByteArray) (hd : Bool) (w : World) (hx : w.cell? ⟨x3, 0, none⟩ = some (.string pn)) (h7 : cs[7]? = some (.string n)) (h4 : cs[4]? = some (.bool hd)) :
    Calls Tryz.prog 163 #[.agg cs, .pointer (some ⟨x3, 0, none⟩)] w (BoolIs (decide (n = pn) && hd) w) := by
  have hb0 := below_alloc w (.cells cs 79)
  have hx0 := blk_new 79 w cs
  obtain ⟨W1, hW1⟩ : ∃ W, w.alloc (.cells cs 79) = W := ⟨_, rfl⟩
  rw [hW1] at hb0 hx0
  have c7 : W1.cell? ⟨w.heap.size, 7, none⟩ = some (.string n) := hx0.cell h7
  have c4 : W1.cell? ⟨w.heap.size, 4, none⟩ = some (.bool hd) := hx0.cell h4
  have c3 := kept hb0 hx
  obtain ⟨b3, hb3⟩ : ∃ b3, decide (n = pn) = b3 := ⟨_, rfl⟩
  have hqf : (n.toList == pn.toList) = b3 := by rw [← hb3]; exact name_eq n pn
  rw [hb3]
  have HB0 := Lib.hid hb0
  clear hb0 hx0 hx h7 h4 hb3
  cases b3 with
  | true =>
    go_enter Tryz.func163, Tryz.ntmps163
    go_wp2_with fail
    go_ret
    exact ⟨rfl, HB0.out⟩
  | false =>
    go_enter Tryz.func163, Tryz.ntmps163
    go_wp2_with fail
    go_ret
    exact ⟨rfl, HB0.out⟩
/-- one of this name that is held -/
def heldP (pn : ByteArray) (k : Kv) : Bool := decide (k.p.n = pn) && k.held

set_option maxHeartbeats 4000000 in
set_option maxRecDepth 100000 in
theorem idxU_calls (v : Value) (ks : List Kv) (x3 : Nat) (pn : ByteArray) (w : World) (h : KnownsAt w v ks) (hx : w.cell? ⟨x3, 0, none⟩ = some (.string pn)) :
    Calls Tryz.prog 227 #[v, .func (.func 163) #[] #[.pointer (some ⟨x3, 0, none⟩)]] w (IdxIs (ks.any (heldP pn)) w) := by
  obtain ⟨A, c, rfl, hc, hm, hr⟩ := h
  obtain ⟨len, hlen⟩ : ∃ len, ks.length = len := ⟨_, rfl⟩
  have HL := Lib.hid hlen
  have HR := Lib.hid hr
  have HX := Lib.hid hx
  rw [hlen] at hc hm ⊢
  clear hlen hr hx
  go_enter Tryz.func227, Tryz.ntmps227
  go_wp2_with fail
  go_loopw [8] (fun i wr => ∃ k : Nat, k ≤ len ∧ i = .int .i64 k ∧ Hid ((ks.take k).any (heldP pn) = false) ∧ Below w.heap.size w wr) (fun i _ => len - (intOf i).toNat)
  case atStart => exact ⟨0, Nat.zero_le _, rfl, rfl, Below.refl _ _⟩
  case round =>
    obtain ⟨k, hk, rfl, hall, hB⟩ := hrel
    by_cases hlt : k < len
    · obtain ⟨kv, ht⟩ : ∃ t, ks[k]? = some t := ⟨ks[k]'(by have := HL.out; omega), List.getElem?_eq_getElem _⟩
      have hne : ks ≠ [] := fun e => by rw [e] at ht; simp at ht
      obtain ⟨bk, ok, rfl, hi⟩ := HR.out hne
      obtain ⟨Aw, At, A1, A2, A3, A4, A5, A6, A7, A8, A9, nw, nt, cw, ct, c1, c2, c3, c4, c5, c6, c7, c8, c9, hcs, _⟩ := (hi k kv ht).cells
      obtain ⟨cs, hcsd⟩ : ∃ cs : List Value, (kvC kv (.slice Aw nw cw) (.slice At nt ct) (.slice A1 kv.p.dep.length c1) (.slice A2 kv.p.ahead.length c2) (.slice A3 kv.p.ag.length c3) (.slice A4 kv.p.br.length c4) (.slice A5 kv.p.re.length c5) (.slice A6 kv.p.pr.length c6) (.slice A7 kv.p.se.length c7) (.slice A8 kv.p.li.length c8) (.slice A9 kv.p.fi.length c9)).toList = cs := ⟨_, rfl⟩
      have HRANGE := Lib.hid (show wr.rangeAt bk (ok + k * 20) cs from fun j u hj => kept hB (hcs j u (by rw [← Array.getElem?_toList, hcsd]; exact hj)))
      have HLEN := Lib.hid (show cs.length = 20 from by rw [← hcsd]; rfl)
      have HT := Lib.hid ht
      have H := Lib.hid (unp1_calls x3 cs.toArray kv.p.n pn kv.held wr (kept hB HX.out) (by rw [← hcsd]; rfl) (by rw [← hcsd]; rfl))
      obtain ⟨pb, hpb⟩ : ∃ pb, (decide (kv.p.n = pn) && kv.held) = pb := ⟨_, rfl⟩
      have HP := Lib.hid (show heldP pn kv = pb from hpb)
      rw [hpb] at H
      clear hi hne hcs hcsd ht hpb
      go_wp2_with (refine wpList_load_mid rfl 79 _ rfl bk (ok + k * 20) rfl cs _ HRANGE.out Tryz.underlying79 rfl (by rw [HLEN.out]; kernel_rfl) ?_)
      refine H.out.mono ?_
      rintro E w1 ⟨rfl, hb⟩
      have hB := step_below hB hb
      clear hb H
      cases pb with
      | true =>
        go_wp2_with fail
        go_ret
        exact ⟨_, rfl, by rw [any_stop HT.out HP.out]; simp, hB⟩
      | false =>
        go_wp2_with fail
        go_roundw
        case rel => exact ⟨k + 1, by omega, by go_num, Lib.hid (any_take_succ hall.out HT.out HP.out), hB⟩
        case measure => simp [intOf]; omega
    · obtain rfl : k = len := by omega
      go_wp2_with fail
      go_ret
      exact ⟨_, rfl, by have := hall.out; rw [← HL.out] at this; rw [any_done this]; simp, hB⟩

set_option maxRecDepth 100000 in
theorem hasU_calls (v : Value) (ks : List Kv) (x3 : Nat) (pn : ByteArray) (w : World) (h : KnownsAt w v ks) (hx : w.cell? ⟨x3, 0, none⟩ = some (.string pn)) :
    Calls Tryz.prog 162 #[v, .func (.func 163) #[] #[.pointer (some ⟨x3, 0, none⟩)]] w (BoolIs (ks.any (heldP pn)) w) := by
  have H := Lib.hid (idxU_calls v ks x3 pn w h hx)
  clear h hx
  go_enter Tryz.func162, Tryz.ntmps162
  go_wp2_with fail
  refine H.out.mono ?_
  rintro E w1 ⟨i, rfl, hi, hb⟩
  have HI := Lib.hid hi
  clear hi
  by_cases h0 : 0 ≤ i
  · go_wp2_with fail
    go_ret
    exact ⟨ret_bool (by rw [← HI.out]; simp [h0]), hb⟩
  · go_wp2_with fail
    go_ret
    exact ⟨ret_bool HI.out, hb⟩
end Go.Proofs.YtpbbhjifgaeklaaGreatDoor

namespace Go.Proofs.YtpbbhjifgaeklaaGreatDoor
open Go Go.RowKit

set_option maxHeartbeats 4000000 in
set_option maxRecDepth 100000 in
theorem unp2_calls (x3 np cp : Nat) (Ap : Option Addr) (n u r pn : ByteArray) (e : Int) (w : World) (hx : w.cell? ⟨x3, 0, none⟩ = some (.string pn)) :
    Calls Tryz.prog 165 #[.agg #[.string n, .int .i64 e, .string u, .string r, .slice Ap np cp], .pointer (some ⟨x3, 0, none⟩)] w (BoolIs (decide (n = pn)) w) := by
  have hb0 := below_alloc w (.cells #[.string n, .int .i64 e, .string u, .string r, .slice Ap np cp] 84)
  have hx0 := blk_new 84 w #[.string n, .int .i64 e, .string u, .string r, .slice Ap np cp]
  obtain ⟨W1, hW1⟩ : ∃ W, w.alloc (.cells #[.string n, .int .i64 e, .string u, .string r, .slice Ap np cp] 84) = W := ⟨_, rfl⟩
  rw [hW1] at hb0 hx0
  have c0 : W1.cell? ⟨w.heap.size, 0, none⟩ = some (.string n) := hx0.cell rfl
  have c3 := kept hb0 hx
  obtain ⟨b3, hb3⟩ : ∃ b3, decide (n = pn) = b3 := ⟨_, rfl⟩
  have hqf : (n.toList == pn.toList) = b3 := by rw [← hb3]; exact name_eq n pn
  rw [hb3]
  have HB0 := Lib.hid hb0
  clear hb0 hx0 hx hb3
  go_enter Tryz.func165, Tryz.ntmps165
  go_wp2_with fail
  go_ret
  exact ⟨rfl, HB0.out⟩

set_option maxHeartbeats 4000000 in
set_option maxRecDepth 100000 in
theorem idxO_none (v : Value) (os : List Ov) (x3 : Nat) (pn : ByteArray) (w : World) (h : OffersAt w v os) (hx : w.cell? ⟨x3, 0, none⟩ = some (.string pn)) (hno : ∀ o, o ∈ os → o.n ≠ pn) :
    Calls Tryz.prog 183 #[v, .func (.func 165) #[] #[.pointer (some ⟨x3, 0, none⟩)]] w fun E w' => E = .returned (.int .i64 (-1)) ∧ Below w.heap.size w w' := by
  obtain ⟨A, c, rfl, hc, hm, hr⟩ := h
  obtain ⟨len, hlen⟩ : ∃ len, os.length = len := ⟨_, rfl⟩
  have HL := Lib.hid hlen
  have HR := Lib.hid hr
  have HX := Lib.hid hx
  have HNO := Lib.hid hno
  rw [hlen] at hc hm ⊢
  clear hlen hr hx hno
  go_enter Tryz.func183, Tryz.ntmps183
  go_wp2_with fail
  go_loopw [8] (fun i wr => ∃ k : Nat, k ≤ len ∧ i = .int .i64 k ∧ Below w.heap.size w wr) (fun i _ => len - (intOf i).toNat)
  case atStart => exact ⟨0, Nat.zero_le _, rfl, Below.refl _ _⟩
  case round =>
    obtain ⟨k, hk, rfl, hB⟩ := hrel
    by_cases hlt : k < len
    · obtain ⟨o, ht⟩ : ∃ t, os[k]? = some t := ⟨os[k]'(by have := HL.out; omega), List.getElem?_eq_getElem _⟩
      have hne : os ≠ [] := fun e => by rw [e] at ht; simp at ht
      obtain ⟨g, off, rfl, hi⟩ := HR.out hne
      obtain ⟨vp, h0, h1, h2, h3, h4, Ap, cp, rfl, _⟩ := hi k o ht
      obtain ⟨np, hnp⟩ : ∃ np, o.ps.length = np := ⟨_, rfl⟩
      rw [hnp] at h4
      replace h0 := kept hB h0
      replace h1 := kept hB h1
      replace h2 := kept hB h2
      replace h3 := kept hB h3
      replace h4 := kept hB h4
      have H := Lib.hid (unp2_calls x3 np cp Ap o.n o.u o.r pn o.e wr (kept hB HX.out))
      rw [decide_eq_false (HNO.out o (List.mem_of_getElem? ht))] at H
      clear hi hne ht hnp
      go_wp2_with fail
      refine H.out.mono ?_
      rintro E w1 ⟨rfl, hb⟩
      have hB := step_below hB hb
      clear hb H h0 h1 h2 h3 h4
      go_wp2_with fail
      go_roundw
      case rel => exact ⟨k + 1, by omega, by go_num, hB⟩
      case measure => simp [intOf]; omega
    · obtain rfl : k = len := by omega
      go_wp2_with fail
      go_ret
      exact ⟨rfl, hB⟩

set_option maxRecDepth 100000 in
theorem delO_none (v : Value) (os : List Ov) (x3 : Nat) (pn : ByteArray) (w : World) (h : OffersAt w v os) (hx : w.cell? ⟨x3, 0, none⟩ = some (.string pn)) (hno : ∀ o, o ∈ os → o.n ≠ pn) :
    Calls Tryz.prog 164 #[v, .func (.func 165) #[] #[.pointer (some ⟨x3, 0, none⟩)]] w fun E w' => E = .returned v ∧ Below w.heap.size w w' := by
  have H := Lib.hid (idxO_none v os x3 pn w h hx hno)
  obtain ⟨A, c, rfl, _⟩ := h
  obtain ⟨len, hlen⟩ : ∃ len, os.length = len := ⟨_, rfl⟩
  rw [hlen] at H ⊢
  clear hx hno hlen
  go_enter Tryz.func164, Tryz.ntmps164
  go_wp2_with fail
  refine H.out.mono ?_
  rintro E w1 ⟨rfl, hb⟩
  go_wp2_with fail
  go_ret
  exact ⟨rfl, hb⟩
end Go.Proofs.YtpbbhjifgaeklaaGreatDoor

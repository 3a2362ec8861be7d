/- ShelfOwns: the walk. -/
import Derived.Test.YtpbbhjifgaeklaaGreatDoorSOK36
import Derived.Test.YtpbbhjifgaeklaaGreatDoorSOK32
namespace Go.Proofs.YtpbbhjifgaeklaaGreatDoor
open Go Go.RowKit Go.Maps

structure OwnsDr (j : Nat) (D : Dk) : Prop where
  calm : Calm D
  inv : OwnInv D.now
  len : D.now.length ≤ 1500 + j
  fit : FitD 400000 D
theorem OwnsDr.of {k : Nat} {D : Dk} (h : OwnsSt k D) (hk : k ≤ 15) : OwnsDr 0 D := ⟨h.calm, h.inv, by have := h.len; omega, h.small hk⟩
theorem OwnsDr.paths {k : Nat} {D : Dk} (h : OwnsDr k D) : ∀ n, ∀ q ∈ pathsD D n, q.size ≤ 60 := fun n q hq => (path_no (h.inv.path n q hq)).2.1
theorem OwnsDr.drop {j : Nat} {D : Dk} (h : OwnsDr j D) (hj : j ≤ 1600) {n : ByteArray} (hn : n.size ≤ 60) : (dropD D n true).1 = 0 ∧ OwnsDr (j + 1) (dropD D n true).2 ∧ ∀ m ∈ ownersM (dropD D n true).2.now, m ∈ ownersM D.now ∧ m ≠ n := by
  have g := drop_goes h.calm true hn (by have := h.len; omega)
  obtain ⟨K, h1, h2, h3, h4⟩ := drop_paths h.inv n true
  refine ⟨g.none, ⟨g.calm, by rw [g.now]; exact h4, ?_, dropD_fit h.fit n true⟩, fun m hm => drop_owners h.inv (by rw [g.now] at hm; exact hm)⟩
  rw [g.now]
  unfold dropM
  refine Nat.le_trans (setM_len1 _ _ _) ?_
  have := dropLM_len true (pathsM D.now n) [] D.now
  have := h.len
  omega
theorem drop_next {l : List ByteArray} {j : Nat} {x m : ByteArray} (h : l[j]? = some x) (hm : m ∈ l.drop j) (hn : m ≠ x) : m ∈ l.drop (j + 1) := by
  obtain ⟨hj, e⟩ := List.getElem?_eq_some_iff.1 h
  rw [List.drop_eq_getElem_cons hj, e, List.mem_cons] at hm
  exact hm.resolve_left hn

set_option maxHeartbeats 8000000 in
set_option maxRecDepth 100000 in
theorem owns_main (l : List Pv) (dr : List Int) (v vd : Value) (all : Bool) (w : World) (hE : Env w) (hP : PacksAt w v l) (hD : IntsAt w vd dr) (h15 : l.length ≤ 15) (hd15 : dr.length ≤ 15) :
    Calls Tryz.prog 7 #[v, vd, .bool all] w (BoolIs true w) := by
  have HPK := Lib.hid hP
  obtain ⟨Ap, cp, rfl, hcp, hmp, hip⟩ := hP
  obtain ⟨Ad, cd, rfl, hcd, hmd, hid⟩ := hD.open
  have HIP := Lib.hid hip
  have HID := Lib.hid hid
  have hb0 := below_alloc w (.cells #[.bool all] 4)
  have HB0 := Lib.hid hb0
  have HQ0 : Hid ((w.alloc (.cells #[.bool all] 4)).cell? ⟨w.heap.size, 0, none⟩ = some (.bool all)) := Lib.hid (by go_cell)
  have SHH := Lib.hid (shelved_calls (w.alloc (.cells #[.bool all] 4)) (hE.below hb0))
  have HE := Lib.hid hE
  obtain ⟨len, hlen⟩ : ∃ n, l.length = n := ⟨_, rfl⟩
  obtain ⟨dlen, hdlen⟩ : ∃ n, dr.length = n := ⟨_, rfl⟩
  have HL := Lib.hid hlen
  have HDL := Lib.hid hdlen
  rw [hlen] at hcp hmp h15 ⊢
  rw [hdlen] at hcd hmd hd15 ⊢
  have g1 : decide ((15 : Int) < (len : Int)) = false := decide_eq_false (by omega)
  have g2 : decide ((15 : Int) < (dlen : Int)) = false := decide_eq_false (by omega)
  obtain ⟨cq, hcq⟩ : ∃ q, w.heap.size = q := ⟨_, rfl⟩
  have HCQ := Lib.hid hcq
  rw [hcq] at HQ0
  clear hE hD hip hid hb0 hlen hdlen
  go_enter Tryz.func7, Tryz.ntmps7
  go_upto_region 1 with fail
  (try rw [hcq])
  obtain ⟨W0, hW0⟩ : ∃ W, w.alloc (.cells #[.bool all] 4) = W := ⟨_, rfl⟩
  rw [hW0] at HB0 HQ0 SHH
  (try rw [hW0])
  clear hW0 hcq
  go_wp2_with fail
  refine SHH.out.mono ?_
  rintro E w1 ⟨rfl, hb1⟩
  have HB1 := Lib.hid (step_below HB0.out hb1)
  have HE1 := Lib.hid (HE.out.below HB1.out)
  have HQ1 := Lib.hid (kept hb1 HQ0.out)
  clear SHH hb1
  obtain ⟨hS0, hT0, -⟩ := newShelf w1
  have HS0 := Lib.hid hS0
  have HT0 := Lib.hid hT0
  have CO := Lib.hid (over_calls w1.heap.size (w1.alloc (.cells #[.map none, .map none, .int .i64 0, .bool false, .int .i64 0, .bool false] 58)))
  have HSZ1 := Lib.hid (World.size_alloc w1 (.cells #[.map none, .map none, .int .i64 0, .bool false, .int .i64 0, .bool false] 58))
  clear hS0 hT0
  go_wp2_with fail
  refine CO.out.mono ?_
  rintro E w2 ⟨rfl, rfl⟩
  rw [HSZ1.out]
  obtain ⟨d, hd⟩ : ∃ d, w1.heap.size = d := ⟨_, rfl⟩
  rw [hd] at HS0 HT0 ⊢
  generalize (w1.alloc (.cells #[.map none, .map none, .int .i64 0, .bool false, .int .i64 0, .bool false] 58)).alloc (.cells #[.pointer (some ⟨d, 0, none⟩)] 132) = W2 at HS0 HT0 ⊢
  have HT : Hid (Trk w1 w1.heap.size d W2) := Lib.hid (by have := HT0.out; rw [← hd] at this ⊢; exact this)
  have HDD := Lib.hid hd
  clear CO hd HT0 HSZ1
  go_wp2_with fail
  go_loopw [10] (fun i wr => ∃ (k : Nat) (D : Dk), k ≤ len ∧ i = .int .i64 k ∧ Hid (OwnsSt k D) ∧ Hid (ShAt wr (d + 1) d D) ∧ Hid (Trk w1 w1.heap.size d wr) ∧ Hid (∀ (j : Nat) (q : Pv), j < k → l[j]? = some q → saysB q = true)) (fun i _ => len - (intOf i).toNat)
  case atStart => exact ⟨0, D0, Nat.zero_le _, rfl, Lib.hid ownsSt_0, HS0, HT, Lib.hid (fun j _ h => absurd h (Nat.not_lt_zero j))⟩
  case round =>
    obtain ⟨k, D, hk, rfl, hst, hsh, htr, hsy⟩ := hrel
    by_cases hlt : k < len
    · obtain ⟨p, ht⟩ : ∃ p, l[k]? = some p := ⟨l[k]'(by have := HL.out; omega), List.getElem?_eq_getElem _⟩
      have hne : l ≠ [] := fun e => by rw [e] at ht; cases ht
      obtain ⟨bp, op, rfl, hpi⟩ := HIP.out hne
      have HPI := Lib.hid hpi
      obtain ⟨v1, v2, v3, v4, v5, v6, v7, v8, v9, ⟨c0, c1, c2, c3, c4, c5, c6, c7, c8, c9, c10, c11, c12⟩, hpk⟩ := hpi k p ht
      have hBw := step_below HB1.out htr.out.below
      have HBW := Lib.hid hBw
      have HC13 := Lib.hid (And.intro c0 (And.intro c1 (And.intro c2 (And.intro c3 (And.intro c4 (And.intro c5 (And.intro c6 (And.intro c7 (And.intro c8 (And.intro c9 (And.intro c10 (And.intro c11 c12))))))))))))
      have HTT := Lib.hid ht
      replace c0 := kept hBw c0
      replace c1 := kept hBw c1
      replace c2 := kept hBw c2
      replace c3 := kept hBw c3
      replace c4 := kept hBw c4
      replace c5 := kept hBw c5
      replace c6 := kept hBw c6
      replace c7 := kept hBw c7
      replace c8 := kept hBw c8
      replace c9 := kept hBw c9
      replace c10 := kept hBw c10
      replace c11 := kept hBw c11
      replace c12 := kept hBw c12
      have CS := Lib.hid (keepSays_calls _ p wr (hpk.below hBw))
      have HPA := Lib.hid (hpk.below HB1.out)
      unfold BoolIs at CS
      obtain ⟨bs, hbs⟩ : ∃ b, saysB p = b := ⟨_, rfl⟩
      rw [hbs] at CS
      have HBS := Lib.hid hbs
      clear hpi hpk hne ht hBw hbs
      go_wp2_with fail
      refine CS.out.mono ?_
      rintro E w3 ⟨rfl, hb3⟩
      have HS3 := Lib.hid (hsh.out.keep hb3)
      have HT3 := Lib.hid (htr.out.step hb3 hsh.out.dk.lt (by have := hsh.out.dk.lt; have := HDD.out; omega))
      clear CS hb3 c0 c1 c2 c3 c4 c5 c6 c7 c8 c9 c10 c11 c12
      cases bs
      · have HBE := Lib.hid (step_below HB1.out HT3.out.below)
        go_wp2_with fail
        go_ret
        exact ⟨rfl, HBE.out⟩
      · have HSY : Hid (∀ (j : Nat) (q : Pv), j < k + 1 → l[j]? = some q → saysB q = true) := Lib.hid (fun j q hj hq => by
          by_cases e : j < k
          · exact hsy.out j q e hq
          · obtain rfl : j = k := by omega
            rw [HTT.out] at hq
            cases hq
            exact HBS.out)
        clear hsy
        have TH := Lib.hid (fun (k' : Nat) (D' : Dk) (hs : OwnsSt k' D') (hk' : k' ≤ 15) (W : World) (hS : ShAt W (d + 1) d D') (hT : Trk w1 w1.heap.size d W) => there_calls (d + 1) d D' W (HE1.out.below hT.below) hS hs.calm.ok ((hs.small hk').mono (by omega)) hs.paths)
        have CT := Lib.hid (TH.out k D hst.out (by omega) w3 HS3.out HT3.out)
        obtain ⟨t, ht⟩ : ∃ t, thereM D.now = t := ⟨_, rfl⟩
        rw [ht] at CT
        have HTX := Lib.hid ht
        clear ht
        go_wp2_with fail
        refine CT.out.mono ?_
        rintro E w4 ⟨rfl, hb4⟩
        have HS4 := Lib.hid (HS3.out.keep hb4)
        have HT4 := Lib.hid (HT3.out.step hb4 HS3.out.dk.lt (by have := HS3.out.dk.lt; have := HDD.out; omega))
        clear hb4 CT HS3 HT3
        have hBB := step_below HB1.out HT4.out.below
        obtain ⟨c0, c1, c2, c3, c4, c5, c6, c7, c8, c9, c10, c11, c12⟩ := HC13.out
        replace c0 := kept hBB c0
        replace c1 := kept hBB c1
        replace c2 := kept hBB c2
        replace c3 := kept hBB c3
        replace c4 := kept hBB c4
        replace c5 := kept hBB c5
        replace c6 := kept hBB c6
        replace c7 := kept hBB c7
        replace c8 := kept hBB c8
        replace c9 := kept hBB c9
        replace c10 := kept hBB c10
        replace c11 := kept hBB c11
        replace c12 := kept hBB c12
        have CPut := Lib.hid (put_owns (d + 1) d (1000 + k * 20000) D p all cq v1 v2 v3 v4 v5 v6 v7 v8 v9 w1 w4 HE1.out HT4.out HS4.out hst.out.calm.ok hst.out.fit (by omega) (by omega) HT4.out.below.size HPA.out HBS.out HQ1.out (fun ha hc => (hst.out.puts (by omega) (says_fit HBS.out) ha _ hc).1))
        clear hBB
        go_wp2_with fail
        refine CPut.out.mono ?_
        rintro E w5 hway
        clear c0 c1 c2 c3 c4 c5 c6 c7 c8 c9 c10 c11 c12
        rcases hway with ⟨rfl, h1, hs5, ho5⟩ | ⟨b, rfl, h1, hs5, ho5⟩ | ⟨rfl, ha, hc, hs5, ho5⟩
        · have HS5 := Lib.hid hs5
          have HT5 := Lib.hid (HT4.out.go ho5 (Nat.le_refl _))
          have CT2 := Lib.hid (TH.out k D hst.out (by omega) w5 hs5 HT5.out)
          rw [HTX.out] at CT2
          have htt : (t.toList != t.toList) = false := by simp
          clear hs5 ho5 h1 CPut
          go_wp2_with fail
          refine CT2.out.mono ?_
          rintro E w6 ⟨rfl, hb6⟩
          have HS6 := Lib.hid (HS5.out.keep hb6)
          have HT6 := Lib.hid (HT5.out.step hb6 HS5.out.dk.lt (by have := HS5.out.dk.lt; have := HDD.out; omega))
          clear hb6 CT2
          go_wp2_with fail
          go_roundw
          case rel => first | exact ⟨k + 1, D, by omega, by go_num, Lib.hid hst.out.next, HS6, HT6, HSY⟩ | ((repeat apply Exists.intro); exact ⟨⟨k + 1, D, by omega, by go_num, Lib.hid hst.out.next, HS6, HT6, HSY⟩, rfl⟩)
          case measure => simp [intOf]; omega
        · have HS5 := Lib.hid hs5
          have HT5 := Lib.hid (HT4.out.go ho5 (Nat.le_refl _))
          have CT2 := Lib.hid (TH.out k D hst.out (by omega) w5 hs5 HT5.out)
          rw [HTX.out] at CT2
          have htt : (t.toList != t.toList) = false := by simp
          clear hs5 ho5 h1 CPut
          go_wp2_with fail
          refine CT2.out.mono ?_
          rintro E w6 ⟨rfl, hb6⟩
          have HS6 := Lib.hid (HS5.out.keep hb6)
          have HT6 := Lib.hid (HT5.out.step hb6 HS5.out.dk.lt (by have := HS5.out.dk.lt; have := HDD.out; omega))
          clear hb6 CT2
          go_wp2_with fail
          go_roundw
          case rel => first | exact ⟨k + 1, D, by omega, by go_num, Lib.hid hst.out.next, HS6, HT6, HSY⟩ | ((repeat apply Exists.intro); exact ⟨⟨k + 1, D, by omega, by go_num, Lib.hid hst.out.next, HS6, HT6, HSY⟩, rfl⟩)
          case measure => simp [intOf]; omega
        · obtain ⟨q1, q2, q3, q4, q5, q6, q7⟩ := hst.out.puts (by omega) (says_fit HBS.out) ha (fun _ => all) hc
          have hql := hst.out.put_len (by omega) (says_fit HBS.out) ha (fun _ => all) hc
          obtain ⟨D1, hD1⟩ : ∃ D1, (putFD D p.n p.se p.fi []).2 = D1 := ⟨_, rfl⟩
          rw [hD1] at hql q2 q3 q4 q5 q6 q7 hs5
          obtain ⟨D2, hD2⟩ : ∃ D2, (putFD D1 p.n p.se p.fi []).2 = D2 := ⟨_, rfl⟩
          rw [hD2] at q6 q7
          have HD2 := Lib.hid hD2
          have HS5 := Lib.hid hs5
          have HT5 := Lib.hid (HT4.out.go ho5 (Nat.le_refl _))
          have HQ2 := Lib.hid q2
          have HQL := Lib.hid hql
          have HQ3 := Lib.hid q3
          have HQ4 := Lib.hid q4
          have HQ5 := Lib.hid q5
          have HQ6 := Lib.hid q6
          have HQ7 := Lib.hid q7
          have HAR := Lib.hid ha
          obtain ⟨t1, ht1⟩ : ∃ t, thereM D1.now = t := ⟨_, rfl⟩
          have HTX1 := Lib.hid ht1
          have CT2 := Lib.hid (TH.out (k + 1) D1 q2 (by omega) w5 hs5 HT5.out)
          rw [ht1] at CT2
          clear hql hs5 ho5 q1 q2 q3 q4 q5 q6 q7 hD1 hD2 ha hc ht1 CPut HTX
          go_wp2_with fail
          refine CT2.out.mono ?_
          rintro E w6 ⟨rfl, hb6⟩
          have HS6 := Lib.hid (HS5.out.keep hb6)
          have HT6 := Lib.hid (HT5.out.step hb6 HS5.out.dk.lt (by have := HS5.out.dk.lt; have := HDD.out; omega))
          clear hb6 CT2 HS5 HT5
          have hBB := step_below HB1.out HT6.out.below
          obtain ⟨c0, c1, c2, c3, c4, c5, c6, c7, c8, c9, c10, c11, c12⟩ := HC13.out
          replace c0 := kept hBB c0
          replace c1 := kept hBB c1
          replace c2 := kept hBB c2
          replace c3 := kept hBB c3
          replace c4 := kept hBB c4
          replace c5 := kept hBB c5
          replace c6 := kept hBB c6
          replace c7 := kept hBB c7
          replace c8 := kept hBB c8
          replace c9 := kept hBB c9
          replace c10 := kept hBB c10
          replace c11 := kept hBB c11
          replace c12 := kept hBB c12
          have hpp := pack_parts (HPA.out.below HT6.out.below)
          have CLD := Lib.hid (laid_calls (d + 1) d D1 p v1 v2 v3 v4 v5 v6 v7 v8 v9 w6 (HE1.out.below HT6.out.below) HS6.out HQ2.out.calm.ok ((HQ2.out.small (by omega)).mono (by omega)) hpp.1 hpp.2 (fun s hs => by have := (says_fit HBS.out).se s hs; omega) (fun f hf => by have := ((says_fit HBS.out).fi f hf).1; omega) (by have := (says_fit HBS.out).sen; omega) HQ3.out)
          unfold BoolIs at CLD
          clear hBB hpp
          go_wp2_with fail
          refine CLD.out.mono ?_
          rintro E w7 ⟨rfl, hb7⟩
          have HS7 := Lib.hid (HS6.out.keep hb7)
          have HT7 := Lib.hid (HT6.out.step hb7 HS6.out.dk.lt (by have := HS6.out.dk.lt; have := HDD.out; omega))
          replace c0 := kept hb7 c0
          replace c1 := kept hb7 c1
          replace c2 := kept hb7 c2
          replace c3 := kept hb7 c3
          replace c4 := kept hb7 c4
          replace c5 := kept hb7 c5
          replace c6 := kept hb7 c6
          replace c7 := kept hb7 c7
          replace c8 := kept hb7 c8
          replace c9 := kept hb7 c9
          replace c10 := kept hb7 c10
          replace c11 := kept hb7 c11
          replace c12 := kept hb7 c12
          clear hb7 CLD HS6 HT6
          have CP2 := Lib.hid (put_owns (d + 1) d (1000 + (k + 1) * 20000) D1 p all cq v1 v2 v3 v4 v5 v6 v7 v8 v9 w1 w7 HE1.out HT7.out HS7.out HQ2.out.calm.ok HQ2.out.fit (by omega) (by omega) HT7.out.below.size HPA.out HBS.out HQ1.out (fun _ _ => HQ5.out))
          go_wp2_with fail
          refine CP2.out.mono ?_
          rintro E w8 hway2
          rcases hway2 with ⟨rfl, h1, hs8, ho8⟩ | ⟨b, rfl, h1, hs8, ho8⟩ | ⟨rfl, ha, hc, hs8, ho8⟩
          · exact absurd ⟨HAR.out, by have := HQ4.out; omega⟩ h1
          · exact absurd ⟨HAR.out, by have := HQ4.out; omega⟩ h1
          rw [HD2.out] at hs8
          have HS8 := Lib.hid hs8
          have HT8 := Lib.hid (HT7.out.go ho8 (Nat.le_refl _))
          have CT3 := Lib.hid (TH.out (k + 1) D2 HQ6.out (by omega) w8 hs8 HT8.out)
          rw [HQ7.out, HTX1.out] at CT3
          have htt : (t1.toList != t1.toList) = false := by simp
          clear c0 c1 c2 c3 c4 c5 c6 c7 c8 c9 c10 c11 c12
          clear hs8 ho8 ha hc CP2 HS7 HT7
          go_wp2_with fail
          refine CT3.out.mono ?_
          rintro E w9 ⟨rfl, hb9⟩
          have HS9 := Lib.hid (HS8.out.keep hb9)
          have HT9 := Lib.hid (HT8.out.step hb9 HS8.out.dk.lt (by have := HS8.out.dk.lt; have := HDD.out; omega))
          clear hb9 CT3 HS8 HT8 HQ2 HQ3 HQ4 HQ5 HAR HD2
          by_cases hd0 : dlen = 0
          · have g3 : decide ((0 : Int) < (dlen : Int)) = false := decide_eq_false (by omega)
            have g4 : decide (0 < dlen) = false := decide_eq_false (by omega)
            have g5 : ¬ 0 < dlen := by omega
            clear hd0
            have CA := Lib.hid (apart_calls (d + 1) d D2 w9 (HE1.out.below HT9.out.below) HS9.out HQ6.out.calm.ok ((HQ6.out.small (by omega)).mono (by omega)) HQ6.out.inv)
            unfold BoolIs at CA
            go_wp2_with fail
            refine CA.out.mono ?_
            rintro E wz ⟨rfl, hbz⟩
            have HSz := Lib.hid (HS9.out.keep hbz)
            have HTz := Lib.hid (HT9.out.step hbz HS9.out.dk.lt (by have := HS9.out.dk.lt; have := HDD.out; omega))
            clear hbz CA
            go_wp2_with fail
            go_roundw
            case rel => first | exact ⟨k + 1, D2, by omega, by go_num, HQ6, HSz, HTz, HSY⟩ | ((repeat apply Exists.intro); exact ⟨⟨k + 1, D2, by omega, by go_num, HQ6, HSz, HTz, HSY⟩, rfl⟩)
            case measure => simp [intOf]; omega
          · have g3 : decide ((0 : Int) < (dlen : Int)) = true := decide_eq_true (by omega)
            have hne0 : ((dlen : Int) == 0) = false := by rw [beq_eq_false_iff_ne]; omega
            obtain ⟨km, hkm, hkl⟩ : ∃ m : Nat, ((k : Int)).tmod (dlen : Int) = (m : Int) ∧ m < dlen := ⟨k % dlen, by rw [Int.tmod_eq_emod_of_nonneg (by omega)]; rfl, Nat.mod_lt _ (by omega)⟩
            obtain ⟨x, hx⟩ : ∃ x, dr[km]? = some x := ⟨dr[km]'(by have := HDL.out; omega), List.getElem?_eq_getElem _⟩
            have hne9 : dr ≠ [] := fun e => by rw [e] at hx; cases hx
            obtain ⟨bd, od, rfl, hdi⟩ := HID.out hne9
            have HC1 := Lib.hid (hdi km x hx)
            have cx := kept (step_below HB1.out HT9.out.below) HC1.out
            obtain ⟨kk, hkk, hkv⟩ := pick_num x 3 (by decide) (by decide)
            have CK := Lib.hid (fun (W : World) => pick_calls x 3 (by decide) (by decide) W)
            unfold PickIs at CK
            rw [hkv] at CK
            clear hdi hx hne9 hkv
            go_wp2_with fail
            refine (CK.out _).mono ?_
            rintro E wk ⟨rfl, rfl⟩
            by_cases hk0 : kk = 0
            · subst hk0
              go_upto_region 22 with fail
              obtain ⟨jj, hjj, hjv⟩ := pick_num x ((k : Int) + 1) (by omega) (by omega)
              obtain ⟨q, hq⟩ : ∃ q, l[jj]? = some q := ⟨l[jj]'(by have := HL.out; omega), List.getElem?_eq_getElem _⟩
              obtain ⟨u1, u2, u3, u4, u5, u6, u7, u8, u9, ⟨hqc, _⟩, _⟩ := HPI.out jj q hq
              have hqs := HSY.out jj q (by omega) hq
              have HQN := Lib.hid (says_fit hqs).n
              have HC2 := Lib.hid hqc
              have HW1 : Hid (IntKind.i64.wrap ((k : Int) + 1) = (k : Int) + 1) := Lib.hid (by rw [IntKind.wrap_i64]; omega)
              have hjl : jj < len := by omega
              have CJ := Lib.hid (fun (W : World) => pick_calls x ((k : Int) + 1) (by omega) (by omega) W)
              unfold PickIs at CJ
              rw [hjv] at CJ
              have SK := Lib.hid (fun (W : World) (hT : Trk w1 w1.heap.size d W) => And.intro (kept (step_below HB1.out hT.below) HC1.out) (And.intro (kept (step_below HB1.out hT.below) HC2.out) hT))
              have CD := Lib.hid (fun (b : Bool) (W : World) (hT : Trk w1 w1.heap.size d W) (hS : ShAt W (d + 1) d D2) => drop_calls (d + 1) d 900000 D2 q.n b W (HE1.out.below hT.below) hS HQ6.out.calm.ok ((HQ6.out.small (by omega)).mono (by omega)) (by omega) (by have := HQN.out; omega))
              have GD := Lib.hid (fun (b : Bool) => (HQ6.out.drop (by omega) HQN.out b))
              clear hqs hq hqc hjv
              go_cut [128] (fun v wx => v = .bool false ∧ Trk w1 w1.heap.size d wx ∧ ∃ b : Bool, ShAt wx (d + 1) d (dropD D2 q.n b).2)
              case first =>
                refine wp_region_held_drew (S := (fun W => W.cell? ⟨bd, od + km, none⟩ = some (.int .i64 x) ∧ W.cell? ⟨bp, op + jj * 13, none⟩ = some (.string q.n) ∧ Trk w1 w1.heap.size d W)) (by kernel_rfl) ?_ (fun hHeld => ?_)
                · exact SK.out _ (HT9.out.step (below_drew _) HS9.out.dk.lt (by have := HS9.out.dk.lt; have := HDD.out; omega))
                refine wpAnyH_take (i := 0) (v := ?_) rfl (by kernel_rfl) (by kernel_rfl) (by kernel_rfl) (fun _ _ _ h => h) (Or.inl ⟨by rfl, ?_⟩) (by assumption) ?_
                rotate_left
                · (intro w hSw; (try dsimp only at hSw); go_simp; (try with_reducible rfl))
                (try simp only [List.getElem_toArray, List.getElem_cons_zero, Act.put, List.setIfInBounds_toArray, List.set_cons_zero, List.set_cons_succ])
                refine wpAnyH_take (i := 1) (v := ?_) rfl (by kernel_rfl) (by kernel_rfl) (by kernel_rfl) (fun _ _ _ h => h) (Or.inl ⟨by rfl, ?_⟩) (by assumption) ?_
                rotate_left
                · (intro w hSw; (try dsimp only at hSw); go_simp; (try with_reducible rfl))
                (try simp only [List.getElem_toArray, List.getElem_cons_succ, List.getElem_cons_zero, Act.put, List.setIfInBounds_toArray, List.set_cons_zero, List.set_cons_succ])
                refine wpAnyH_take (i := 2) (v := ?_) rfl (by kernel_rfl) (by kernel_rfl) (by kernel_rfl) (fun _ _ _ h => h) (Or.inl ⟨by rfl, ?_⟩) (by assumption) ?_
                rotate_left
                · (intro w hSw; (try dsimp only at hSw); go_simp; (try with_reducible rfl))
                (try simp only [List.getElem_toArray, List.getElem_cons_succ, List.getElem_cons_zero, Act.put, List.setIfInBounds_toArray, List.set_cons_zero, List.set_cons_succ])
                refine wpAnyH_take (i := 3) (v := ?_) rfl (by kernel_rfl) (by kernel_rfl) (by kernel_rfl) (fun _ _ _ h => h) (Or.inl ⟨by rfl, ?_⟩) (by assumption) ?_
                rotate_left
                · (intro w hSw; (try dsimp only at hSw); go_simp; (try with_reducible rfl))
                (try simp only [List.getElem_toArray, List.getElem_cons_succ, List.getElem_cons_zero, Act.put, List.setIfInBounds_toArray, List.set_cons_zero, List.set_cons_succ])
                refine wpAnyH_take (i := 4) (v := ?_) rfl (by kernel_rfl) (by kernel_rfl) (by kernel_rfl) (fun _ _ _ h => h) (Or.inl ⟨by rfl, ?_⟩) (by assumption) ?_
                rotate_left
                · (intro w hSw; (try dsimp only at hSw); go_simp; (try with_reducible rfl))
                (try simp only [List.getElem_toArray, List.getElem_cons_succ, List.getElem_cons_zero, Act.put, List.setIfInBounds_toArray, List.set_cons_zero, List.set_cons_succ])
                refine wpAnyH_take (i := 5) (v := ?_) rfl (by kernel_rfl) (by kernel_rfl) (by kernel_rfl) (fun _ _ _ h => h) (Or.inl ⟨by rfl, ?_⟩) (by assumption) ?_
                rotate_left
                · (intro w hSw; (try dsimp only at hSw); go_simp; (try with_reducible rfl))
                (try simp only [List.getElem_toArray, List.getElem_cons_succ, List.getElem_cons_zero, Act.put, List.setIfInBounds_toArray, List.set_cons_zero, List.set_cons_succ])
                refine wpAnyH_take (i := 6) (v := ?_) rfl (by kernel_rfl) (by kernel_rfl) (by kernel_rfl) (fun _ _ _ h => h) (Or.inl ⟨by rfl, ?_⟩) (by assumption) ?_
                rotate_left
                · (intro w hSw; (try dsimp only at hSw); go_simp; (try with_reducible rfl))
                (try simp only [List.getElem_toArray, List.getElem_cons_succ, List.getElem_cons_zero, Act.put, List.setIfInBounds_toArray, List.set_cons_zero, List.set_cons_succ])
                refine wpAnyH_take (i := 7) (v := ?_) rfl (by kernel_rfl) (by kernel_rfl) (by kernel_rfl) (fun _ _ _ h => h) (Or.inl ⟨by rfl, ?_⟩) (by assumption) ?_
                rotate_left
                · (intro w hSw; (try dsimp only at hSw); go_simp; (try with_reducible rfl))
                (try simp only [List.getElem_toArray, List.getElem_cons_succ, List.getElem_cons_zero, Act.put, List.setIfInBounds_toArray, List.set_cons_zero, List.set_cons_succ])
                refine wpAnyH_take (i := 8) (v := ?_) rfl (by kernel_rfl) (by kernel_rfl) (by kernel_rfl) (fun _ _ _ h => h) (Or.inl ⟨by rfl, ?_⟩) (by assumption) ?_
                rotate_left
                · (intro w hSw; (try dsimp only at hSw); go_simp; (try with_reducible rfl))
                (try simp only [List.getElem_toArray, List.getElem_cons_succ, List.getElem_cons_zero, Act.put, List.setIfInBounds_toArray, List.set_cons_zero, List.set_cons_succ])
                refine wpAnyH_take (i := 9) (v := ?_) rfl (by kernel_rfl) (by kernel_rfl) (by kernel_rfl) (fun _ _ _ h => h) (Or.inl ⟨by rfl, ?_⟩) (by assumption) ?_
                rotate_left
                · (intro w hSw; (try dsimp only at hSw); go_simp; (try with_reducible rfl))
                (try simp only [List.getElem_toArray, List.getElem_cons_succ, List.getElem_cons_zero, Act.put, List.setIfInBounds_toArray, List.set_cons_zero, List.set_cons_succ])
                refine wpAnyH_take (i := 10) (v := ?_) rfl (by kernel_rfl) (by kernel_rfl) (by kernel_rfl) (fun _ _ _ h => h) (Or.inl ⟨by rfl, ?_⟩) (by assumption) ?_
                rotate_left
                · (intro w hSw; (try dsimp only at hSw); go_simp; (try with_reducible rfl))
                (try simp only [List.getElem_toArray, List.getElem_cons_succ, List.getElem_cons_zero, Act.put, List.setIfInBounds_toArray, List.set_cons_zero, List.set_cons_succ])
                refine wpAnyH_take (i := 15) (v := ?_) rfl (by kernel_rfl) (by kernel_rfl) (by kernel_rfl) (fun _ _ _ h => h) (Or.inl ⟨by rfl, ?_⟩) (by assumption) ?_
                rotate_left
                · (intro w hSw; (try dsimp only at hSw); go_simp; (try with_reducible rfl))
                (try simp only [List.getElem_toArray, List.getElem_cons_succ, List.getElem_cons_zero, Act.put, List.setIfInBounds_toArray, List.set_cons_zero, List.set_cons_succ])
                refine wpAnyH_take (i := 16) (v := ?_) rfl (by kernel_rfl) (by kernel_rfl) (by kernel_rfl) (fun _ _ _ h => h) (Or.inl ⟨by rfl, ?_⟩) (by assumption) ?_
                rotate_left
                · (intro w hSw; (try dsimp only at hSw); go_simp; (try with_reducible rfl))
                (try simp only [List.getElem_toArray, List.getElem_cons_succ, List.getElem_cons_zero, Act.put, List.setIfInBounds_toArray, List.set_cons_zero, List.set_cons_succ])
                refine wpAnyH_take (i := 17) (v := ?_) rfl (by kernel_rfl) (by kernel_rfl) (by kernel_rfl) (fun _ _ _ h => h) (Or.inl ⟨by rfl, ?_⟩) (by assumption) ?_
                rotate_left
                · (intro w hSw; (try dsimp only at hSw); go_simp; (try with_reducible rfl))
                (try simp only [List.getElem_toArray, List.getElem_cons_succ, List.getElem_cons_zero, Act.put, List.setIfInBounds_toArray, List.set_cons_zero, List.set_cons_succ])
                refine wpAnyH_take (i := 18) (v := ?_) rfl (by kernel_rfl) (by kernel_rfl) (by kernel_rfl) (fun _ _ _ h => h) (Or.inl ⟨by rfl, ?_⟩) (by assumption) ?_
                rotate_left
                · (intro w hSw; (try dsimp only at hSw); go_simp; (try with_reducible rfl))
                (try simp only [List.getElem_toArray, List.getElem_cons_succ, List.getElem_cons_zero, Act.put, List.setIfInBounds_toArray, List.set_cons_zero, List.set_cons_succ])
                refine wpAnyH_take (i := 19) (v := ?_) rfl (by kernel_rfl) (by kernel_rfl) (by kernel_rfl) (fun _ _ _ h => h) (Or.inl ⟨by rfl, ?_⟩) (by assumption) ?_
                rotate_left
                · (intro w hSw; (try dsimp only at hSw); go_simp; (try with_reducible rfl))
                (try simp only [List.getElem_toArray, List.getElem_cons_succ, List.getElem_cons_zero, Act.put, List.setIfInBounds_toArray, List.set_cons_zero, List.set_cons_succ])
                refine wpAnyH_take (i := 20) (v := ?_) rfl (by kernel_rfl) (by kernel_rfl) (by kernel_rfl) (fun _ _ _ h => h) (Or.inl ⟨by rfl, ?_⟩) (by assumption) ?_
                rotate_left
                · (intro w hSw; (try dsimp only at hSw); go_simp; (try with_reducible rfl))
                (try simp only [List.getElem_toArray, List.getElem_cons_succ, List.getElem_cons_zero, Act.put, List.setIfInBounds_toArray, List.set_cons_zero, List.set_cons_succ])
                refine wpAnyH_take (i := 21) (v := ?_) rfl (by kernel_rfl) (by kernel_rfl) (by kernel_rfl) (fun _ _ _ h => h) (Or.inl ⟨by rfl, ?_⟩) (by assumption) ?_
                rotate_left
                · (intro w hSw; (try dsimp only at hSw); go_simp; (try with_reducible rfl))
                (try simp only [List.getElem_toArray, List.getElem_cons_succ, List.getElem_cons_zero, Act.put, List.setIfInBounds_toArray, List.set_cons_zero, List.set_cons_succ])
                refine wpAnyH_take (i := 22) (v := ?_) rfl (by kernel_rfl) (by kernel_rfl) (by kernel_rfl) (fun _ _ _ h => h) (Or.inl ⟨by rfl, ?_⟩) (by assumption) ?_
                rotate_left
                · (intro w hSw; (try dsimp only at hSw); go_simp; (try with_reducible rfl))
                (try simp only [List.getElem_toArray, List.getElem_cons_succ, List.getElem_cons_zero, Act.put, List.setIfInBounds_toArray, List.set_cons_zero, List.set_cons_succ])
                refine wpAnyH_take (i := 23) (v := ?_) rfl (by kernel_rfl) (by kernel_rfl) (by kernel_rfl) (fun _ _ _ h => h) (Or.inl ⟨by rfl, ?_⟩) (by assumption) ?_
                rotate_left
                · (intro w hSw; (try dsimp only at hSw); go_simp; (try with_reducible rfl))
                (try simp only [List.getElem_toArray, List.getElem_cons_succ, List.getElem_cons_zero, Act.put, List.setIfInBounds_toArray, List.set_cons_zero, List.set_cons_succ])
                refine wpAnyH_ready (rs := [11]) (by kernel_rfl) (by simp) ?_
                refine AllReadyH.cons rfl (fun K hK => ?_) AllReadyH.nil
                go_simp
                go_at_call 15
                (try rw [HW1.out])
                refine Calls.mono (CJ.out _) ?_
                rintro E y1 ⟨rfl, rfl⟩
                (try go_wp2_with fail)
                refine hK.out _ _ hHeld (fun hHeld => ?_)
                clear hK K
                (try simp only [List.getElem_toArray, List.getElem_cons_succ, List.getElem_cons_zero, Act.put, List.setIfInBounds_toArray, List.set_cons_zero, List.set_cons_succ])
                refine wpAnyH_take (i := 12) (v := ?_) rfl (by kernel_rfl) (by kernel_rfl) (by kernel_rfl) (fun _ _ _ h => h) (Or.inl ⟨by rfl, ?_⟩) (by assumption) ?_
                rotate_left
                · (intro w hSw; (try dsimp only at hSw); go_simp; (try with_reducible rfl))
                (try simp only [List.getElem_toArray, List.getElem_cons_succ, List.getElem_cons_zero, Act.put, List.setIfInBounds_toArray, List.set_cons_zero, List.set_cons_succ])
                refine wpAnyH_take (i := 13) (v := ?_) rfl (by kernel_rfl) (by kernel_rfl) (by kernel_rfl) (fun _ _ _ h => h) (Or.inl ⟨by rfl, ?_⟩) (by assumption) ?_
                rotate_left
                · (intro w hSw; (try dsimp only at hSw); go_simp; (try with_reducible rfl))
                (try simp only [List.getElem_toArray, List.getElem_cons_succ, List.getElem_cons_zero, Act.put, List.setIfInBounds_toArray, List.set_cons_zero, List.set_cons_succ])
                refine wpAnyH_take (i := 14) (v := ?_) rfl (by kernel_rfl) (by kernel_rfl) (by kernel_rfl) (fun _ _ _ h => h) (Or.inl ⟨by rfl, ?_⟩) (by assumption) ?_
                rotate_left
                · (intro w hSw; (try dsimp only at hSw); go_simp; (try with_reducible rfl))
                (try simp only [List.getElem_toArray, List.getElem_cons_succ, List.getElem_cons_zero, Act.put, List.setIfInBounds_toArray, List.set_cons_zero, List.set_cons_succ])
                refine wpAnyH_ready (rs := [24]) (by kernel_rfl) (by simp) ?_
                refine AllReadyH.cons rfl (fun K hK => ?_) AllReadyH.nil
                go_simp
                go_at_call 43
                refine Calls.mono (CD.out _ _ hHeld.2.2 (HS9.out.keep (below_drew _))) ?_
                rintro E y2 ⟨rfl, hs2, ho2⟩
                rw [(GD.out _).1.none, errV_0]
                have HT10 := Lib.hid (hHeld.2.2.go (OffN.of (n := w1.heap.size) ho2 hHeld.2.2.below.size) (Nat.le_refl _))
                (try go_wp2_with fail)
                refine hK.out _ _ (SK.out _ HT10.out) (fun hHeld => ?_)
                clear hK K
                (try simp only [List.getElem_toArray, List.getElem_cons_succ, List.getElem_cons_zero, Act.put, List.setIfInBounds_toArray, List.set_cons_zero, List.set_cons_succ])
                refine wpAnyH_take (i := 25) (v := ?_) rfl (by kernel_rfl) (by kernel_rfl) (by kernel_rfl) (fun _ _ _ h => h) (Or.inl ⟨by rfl, ?_⟩) (by assumption) ?_
                rotate_left
                · (intro w hSw; (try dsimp only at hSw); go_simp; (try with_reducible rfl))
                (try simp only [List.getElem_toArray, List.getElem_cons_succ, List.getElem_cons_zero, Act.put, List.setIfInBounds_toArray, List.set_cons_zero, List.set_cons_succ])
                refine wpAnyH_done (by kernel_rfl) ?_ _
                go_wp2_with fail
                go_meet
                exact ⟨rfl, HT10.out, _, hs2⟩
              case rest =>
              obtain ⟨rfl, ht10, b, hs10⟩ := hcut
              have HT10 := Lib.hid ht10
              have HS10 := Lib.hid hs10
              have HQ10 : Hid (OwnsSt (k + 1) (dropD D2 q.n b).2) := Lib.hid ⟨(GD.out b).1.calm, (GD.out b).1.now.symm ▸ (GD.out b).2.1, by rw [(GD.out b).1.now]; have h1 := (GD.out b).2.2.1; have h2 := HQL.out; have h3 := congrArg List.length HQ7.out; omega, (GD.out b).2.2.2⟩
              clear ht10 hs10
              generalize (dropD D2 q.n b).2 = D3 at HS10 HQ10
              have CA := Lib.hid (apart_calls (d + 1) d D3 _ (HE1.out.below HT10.out.below) HS10.out HQ10.out.calm.ok ((HQ10.out.small (by omega)).mono (by omega)) HQ10.out.inv)
              unfold BoolIs at CA
              go_wp2_with fail
              refine CA.out.mono ?_
              rintro E wz ⟨rfl, hbz⟩
              have HSz := Lib.hid (HS10.out.keep hbz)
              have HTz := Lib.hid (HT10.out.step hbz HS10.out.dk.lt (by have := HS10.out.dk.lt; have := HDD.out; omega))
              clear hbz CA
              go_wp2_with fail
              go_roundw
              case rel => first | exact ⟨k + 1, D3, by omega, by go_num, HQ10, HSz, HTz, HSY⟩ | ((repeat apply Exists.intro); exact ⟨⟨k + 1, D3, by omega, by go_num, HQ10, HSz, HTz, HSY⟩, rfl⟩)
              case measure => simp [intOf]; omega
            · have hk1 : ((kk : Int) == 0) = false := by rw [beq_eq_false_iff_ne]; omega
              have CA := Lib.hid (apart_calls (d + 1) d D2 w9 (HE1.out.below HT9.out.below) HS9.out HQ6.out.calm.ok ((HQ6.out.small (by omega)).mono (by omega)) HQ6.out.inv)
              unfold BoolIs at CA
              go_wp2_with fail
              refine CA.out.mono ?_
              rintro E wz ⟨rfl, hbz⟩
              have HSz := Lib.hid (HS9.out.keep hbz)
              have HTz := Lib.hid (HT9.out.step hbz HS9.out.dk.lt (by have := HS9.out.dk.lt; have := HDD.out; omega))
              clear hbz CA
              go_wp2_with fail
              go_roundw
              case rel => first | exact ⟨k + 1, D2, by omega, by go_num, HQ6, HSz, HTz, HSY⟩ | ((repeat apply Exists.intro); exact ⟨⟨k + 1, D2, by omega, by go_num, HQ6, HSz, HTz, HSY⟩, rfl⟩)
              case measure => simp [intOf]; omega
    · obtain rfl : k = len := by omega
      have HON := Lib.hid (fun x (hx : x ∈ ownersD D) => (hst.out.inv.small x hx).1)
      have HOL := Lib.hid (Nat.le_trans (namesL_len owP (keysF D.now)) (by rw [keys_len]; exact hst.out.len))
      have CO := Lib.hid (owners_calls (d + 1) d D wr hsh.out hst.out.calm.ok)
      have HDR := Lib.hid (OwnsDr.of hst.out h15)
      rw [show namesL owP (keysF D.now) = ownersD D from rfl] at HOL
      have HME : Hid (∀ x ∈ ownersM D.now, x ∈ (ownersD D).drop 0) := Lib.hid (fun x hx => hx)
      obtain ⟨own, hown⟩ : ∃ own, ownersD D = own := ⟨_, rfl⟩
      rw [hown] at CO HON HOL HME
      obtain ⟨m, hm⟩ : ∃ l, own.length = l := ⟨_, rfl⟩
      have HL2 := Lib.hid hm
      clear hst hsy hown HID
      go_wp2_with fail
      refine CO.out.mono ?_
      rintro E w3 ⟨vo, rfl, hU, hb3⟩
      obtain ⟨Ao, co, rfl, hco, hmo, hro⟩ := hU.1.open
      have HRO := Lib.hid (And.intro hro hU.2)
      have HS3 := Lib.hid (hsh.out.keep hb3)
      have HT3 := Lib.hid (htr.out.step hb3 hsh.out.dk.lt (by have := hsh.out.dk.lt; have := HDD.out; omega))
      have HNF := Lib.hid (fun i (hi : wr.heap.size ≤ i) => new_not_foot (i := i) hsh.out.dk hb3 hi)
      rw [hm] at hco hmo ⊢
      have hm5 : m ≤ 1500 := by have := HOL.out; omega
      clear hU hb3 CO hro hm hsh htr
      go_wp2_with fail
      go_loopw [135, 14] (fun i _ wx => ∃ (j : Nat) (D' : Dk), j ≤ m ∧ i = .int .i64 j ∧ Hid (OwnsDr j D') ∧ Hid (ShAt wx (d + 1) d D') ∧ Hid (Trk w1 w1.heap.size d wx) ∧ Hid (OffN w3.heap.size d w3 wx) ∧ Hid (∀ x ∈ ownersM D'.now, x ∈ own.drop j)) (fun i _ _ => m - (intOf i).toNat)
      case atStart => exact ⟨0, D, Nat.zero_le _, rfl, HDR, HS3, HT3, Lib.hid (OffN.of (Off.refl d w3) (Nat.le_refl _)), HME⟩
      case round =>
        obtain ⟨j, D', hj, rfl, hst2, hsh2, htr2, hoff2, hmem⟩ := hrel
        by_cases hlj : j < m
        · obtain ⟨x, ht⟩ : ∃ x, own[j]? = some x := ⟨own[j]'(by have := HL2.out; omega), List.getElem?_eq_getElem _⟩
          have hne : own ≠ [] := fun e => by rw [e] at ht; cases ht
          obtain ⟨bo, oo, rfl, hio⟩ := HRO.out.1 hne
          have hbo := HRO.out.2 bo oo _ _ rfl
          have c0 := keptO hoff2.out.off (HNF.out _ hbo) (hio j x ht)
          have hxs := HON.out x (List.mem_of_getElem? ht)
          have HX := Lib.hid ht
          have HXS := Lib.hid hxs
          have CD := Lib.hid (drop_calls (d + 1) d 400000 D' x true _ (HE1.out.below htr2.out.below) hsh2.out hst2.out.calm.ok hst2.out.fit (by omega) (by omega))
          have HDD2 := Lib.hid (hst2.out.drop (by omega) hxs)
          clear ht hne hio hbo
          go_wp2_with fail
          refine CD.out.mono ?_
          rintro E w5 ⟨rfl, hs5, ho5⟩
          rw [HDD2.out.1, errV_0]
          have HS5 := Lib.hid hs5
          have HT5 := Lib.hid (htr2.out.go (OffN.of (n := w1.heap.size) ho5 htr2.out.below.size) (Nat.le_refl _))
          have HO5 := Lib.hid (hoff2.out.go ho5 hoff2.out.size)
          have HD5 := Lib.hid HDD2.out.2.1
          have HM5 : Hid (∀ y ∈ ownersM (dropD D' x true).2.now, y ∈ own.drop (j + 1)) := Lib.hid (fun y hy => drop_next HX.out (hmem.out y (HDD2.out.2.2 y hy).1) (HDD2.out.2.2 y hy).2)
          clear hs5 ho5 CD hst2 hsh2 htr2 hoff2 hmem HDD2 HX c0
          generalize (dropD D' x true).2 = D5 at HS5 HD5 HM5
          go_wp2_with fail
          go_roundw
          case rel => first | exact ⟨j + 1, D5, by omega, by go_num, HD5, HS5, HT5, HO5, HM5⟩ | ((repeat apply Exists.intro); exact ⟨⟨j + 1, D5, by omega, by go_num, HD5, HS5, HT5, HO5, HM5⟩, rfl⟩)
          case measure => simp [intOf]; omega
        · obtain rfl : j = m := by omega
          have hnil : ownersM D'.now = [] := List.eq_nil_iff_forall_not_mem.2 fun x hx => by
            have := hmem.out x hx
            rw [List.drop_of_length_le (by have := HL2.out; omega)] at this
            cases this
          have CT := Lib.hid (there_calls (d + 1) d D' _ (HE1.out.below htr2.out.below) hsh2.out hst2.out.calm.ok (hst2.out.fit.mono (by omega)) hst2.out.paths)
          rw [there_nil hnil] at CT
          go_wp2_with fail
          refine CT.out.mono ?_
          rintro E w6 ⟨rfl, hb6⟩
          have HT6 := Lib.hid (htr2.out.step hb6 hsh2.out.dk.lt (by have := hsh2.out.dk.lt; have := HDD.out; omega))
          have CO2 := Lib.hid (owners_calls (d + 1) d D' w6 (hsh2.out.keep hb6) hst2.out.calm.ok)
          rw [show ownersD D' = [] from hnil] at CO2
          have HB6 := Lib.hid (step_below HB1.out HT6.out.below)
          have HSL := Lib.hid (hsh2.out.keep hb6).dk.lt
          clear hb6 CT hnil hmem hst2 hoff2 hsh2 htr2
          go_wp2_with fail
          refine CO2.out.mono ?_
          rintro E w7 ⟨v7, rfl, hU7, hb7⟩
          obtain ⟨A7, c7', rfl, hc7, hm7, _⟩ := hU7.1.open
          have HB7 := Lib.hid (step_below HB1.out (HT6.out.step hb7 HSL.out (by have := HSL.out; have := HDD.out; omega)).below)
          clear hU7 hb7 CO2
          go_wp2_with fail
          go_ret
          exact ⟨rfl, HB7.out⟩
end Go.Proofs.YtpbbhjifgaeklaaGreatDoor

/- archive.file: one file of an archive: the walk. · The package that is read is short enough to be read again. -/
import Derived.Test.YtodbbfgkclkpgaaGreatDoorABK28
import Derived.IntWalk
import Derived.Test.YtodbbfgkclkpgaaGreatDoorABK20
namespace Go.Proofs.YtodbbfgkclkpgaaGreatDoor
open Go Go.RowKit

/-- at the first byte of a kind -/
structure CutG (c : UInt8) (x A B : ByteArray) (m : Bool) : Prop where
  no : m = false → VP.cutAt c x.data.toList = none
  yes : m = true → VP.cutAt c x.data.toList = some (A.data.toList, B.data.toList)
  za : A.size ≤ x.size
  zb : B.size ≤ x.size
def CutGIs (c : UInt8) (x : ByteArray) (w : World) (E : Ending) (w' : World) : Prop := ∃ (A B : ByteArray) (m : Bool), E = .returned (.tuple #[.string A, .string B, .bool m]) ∧ CutG c x A B m ∧ Below w.heap.size w w'
theorem call_cutg (c : UInt8) (x : ByteArray) (w : World) (hE : Env w) (hs : x.size ≤ 1000000) : Calls Tryz.prog 121 #[.string x, .string ⟨#[c]⟩] w (CutGIs c x w) := by
  obtain ⟨⟨m, hm⟩, _⟩ := hE
  refine (Tryz.strings_Cut x ⟨#[c]⟩ m w (by omega) hm).mono fun e w' ⟨he, n, hw⟩ => ?_
  have e1 : (⟨#[c]⟩ : ByteArray).data.toList = [c] := rfl
  rw [e1, cut_one] at he
  have hb : Below w.heap.size w w' := by rw [hw]; exact below_drewN _ _ _
  cases hc : VP.cutAt c x.data.toList with
  | none =>
    rw [hc] at he
    exact ⟨_, _, _, he, ⟨fun _ => hc, fun h => (by cases h), by rw [mk_data]; exact Nat.le_refl _, Nat.zero_le _⟩, hb⟩
  | some p =>
    obtain ⟨a, b⟩ := p
    rw [hc] at he
    have h1 := cutAt_len hc
    rw [← size_eq_length] at h1
    exact ⟨_, _, _, he, ⟨fun h => (by cases h), fun _ => hc, by rw [size_eq_length]; show a.length ≤ _; omega, by rw [size_eq_length]; show b.length ≤ _; omega⟩, hb⟩

def FileIs (s : ByteArray) (w : World) (E : Ending) (w' : World) : Prop := Below w.heap.size w w' ∧
  ((∃ f r, E = .returned (.tuple #[.agg #[.string f.n, .string f.v], .string r, .bool true]) ∧ fileP s = some (f, r)) ∨ (E = .returned (.tuple #[.agg #[.string ⟨#[]⟩, .string ⟨#[]⟩], .string ⟨#[]⟩, .bool false]) ∧ fileP s = none))
theorem file_no1 {s A B : ByteArray} (h : CutG 10 s A B false) : fileP s = none := by unfold fileP; rw [h.no rfl]
theorem file_no2 {s A B C D : ByteArray} (h : CutG 10 s A B true) (k : CutG 32 A C D false) : fileP s = none := by
  unfold fileP; rw [h.yes rfl]; dsimp only; rw [k.no rfl]
theorem file_num {s A B C D : ByteArray} (h : CutG 10 s A B true) (k : CutG 32 A C D true) : fileP s = match VP.number 6 D.data.toList with
    | none => none
    | some n => if B.data.toList[n]? = some 10 then some (⟨C, ⟨(B.data.toList.take n).toArray⟩⟩, ⟨(B.data.toList.drop (n + 1)).toArray⟩) else none := by
  unfold fileP; rw [h.yes rfl]; dsimp only; rw [k.yes rfl]; dsimp only
  rw [mk_data]
  cases VP.number 6 D.data.toList <;> rfl
theorem number_atoi {z : List UInt8} {n : Nat} (h : VP.number 6 z = some n) : Lib.atoiAll z = .ok (n : Int) := by
  obtain ⟨h1, h2⟩ := VP.number_dec h
  rw [h1]
  exact VP.atoi_dec n (by omega)
theorem file_bad {s A B C D : ByteArray} (h : CutG 10 s A B true) (k : CutG 32 A C D true) (hn : ∀ n : Nat, VP.number 6 D.data.toList = some n → B.data.toList[n]? = some 10 → False) : fileP s = none := by
  rw [file_num h k]
  cases hc : VP.number 6 D.data.toList with
  | none => rfl
  | some n => exact if_neg (hn n hc)
theorem file_good {s A B C D : ByteArray} {n : Nat} (h : CutG 10 s A B true) (k : CutG 32 A C D true) (hi : itoaS (n : Int) = D) (hlt : n < B.size) (hz : B.size ≤ 6000) (h10 : B[n].toNat = 10) : fileP s = some (⟨C, B.extract 0 n⟩, B.extract (n + 1) B.size) := by
  have hd : D.data.toList = Lib.decDigits n := by rw [← hi, ← VP.itoa_dec n]; rfl
  rw [file_num h k, hd, VP.number_decDigits n 6 (by omega) (by omega)]
  dsimp only
  have hb : B.data.toList[n]? = some 10 := by
    rw [List.getElem?_eq_getElem (by rw [← size_eq_length]; exact hlt)]
    exact congrArg some (UInt8.toNat_inj.1 (show (B.data.toList[n]'_).toNat = (10 : UInt8).toNat from h10))
  rw [if_pos hb]
  have e1 : (⟨(B.data.toList.take n).toArray⟩ : ByteArray) = B.extract 0 n := data_inj (by rw [Lib.extract_data]; simp)
  have e2 : (⟨(B.data.toList.drop (n + 1)).toArray⟩ : ByteArray) = B.extract (n + 1) B.size := data_inj (by rw [Lib.extract_to_end])
  rw [e1, e2]

set_option maxHeartbeats 4000000 in
set_option maxRecDepth 100000 in
theorem file_calls (s : ByteArray) (w : World) (hE : Env w) (hA : EnvA w) (hs : s.size ≤ 6000) : Calls Tryz.prog 122 #[.string s] w (FileIs s w) := by
  have ba0 := below_alloc w (.cells #[.string ⟨#[]⟩, .string ⟨#[]⟩] 81)
  have hz0 := heap_alloc_new w (.cells #[.string ⟨#[]⟩, .string ⟨#[]⟩] 81)
  have HE := Lib.hid hE
  have HA := Lib.hid hA
  obtain ⟨b, hb⟩ : ∃ b, w.heap.size = b := ⟨_, rfl⟩
  have HB := Lib.hid (Nat.le_of_eq hb)
  rw [hb] at hz0
  clear hE hA
  go_enter Tryz.func122, Tryz.ntmps122
  go_wp2_with fail
  (try rw [hb])
  generalize w.alloc (.cells #[.string ⟨#[]⟩, .string ⟨#[]⟩] 81) = W0 at ba0 hz0 ⊢
  clear hb
  refine (call_cutg 10 s W0 (HE.out.below ba0) (by omega)).mono ?_
  rintro E w1 ⟨A, B, ok, rfl, hc, hb1⟩
  have HC1 := Lib.hid hc
  have hza := hc.za
  have hzb := hc.zb
  have hB1 := step_below ba0 hb1
  have HZ1 := Lib.hid ((hb1.block b (Array.getElem?_eq_some_iff.1 hz0).1).trans hz0)
  clear hc hb1 hz0 ba0
  go_wp2_with fail
  refine (call_cutg 32 A w1 (HE.out.below hB1) (by omega)).mono ?_
  rintro E w2 ⟨C, D, is, rfl, hc, hb1⟩
  have HC2 := Lib.hid hc
  have hzc := hc.za
  have hzd := hc.zb
  have hB2 := step_below hB1 hb1
  have HZ2 := Lib.hid ((hb1.block b (Array.getElem?_eq_some_iff.1 HZ1.out).1).trans HZ1.out)
  clear hc hb1 HZ1 hB1
  go_wp2_with fail
  refine (atoi_calls D w2 (HA.out.below hB2) (by omega)).mono ?_
  rintro E w3 ⟨hb1, hor⟩
  have hB3 := step_below hB2 hb1
  have HZ3 := Lib.hid ((hb1.block b (Array.getElem?_eq_some_iff.1 HZ2.out).1).trans HZ2.out)
  have HB3 := Lib.hid hB3
  clear hb1 HZ2 hB2
  obtain ⟨z0, z1, fz⟩ := two_facts HZ3.out
  rcases hor with ⟨v, rfl, hv⟩ | ⟨v, t, p, rfl, hv⟩
  · have HV := Lib.hid hv
    have hvb := Lib.atoiAll_bounds hv
    clear hv
    cases ok with
    | false =>
      have HF := Lib.hid (file_no1 HC1.out)
      go_wp2_with fail
      refine bodyPost_ret (v := .tuple #[.agg #[.string ⟨#[]⟩, .string ⟨#[]⟩], .string ⟨#[]⟩, .bool false]) (by simp [results, Tryz.results122, go_sem, z0, z1]) rfl ?_
      exact ⟨(HB3.out.setCell HB.out _).setCell HB.out _, .inr ⟨rfl, HF.out⟩⟩
    | true =>
    cases is with
    | false =>
      have HF := Lib.hid (file_no2 HC1.out HC2.out)
      go_wp2_with fail
      refine bodyPost_ret (v := .tuple #[.agg #[.string ⟨#[]⟩, .string ⟨#[]⟩], .string ⟨#[]⟩, .bool false]) (by simp [results, Tryz.results122, go_sem, z0, z1]) rfl ?_
      exact ⟨(HB3.out.setCell HB.out _).setCell HB.out _, .inr ⟨rfl, HF.out⟩⟩
    | true =>
    by_cases hneg : v < 0
    · have HF := Lib.hid (file_bad HC1.out HC2.out (fun n hn _ => by
        have := number_atoi hn
        rw [HV.out] at this
        injection this with this
        omega))
      go_wp2_with fail
      refine bodyPost_ret (v := .tuple #[.agg #[.string ⟨#[]⟩, .string ⟨#[]⟩], .string ⟨#[]⟩, .bool false]) (by simp [results, Tryz.results122, go_sem, z0, z1]) rfl ?_
      exact ⟨(HB3.out.setCell HB.out _).setCell HB.out _, .inr ⟨rfl, HF.out⟩⟩
    · obtain ⟨n, rfl⟩ : ∃ n : Nat, v = (n : Int) := ⟨v.toNat, by omega⟩
      have CI := Lib.hid (itoaS_calls (n : Int) w3 (HE.out.below hB3) (by omega) (by omega))
      go_wp2_with fail
      refine CI.out.mono ?_
      rintro E w4 ⟨rfl, hb1⟩
      have hB4 := step_below hB3 hb1
      have HZ4 := Lib.hid ((hb1.block b (Array.getElem?_eq_some_iff.1 HZ3.out).1).trans HZ3.out)
      have HB3 := Lib.hid hB4
      clear hb1 HZ3 hB3 CI z0 z1 fz
      obtain ⟨z0, z1, fz⟩ := two_facts HZ4.out
      obtain ⟨I, hI⟩ : ∃ I, itoaS (n : Int) = I := ⟨_, rfl⟩
      rw [hI]
      by_cases hid : I = D
      · subst hid
        have HI := Lib.hid hI
        clear hI
        by_cases hlt : n < B.size
        · by_cases h10 : B[n].toNat = 10
          · have b1 := beqI 10 rfl h10
            have b2 := bneI 10 rfl h10
            have HF := Lib.hid (file_good HC1.out HC2.out HI.out hlt (by omega) h10)
            clear h10
            have s1 : IntKind.i64.wrap ((n : Int) + 1) = (n : Int) + 1 := IntWalk.i64_in _ (by omega)
            have s2 : (0 : Int) ≤ (n : Int) + 1 := by omega
            have s3 : ((n : Int) + 1).toNat = n + 1 := by omega
            have s4 : ((n : Int) + 1) ≤ (B.size : Int) := by omega
            go_upto_region 6 with fail
            clear b1 b2
            go_region
            all_goals
              clear s1 s2 s3 s4
              go_wp2_with fail
              refine bodyPost_ret (v := .tuple #[.agg #[.string C, .string (B.extract 0 n)], .string (B.extract (n + 1) B.size), .bool true]) (by simp [results, Tryz.results122, go_sem, z0, z1]) rfl ?_
              exact ⟨by first | exact (HB3.out.setCell HB.out _).setCell HB.out _ | exact (HB3.out.drew.setCell HB.out _).setCell HB.out _ | exact ((HB3.out.setCell HB.out _).setCell HB.out _).drew, .inl ⟨_, _, rfl, HF.out⟩⟩
          · have b1 := beqI_ne 10 rfl h10
            have b2 := bneI_ne 10 rfl h10
            have HF := Lib.hid (file_bad HC1.out HC2.out (fun m hm hb => by
              have h1 := number_atoi hm
              rw [HV.out] at h1
              injection h1 with h1
              obtain rfl : m = n := by omega
              rw [List.getElem?_eq_getElem (by rw [← size_eq_length]; exact hlt)] at hb
              exact h10 (show (B.data.toList[m]'_).toNat = 10 by rw [Option.some.inj hb]; rfl)))
            clear h10
            go_wp2_with fail
            refine bodyPost_ret (v := .tuple #[.agg #[.string ⟨#[]⟩, .string ⟨#[]⟩], .string ⟨#[]⟩, .bool false]) (by simp [results, Tryz.results122, go_sem, z0, z1]) rfl ?_
            exact ⟨(HB3.out.setCell HB.out _).setCell HB.out _, .inr ⟨rfl, HF.out⟩⟩
        · have HF := Lib.hid (file_bad HC1.out HC2.out (fun m hm hb => by
            have h1 := number_atoi hm
            rw [HV.out] at h1
            injection h1 with h1
            obtain rfl : m = n := by omega
            rw [List.getElem?_eq_none (by rw [← size_eq_length]; omega)] at hb
            cases hb))
          go_wp2_with fail
          refine bodyPost_ret (v := .tuple #[.agg #[.string ⟨#[]⟩, .string ⟨#[]⟩], .string ⟨#[]⟩, .bool false]) (by simp [results, Tryz.results122, go_sem, z0, z1]) rfl ?_
          exact ⟨(HB3.out.setCell HB.out _).setCell HB.out _, .inr ⟨rfl, HF.out⟩⟩
      · have q1 : (I.toList == D.toList) = false := by rw [Lib.toList_data, Lib.toList_data, beq_eq_false_iff_ne]; exact fun h => hid (data_inj h)
        have q2 : (I.toList != D.toList) = true := by rw [bne, q1]; rfl
        have HF := Lib.hid (file_bad HC1.out HC2.out (fun m hm _ => by
          have h1 := number_atoi hm
          rw [HV.out] at h1
          injection h1 with h1
          obtain rfl : m = n := by omega
          refine hid (data_inj ?_)
          rw [← hI, (VP.number_dec hm).1, ← VP.itoa_dec m]; rfl))
        clear hid hI
        go_wp2_with fail
        refine bodyPost_ret (v := .tuple #[.agg #[.string ⟨#[]⟩, .string ⟨#[]⟩], .string ⟨#[]⟩, .bool false]) (by simp [results, Tryz.results122, go_sem, z0, z1]) rfl ?_
        exact ⟨(HB3.out.setCell HB.out _).setCell HB.out _, .inr ⟨rfl, HF.out⟩⟩
  · have HF0 := Lib.hid (fun (h1 : CutG 10 s A B true) (h2 : CutG 32 A C D true) => file_bad h1 h2 (fun n hn _ => hv _ (number_atoi hn)))
    clear hv
    cases ok with
    | false =>
      have HF := Lib.hid (file_no1 HC1.out)
      go_wp2_with fail
      refine bodyPost_ret (v := .tuple #[.agg #[.string ⟨#[]⟩, .string ⟨#[]⟩], .string ⟨#[]⟩, .bool false]) (by simp [results, Tryz.results122, go_sem, z0, z1]) rfl ?_
      exact ⟨(HB3.out.setCell HB.out _).setCell HB.out _, .inr ⟨rfl, HF.out⟩⟩
    | true =>
    cases is with
    | false =>
      have HF := Lib.hid (file_no2 HC1.out HC2.out)
      go_wp2_with fail
      refine bodyPost_ret (v := .tuple #[.agg #[.string ⟨#[]⟩, .string ⟨#[]⟩], .string ⟨#[]⟩, .bool false]) (by simp [results, Tryz.results122, go_sem, z0, z1]) rfl ?_
      exact ⟨(HB3.out.setCell HB.out _).setCell HB.out _, .inr ⟨rfl, HF.out⟩⟩
    | true =>
    have HF := Lib.hid (HF0.out HC1.out HC2.out)
    go_wp2_with fail
    refine bodyPost_ret (v := .tuple #[.agg #[.string ⟨#[]⟩, .string ⟨#[]⟩], .string ⟨#[]⟩, .bool false]) (by simp [results, Tryz.results122, go_sem, z0, z1]) rfl ?_
    exact ⟨(HB3.out.setCell HB.out _).setCell HB.out _, .inr ⟨rfl, HF.out⟩⟩
end Go.Proofs.YtodbbfgkclkpgaaGreatDoor

namespace Go.Proofs.YtodbbfgkclkpgaaGreatDoor
open Go Go.RowKit

theorem tm_tvOf (t : VP.Tm) : (tvOf t).tm = t := by
  obtain ⟨n, op, e, u, r⟩ := t
  rfl
theorem tmL_tv (M : List (List VP.Tm)) : tmL (M.map fun x => x.map tvOf) = M := by
  unfold tmL
  rw [List.map_map]
  conv => rhs; rw [← List.map_id M]
  refine List.map_congr_left fun x _ => ?_
  show (x.map tvOf).map Tv.tm = x
  rw [List.map_map]
  conv => rhs; rw [← List.map_id x]
  exact List.map_congr_left fun t _ => tm_tvOf t
theorem readT_fit {s : ByteArray} {L : List (List Tv)} (h : readT s = .ok L) : (∀ x ∈ L, ∀ t ∈ x, t.small) ∧ ∀ x ∈ L, x.length ≤ 1000 := by
  unfold readT at h
  cases hM : VP.termsP s.data.toList with
  | error e => rw [hM] at h; cases h
  | ok M =>
    rw [hM] at h
    injection h with h
    have hA := VP.termsP_asked hM
    rw [← tmL_tv M, h] at hA
    have ha := (VP.askedP_iff _).2 hA
    obtain ⟨_, hx⟩ := asked_sizes ha
    refine ⟨fun x hxm t ht => small_right rfl ((hx x hxm).2 t ht), fun x hxm => ?_⟩
    have := (hx x hxm).1
    omega
theorem readS_fit {s : ByteArray} {ts : List Tv} (h : readS s = .ok ts) : (∀ t ∈ ts, t.small) ∧ ts.length ≤ 1000 := by
  unfold readS VP.listP at h
  cases hM : VP.termsP s.data.toList with
  | error e => rw [hM] at h; cases h
  | ok M =>
    rw [hM] at h
    dsimp only at h
    by_cases hall : (M.all fun x => decide (x.length ≤ 1)) = true
    · rw [if_pos hall] at h
      injection h with h
      have hA := VP.termsP_asked hM
      have hR := readL (L := M.map fun x => x.map tvOf) (by rw [tmL_tv]; exact hM)
      have ha := (VP.askedP_iff _).2 (show VP.AskedP (tmL (M.map fun x => x.map tvOf)) by rw [tmL_tv]; exact hA)
      obtain ⟨_, hx⟩ := asked_sizes ha
      have e : ts = (M.map fun x => x.map tvOf).flatten := by rw [← h, List.map_flatten]
      subst e
      refine ⟨fun t ht => ?_, by have := hR.sum; omega⟩
      obtain ⟨x, hxm, htx⟩ := List.mem_flatten.1 ht
      exact small_right rfl ((hx x hxm).2 t htx)
    · rw [if_neg hall] at h
      cases h
theorem rdTo_succ {fs : List Fv} {p q : Pv} {k : Nat} (h : rdTo fs p (k + 1) = .ok q) : ∃ q', rdTo fs p k = .ok q' ∧ rdK fs q' k = .ok q := by
  cases hk : rdTo fs p k with
  | error e =>
    have : rdTo fs p (k + 1) = .error e := rdTo_error hk (k + 1) (by omega)
    rw [this] at h; cases h
  | ok q' =>
    refine ⟨q', rfl, ?_⟩
    unfold rdTo at h
    rw [hk] at h
    exact h
theorem map_ok {α : Type} {x : Except Int α} {f : α → Pv} {q : Pv} (h : x.map f = .ok q) : ∃ L, x = .ok L ∧ q = f L := by
  cases x with
  | error e => cases h
  | ok L => exact ⟨L, rfl, by injection h with h; exact h.symm⟩
/-- what was read, all in all -/
theorem six_read {fs : List Fv} {p q : Pv} (h : rdTo fs p 6 = .ok q) : ∃ d a g b r o, readT (sayF fs nDepends) = .ok d ∧ readT (sayF fs nPre) = .ok a ∧ readS (sayF fs nConflicts) = .ok g ∧ readS (sayF fs nBreaks) = .ok b ∧ readS (sayF fs nReplaces) = .ok r ∧ readS (sayF fs nProvides) = .ok o ∧
    q = { p with dep := d, ahead := a, ag := g, br := b, re := r, pr := o } := by
  obtain ⟨q5, h5, k5⟩ := rdTo_succ h
  obtain ⟨q4, h4, k4⟩ := rdTo_succ h5
  obtain ⟨q3, h3, k3⟩ := rdTo_succ h4
  obtain ⟨q2, h2, k2⟩ := rdTo_succ h3
  obtain ⟨q1, h1, k1⟩ := rdTo_succ h2
  obtain ⟨q0, h0, k0⟩ := rdTo_succ h1
  have e0 : q0 = p := by injection h0 with h0; exact h0.symm
  obtain ⟨d, hd, rfl⟩ := map_ok (show (readT (sayF fs nDepends)).map _ = .ok q1 from k0)
  obtain ⟨a, ha, rfl⟩ := map_ok (show (readT (sayF fs nPre)).map _ = .ok q2 from k1)
  obtain ⟨g, hg, rfl⟩ := map_ok (show (readS (sayF fs nConflicts)).map _ = .ok q3 from k2)
  obtain ⟨b, hb, rfl⟩ := map_ok (show (readS (sayF fs nBreaks)).map _ = .ok q4 from k3)
  obtain ⟨r, hr, rfl⟩ := map_ok (show (readS (sayF fs nReplaces)).map _ = .ok q5 from k4)
  obtain ⟨o, ho, rfl⟩ := map_ok (show (readS (sayF fs nProvides)).map _ = .ok q from k5)
  subst e0
  exact ⟨d, a, g, b, r, o, hd, ha, hg, hb, hr, ho, rfl⟩
theorem linesV_size {fs : List Fv} {n : ByteArray} (h : ∀ f ∈ fs, f.v.size ≤ 6000) : ∀ s ∈ linesV fs n, s.size ≤ 1000000 := by
  intro s hs
  unfold linesV at hs
  have hz : ((getB fs n).getD ⟨#[]⟩).size ≤ 6000 := getB_size h
  cases hg : getB fs n with
  | none => rw [hg] at hs; cases hs
  | some v =>
    rw [hg] at hs hz
    have h1 := lineB_size (List.mem_of_mem_tail hs)
    have h2 : v.size ≤ 6000 := hz
    omega
theorem checkP_rt {e e' : Int} {u r u' r' : List UInt8} (h : VP.checkP e u r = some (e', u', r')) : VP.rightP e' u' r' = true := by
  unfold VP.checkP at h
  by_cases hr : VP.rightP e u r = true
  · rw [if_pos hr] at h
    injection h with h
    injection h with h1 h
    injection h with h2 h3
    subst h1 h2 h3
    exact hr
  · rw [if_neg hr] at h; cases h
theorem restP_rt {e e' : Int} {l u' r' : List UInt8} (h : VP.restP e l = some (e', u', r')) : VP.rightP e' u' r' = true := by
  unfold VP.restP at h
  cases hc : VP.cutEnd 45 l with
  | none => rw [hc] at h; exact checkP_rt h
  | some p =>
    obtain ⟨u, r⟩ := p
    rw [hc] at h
    dsimp only at h
    by_cases hr : r = []
    · rw [if_pos hr] at h; cases h
    · rw [if_neg hr] at h; exact checkP_rt h
theorem parseP_rt {e' : Int} {l u' r' : List UInt8} (h : VP.parseP l = some (e', u', r')) : VP.rightP e' u' r' = true := by
  unfold VP.parseP at h
  by_cases hl : 40 < l.length
  · rw [if_pos hl] at h; cases h
  · rw [if_neg hl] at h
    cases hc : VP.cutAt 58 l with
    | none => rw [hc] at h; exact restP_rt h
    | some p =>
      obtain ⟨a, b⟩ := p
      rw [hc] at h
      dsimp only at h
      cases hn : VP.number 9 a with
      | none => rw [hn] at h; cases h
      | some n => rw [hn] at h; exact restP_rt h
theorem rightP_len {e : Int} {u r : List UInt8} (h : VP.rightP e u r = true) : (VP.printP e u r).length ≤ 40 ∧ 0 ≤ e ∧ e < 1000000000 := by
  unfold VP.rightP at h
  simp only [Bool.and_eq_true, decide_eq_true_eq] at h
  exact ⟨h.2, h.1.1.1.1.1.1, h.1.1.1.1.1.2⟩
theorem rd_fit {fs : List Fv} {e : Int} {u r : ByteArray} {q : Pv} (hs : ∀ f ∈ fs, f.v.size ≤ 6000) (hv : VP.parseP (sayF fs nVersion).data.toList = some (e, u.data.toList, r.data.toList)) (h : rdTo fs (rdP1 fs e u r) 6 = .ok q) : (rdEnd fs q).Fit := by
  obtain ⟨d, a, g, b, rr, o, hd, ha, hg, hb, hr, ho, rfl⟩ := six_read h
  have hn : (sayF fs nPackage).size ≤ 6000 := getB_size hs
  have hl : (VP.printP e u.data.toList r.data.toList).length ≤ 40 := by
    exact (rightP_len (parseP_rt hv)).1
  have hur : u.size ≤ 40 ∧ r.size ≤ 40 := by
    unfold VP.printP at hl
    rw [List.length_append, List.length_append] at hl
    constructor
    · rw [size_eq_length]; omega
    · by_cases hr0 : r.data.toList = []
      · rw [size_eq_length, hr0]; simp
      · rw [if_neg hr0, List.length_cons] at hl
        rw [size_eq_length]; omega
  exact ⟨by show (sayF fs nPackage).size ≤ 1000000; omega, by show u.size ≤ 1000; omega, by show r.size ≤ 1000; omega, (readT_fit hd).1, (readT_fit hd).2, (readT_fit ha).1, (readT_fit ha).2, (readS_fit hg).1, (readS_fit hg).2, (readS_fit hb).1, (readS_fit hb).2, (readS_fit hr).1, (readS_fit hr).2, (readS_fit ho).1, (readS_fit ho).2, linesV_size hs, linesV_size hs⟩
end Go.Proofs.YtodbbfgkclkpgaaGreatDoor

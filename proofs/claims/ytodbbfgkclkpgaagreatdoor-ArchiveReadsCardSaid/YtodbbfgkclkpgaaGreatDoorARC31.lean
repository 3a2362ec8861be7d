/- The reference's ReadFields: small laws. · The reference's ReadFields: no version; the first list is none. · The reference's ReadFields: list 2 is none. -/
import Derived.Test.YtodbbfgkclkpgaaGreatDoorARC29
import Derived.Test.YtodbbfgkclkpgaaGreatDoorARC20
import Derived.Test.YtodbbfgkclkpgaaGreatDoorARC8
namespace Go.Proofs.YtodbbfgkclkpgaaGreatDoor
open Go Go.RowKit

theorem tail_dt (a : ByteArray) : (a.extract 1 a.size).data.toList = a.data.toList.tail := by
  rw [← List.drop_one]
  exact Lib.extract_to_end a 1
/-- the package, when k of the two lists of lines are read -/
def lnK (fs : List Fv) (q : Pv) : Nat → Pv
  | 0 => q
  | 1 => { q with se := linesV fs nConffiles }
  | _ => rdEnd fs q
def lnOk (fs : List Fv) : Nat → Bool
  | 0 => true
  | 1 => linesOk fs nConffiles
  | _ => linesOk fs nConffiles && linesOk fs nTriggers
theorem lnK_skip0 {fs : List Fv} {q : Pv} {e : Int} (h : q.se = [] ∧ q.li = [] ∧ q.e = e) (hl : linesV fs nConffiles = []) : lnK fs q 1 = lnK fs q 0 := by
  obtain ⟨h1, _⟩ := h
  show { q with se := linesV fs nConffiles } = q
  rw [hl, ← h1]
theorem lnK_skip1 {fs : List Fv} {q : Pv} {e : Int} (h : q.se = [] ∧ q.li = [] ∧ q.e = e) (hl : linesV fs nTriggers = []) : lnK fs q 2 = lnK fs q 1 := by
  obtain ⟨_, h1, _⟩ := h
  show { q with se := linesV fs nConffiles, li := linesV fs nTriggers } = { q with se := linesV fs nConffiles }
  rw [hl, ← h1]
theorem lnOk_succ0 {fs : List Fv} (_ : lnOk fs 0 = true) (h : linesOk fs nConffiles = true) : lnOk fs 1 = true := h
theorem lnOk_succ1 {fs : List Fv} (h0 : lnOk fs 1 = true) (h : linesOk fs nTriggers = true) : lnOk fs 2 = true := by
  show (linesOk fs nConffiles && linesOk fs nTriggers) = true
  rw [show linesOk fs nConffiles = true from h0, h]; rfl
theorem fromOther (W : World) {b g i : Nat} {v : Value} (h : b ≠ g) : (W.setCell ⟨b, i, none⟩ v).heap[g]? = W.heap[g]? := by
  unfold World.setCell
  rw [Array.getElem?_modify, if_neg h]
theorem strs_all {W : World} {b n : Nat} {ss : List ByteArray} (hn : n = ss.length) (hm : n ≤ 9223372036854775807) (h : ∀ (i : Nat) (x : ByteArray), ss[i]? = some x → W.cell? ⟨b, i, none⟩ = some (.string x)) : StrsAt W (.slice (some ⟨b, 0, none⟩) n n) ss := by
  subst hn
  refine ⟨some ⟨b, 0, none⟩, ss.length, rfl, Nat.le_refl _, hm, fun _ => ⟨b, 0, rfl, fun j u hj => ?_⟩⟩
  rw [flat_strs, List.getElem?_map, Option.map_eq_some_iff] at hj
  obtain ⟨x, hx, rfl⟩ := hj
  rw [Nat.zero_add]
  exact h j x hx
theorem pieces_few {v : ByteArray} (hz : v.size ≤ 6000) : (piecesB 10 (v.extract 1 v.size)).length ≤ 9223372036854775807 := by
  have h2 := VP.pieces_count 10 (v.extract 1 v.size).data.toList
  have h3 : (v.extract 1 v.size).data.toList.length ≤ 6000 := by simp; omega
  rw [pieces_head]
  omega
theorem zero_box {W : World} {b : Nat} (h : PkBlk W b zeros) : PackBox W b pack0 (.slice none 0 0) (.slice none 0 0) (.slice none 0 0) (.slice none 0 0) (.slice none 0 0) (.slice none 0 0) (.slice none 0 0) (.slice none 0 0) (.slice none 0 0) :=
  ⟨h.cell rfl, h.cell rfl, h.cell rfl, h.cell rfl, h.cell rfl, h.cell rfl, h.cell rfl, h.cell rfl, h.cell rfl, h.cell rfl, h.cell rfl, h.cell rfl, h.cell rfl⟩
theorem rtermsR_ok {s : ByteArray} {L : List (List Tv)} (h : readT s = .ok L) (w : World) (hE : Env w) (hs : s.size ≤ 200000) : Calls Tryz.prog 92 #[.string s] w fun E w' => ∃ A n c, E = .returned (.tuple #[.slice A n c, .int .i64 0]) ∧ AskedIn w.heap.size w' (.slice A n c) L ∧ Below w.heap.size w w' :=
  (refTermsF_calls s w hE hs).mono fun E w' ⟨hb, h1⟩ => by
    rcases h1 with ⟨L', v, he, hok, hA, _, hF⟩ | ⟨e, _, herr, _⟩
    · rw [readT_ok hok] at h
      injection h with h
      subst h
      obtain ⟨A, c, hv, _⟩ := id hA
      subst hv
      exact ⟨A, _, c, he, ⟨hA, hF⟩, hb⟩
    · rw [readT_no herr] at h; cases h
theorem rtermsR_no {s : ByteArray} {e : Int} (h : readT s = .error e) (w : World) (hE : Env w) (hs : s.size ≤ 200000) : Calls Tryz.prog 92 #[.string s] w fun E w' => E = .returned (.tuple #[.slice none 0 0, .int .i64 e]) ∧ (e = 3 ∨ e = 4) ∧ Below w.heap.size w w' :=
  (refTermsF_calls s w hE hs).mono fun E w' ⟨hb, h1⟩ => by
    rcases h1 with ⟨L', v, he, hok, hA, _, hF⟩ | ⟨e', he, herr, h34⟩
    · rw [readT_ok hok] at h; cases h
    · rw [readT_no herr] at h
      injection h with h
      subst h
      exact ⟨he, h34, hb⟩
theorem rlistR_ok {s : ByteArray} {ts : List Tv} (h : readS s = .ok ts) (w : World) (hE : Env w) (hs : s.size ≤ 200000) : Calls Tryz.prog 93 #[.string s] w fun E w' => ∃ A n c, E = .returned (.tuple #[.slice A n c, .int .i64 0]) ∧ TermsFrom w.heap.size w' (.slice A n c) ts ∧ Below w.heap.size w w' :=
  (refListF_calls s w hE hs).mono fun E w' ⟨hb, h1⟩ => by
    rcases h1 with ⟨L', v, he, hok, hA, hF⟩ | ⟨e, _, herr, _⟩
    · rw [readS_ok hok] at h
      injection h with h
      subst h
      obtain ⟨A, c, hv, _⟩ := id hA
      subst hv
      exact ⟨A, _, c, he, ⟨hA, hF⟩, hb⟩
    · rw [readS_no herr] at h; cases h
theorem rlistR_no {s : ByteArray} {e : Int} (h : readS s = .error e) (w : World) (hE : Env w) (hs : s.size ≤ 200000) : Calls Tryz.prog 93 #[.string s] w fun E w' => E = .returned (.tuple #[.slice none 0 0, .int .i64 e]) ∧ (e = 3 ∨ e = 4) ∧ Below w.heap.size w w' :=
  (refListF_calls s w hE hs).mono fun E w' ⟨hb, h1⟩ => by
    rcases h1 with ⟨L', v, he, hok, hA, hF⟩ | ⟨e', he, herr, h34⟩
    · rw [readS_ok hok] at h; cases h
    · rw [readS_no herr] at h
      injection h with h
      subst h
      exact ⟨he, h34, hb⟩
end Go.Proofs.YtodbbfgkclkpgaaGreatDoor

namespace Go.Proofs.YtodbbfgkclkpgaaGreatDoor
open Go Go.RowKit

set_option maxHeartbeats 8000000 in
set_option maxRecDepth 100000 in
theorem refRead_v (lv : Value) (fs : List Fv) (w : World) (hE : Env w) (h : FieldsAt w lv fs) (hs : ∀ f ∈ fs, f.n.size ≤ 6000 ∧ f.v.size ≤ 6000) (hvn : VP.parseP (sayF fs nVersion).data.toList = none) (hm : ((getB fs nPackage).isSome && (getB fs nVersion).isSome) = true) : Calls Tryz.prog 25 #[lv] w (RefReadIs fs w) := by
  have LOW := Lib.hid (get_low fs)
  have CG := Lib.hid (fun (n : ByteArray) (hn : n.size ≤ 1000) (W : World) (hb : Below w.heap.size w W) => (show Calls Tryz.prog 89 #[lv, .string n] W (fun E W' => E = .returned (.tuple #[.string (sayF fs n), .bool (getB fs n).isSome]) ∧ Below W.heap.size W W') from refGet_calls lv fs n W (h.below hb) (fun f hf => by have := (hs f hf).1; omega) (by omega)))
  have CR := Lib.hid (fun (n : ByteArray) (hn : n.size ≤ 1000) (b : Nat) (W : World) (hb : Below w.heap.size w W) (hl : W.cell? ⟨b, 0, none⟩ = some lv) => rget_calls n fs lv b W hl (h.below hb) (fun f hf => (hs f hf).1) hn)
  have HSZ := Lib.hid (fun (n : ByteArray) => (show (sayF fs n).size ≤ 6000 from getB_size (fun f hf => (hs f hf).2)))
  have HV1 := Lib.hid (fun f hf => (hs f hf).2)
  obtain ⟨A0, n0, k0, rfl⟩ : ∃ A n c, lv = .slice A n c := by obtain ⟨A, c, hv, _⟩ := h; exact ⟨A, _, c, hv⟩
  have HM := Lib.hid hm
  obtain ⟨hm1, hm2⟩ := Bool.and_eq_true_iff.1 hm
  have C1 := Lib.hid (CG.out lPackage (by decide))
  have C2 := Lib.hid (CG.out lVersion (by decide))
  rw [show sayF fs lPackage = sayF fs nPackage by unfold sayF; rw [LOW.out.1], LOW.out.1, hm1] at C1
  rw [show sayF fs lVersion = sayF fs nVersion by unfold sayF; rw [LOW.out.2.1], LOW.out.2.1, hm2] at C2
  have HE := Lib.hid hE
  have R0 := RfSt.start w (.slice A0 n0 k0)
  have hB0 := R0.w
  have l0 := R0.l
  clear hm hm1 hm2 h hs hE
  go_enter Tryz.func25, Tryz.ntmps25
  go_wp2_with fail
  refine (C1.out _ hB0).mono ?_
  rintro E w1 ⟨rfl, hb⟩
  have R1 := R0.below hb
  have hB1 := R1.w
  clear hb hB0 R0 l0
  have l1 := R1.l
  go_wp2_with fail
  refine (C2.out _ hB1).mono ?_
  rintro E w2 ⟨rfl, hb⟩
  have R2 := R1.below hb
  clear C1 C2 hb hB1 R1 l1
  obtain ⟨rb, hrb⟩ : ∃ rb, w.heap.size = rb := ⟨_, rfl⟩
  rw [hrb] at R2
  have fk := R2.k.frozen
  have kk := R2.k.cell (i := 0) rfl
  have R3 := Lib.hid (R2.put (i := 0) (.string (sayF fs nPackage)) (q' := { pack0 with n := sayF fs nPackage }) (u1 := (.slice none 0 0)) (u2 := (.slice none 0 0)) (u3 := (.slice none 0 0)) (u4 := (.slice none 0 0)) (u5 := (.slice none 0 0)) (u6 := (.slice none 0 0)) (u7 := (.slice none 0 0)) (u8 := (.slice none 0 0)) rfl ⟨R2.v.d, R2.v.a, R2.v.g, R2.v.b, R2.v.r, R2.v.p, R2.v.s, R2.v.l, rfl⟩)
  clear R2
  go_wp2_with fail
  (try rw [hrb])
  clear fk kk hrb
  have CV := Lib.hid (refParse_calls (sayF fs nVersion) _ (HE.out.below R3.out.w))
  refine CV.out.mono ?_
  rintro E w3 ⟨hb, hor⟩
  have R4 := R3.out.below hb
  clear R3 hb CV
  have fk := R4.k.frozen
  have k1 := R4.k.cell (i := 1) rfl
  have k2 := R4.k.cell (i := 2) rfl
  have k3 := R4.k.cell (i := 3) rfl
  rcases hor with ⟨hn, rfl⟩ | ⟨e, u, r, hp, rfl⟩
  · have HR := Lib.hid (rd_error (readP_version HM.out hn))
    have hle : w.heap.size ≤ rb + 3 := by have := R4.low; omega
    have z := R4
    have fz := z.z.frozen
    have z0 := (z.z.cell (i := 0) rfl); have z1 := (z.z.cell (i := 1) rfl); have z2 := (z.z.cell (i := 2) rfl); have z3 := (z.z.cell (i := 3) rfl); have z4 := (z.z.cell (i := 4) rfl); have z5 := (z.z.cell (i := 5) rfl); have z6 := (z.z.cell (i := 6) rfl); have z7 := (z.z.cell (i := 7) rfl); have z8 := (z.z.cell (i := 8) rfl); have z9 := (z.z.cell (i := 9) rfl); have z10 := (z.z.cell (i := 10) rfl); have z11 := (z.z.cell (i := 11) rfl); have z12 := (z.z.cell (i := 12) rfl)
    obtain ⟨o0, o1, o2, o3, o4, o5, o6, o7, o8, o9, o10, o11, o12⟩ := (zero_box z.n)
    have hlow : w.heap.size ≤ rb + 1 := by have := z.low; omega
    have HBE := Lib.hid (((R4.w.setCell (p := ⟨rb + 3, 1, none⟩) hle (.int .i64 0)).setCell (p := ⟨rb + 3, 2, none⟩) hle (.string ⟨#[]⟩)).setCell (p := ⟨rb + 3, 3, none⟩) hle (.string ⟨#[]⟩))
    clear R4 hn z
    unfold noVersionR
    go_wp2_with fail
    refine bodyPost_ret (v := .tuple #[.agg zeros, .int .i64 3]) (by simp [results, zeros, pack0, Tryz.results25, go_sem, z0, z1, z2, z3, z4, z5, z6, z7, z8, z9, z10, z11, z12]) rfl ?_
    exact refReadIs_err HR.out (below_set13 HBE.out hlow _ _ _ _ _ _ _ _ _ _ _ _ _)
  · rw [hvn] at hp; cases hp

set_option maxHeartbeats 8000000 in
set_option maxRecDepth 100000 in
theorem refRead_e0 (lv : Value) (fs : List Fv) (w : World) (hE : Env w) (h : FieldsAt w lv fs) (hs : ∀ f ∈ fs, f.n.size ≤ 6000 ∧ f.v.size ≤ 6000) (hvs : (VP.parseP (sayF fs nVersion).data.toList).isSome = true) (e0 : Int) (hx0 : readT (sayF fs nDepends) = .error e0) (hm : ((getB fs nPackage).isSome && (getB fs nVersion).isSome) = true) : Calls Tryz.prog 25 #[lv] w (RefReadIs fs w) := by
  have LOW := Lib.hid (get_low fs)
  have CG := Lib.hid (fun (n : ByteArray) (hn : n.size ≤ 1000) (W : World) (hb : Below w.heap.size w W) => (show Calls Tryz.prog 89 #[lv, .string n] W (fun E W' => E = .returned (.tuple #[.string (sayF fs n), .bool (getB fs n).isSome]) ∧ Below W.heap.size W W') from refGet_calls lv fs n W (h.below hb) (fun f hf => by have := (hs f hf).1; omega) (by omega)))
  have CR := Lib.hid (fun (n : ByteArray) (hn : n.size ≤ 1000) (b : Nat) (W : World) (hb : Below w.heap.size w W) (hl : W.cell? ⟨b, 0, none⟩ = some lv) => rget_calls n fs lv b W hl (h.below hb) (fun f hf => (hs f hf).1) hn)
  have HSZ := Lib.hid (fun (n : ByteArray) => (show (sayF fs n).size ≤ 6000 from getB_size (fun f hf => (hs f hf).2)))
  have HV1 := Lib.hid (fun f hf => (hs f hf).2)
  obtain ⟨A0, n0, k0, rfl⟩ : ∃ A n c, lv = .slice A n c := by obtain ⟨A, c, hv, _⟩ := h; exact ⟨A, _, c, hv⟩
  have HM := Lib.hid hm
  obtain ⟨hm1, hm2⟩ := Bool.and_eq_true_iff.1 hm
  have C1 := Lib.hid (CG.out lPackage (by decide))
  have C2 := Lib.hid (CG.out lVersion (by decide))
  rw [show sayF fs lPackage = sayF fs nPackage by unfold sayF; rw [LOW.out.1], LOW.out.1, hm1] at C1
  rw [show sayF fs lVersion = sayF fs nVersion by unfold sayF; rw [LOW.out.2.1], LOW.out.2.1, hm2] at C2
  have HE := Lib.hid hE
  have R0 := RfSt.start w (.slice A0 n0 k0)
  have hB0 := R0.w
  have l0 := R0.l
  clear hm hm1 hm2 h hs hE
  go_enter Tryz.func25, Tryz.ntmps25
  go_wp2_with fail
  refine (C1.out _ hB0).mono ?_
  rintro E w1 ⟨rfl, hb⟩
  have R1 := R0.below hb
  have hB1 := R1.w
  clear hb hB0 R0 l0
  have l1 := R1.l
  go_wp2_with fail
  refine (C2.out _ hB1).mono ?_
  rintro E w2 ⟨rfl, hb⟩
  have R2 := R1.below hb
  clear C1 C2 hb hB1 R1 l1
  obtain ⟨rb, hrb⟩ : ∃ rb, w.heap.size = rb := ⟨_, rfl⟩
  rw [hrb] at R2
  have fk := R2.k.frozen
  have kk := R2.k.cell (i := 0) rfl
  have R3 := Lib.hid (R2.put (i := 0) (.string (sayF fs nPackage)) (q' := { pack0 with n := sayF fs nPackage }) (u1 := (.slice none 0 0)) (u2 := (.slice none 0 0)) (u3 := (.slice none 0 0)) (u4 := (.slice none 0 0)) (u5 := (.slice none 0 0)) (u6 := (.slice none 0 0)) (u7 := (.slice none 0 0)) (u8 := (.slice none 0 0)) rfl ⟨R2.v.d, R2.v.a, R2.v.g, R2.v.b, R2.v.r, R2.v.p, R2.v.s, R2.v.l, rfl⟩)
  clear R2
  go_wp2_with fail
  (try rw [hrb])
  clear fk kk hrb
  have CV := Lib.hid (refParse_calls (sayF fs nVersion) _ (HE.out.below R3.out.w))
  refine CV.out.mono ?_
  rintro E w3 ⟨hb, hor⟩
  have R4 := R3.out.below hb
  clear R3 hb CV
  have fk := R4.k.frozen
  have k1 := R4.k.cell (i := 1) rfl
  have k2 := R4.k.cell (i := 2) rfl
  have k3 := R4.k.cell (i := 3) rfl
  rcases hor with ⟨hn, rfl⟩ | ⟨e, u, r, hp, rfl⟩
  · rw [hn] at hvs; cases hvs
  · have HP := Lib.hid (readP_six HM.out hp)
    have HFIT := Lib.hid (fun (q : Pv) (hq : rdTo fs (rdP1 fs e u r) 6 = .ok q) => rd_fit HV1.out hp hq)
    have HEE := Lib.hid (rightP_len (parseP_rt hp)).2
    have Ra := R4.put (i := 1) (.int .i64 e) (q' := { pack0 with n := sayF fs nPackage, e := e }) (u1 := (.slice none 0 0)) (u2 := (.slice none 0 0)) (u3 := (.slice none 0 0)) (u4 := (.slice none 0 0)) (u5 := (.slice none 0 0)) (u6 := (.slice none 0 0)) (u7 := (.slice none 0 0)) (u8 := (.slice none 0 0)) rfl ⟨R4.v.d, R4.v.a, R4.v.g, R4.v.b, R4.v.r, R4.v.p, R4.v.s, R4.v.l, rfl⟩
    have Rb := Ra.put (i := 2) (.string u) (q' := { pack0 with n := sayF fs nPackage, e := e, u := u }) (u1 := (.slice none 0 0)) (u2 := (.slice none 0 0)) (u3 := (.slice none 0 0)) (u4 := (.slice none 0 0)) (u5 := (.slice none 0 0)) (u6 := (.slice none 0 0)) (u7 := (.slice none 0 0)) (u8 := (.slice none 0 0)) rfl ⟨Ra.v.d, Ra.v.a, Ra.v.g, Ra.v.b, Ra.v.r, Ra.v.p, Ra.v.s, Ra.v.l, rfl⟩
    have Rc := Rb.put (i := 3) (.string r) (q' := rdP1 fs e u r) (u1 := (.slice none 0 0)) (u2 := (.slice none 0 0)) (u3 := (.slice none 0 0)) (u4 := (.slice none 0 0)) (u5 := (.slice none 0 0)) (u6 := (.slice none 0 0)) (u7 := (.slice none 0 0)) (u8 := (.slice none 0 0)) rfl ⟨Rb.v.d, Rb.v.a, Rb.v.g, Rb.v.b, Rb.v.r, Rb.v.p, Rb.v.s, Rb.v.l, rfl⟩
    obtain ⟨P1, hP1⟩ : ∃ P1, rdP1 fs e u r = P1 := ⟨_, rfl⟩
    rw [hP1] at Rc HP HFIT
    have HPE := Lib.hid (show P1.e = e by rw [← hP1]; rfl)
    have HPS := Lib.hid hP1.symm
    have Q0 := Lib.hid (show rdTo fs P1 0 = .ok P1 from rfl)
    have lr := Rc.l
    clear R4 Ra Rb hp hP1
    go_wp2_with fail
    clear fk k1 k2 k3
    refine (CR.out lDepends (by decide) rb _ Rc.w Rc.l).mono ?_
    rintro E a0 ⟨rfl, hb⟩
    rw [show sayF fs lDepends = sayF fs nDepends by unfold sayF; rw [LOW.out.2.2.1]]
    have T0 := Rc.below hb
    have hlt0 := T0.k.lt
    have hrd0 := Lib.hid (show rdTo fs P1 1 = rdK fs P1 0 by show (match rdTo fs P1 0 with | .error e => Except.error e | .ok q => rdK fs q 0) = _; rw [Q0.out])
    clear Rc hb lr
    have HRE := Lib.hid (show rdTo fs P1 6 = .error e0 from rdTo_error (k := 1) (by rw [hrd0.out]; show (readT (sayF fs nDepends)).map _ = _; rw [hx0]; rfl) 6 (by omega))
    have C := Lib.hid (rtermsR_no hx0 a0 (HE.out.below T0.w) (by have := HSZ.out nDepends; omega))
    have HRR := Lib.hid (rd_error (e := e0) (fs := fs) (by rw [HP.out, HRE.out]))
    clear hx0 hrd0
    go_wp2_with fail
    refine C.out.mono ?_
    rintro E a0' ⟨rfl, h34, hb⟩
    have S0 := T0.below hb
    have fk := S0.k.frozen
    have kk := S0.k.cell (i := 4) rfl
    have he0 : ¬ e0 = 0 := by omega
    have z := S0
    have fz := z.z.frozen
    have z0 := (z.z.cell (i := 0) rfl); have z1 := (z.z.cell (i := 1) rfl); have z2 := (z.z.cell (i := 2) rfl); have z3 := (z.z.cell (i := 3) rfl); have z4 := (z.z.cell (i := 4) rfl); have z5 := (z.z.cell (i := 5) rfl); have z6 := (z.z.cell (i := 6) rfl); have z7 := (z.z.cell (i := 7) rfl); have z8 := (z.z.cell (i := 8) rfl); have z9 := (z.z.cell (i := 9) rfl); have z10 := (z.z.cell (i := 10) rfl); have z11 := (z.z.cell (i := 11) rfl); have z12 := (z.z.cell (i := 12) rfl)
    obtain ⟨o0, o1, o2, o3, o4, o5, o6, o7, o8, o9, o10, o11, o12⟩ := (zero_box z.n)
    have hlow : w.heap.size ≤ rb + 1 := by have := z.low; omega
    have HBE := Lib.hid (S0.w.setCell (p := ⟨rb + 3, 4, none⟩) (show w.heap.size ≤ rb + 3 by have := S0.low; omega) (.slice none 0 0))
    clear z S0 T0 hb C
    go_wp2_with fail
    refine bodyPost_ret (v := .tuple #[.agg zeros, .int .i64 e0]) (by simp [results, zeros, pack0, Tryz.results25, go_sem, z0, z1, z2, z3, z4, z5, z6, z7, z8, z9, z10, z11, z12]) rfl ?_
    exact refReadIs_err HRR.out (below_set13 HBE.out hlow _ _ _ _ _ _ _ _ _ _ _ _ _)
end Go.Proofs.YtodbbfgkclkpgaaGreatDoor

namespace Go.Proofs.YtodbbfgkclkpgaaGreatDoor
open Go Go.RowKit

set_option maxHeartbeats 8000000 in
set_option maxRecDepth 100000 in
theorem refRead_e1 (lv : Value) (fs : List Fv) (w : World) (hE : Env w) (h : FieldsAt w lv fs) (hs : ∀ f ∈ fs, f.n.size ≤ 6000 ∧ f.v.size ≤ 6000) (hvs : (VP.parseP (sayF fs nVersion).data.toList).isSome = true) (L0 : List (List Tv)) (hx0 : readT (sayF fs nDepends) = .ok L0) (e0 : Int) (hx1 : readT (sayF fs nPre) = .error e0) (hm : ((getB fs nPackage).isSome && (getB fs nVersion).isSome) = true) : Calls Tryz.prog 25 #[lv] w (RefReadIs fs w) := by
  have LOW := Lib.hid (get_low fs)
  have CG := Lib.hid (fun (n : ByteArray) (hn : n.size ≤ 1000) (W : World) (hb : Below w.heap.size w W) => (show Calls Tryz.prog 89 #[lv, .string n] W (fun E W' => E = .returned (.tuple #[.string (sayF fs n), .bool (getB fs n).isSome]) ∧ Below W.heap.size W W') from refGet_calls lv fs n W (h.below hb) (fun f hf => by have := (hs f hf).1; omega) (by omega)))
  have CR := Lib.hid (fun (n : ByteArray) (hn : n.size ≤ 1000) (b : Nat) (W : World) (hb : Below w.heap.size w W) (hl : W.cell? ⟨b, 0, none⟩ = some lv) => rget_calls n fs lv b W hl (h.below hb) (fun f hf => (hs f hf).1) hn)
  have HSZ := Lib.hid (fun (n : ByteArray) => (show (sayF fs n).size ≤ 6000 from getB_size (fun f hf => (hs f hf).2)))
  have HV1 := Lib.hid (fun f hf => (hs f hf).2)
  obtain ⟨A0, n0, k0, rfl⟩ : ∃ A n c, lv = .slice A n c := by obtain ⟨A, c, hv, _⟩ := h; exact ⟨A, _, c, hv⟩
  have HM := Lib.hid hm
  obtain ⟨hm1, hm2⟩ := Bool.and_eq_true_iff.1 hm
  have C1 := Lib.hid (CG.out lPackage (by decide))
  have C2 := Lib.hid (CG.out lVersion (by decide))
  rw [show sayF fs lPackage = sayF fs nPackage by unfold sayF; rw [LOW.out.1], LOW.out.1, hm1] at C1
  rw [show sayF fs lVersion = sayF fs nVersion by unfold sayF; rw [LOW.out.2.1], LOW.out.2.1, hm2] at C2
  have HE := Lib.hid hE
  have R0 := RfSt.start w (.slice A0 n0 k0)
  have hB0 := R0.w
  have l0 := R0.l
  clear hm hm1 hm2 h hs hE
  go_enter Tryz.func25, Tryz.ntmps25
  go_wp2_with fail
  refine (C1.out _ hB0).mono ?_
  rintro E w1 ⟨rfl, hb⟩
  have R1 := R0.below hb
  have hB1 := R1.w
  clear hb hB0 R0 l0
  have l1 := R1.l
  go_wp2_with fail
  refine (C2.out _ hB1).mono ?_
  rintro E w2 ⟨rfl, hb⟩
  have R2 := R1.below hb
  clear C1 C2 hb hB1 R1 l1
  obtain ⟨rb, hrb⟩ : ∃ rb, w.heap.size = rb := ⟨_, rfl⟩
  rw [hrb] at R2
  have fk := R2.k.frozen
  have kk := R2.k.cell (i := 0) rfl
  have R3 := Lib.hid (R2.put (i := 0) (.string (sayF fs nPackage)) (q' := { pack0 with n := sayF fs nPackage }) (u1 := (.slice none 0 0)) (u2 := (.slice none 0 0)) (u3 := (.slice none 0 0)) (u4 := (.slice none 0 0)) (u5 := (.slice none 0 0)) (u6 := (.slice none 0 0)) (u7 := (.slice none 0 0)) (u8 := (.slice none 0 0)) rfl ⟨R2.v.d, R2.v.a, R2.v.g, R2.v.b, R2.v.r, R2.v.p, R2.v.s, R2.v.l, rfl⟩)
  clear R2
  go_wp2_with fail
  (try rw [hrb])
  clear fk kk hrb
  have CV := Lib.hid (refParse_calls (sayF fs nVersion) _ (HE.out.below R3.out.w))
  refine CV.out.mono ?_
  rintro E w3 ⟨hb, hor⟩
  have R4 := R3.out.below hb
  clear R3 hb CV
  have fk := R4.k.frozen
  have k1 := R4.k.cell (i := 1) rfl
  have k2 := R4.k.cell (i := 2) rfl
  have k3 := R4.k.cell (i := 3) rfl
  rcases hor with ⟨hn, rfl⟩ | ⟨e, u, r, hp, rfl⟩
  · rw [hn] at hvs; cases hvs
  · have HP := Lib.hid (readP_six HM.out hp)
    have HFIT := Lib.hid (fun (q : Pv) (hq : rdTo fs (rdP1 fs e u r) 6 = .ok q) => rd_fit HV1.out hp hq)
    have HEE := Lib.hid (rightP_len (parseP_rt hp)).2
    have Ra := R4.put (i := 1) (.int .i64 e) (q' := { pack0 with n := sayF fs nPackage, e := e }) (u1 := (.slice none 0 0)) (u2 := (.slice none 0 0)) (u3 := (.slice none 0 0)) (u4 := (.slice none 0 0)) (u5 := (.slice none 0 0)) (u6 := (.slice none 0 0)) (u7 := (.slice none 0 0)) (u8 := (.slice none 0 0)) rfl ⟨R4.v.d, R4.v.a, R4.v.g, R4.v.b, R4.v.r, R4.v.p, R4.v.s, R4.v.l, rfl⟩
    have Rb := Ra.put (i := 2) (.string u) (q' := { pack0 with n := sayF fs nPackage, e := e, u := u }) (u1 := (.slice none 0 0)) (u2 := (.slice none 0 0)) (u3 := (.slice none 0 0)) (u4 := (.slice none 0 0)) (u5 := (.slice none 0 0)) (u6 := (.slice none 0 0)) (u7 := (.slice none 0 0)) (u8 := (.slice none 0 0)) rfl ⟨Ra.v.d, Ra.v.a, Ra.v.g, Ra.v.b, Ra.v.r, Ra.v.p, Ra.v.s, Ra.v.l, rfl⟩
    have Rc := Rb.put (i := 3) (.string r) (q' := rdP1 fs e u r) (u1 := (.slice none 0 0)) (u2 := (.slice none 0 0)) (u3 := (.slice none 0 0)) (u4 := (.slice none 0 0)) (u5 := (.slice none 0 0)) (u6 := (.slice none 0 0)) (u7 := (.slice none 0 0)) (u8 := (.slice none 0 0)) rfl ⟨Rb.v.d, Rb.v.a, Rb.v.g, Rb.v.b, Rb.v.r, Rb.v.p, Rb.v.s, Rb.v.l, rfl⟩
    obtain ⟨P1, hP1⟩ : ∃ P1, rdP1 fs e u r = P1 := ⟨_, rfl⟩
    rw [hP1] at Rc HP HFIT
    have HPE := Lib.hid (show P1.e = e by rw [← hP1]; rfl)
    have HPS := Lib.hid hP1.symm
    have Q0 := Lib.hid (show rdTo fs P1 0 = .ok P1 from rfl)
    have lr := Rc.l
    clear R4 Ra Rb hp hP1
    go_wp2_with fail
    clear fk k1 k2 k3
    refine (CR.out lDepends (by decide) rb _ Rc.w Rc.l).mono ?_
    rintro E a0 ⟨rfl, hb⟩
    rw [show sayF fs lDepends = sayF fs nDepends by unfold sayF; rw [LOW.out.2.2.1]]
    have T0 := Rc.below hb
    have hlt0 := T0.k.lt
    have hrd0 := Lib.hid (show rdTo fs P1 1 = rdK fs P1 0 by show (match rdTo fs P1 0 with | .error e => Except.error e | .ok q => rdK fs q 0) = _; rw [Q0.out])
    clear Rc hb lr
    have Q1 := Lib.hid (show rdTo fs P1 1 = .ok { P1 with dep := L0 } by rw [hrd0.out]; show (readT (sayF fs nDepends)).map _ = _; rw [hx0]; rfl)
    have C := Lib.hid (rtermsR_ok hx0 a0 (HE.out.below T0.w) (by have := HSZ.out nDepends; omega))
    clear hx0 hrd0 Q0
    go_wp2_with fail
    refine C.out.mono ?_
    rintro E b0 ⟨B0, m0, c0, rfl, hA, hb⟩
    have S0 := T0.below hb
    have fk := S0.k.frozen
    have kk := S0.k.cell (i := 4) rfl
    obtain ⟨q1, hq⟩ : ∃ q1, ({ P1 with dep := L0 } : Pv) = q1 := ⟨_, rfl⟩
    have U0 := S0.put (i := 4) (.slice B0 m0 c0) (q' := { P1 with dep := L0 }) (u1 := (.slice B0 m0 c0)) (u2 := (.slice none 0 0)) (u3 := (.slice none 0 0)) (u4 := (.slice none 0 0)) (u5 := (.slice none 0 0)) (u6 := (.slice none 0 0)) (u7 := (.slice none 0 0)) (u8 := (.slice none 0 0)) rfl ⟨(hA.up (by have := hlt0; omega)), S0.v.a, S0.v.g, S0.v.b, S0.v.r, S0.v.p, S0.v.s, S0.v.l, S0.v.f⟩
    rw [hq] at U0 Q1
    have lr := U0.l
    clear S0 T0 hb C hA hlt0 hq
    go_wp2_with fail
    clear fk kk
    refine (CR.out lPre (by decide) rb _ U0.w U0.l).mono ?_
    rintro E a1 ⟨rfl, hb⟩
    rw [show sayF fs lPre = sayF fs nPre by unfold sayF; rw [LOW.out.2.2.2.1]]
    have T1 := U0.below hb
    have hlt1 := T1.k.lt
    have hrd1 := Lib.hid (show rdTo fs P1 2 = rdK fs q1 1 by show (match rdTo fs P1 1 with | .error e => Except.error e | .ok q => rdK fs q 1) = _; rw [Q1.out])
    clear U0 hb lr
    have HRE := Lib.hid (show rdTo fs P1 6 = .error e0 from rdTo_error (k := 2) (by rw [hrd1.out]; show (readT (sayF fs nPre)).map _ = _; rw [hx1]; rfl) 6 (by omega))
    have C := Lib.hid (rtermsR_no hx1 a1 (HE.out.below T1.w) (by have := HSZ.out nPre; omega))
    have HRR := Lib.hid (rd_error (e := e0) (fs := fs) (by rw [HP.out, HRE.out]))
    clear hx1 hrd1
    go_wp2_with fail
    refine C.out.mono ?_
    rintro E a1' ⟨rfl, h34, hb⟩
    have S1 := T1.below hb
    have fk := S1.k.frozen
    have kk := S1.k.cell (i := 5) rfl
    have he0 : ¬ e0 = 0 := by omega
    have z := S1
    have fz := z.z.frozen
    have z0 := (z.z.cell (i := 0) rfl); have z1 := (z.z.cell (i := 1) rfl); have z2 := (z.z.cell (i := 2) rfl); have z3 := (z.z.cell (i := 3) rfl); have z4 := (z.z.cell (i := 4) rfl); have z5 := (z.z.cell (i := 5) rfl); have z6 := (z.z.cell (i := 6) rfl); have z7 := (z.z.cell (i := 7) rfl); have z8 := (z.z.cell (i := 8) rfl); have z9 := (z.z.cell (i := 9) rfl); have z10 := (z.z.cell (i := 10) rfl); have z11 := (z.z.cell (i := 11) rfl); have z12 := (z.z.cell (i := 12) rfl)
    obtain ⟨o0, o1, o2, o3, o4, o5, o6, o7, o8, o9, o10, o11, o12⟩ := (zero_box z.n)
    have hlow : w.heap.size ≤ rb + 1 := by have := z.low; omega
    have HBE := Lib.hid (S1.w.setCell (p := ⟨rb + 3, 5, none⟩) (show w.heap.size ≤ rb + 3 by have := S1.low; omega) (.slice none 0 0))
    clear z S1 T1 hb C
    go_wp2_with fail
    refine bodyPost_ret (v := .tuple #[.agg zeros, .int .i64 e0]) (by simp [results, zeros, pack0, Tryz.results25, go_sem, z0, z1, z2, z3, z4, z5, z6, z7, z8, z9, z10, z11, z12]) rfl ?_
    exact refReadIs_err HRR.out (below_set13 HBE.out hlow _ _ _ _ _ _ _ _ _ _ _ _ _)
end Go.Proofs.YtodbbfgkclkpgaaGreatDoor

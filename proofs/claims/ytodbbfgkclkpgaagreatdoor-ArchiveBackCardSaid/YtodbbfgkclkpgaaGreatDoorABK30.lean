/- record.Read: the walk. -/
import Derived.Test.YtodbbfgkclkpgaaGreatDoorABK29
import Derived.Deep.RegionHeld3
namespace Go.Proofs.YtodbbfgkclkpgaaGreatDoor
open Go Go.RowKit

theorem termsR_ok {s : ByteArray} {L : List (List Tv)} (h : readT s = .ok L) (w : World) (hE : Env w) (hS : EnvS w) (hs : s.size ≤ 200000) : Calls Tryz.prog 97 #[.string s] w fun E w' => ∃ A n c, E = .returned (.tuple #[.slice A n c, .nilIface]) ∧ AskedIn w.heap.size w' (.slice A n c) L ∧ Below w.heap.size w w' :=
  (terms_walkF s w hE hS hs).mono fun E w' ⟨hb, h1⟩ => by
    rcases h1 with ⟨L', v, he, hok, hA, _, hF⟩ | ⟨e, _, herr, _⟩
    · rw [readT_ok hok] at h
      injection h with h
      subst h
      obtain ⟨A, c, hv, _⟩ := id hA
      subst hv
      exact ⟨A, _, c, he, ⟨hA, hF⟩, hb⟩
    · rw [readT_no herr] at h; cases h
theorem termsR_no {s : ByteArray} {e : Int} (h : readT s = .error e) (w : World) (hE : Env w) (hS : EnvS w) (hs : s.size ≤ 200000) : Calls Tryz.prog 97 #[.string s] w fun E w' => E = .returned (.tuple #[.slice none 0 0, .iface 32 (.int .i64 e)]) ∧ (e = 3 ∨ e = 4) ∧ Below w.heap.size w w' :=
  (terms_walkF s w hE hS hs).mono fun E w' ⟨hb, h1⟩ => by
    rcases h1 with ⟨L', v, he, hok, hA, _, hF⟩ | ⟨e', he, herr, h34⟩
    · rw [readT_ok hok] at h; cases h
    · rw [readT_no herr] at h
      injection h with h
      subst h
      exact ⟨he, h34, hb⟩
theorem listR_ok {s : ByteArray} {ts : List Tv} (h : readS s = .ok ts) (w : World) (hE : Env w) (hS : EnvS w) (hs : s.size ≤ 200000) : Calls Tryz.prog 98 #[.string s] w fun E w' => ∃ A n c, E = .returned (.tuple #[.slice A n c, .nilIface]) ∧ TermsFrom w.heap.size w' (.slice A n c) ts ∧ Below w.heap.size w w' :=
  (depListF_calls s w hE hS hs).mono fun E w' ⟨hb, h1⟩ => by
    rcases h1 with ⟨L', v, he, hok, hA, hF⟩ | ⟨e, _, herr, _⟩
    · rw [readS_ok hok] at h
      injection h with h
      subst h
      obtain ⟨A, c, hv, _⟩ := id hA
      subst hv
      exact ⟨A, _, c, he, ⟨hA, hF⟩, hb⟩
    · rw [readS_no herr] at h; cases h
theorem listR_no {s : ByteArray} {e : Int} (h : readS s = .error e) (w : World) (hE : Env w) (hS : EnvS w) (hs : s.size ≤ 200000) : Calls Tryz.prog 98 #[.string s] w fun E w' => E = .returned (.tuple #[.slice none 0 0, .iface 32 (.int .i64 e)]) ∧ (e = 3 ∨ e = 4) ∧ Below w.heap.size w w' :=
  (depListF_calls s w hE hS hs).mono fun E w' ⟨hb, h1⟩ => by
    rcases h1 with ⟨L', v, he, hok, hA, hF⟩ | ⟨e', he, herr, h34⟩
    · rw [readS_ok hok] at h; cases h
    · rw [readS_no herr] at h
      injection h with h
      subst h
      exact ⟨he, h34, hb⟩
theorem ask_slice {w : World} {v : Value} {L : List (List Tv)} (h : AskedAt w v L) : ∃ A n c, v = .slice A n c := by
  obtain ⟨A, c, hv, _⟩ := h
  exact ⟨A, _, c, hv⟩
theorem term_slice {w : World} {v : Value} {ts : List Tv} (h : TermsAt w v ts) : ∃ A n c, v = .slice A n c := by
  obtain ⟨A, c, hv, _⟩ := h
  exact ⟨A, _, c, hv⟩
theorem cell_put {W : World} {m b i j : Nat} {x v : Value} (hne : m ≠ b) (h : W.cell? ⟨m, j, none⟩ = some x) : (W.setCell ⟨b, i, none⟩ v).cell? ⟨m, j, none⟩ = some x := by
  rw [World.cell?_setCell_other _ _ _ _ (by intro e; simp only [Addr.mk.injEq] at e; omega)]
  exact h
theorem AskedIn.mono {B B' : Nat} {W : World} {v : Value} {L : List (List Tv)} (h : AskedIn B' W v L) (hB : B ≤ B') : AskedIn B W v L :=
  ⟨h.1, fun b off n c hv hn => ⟨Nat.le_trans hB (h.2 b off n c hv hn).1, fun i x hx b' off' n' c' hc hnx => Nat.le_trans hB ((h.2 b off n c hv hn).2 i x hx b' off' n' c' hc hnx)⟩⟩
theorem TermsFrom.mono {B B' : Nat} {W : World} {v : Value} {ts : List Tv} (h : TermsFrom B' W v ts) (hB : B ≤ B') : TermsFrom B W v ts := ⟨h.1, fun b off n c hv => Nat.le_trans hB (h.2 b off n c hv)⟩
theorem StrsFrom.mono {B B' : Nat} {W : World} {v : Value} {ss : List ByteArray} (h : StrsFrom B' W v ss) (hB : B ≤ B') : StrsFrom B W v ss := ⟨h.1, fun b off n c hv => Nat.le_trans hB (h.2 b off n c hv)⟩

/-- the table of the six -/
def TabAt (g rb : Nat) (W : World) : Prop := W.heap[g]? = some (.cells #[.string ⟨#[68, 101, 112, 101, 110, 100, 115]⟩, .pointer (some ⟨rb + 1, 4, none⟩), .pointer none, .string ⟨#[80, 114, 101, 45, 68, 101, 112, 101, 110, 100, 115]⟩, .pointer (some ⟨rb + 1, 5, none⟩), .pointer none, .string ⟨#[67, 111, 110, 102, 108, 105, 99, 116, 115]⟩, .pointer none, .pointer (some ⟨rb + 1, 6, none⟩), .string ⟨#[66, 114, 101, 97, 107, 115]⟩, .pointer none, .pointer (some ⟨rb + 1, 7, none⟩), .string ⟨#[82, 101, 112, 108, 97, 99, 101, 115]⟩, .pointer none, .pointer (some ⟨rb + 1, 8, none⟩), .string ⟨#[80, 114, 111, 118, 105, 100, 101, 115]⟩, .pointer none, .pointer (some ⟨rb + 1, 9, none⟩)] 131 (0, 0))
theorem TabAt.keep {g rb : Nat} {W W' : World} (h : TabAt g rb W) (hb : Below W.heap.size W W') : TabAt g rb W' := (hb.block g (Array.getElem?_eq_some_iff.1 h).1).trans h
theorem TabAt.put {g rb b i : Nat} {W : World} {v : Value} (h : TabAt g rb W) (hne : b ≠ g) : TabAt g rb (W.setCell ⟨b, i, none⟩ v) := by
  unfold TabAt World.setCell at *
  dsimp only
  rw [Array.getElem?_modify, if_neg hne]
  exact h
theorem TabAt.cell {g rb : Nat} {W : World} (h : TabAt g rb W) {i : Nat} {v : Value} (hv : (#[.string ⟨#[68, 101, 112, 101, 110, 100, 115]⟩, .pointer (some ⟨rb + 1, 4, none⟩), .pointer none, .string ⟨#[80, 114, 101, 45, 68, 101, 112, 101, 110, 100, 115]⟩, .pointer (some ⟨rb + 1, 5, none⟩), .pointer none, .string ⟨#[67, 111, 110, 102, 108, 105, 99, 116, 115]⟩, .pointer none, .pointer (some ⟨rb + 1, 6, none⟩), .string ⟨#[66, 114, 101, 97, 107, 115]⟩, .pointer none, .pointer (some ⟨rb + 1, 7, none⟩), .string ⟨#[82, 101, 112, 108, 97, 99, 101, 115]⟩, .pointer none, .pointer (some ⟨rb + 1, 8, none⟩), .string ⟨#[80, 114, 111, 118, 105, 100, 101, 115]⟩, .pointer none, .pointer (some ⟨rb + 1, 9, none⟩)] : Array Value)[i]? = some v) : W.cell? ⟨g, i, none⟩ = some v := by
  unfold World.cell?
  rw [show W.heap[g]? = _ from h]
  exact hv

set_option maxHeartbeats 8000000 in
set_option maxRecDepth 100000 in
theorem read_main (v : Value) (fs : List Fv) (w : World) (hE : Env w) (hS : EnvS w) (h : FieldsAt w v fs) (hs : ∀ f ∈ fs, f.n.size ≤ 6000 ∧ f.v.size ≤ 6000) (hm : ((getB fs nPackage).isSome && (getB fs nVersion).isSome) = true) : Calls Tryz.prog 26 #[v] w (ReadIs fs w) := by
  have CG := Lib.hid (fun (n : ByteArray) (hn : n.size ≤ 1000) (W : World) (hb : Below w.heap.size w W) => (show Calls Tryz.prog 95 #[v, .string n] W (fun E W' => E = .returned (.tuple #[.string (sayF fs n), .bool (getB fs n).isSome]) ∧ Below W.heap.size W W') from get_calls v fs n W (h.below hb) (fun f hf => by have := (hs f hf).1; omega) (by omega)))
  have CL := Lib.hid (fun (n : ByteArray) (hn : n.size ≤ 1000) (W : World) (hb : Below w.heap.size w W) => lines_calls v fs n W (hE.below hb) (h.below hb) (fun f hf => by have := hs f hf; omega) (by omega))
  have HSZ := Lib.hid (fun (n : ByteArray) => (show (sayF fs n).size ≤ 6000 from getB_size (fun f hf => (hs f hf).2)))
  obtain ⟨A0, n0, k0, rfl⟩ : ∃ A n c, v = .slice A n c := by obtain ⟨A, c, hv, _⟩ := h; exact ⟨A, _, c, hv⟩
  have HV1 := Lib.hid (fun f hf => (hs f hf).2)
  have HM := Lib.hid hm
  obtain ⟨hm1, hm2⟩ := Bool.and_eq_true_iff.1 hm
  have C1 := Lib.hid (CG.out nPackage (by decide))
  have C2 := Lib.hid (CG.out nVersion (by decide))
  rw [hm1] at C1
  rw [hm2] at C2
  have HE := Lib.hid hE
  have HS := Lib.hid hS
  have R0 := RdSt.start w
  have hB0 := R0.w
  clear hm hm1 hm2 h hs hE hS
  go_enter Tryz.func26, Tryz.ntmps26
  go_wp2_with fail
  refine (C1.out _ hB0).mono ?_
  rintro E w1 ⟨rfl, hb⟩
  have R1 := R0.below hb
  have hB1 := R1.w
  clear hb hB0 R0
  go_wp2_with fail
  refine (C2.out _ hB1).mono ?_
  rintro E w2 ⟨rfl, hb⟩
  have R2 := R1.below hb
  clear C1 C2 hb hB1 R1
  obtain ⟨rb, hrb⟩ : ∃ rb, w.heap.size = rb := ⟨_, rfl⟩
  rw [hrb] at R2
  obtain ⟨k0, k1, k2, k3, k4, k5, k6, k7, k8, k9, k10, k11, k12⟩ := R2.k.box
  have fk := R2.k.frozen
  have R3 := Lib.hid (R2.put (i := 0) (.string (sayF fs nPackage)) (q' := { pack0 with n := sayF fs nPackage }) (u1 := .slice none 0 0) (u2 := .slice none 0 0) (u3 := .slice none 0 0) (u4 := .slice none 0 0) (u5 := .slice none 0 0) (u6 := .slice none 0 0) (u7 := .slice none 0 0) (u8 := .slice none 0 0) rfl ⟨R2.v.d, R2.v.a, R2.v.g, R2.v.b, R2.v.r, R2.v.p, R2.v.s, R2.v.l, rfl⟩)
  clear R2
  go_wp2_with fail
  (try rw [hrb])
  clear k0 k1 k2 k3 k4 k5 k6 k7 k8 k9 k10 k11 k12 fk hrb
  have CV := Lib.hid (parse_calls (sayF fs nVersion) _ (HE.out.below R3.out.w))
  refine CV.out.mono ?_
  rintro E w3 ⟨hb, hor⟩
  have R4 := R3.out.below hb
  clear R3 hb CV
  obtain ⟨k0, k1, k2, k3, k4, k5, k6, k7, k8, k9, k10, k11, k12⟩ := R4.k.box
  have fk := R4.k.frozen
  rcases hor with ⟨hn, rfl⟩ | ⟨e, u, r, hp, rfl⟩
  · have HR := Lib.hid (rd_error (readP_version HM.out hn))
    have z := R4.z
    have fz := z.frozen
    have z0 := (z.cell (i := 0) rfl); have z1 := (z.cell (i := 1) rfl); have z2 := (z.cell (i := 2) rfl); have z3 := (z.cell (i := 3) rfl); have z4 := (z.cell (i := 4) rfl); have z5 := (z.cell (i := 5) rfl); have z6 := (z.cell (i := 6) rfl); have z7 := (z.cell (i := 7) rfl); have z8 := (z.cell (i := 8) rfl); have z9 := (z.cell (i := 9) rfl); have z10 := (z.cell (i := 10) rfl); have z11 := (z.cell (i := 11) rfl); have z12 := (z.cell (i := 12) rfl)
    have HB := Lib.hid (((R4.w.setCell (p := ⟨rb + 1, 1, none⟩) (Nat.le_trans R4.low (Nat.le_succ rb)) (.int .i64 0)).setCell (p := ⟨rb + 1, 2, none⟩) (Nat.le_trans R4.low (Nat.le_succ rb)) (.string ⟨#[]⟩)).setCell (p := ⟨rb + 1, 3, none⟩) (Nat.le_trans R4.low (Nat.le_succ rb)) (.string ⟨#[]⟩))
    have hlow := R4.low
    clear R4 hn z
    unfold noVersion
    go_wp2_with fail
    refine bodyPost_ret (v := .tuple #[.agg zeros, errV 3]) (by simp [results, zeros, errV, Tryz.results26, go_sem, z0, z1, z2, z3, z4, z5, z6, z7, z8, z9, z10, z11, z12]) rfl ?_
    exact readIs_err HR.out (below_set13 HB.out hlow _ _ _ _ _ _ _ _ _ _ _ _ _)
  · have HP := Lib.hid (readP_six HM.out hp)
    have HFIT := Lib.hid (fun (q : Pv) (hq : rdTo fs (rdP1 fs e u r) 6 = .ok q) => rd_fit HV1.out hp hq)
    have HEE := Lib.hid (rightP_len (parseP_rt hp)).2
    have Ra := R4.put (i := 1) (.int .i64 e) (q' := { pack0 with n := sayF fs nPackage, e := e }) (u1 := .slice none 0 0) (u2 := .slice none 0 0) (u3 := .slice none 0 0) (u4 := .slice none 0 0) (u5 := .slice none 0 0) (u6 := .slice none 0 0) (u7 := .slice none 0 0) (u8 := .slice none 0 0) rfl ⟨R4.v.d, R4.v.a, R4.v.g, R4.v.b, R4.v.r, R4.v.p, R4.v.s, R4.v.l, rfl⟩
    have Rb := Ra.put (i := 2) (.string u) (q' := { pack0 with n := sayF fs nPackage, e := e, u := u }) (u1 := .slice none 0 0) (u2 := .slice none 0 0) (u3 := .slice none 0 0) (u4 := .slice none 0 0) (u5 := .slice none 0 0) (u6 := .slice none 0 0) (u7 := .slice none 0 0) (u8 := .slice none 0 0) rfl ⟨Ra.v.d, Ra.v.a, Ra.v.g, Ra.v.b, Ra.v.r, Ra.v.p, Ra.v.s, Ra.v.l, rfl⟩
    have Rc := Rb.put (i := 3) (.string r) (q' := rdP1 fs e u r) (u1 := .slice none 0 0) (u2 := .slice none 0 0) (u3 := .slice none 0 0) (u4 := .slice none 0 0) (u5 := .slice none 0 0) (u6 := .slice none 0 0) (u7 := .slice none 0 0) (u8 := .slice none 0 0) rfl ⟨Rb.v.d, Rb.v.a, Rb.v.g, Rb.v.b, Rb.v.r, Rb.v.p, Rb.v.s, Rb.v.l, rfl⟩
    have R6 := Rc.below (below_alloc _ (.cells #[.string ⟨#[68, 101, 112, 101, 110, 100, 115]⟩, .pointer (some ⟨rb + 1, 4, none⟩), .pointer none, .string ⟨#[80, 114, 101, 45, 68, 101, 112, 101, 110, 100, 115]⟩, .pointer (some ⟨rb + 1, 5, none⟩), .pointer none, .string ⟨#[67, 111, 110, 102, 108, 105, 99, 116, 115]⟩, .pointer none, .pointer (some ⟨rb + 1, 6, none⟩), .string ⟨#[66, 114, 101, 97, 107, 115]⟩, .pointer none, .pointer (some ⟨rb + 1, 7, none⟩), .string ⟨#[82, 101, 112, 108, 97, 99, 101, 115]⟩, .pointer none, .pointer (some ⟨rb + 1, 8, none⟩), .string ⟨#[80, 114, 111, 118, 105, 100, 101, 115]⟩, .pointer none, .pointer (some ⟨rb + 1, 9, none⟩)] 131))
    have T6 : TabAt w3.heap.size rb ((((w3.setCell ⟨rb + 1, 1, none⟩ (.int .i64 e)).setCell ⟨rb + 1, 2, none⟩ (.string u)).setCell ⟨rb + 1, 3, none⟩ (.string r)).alloc (.cells #[.string ⟨#[68, 101, 112, 101, 110, 100, 115]⟩, .pointer (some ⟨rb + 1, 4, none⟩), .pointer none, .string ⟨#[80, 114, 101, 45, 68, 101, 112, 101, 110, 100, 115]⟩, .pointer (some ⟨rb + 1, 5, none⟩), .pointer none, .string ⟨#[67, 111, 110, 102, 108, 105, 99, 116, 115]⟩, .pointer none, .pointer (some ⟨rb + 1, 6, none⟩), .string ⟨#[66, 114, 101, 97, 107, 115]⟩, .pointer none, .pointer (some ⟨rb + 1, 7, none⟩), .string ⟨#[82, 101, 112, 108, 97, 99, 101, 115]⟩, .pointer none, .pointer (some ⟨rb + 1, 8, none⟩), .string ⟨#[80, 114, 111, 118, 105, 100, 101, 115]⟩, .pointer none, .pointer (some ⟨rb + 1, 9, none⟩)] 131)) := by
      have := heap_alloc_new (((w3.setCell ⟨rb + 1, 1, none⟩ (.int .i64 e)).setCell ⟨rb + 1, 2, none⟩ (.string u)).setCell ⟨rb + 1, 3, none⟩ (.string r)) (.cells #[.string ⟨#[68, 101, 112, 101, 110, 100, 115]⟩, .pointer (some ⟨rb + 1, 4, none⟩), .pointer none, .string ⟨#[80, 114, 101, 45, 68, 101, 112, 101, 110, 100, 115]⟩, .pointer (some ⟨rb + 1, 5, none⟩), .pointer none, .string ⟨#[67, 111, 110, 102, 108, 105, 99, 116, 115]⟩, .pointer none, .pointer (some ⟨rb + 1, 6, none⟩), .string ⟨#[66, 114, 101, 97, 107, 115]⟩, .pointer none, .pointer (some ⟨rb + 1, 7, none⟩), .string ⟨#[82, 101, 112, 108, 97, 99, 101, 115]⟩, .pointer none, .pointer (some ⟨rb + 1, 8, none⟩), .string ⟨#[80, 114, 111, 118, 105, 100, 101, 115]⟩, .pointer none, .pointer (some ⟨rb + 1, 9, none⟩)] 131)
      have e2 : (((w3.setCell ⟨rb + 1, 1, none⟩ (.int .i64 e)).setCell ⟨rb + 1, 2, none⟩ (.string u)).setCell ⟨rb + 1, 3, none⟩ (.string r)).heap.size = w3.heap.size := by simp
      rw [e2] at this
      exact this
    clear R4 Ra Rb Rc hp
    go_wp2_with fail
    obtain ⟨gt, hgt⟩ : ∃ gt, w3.heap.size = gt := ⟨_, rfl⟩
    obtain ⟨W6, hW6⟩ : ∃ x, x = (((w3.setCell ⟨rb + 1, 1, none⟩ (.int .i64 e)).setCell ⟨rb + 1, 2, none⟩ (.string u)).setCell ⟨rb + 1, 3, none⟩ (.string r)).alloc (.cells #[.string ⟨#[68, 101, 112, 101, 110, 100, 115]⟩, .pointer (some ⟨rb + 1, 4, none⟩), .pointer none, .string ⟨#[80, 114, 101, 45, 68, 101, 112, 101, 110, 100, 115]⟩, .pointer (some ⟨rb + 1, 5, none⟩), .pointer none, .string ⟨#[67, 111, 110, 102, 108, 105, 99, 116, 115]⟩, .pointer none, .pointer (some ⟨rb + 1, 6, none⟩), .string ⟨#[66, 114, 101, 97, 107, 115]⟩, .pointer none, .pointer (some ⟨rb + 1, 7, none⟩), .string ⟨#[82, 101, 112, 108, 97, 99, 101, 115]⟩, .pointer none, .pointer (some ⟨rb + 1, 8, none⟩), .string ⟨#[80, 114, 111, 118, 105, 100, 101, 115]⟩, .pointer none, .pointer (some ⟨rb + 1, 9, none⟩)] 131) := ⟨_, rfl⟩
    rw [← hW6] at R6
    rw [← hW6, hgt] at T6
    (try rw [← hW6])
    (try rw [hgt])
    obtain ⟨P1, hP1⟩ : ∃ P1, rdP1 fs e u r = P1 := ⟨_, rfl⟩
    rw [hP1] at R6 HP HFIT
    have hPe : P1.e = e := by rw [← hP1]; rfl
    have HPE := Lib.hid hPe
    clear k0 k1 k2 k3 k4 k5 k6 k7 k8 k9 k10 k11 k12 fk hW6 hgt hP1 hPe
    have HT6 := Lib.hid T6
    have HR6 := Lib.hid R6
    clear R6 T6
    go_loopw [60] (fun i wr => ∃ (k : Nat) (q : Pv) (v1 v2 v3 v4 v5 v6 v7 v8 : Value), k ≤ 6 ∧ i = .int .i64 k ∧ Hid (rdTo fs P1 k = .ok q) ∧ Hid (RdSt w rb q v1 v2 v3 v4 v5 v6 v7 v8 wr) ∧ Hid (TabAt gt rb wr)) (fun i _ => 6 - (intOf i).toNat)
    case atStart => exact ⟨0, P1, _, _, _, _, _, _, _, _, by omega, rfl, Lib.hid rfl, HR6, HT6⟩
    case round =>
      clear HR6 HT6
      obtain ⟨k, q, v1, v2, v3, v4, v5, v6, v7, v8, hk, rfl, Hq, HR, HT⟩ := hrel
      by_cases hk6 : k < 6
      · obtain hkk | hkk | hkk | hkk | hkk | hkk : k = 0 ∨ k = 1 ∨ k = 2 ∨ k = 3 ∨ k = 4 ∨ k = 5 := by omega
        · subst hkk
          have t0 := HT.out.cell (i := 0) rfl
          have t1 := HT.out.cell (i := 1) rfl
          have t2 := HT.out.cell (i := 2) rfl
          have ha := below_alloc wr (.cells #[.string ⟨#[68, 101, 112, 101, 110, 100, 115]⟩, .pointer (some ⟨rb + 1, 4, none⟩), .pointer none] 131)
          have x0 : (wr.alloc (.cells #[.string ⟨#[68, 101, 112, 101, 110, 100, 115]⟩, .pointer (some ⟨rb + 1, 4, none⟩), .pointer none] 131)).cell? ⟨wr.heap.size, 1, none⟩ = some (.pointer (some ⟨rb + 1, 4, none⟩)) := by go_cell
          have y0 : (wr.alloc (.cells #[.string ⟨#[68, 101, 112, 101, 110, 100, 115]⟩, .pointer (some ⟨rb + 1, 4, none⟩), .pointer none] 131)).cell? ⟨wr.heap.size, 1, none⟩ = some (.pointer (some ⟨rb + 1, 4, none⟩)) := by go_cell
          have R0 := HR.out.below ha
          have CK := Lib.hid (CG.out nDepends (by decide) _ R0.w)
          have hne0 : wr.heap.size ≠ rb + 1 := by have := HR.out.k.lt; omega
          have hrd := Lib.hid (show rdTo fs P1 1 = rdK fs q 0 by show (match rdTo fs P1 0 with | .error e => Except.error e | .ok q => rdK fs q 0) = _; rw [Hq.out])
          have T0 := HT.out.keep ha
          clear HR ha HT
          go_wp2_with fail
          refine CK.out.mono ?_
          rintro E y1 ⟨rfl, hb⟩
          have R1 := R0.below hb
          have T1 := T0.keep hb
          have x1 := kept hb x0
          have y1' := kept hb y0
          obtain ⟨mx, hmx⟩ : ∃ mx, wr.heap.size = mx := ⟨_, rfl⟩
          rw [hmx] at x1 y1' hne0
          (try rw [hmx])
          have hne : mx ≠ rb + 1 := hne0
          have hgne : rb + 1 ≠ gt := fun e2 => by
            have h1 : y1.heap[rb + 1]? = _ := R1.k
            have h2 : y1.heap[gt]? = _ := T1
            rw [e2, h2] at h1
            injection h1 with h1
            injection h1 with _ h1 _
            exact absurd h1 (by decide)
          have xd : y1.drew.cell? ⟨mx, 1, none⟩ = some (.pointer (some ⟨rb + 1, 4, none⟩)) := x1
          clear t0 t1 t2 x0 y0 hmx hne0 hb R0 T0 CK
          cases hx : readT (sayF fs nDepends) with
          | error e0 =>
            have HRE := Lib.hid (show rdTo fs P1 6 = .error e0 from rdTo_error (k := 1) (by rw [hrd.out]; show (readT (sayF fs nDepends)).map _ = _; rw [hx]; rfl) 6 (by omega))
            have C := Lib.hid (termsR_no hx y1.drew (HE.out.below (step_below R1.w (below_drew _))) (HS.out.below (step_below R1.w (below_drew _))) (by have := HSZ.out nDepends; omega))
            clear hx hrd
            go_upto_region 16 with fail
            go_region_held3 (fun W => W.cell? ⟨mx, 1, none⟩ = some (.pointer (some ⟨rb + 1, 4, none⟩)))
              ((first | assumption | exact xd | exact x2 | exact cell_put hne x2))
              (first | (go_at_call 97; refine C.out.mono ?_; rintro E y2 ⟨rfl, h34, hb2⟩; have x2 := kept hb2 xd; have R2 := R1.below (step_below (below_drew _) hb2); have fk := R2.k.frozen; have kk := R2.k.cell (i := 4) rfl))
            all_goals
              have z := R2.z
              have fz := z.frozen
              have z0 := (z.cell (i := 0) rfl); have z1 := (z.cell (i := 1) rfl); have z2 := (z.cell (i := 2) rfl); have z3 := (z.cell (i := 3) rfl); have z4 := (z.cell (i := 4) rfl); have z5 := (z.cell (i := 5) rfl); have z6 := (z.cell (i := 6) rfl); have z7 := (z.cell (i := 7) rfl); have z8 := (z.cell (i := 8) rfl); have z9 := (z.cell (i := 9) rfl); have z10 := (z.cell (i := 10) rfl); have z11 := (z.cell (i := 11) rfl); have z12 := (z.cell (i := 12) rfl)
              have HB := Lib.hid (R2.w.setCell (p := ⟨rb + 1, 4, none⟩) (Nat.le_trans R2.low (Nat.le_succ rb)) (.slice none 0 0))
              have hlow := R2.low
              have HRR := Lib.hid (rd_error (e := e0) (fs := fs) (by rw [HP.out, HRE.out]))
              have he0 : ¬ e0 = 0 := by omega
              clear z R2 R1 T1 kk
              go_wp2_with fail
              refine bodyPost_ret (v := .tuple #[.agg zeros, errV e0]) (by simp [results, zeros, errV, he0, Tryz.results26, go_sem, z0, z1, z2, z3, z4, z5, z6, z7, z8, z9, z10, z11, z12]) rfl ?_
              exact readIs_err HRR.out (below_set13 HB.out hlow _ _ _ _ _ _ _ _ _ _ _ _ _)
          | ok L =>
            have HRE := Lib.hid (show rdTo fs P1 1 = .ok { q with dep := L } by rw [hrd.out]; show (readT (sayF fs nDepends)).map _ = _; rw [hx]; rfl)
            have C := Lib.hid (termsR_ok hx y1.drew (HE.out.below (step_below R1.w (below_drew _))) (HS.out.below (step_below R1.w (below_drew _))) (by have := HSZ.out nDepends; omega))
            clear hx hrd
            go_upto_region 16 with fail
            go_region_held3 (fun W => W.cell? ⟨mx, 1, none⟩ = some (.pointer (some ⟨rb + 1, 4, none⟩)))
              ((first | assumption | exact xd | exact x2 | exact cell_put hne x2))
              (first | (go_at_call 97; refine C.out.mono ?_; rintro E y2 ⟨A, n, c, rfl, hA, hb2⟩; have x2 := kept hb2 xd; have R2 := R1.below (step_below (below_drew _) hb2); have fk := R2.k.frozen; have kk := R2.k.cell (i := 4) rfl))
            all_goals
              have RN := Lib.hid (R2.put (i := 4) (.slice A n c) (q' := { q with dep := L }) (u1 := (.slice A n c)) (u2 := v2) (u3 := v3) (u4 := v4) (u5 := v5) (u6 := v6) (u7 := v7) (u8 := v8) rfl ⟨(hA.mono (show rb + 2 ≤ y1.heap.size by have := R1.k.lt; omega)), R2.v.a, R2.v.g, R2.v.b, R2.v.r, R2.v.p, R2.v.s, R2.v.l, R2.v.f⟩)
              have TN := Lib.hid ((T1.keep (step_below (below_drew _) hb2)).put (i := 4) (v := .slice A n c) hgne)
              clear R2 R1 T1 kk hA
              go_wp2_with fail
              go_roundw
              case rel => first | exact ⟨1, _, _, _, _, _, _, _, _, _, by omega, by go_num, HRE, RN, TN⟩ | ((repeat apply Exists.intro); exact ⟨⟨1, _, _, _, _, _, _, _, _, _, by omega, by go_num, HRE, RN, TN⟩, rfl⟩)
              case measure => simp [intOf]
        · subst hkk
          have t0 := HT.out.cell (i := 3) rfl
          have t1 := HT.out.cell (i := 4) rfl
          have t2 := HT.out.cell (i := 5) rfl
          have ha := below_alloc wr (.cells #[.string ⟨#[80, 114, 101, 45, 68, 101, 112, 101, 110, 100, 115]⟩, .pointer (some ⟨rb + 1, 5, none⟩), .pointer none] 131)
          have x0 : (wr.alloc (.cells #[.string ⟨#[80, 114, 101, 45, 68, 101, 112, 101, 110, 100, 115]⟩, .pointer (some ⟨rb + 1, 5, none⟩), .pointer none] 131)).cell? ⟨wr.heap.size, 1, none⟩ = some (.pointer (some ⟨rb + 1, 5, none⟩)) := by go_cell
          have y0 : (wr.alloc (.cells #[.string ⟨#[80, 114, 101, 45, 68, 101, 112, 101, 110, 100, 115]⟩, .pointer (some ⟨rb + 1, 5, none⟩), .pointer none] 131)).cell? ⟨wr.heap.size, 1, none⟩ = some (.pointer (some ⟨rb + 1, 5, none⟩)) := by go_cell
          have R0 := HR.out.below ha
          have CK := Lib.hid (CG.out nPre (by decide) _ R0.w)
          have hne0 : wr.heap.size ≠ rb + 1 := by have := HR.out.k.lt; omega
          have hrd := Lib.hid (show rdTo fs P1 2 = rdK fs q 1 by show (match rdTo fs P1 1 with | .error e => Except.error e | .ok q => rdK fs q 1) = _; rw [Hq.out])
          have T0 := HT.out.keep ha
          clear HR ha HT
          go_wp2_with fail
          refine CK.out.mono ?_
          rintro E y1 ⟨rfl, hb⟩
          have R1 := R0.below hb
          have T1 := T0.keep hb
          have x1 := kept hb x0
          have y1' := kept hb y0
          obtain ⟨mx, hmx⟩ : ∃ mx, wr.heap.size = mx := ⟨_, rfl⟩
          rw [hmx] at x1 y1' hne0
          (try rw [hmx])
          have hne : mx ≠ rb + 1 := hne0
          have hgne : rb + 1 ≠ gt := fun e2 => by
            have h1 : y1.heap[rb + 1]? = _ := R1.k
            have h2 : y1.heap[gt]? = _ := T1
            rw [e2, h2] at h1
            injection h1 with h1
            injection h1 with _ h1 _
            exact absurd h1 (by decide)
          have xd : y1.drew.cell? ⟨mx, 1, none⟩ = some (.pointer (some ⟨rb + 1, 5, none⟩)) := x1
          clear t0 t1 t2 x0 y0 hmx hne0 hb R0 T0 CK
          cases hx : readT (sayF fs nPre) with
          | error e0 =>
            have HRE := Lib.hid (show rdTo fs P1 6 = .error e0 from rdTo_error (k := 2) (by rw [hrd.out]; show (readT (sayF fs nPre)).map _ = _; rw [hx]; rfl) 6 (by omega))
            have C := Lib.hid (termsR_no hx y1.drew (HE.out.below (step_below R1.w (below_drew _))) (HS.out.below (step_below R1.w (below_drew _))) (by have := HSZ.out nPre; omega))
            clear hx hrd
            go_upto_region 16 with fail
            go_region_held3 (fun W => W.cell? ⟨mx, 1, none⟩ = some (.pointer (some ⟨rb + 1, 5, none⟩)))
              ((first | assumption | exact xd | exact x2 | exact cell_put hne x2))
              (first | (go_at_call 97; refine C.out.mono ?_; rintro E y2 ⟨rfl, h34, hb2⟩; have x2 := kept hb2 xd; have R2 := R1.below (step_below (below_drew _) hb2); have fk := R2.k.frozen; have kk := R2.k.cell (i := 5) rfl))
            all_goals
              have z := R2.z
              have fz := z.frozen
              have z0 := (z.cell (i := 0) rfl); have z1 := (z.cell (i := 1) rfl); have z2 := (z.cell (i := 2) rfl); have z3 := (z.cell (i := 3) rfl); have z4 := (z.cell (i := 4) rfl); have z5 := (z.cell (i := 5) rfl); have z6 := (z.cell (i := 6) rfl); have z7 := (z.cell (i := 7) rfl); have z8 := (z.cell (i := 8) rfl); have z9 := (z.cell (i := 9) rfl); have z10 := (z.cell (i := 10) rfl); have z11 := (z.cell (i := 11) rfl); have z12 := (z.cell (i := 12) rfl)
              have HB := Lib.hid (R2.w.setCell (p := ⟨rb + 1, 5, none⟩) (Nat.le_trans R2.low (Nat.le_succ rb)) (.slice none 0 0))
              have hlow := R2.low
              have HRR := Lib.hid (rd_error (e := e0) (fs := fs) (by rw [HP.out, HRE.out]))
              have he0 : ¬ e0 = 0 := by omega
              clear z R2 R1 T1 kk
              go_wp2_with fail
              refine bodyPost_ret (v := .tuple #[.agg zeros, errV e0]) (by simp [results, zeros, errV, he0, Tryz.results26, go_sem, z0, z1, z2, z3, z4, z5, z6, z7, z8, z9, z10, z11, z12]) rfl ?_
              exact readIs_err HRR.out (below_set13 HB.out hlow _ _ _ _ _ _ _ _ _ _ _ _ _)
          | ok L =>
            have HRE := Lib.hid (show rdTo fs P1 2 = .ok { q with ahead := L } by rw [hrd.out]; show (readT (sayF fs nPre)).map _ = _; rw [hx]; rfl)
            have C := Lib.hid (termsR_ok hx y1.drew (HE.out.below (step_below R1.w (below_drew _))) (HS.out.below (step_below R1.w (below_drew _))) (by have := HSZ.out nPre; omega))
            clear hx hrd
            go_upto_region 16 with fail
            go_region_held3 (fun W => W.cell? ⟨mx, 1, none⟩ = some (.pointer (some ⟨rb + 1, 5, none⟩)))
              ((first | assumption | exact xd | exact x2 | exact cell_put hne x2))
              (first | (go_at_call 97; refine C.out.mono ?_; rintro E y2 ⟨A, n, c, rfl, hA, hb2⟩; have x2 := kept hb2 xd; have R2 := R1.below (step_below (below_drew _) hb2); have fk := R2.k.frozen; have kk := R2.k.cell (i := 5) rfl))
            all_goals
              have RN := Lib.hid (R2.put (i := 5) (.slice A n c) (q' := { q with ahead := L }) (u1 := v1) (u2 := (.slice A n c)) (u3 := v3) (u4 := v4) (u5 := v5) (u6 := v6) (u7 := v7) (u8 := v8) rfl ⟨R2.v.d, (hA.mono (show rb + 2 ≤ y1.heap.size by have := R1.k.lt; omega)), R2.v.g, R2.v.b, R2.v.r, R2.v.p, R2.v.s, R2.v.l, R2.v.f⟩)
              have TN := Lib.hid ((T1.keep (step_below (below_drew _) hb2)).put (i := 5) (v := .slice A n c) hgne)
              clear R2 R1 T1 kk hA
              go_wp2_with fail
              go_roundw
              case rel => first | exact ⟨2, _, _, _, _, _, _, _, _, _, by omega, by go_num, HRE, RN, TN⟩ | ((repeat apply Exists.intro); exact ⟨⟨2, _, _, _, _, _, _, _, _, _, by omega, by go_num, HRE, RN, TN⟩, rfl⟩)
              case measure => simp [intOf]
        · subst hkk
          have t0 := HT.out.cell (i := 6) rfl
          have t1 := HT.out.cell (i := 7) rfl
          have t2 := HT.out.cell (i := 8) rfl
          have ha := below_alloc wr (.cells #[.string ⟨#[67, 111, 110, 102, 108, 105, 99, 116, 115]⟩, .pointer none, .pointer (some ⟨rb + 1, 6, none⟩)] 131)
          have x0 : (wr.alloc (.cells #[.string ⟨#[67, 111, 110, 102, 108, 105, 99, 116, 115]⟩, .pointer none, .pointer (some ⟨rb + 1, 6, none⟩)] 131)).cell? ⟨wr.heap.size, 2, none⟩ = some (.pointer (some ⟨rb + 1, 6, none⟩)) := by go_cell
          have y0 : (wr.alloc (.cells #[.string ⟨#[67, 111, 110, 102, 108, 105, 99, 116, 115]⟩, .pointer none, .pointer (some ⟨rb + 1, 6, none⟩)] 131)).cell? ⟨wr.heap.size, 1, none⟩ = some (.pointer none) := by go_cell
          have R0 := HR.out.below ha
          have CK := Lib.hid (CG.out nConflicts (by decide) _ R0.w)
          have hne0 : wr.heap.size ≠ rb + 1 := by have := HR.out.k.lt; omega
          have hrd := Lib.hid (show rdTo fs P1 3 = rdK fs q 2 by show (match rdTo fs P1 2 with | .error e => Except.error e | .ok q => rdK fs q 2) = _; rw [Hq.out])
          have T0 := HT.out.keep ha
          clear HR ha HT
          go_wp2_with fail
          refine CK.out.mono ?_
          rintro E y1 ⟨rfl, hb⟩
          have R1 := R0.below hb
          have T1 := T0.keep hb
          have x1 := kept hb x0
          have y1' := kept hb y0
          obtain ⟨mx, hmx⟩ : ∃ mx, wr.heap.size = mx := ⟨_, rfl⟩
          rw [hmx] at x1 y1' hne0
          (try rw [hmx])
          have hne : mx ≠ rb + 1 := hne0
          have hgne : rb + 1 ≠ gt := fun e2 => by
            have h1 : y1.heap[rb + 1]? = _ := R1.k
            have h2 : y1.heap[gt]? = _ := T1
            rw [e2, h2] at h1
            injection h1 with h1
            injection h1 with _ h1 _
            exact absurd h1 (by decide)
          have xd : y1.drew.cell? ⟨mx, 2, none⟩ = some (.pointer (some ⟨rb + 1, 6, none⟩)) := x1
          clear t0 t1 t2 x0 y0 hmx hne0 hb R0 T0 CK
          cases hx : readS (sayF fs nConflicts) with
          | error e0 =>
            have HRE := Lib.hid (show rdTo fs P1 6 = .error e0 from rdTo_error (k := 3) (by rw [hrd.out]; show (readS (sayF fs nConflicts)).map _ = _; rw [hx]; rfl) 6 (by omega))
            have C := Lib.hid (listR_no hx y1.drew (HE.out.below (step_below R1.w (below_drew _))) (HS.out.below (step_below R1.w (below_drew _))) (by have := HSZ.out nConflicts; omega))
            clear hx hrd
            go_upto_region 17 with fail
            go_region_held3 (fun W => W.cell? ⟨mx, 2, none⟩ = some (.pointer (some ⟨rb + 1, 6, none⟩)))
              ((first | assumption | exact xd | exact x2 | exact cell_put hne x2))
              (first | (go_at_call 98; refine C.out.mono ?_; rintro E y2 ⟨rfl, h34, hb2⟩; have x2 := kept hb2 xd; have R2 := R1.below (step_below (below_drew _) hb2); have fk := R2.k.frozen; have kk := R2.k.cell (i := 6) rfl))
            all_goals
              have z := R2.z
              have fz := z.frozen
              have z0 := (z.cell (i := 0) rfl); have z1 := (z.cell (i := 1) rfl); have z2 := (z.cell (i := 2) rfl); have z3 := (z.cell (i := 3) rfl); have z4 := (z.cell (i := 4) rfl); have z5 := (z.cell (i := 5) rfl); have z6 := (z.cell (i := 6) rfl); have z7 := (z.cell (i := 7) rfl); have z8 := (z.cell (i := 8) rfl); have z9 := (z.cell (i := 9) rfl); have z10 := (z.cell (i := 10) rfl); have z11 := (z.cell (i := 11) rfl); have z12 := (z.cell (i := 12) rfl)
              have HB := Lib.hid (R2.w.setCell (p := ⟨rb + 1, 6, none⟩) (Nat.le_trans R2.low (Nat.le_succ rb)) (.slice none 0 0))
              have hlow := R2.low
              have HRR := Lib.hid (rd_error (e := e0) (fs := fs) (by rw [HP.out, HRE.out]))
              have he0 : ¬ e0 = 0 := by omega
              clear z R2 R1 T1 kk
              go_wp2_with fail
              refine bodyPost_ret (v := .tuple #[.agg zeros, errV e0]) (by simp [results, zeros, errV, he0, Tryz.results26, go_sem, z0, z1, z2, z3, z4, z5, z6, z7, z8, z9, z10, z11, z12]) rfl ?_
              exact readIs_err HRR.out (below_set13 HB.out hlow _ _ _ _ _ _ _ _ _ _ _ _ _)
          | ok L =>
            have HRE := Lib.hid (show rdTo fs P1 3 = .ok { q with ag := L } by rw [hrd.out]; show (readS (sayF fs nConflicts)).map _ = _; rw [hx]; rfl)
            have C := Lib.hid (listR_ok hx y1.drew (HE.out.below (step_below R1.w (below_drew _))) (HS.out.below (step_below R1.w (below_drew _))) (by have := HSZ.out nConflicts; omega))
            clear hx hrd
            go_upto_region 17 with fail
            go_region_held3 (fun W => W.cell? ⟨mx, 2, none⟩ = some (.pointer (some ⟨rb + 1, 6, none⟩)))
              ((first | assumption | exact xd | exact x2 | exact cell_put hne x2))
              (first | (go_at_call 98; refine C.out.mono ?_; rintro E y2 ⟨A, n, c, rfl, hA, hb2⟩; have x2 := kept hb2 xd; have R2 := R1.below (step_below (below_drew _) hb2); have fk := R2.k.frozen; have kk := R2.k.cell (i := 6) rfl))
            all_goals
              have RN := Lib.hid (R2.put (i := 6) (.slice A n c) (q' := { q with ag := L }) (u1 := v1) (u2 := v2) (u3 := (.slice A n c)) (u4 := v4) (u5 := v5) (u6 := v6) (u7 := v7) (u8 := v8) rfl ⟨R2.v.d, R2.v.a, (hA.mono (show rb + 2 ≤ y1.heap.size by have := R1.k.lt; omega)), R2.v.b, R2.v.r, R2.v.p, R2.v.s, R2.v.l, R2.v.f⟩)
              have TN := Lib.hid ((T1.keep (step_below (below_drew _) hb2)).put (i := 6) (v := .slice A n c) hgne)
              clear R2 R1 T1 kk hA
              go_wp2_with fail
              go_roundw
              case rel => first | exact ⟨3, _, _, _, _, _, _, _, _, _, by omega, by go_num, HRE, RN, TN⟩ | ((repeat apply Exists.intro); exact ⟨⟨3, _, _, _, _, _, _, _, _, _, by omega, by go_num, HRE, RN, TN⟩, rfl⟩)
              case measure => simp [intOf]
        · subst hkk
          have t0 := HT.out.cell (i := 9) rfl
          have t1 := HT.out.cell (i := 10) rfl
          have t2 := HT.out.cell (i := 11) rfl
          have ha := below_alloc wr (.cells #[.string ⟨#[66, 114, 101, 97, 107, 115]⟩, .pointer none, .pointer (some ⟨rb + 1, 7, none⟩)] 131)
          have x0 : (wr.alloc (.cells #[.string ⟨#[66, 114, 101, 97, 107, 115]⟩, .pointer none, .pointer (some ⟨rb + 1, 7, none⟩)] 131)).cell? ⟨wr.heap.size, 2, none⟩ = some (.pointer (some ⟨rb + 1, 7, none⟩)) := by go_cell
          have y0 : (wr.alloc (.cells #[.string ⟨#[66, 114, 101, 97, 107, 115]⟩, .pointer none, .pointer (some ⟨rb + 1, 7, none⟩)] 131)).cell? ⟨wr.heap.size, 1, none⟩ = some (.pointer none) := by go_cell
          have R0 := HR.out.below ha
          have CK := Lib.hid (CG.out nBreaks (by decide) _ R0.w)
          have hne0 : wr.heap.size ≠ rb + 1 := by have := HR.out.k.lt; omega
          have hrd := Lib.hid (show rdTo fs P1 4 = rdK fs q 3 by show (match rdTo fs P1 3 with | .error e => Except.error e | .ok q => rdK fs q 3) = _; rw [Hq.out])
          have T0 := HT.out.keep ha
          clear HR ha HT
          go_wp2_with fail
          refine CK.out.mono ?_
          rintro E y1 ⟨rfl, hb⟩
          have R1 := R0.below hb
          have T1 := T0.keep hb
          have x1 := kept hb x0
          have y1' := kept hb y0
          obtain ⟨mx, hmx⟩ : ∃ mx, wr.heap.size = mx := ⟨_, rfl⟩
          rw [hmx] at x1 y1' hne0
          (try rw [hmx])
          have hne : mx ≠ rb + 1 := hne0
          have hgne : rb + 1 ≠ gt := fun e2 => by
            have h1 : y1.heap[rb + 1]? = _ := R1.k
            have h2 : y1.heap[gt]? = _ := T1
            rw [e2, h2] at h1
            injection h1 with h1
            injection h1 with _ h1 _
            exact absurd h1 (by decide)
          have xd : y1.drew.cell? ⟨mx, 2, none⟩ = some (.pointer (some ⟨rb + 1, 7, none⟩)) := x1
          clear t0 t1 t2 x0 y0 hmx hne0 hb R0 T0 CK
          cases hx : readS (sayF fs nBreaks) with
          | error e0 =>
            have HRE := Lib.hid (show rdTo fs P1 6 = .error e0 from rdTo_error (k := 4) (by rw [hrd.out]; show (readS (sayF fs nBreaks)).map _ = _; rw [hx]; rfl) 6 (by omega))
            have C := Lib.hid (listR_no hx y1.drew (HE.out.below (step_below R1.w (below_drew _))) (HS.out.below (step_below R1.w (below_drew _))) (by have := HSZ.out nBreaks; omega))
            clear hx hrd
            go_upto_region 17 with fail
            go_region_held3 (fun W => W.cell? ⟨mx, 2, none⟩ = some (.pointer (some ⟨rb + 1, 7, none⟩)))
              ((first | assumption | exact xd | exact x2 | exact cell_put hne x2))
              (first | (go_at_call 98; refine C.out.mono ?_; rintro E y2 ⟨rfl, h34, hb2⟩; have x2 := kept hb2 xd; have R2 := R1.below (step_below (below_drew _) hb2); have fk := R2.k.frozen; have kk := R2.k.cell (i := 7) rfl))
            all_goals
              have z := R2.z
              have fz := z.frozen
              have z0 := (z.cell (i := 0) rfl); have z1 := (z.cell (i := 1) rfl); have z2 := (z.cell (i := 2) rfl); have z3 := (z.cell (i := 3) rfl); have z4 := (z.cell (i := 4) rfl); have z5 := (z.cell (i := 5) rfl); have z6 := (z.cell (i := 6) rfl); have z7 := (z.cell (i := 7) rfl); have z8 := (z.cell (i := 8) rfl); have z9 := (z.cell (i := 9) rfl); have z10 := (z.cell (i := 10) rfl); have z11 := (z.cell (i := 11) rfl); have z12 := (z.cell (i := 12) rfl)
              have HB := Lib.hid (R2.w.setCell (p := ⟨rb + 1, 7, none⟩) (Nat.le_trans R2.low (Nat.le_succ rb)) (.slice none 0 0))
              have hlow := R2.low
              have HRR := Lib.hid (rd_error (e := e0) (fs := fs) (by rw [HP.out, HRE.out]))
              have he0 : ¬ e0 = 0 := by omega
              clear z R2 R1 T1 kk
              go_wp2_with fail
              refine bodyPost_ret (v := .tuple #[.agg zeros, errV e0]) (by simp [results, zeros, errV, he0, Tryz.results26, go_sem, z0, z1, z2, z3, z4, z5, z6, z7, z8, z9, z10, z11, z12]) rfl ?_
              exact readIs_err HRR.out (below_set13 HB.out hlow _ _ _ _ _ _ _ _ _ _ _ _ _)
          | ok L =>
            have HRE := Lib.hid (show rdTo fs P1 4 = .ok { q with br := L } by rw [hrd.out]; show (readS (sayF fs nBreaks)).map _ = _; rw [hx]; rfl)
            have C := Lib.hid (listR_ok hx y1.drew (HE.out.below (step_below R1.w (below_drew _))) (HS.out.below (step_below R1.w (below_drew _))) (by have := HSZ.out nBreaks; omega))
            clear hx hrd
            go_upto_region 17 with fail
            go_region_held3 (fun W => W.cell? ⟨mx, 2, none⟩ = some (.pointer (some ⟨rb + 1, 7, none⟩)))
              ((first | assumption | exact xd | exact x2 | exact cell_put hne x2))
              (first | (go_at_call 98; refine C.out.mono ?_; rintro E y2 ⟨A, n, c, rfl, hA, hb2⟩; have x2 := kept hb2 xd; have R2 := R1.below (step_below (below_drew _) hb2); have fk := R2.k.frozen; have kk := R2.k.cell (i := 7) rfl))
            all_goals
              have RN := Lib.hid (R2.put (i := 7) (.slice A n c) (q' := { q with br := L }) (u1 := v1) (u2 := v2) (u3 := v3) (u4 := (.slice A n c)) (u5 := v5) (u6 := v6) (u7 := v7) (u8 := v8) rfl ⟨R2.v.d, R2.v.a, R2.v.g, (hA.mono (show rb + 2 ≤ y1.heap.size by have := R1.k.lt; omega)), R2.v.r, R2.v.p, R2.v.s, R2.v.l, R2.v.f⟩)
              have TN := Lib.hid ((T1.keep (step_below (below_drew _) hb2)).put (i := 7) (v := .slice A n c) hgne)
              clear R2 R1 T1 kk hA
              go_wp2_with fail
              go_roundw
              case rel => first | exact ⟨4, _, _, _, _, _, _, _, _, _, by omega, by go_num, HRE, RN, TN⟩ | ((repeat apply Exists.intro); exact ⟨⟨4, _, _, _, _, _, _, _, _, _, by omega, by go_num, HRE, RN, TN⟩, rfl⟩)
              case measure => simp [intOf]
        · subst hkk
          have t0 := HT.out.cell (i := 12) rfl
          have t1 := HT.out.cell (i := 13) rfl
          have t2 := HT.out.cell (i := 14) rfl
          have ha := below_alloc wr (.cells #[.string ⟨#[82, 101, 112, 108, 97, 99, 101, 115]⟩, .pointer none, .pointer (some ⟨rb + 1, 8, none⟩)] 131)
          have x0 : (wr.alloc (.cells #[.string ⟨#[82, 101, 112, 108, 97, 99, 101, 115]⟩, .pointer none, .pointer (some ⟨rb + 1, 8, none⟩)] 131)).cell? ⟨wr.heap.size, 2, none⟩ = some (.pointer (some ⟨rb + 1, 8, none⟩)) := by go_cell
          have y0 : (wr.alloc (.cells #[.string ⟨#[82, 101, 112, 108, 97, 99, 101, 115]⟩, .pointer none, .pointer (some ⟨rb + 1, 8, none⟩)] 131)).cell? ⟨wr.heap.size, 1, none⟩ = some (.pointer none) := by go_cell
          have R0 := HR.out.below ha
          have CK := Lib.hid (CG.out nReplaces (by decide) _ R0.w)
          have hne0 : wr.heap.size ≠ rb + 1 := by have := HR.out.k.lt; omega
          have hrd := Lib.hid (show rdTo fs P1 5 = rdK fs q 4 by show (match rdTo fs P1 4 with | .error e => Except.error e | .ok q => rdK fs q 4) = _; rw [Hq.out])
          have T0 := HT.out.keep ha
          clear HR ha HT
          go_wp2_with fail
          refine CK.out.mono ?_
          rintro E y1 ⟨rfl, hb⟩
          have R1 := R0.below hb
          have T1 := T0.keep hb
          have x1 := kept hb x0
          have y1' := kept hb y0
          obtain ⟨mx, hmx⟩ : ∃ mx, wr.heap.size = mx := ⟨_, rfl⟩
          rw [hmx] at x1 y1' hne0
          (try rw [hmx])
          have hne : mx ≠ rb + 1 := hne0
          have hgne : rb + 1 ≠ gt := fun e2 => by
            have h1 : y1.heap[rb + 1]? = _ := R1.k
            have h2 : y1.heap[gt]? = _ := T1
            rw [e2, h2] at h1
            injection h1 with h1
            injection h1 with _ h1 _
            exact absurd h1 (by decide)
          have xd : y1.drew.cell? ⟨mx, 2, none⟩ = some (.pointer (some ⟨rb + 1, 8, none⟩)) := x1
          clear t0 t1 t2 x0 y0 hmx hne0 hb R0 T0 CK
          cases hx : readS (sayF fs nReplaces) with
          | error e0 =>
            have HRE := Lib.hid (show rdTo fs P1 6 = .error e0 from rdTo_error (k := 5) (by rw [hrd.out]; show (readS (sayF fs nReplaces)).map _ = _; rw [hx]; rfl) 6 (by omega))
            have C := Lib.hid (listR_no hx y1.drew (HE.out.below (step_below R1.w (below_drew _))) (HS.out.below (step_below R1.w (below_drew _))) (by have := HSZ.out nReplaces; omega))
            clear hx hrd
            go_upto_region 17 with fail
            go_region_held3 (fun W => W.cell? ⟨mx, 2, none⟩ = some (.pointer (some ⟨rb + 1, 8, none⟩)))
              ((first | assumption | exact xd | exact x2 | exact cell_put hne x2))
              (first | (go_at_call 98; refine C.out.mono ?_; rintro E y2 ⟨rfl, h34, hb2⟩; have x2 := kept hb2 xd; have R2 := R1.below (step_below (below_drew _) hb2); have fk := R2.k.frozen; have kk := R2.k.cell (i := 8) rfl))
            all_goals
              have z := R2.z
              have fz := z.frozen
              have z0 := (z.cell (i := 0) rfl); have z1 := (z.cell (i := 1) rfl); have z2 := (z.cell (i := 2) rfl); have z3 := (z.cell (i := 3) rfl); have z4 := (z.cell (i := 4) rfl); have z5 := (z.cell (i := 5) rfl); have z6 := (z.cell (i := 6) rfl); have z7 := (z.cell (i := 7) rfl); have z8 := (z.cell (i := 8) rfl); have z9 := (z.cell (i := 9) rfl); have z10 := (z.cell (i := 10) rfl); have z11 := (z.cell (i := 11) rfl); have z12 := (z.cell (i := 12) rfl)
              have HB := Lib.hid (R2.w.setCell (p := ⟨rb + 1, 8, none⟩) (Nat.le_trans R2.low (Nat.le_succ rb)) (.slice none 0 0))
              have hlow := R2.low
              have HRR := Lib.hid (rd_error (e := e0) (fs := fs) (by rw [HP.out, HRE.out]))
              have he0 : ¬ e0 = 0 := by omega
              clear z R2 R1 T1 kk
              go_wp2_with fail
              refine bodyPost_ret (v := .tuple #[.agg zeros, errV e0]) (by simp [results, zeros, errV, he0, Tryz.results26, go_sem, z0, z1, z2, z3, z4, z5, z6, z7, z8, z9, z10, z11, z12]) rfl ?_
              exact readIs_err HRR.out (below_set13 HB.out hlow _ _ _ _ _ _ _ _ _ _ _ _ _)
          | ok L =>
            have HRE := Lib.hid (show rdTo fs P1 5 = .ok { q with re := L } by rw [hrd.out]; show (readS (sayF fs nReplaces)).map _ = _; rw [hx]; rfl)
            have C := Lib.hid (listR_ok hx y1.drew (HE.out.below (step_below R1.w (below_drew _))) (HS.out.below (step_below R1.w (below_drew _))) (by have := HSZ.out nReplaces; omega))
            clear hx hrd
            go_upto_region 17 with fail
            go_region_held3 (fun W => W.cell? ⟨mx, 2, none⟩ = some (.pointer (some ⟨rb + 1, 8, none⟩)))
              ((first | assumption | exact xd | exact x2 | exact cell_put hne x2))
              (first | (go_at_call 98; refine C.out.mono ?_; rintro E y2 ⟨A, n, c, rfl, hA, hb2⟩; have x2 := kept hb2 xd; have R2 := R1.below (step_below (below_drew _) hb2); have fk := R2.k.frozen; have kk := R2.k.cell (i := 8) rfl))
            all_goals
              have RN := Lib.hid (R2.put (i := 8) (.slice A n c) (q' := { q with re := L }) (u1 := v1) (u2 := v2) (u3 := v3) (u4 := v4) (u5 := (.slice A n c)) (u6 := v6) (u7 := v7) (u8 := v8) rfl ⟨R2.v.d, R2.v.a, R2.v.g, R2.v.b, (hA.mono (show rb + 2 ≤ y1.heap.size by have := R1.k.lt; omega)), R2.v.p, R2.v.s, R2.v.l, R2.v.f⟩)
              have TN := Lib.hid ((T1.keep (step_below (below_drew _) hb2)).put (i := 8) (v := .slice A n c) hgne)
              clear R2 R1 T1 kk hA
              go_wp2_with fail
              go_roundw
              case rel => first | exact ⟨5, _, _, _, _, _, _, _, _, _, by omega, by go_num, HRE, RN, TN⟩ | ((repeat apply Exists.intro); exact ⟨⟨5, _, _, _, _, _, _, _, _, _, by omega, by go_num, HRE, RN, TN⟩, rfl⟩)
              case measure => simp [intOf]
        · subst hkk
          have t0 := HT.out.cell (i := 15) rfl
          have t1 := HT.out.cell (i := 16) rfl
          have t2 := HT.out.cell (i := 17) rfl
          have ha := below_alloc wr (.cells #[.string ⟨#[80, 114, 111, 118, 105, 100, 101, 115]⟩, .pointer none, .pointer (some ⟨rb + 1, 9, none⟩)] 131)
          have x0 : (wr.alloc (.cells #[.string ⟨#[80, 114, 111, 118, 105, 100, 101, 115]⟩, .pointer none, .pointer (some ⟨rb + 1, 9, none⟩)] 131)).cell? ⟨wr.heap.size, 2, none⟩ = some (.pointer (some ⟨rb + 1, 9, none⟩)) := by go_cell
          have y0 : (wr.alloc (.cells #[.string ⟨#[80, 114, 111, 118, 105, 100, 101, 115]⟩, .pointer none, .pointer (some ⟨rb + 1, 9, none⟩)] 131)).cell? ⟨wr.heap.size, 1, none⟩ = some (.pointer none) := by go_cell
          have R0 := HR.out.below ha
          have CK := Lib.hid (CG.out nProvides (by decide) _ R0.w)
          have hne0 : wr.heap.size ≠ rb + 1 := by have := HR.out.k.lt; omega
          have hrd := Lib.hid (show rdTo fs P1 6 = rdK fs q 5 by show (match rdTo fs P1 5 with | .error e => Except.error e | .ok q => rdK fs q 5) = _; rw [Hq.out])
          have T0 := HT.out.keep ha
          clear HR ha HT
          go_wp2_with fail
          refine CK.out.mono ?_
          rintro E y1 ⟨rfl, hb⟩
          have R1 := R0.below hb
          have T1 := T0.keep hb
          have x1 := kept hb x0
          have y1' := kept hb y0
          obtain ⟨mx, hmx⟩ : ∃ mx, wr.heap.size = mx := ⟨_, rfl⟩
          rw [hmx] at x1 y1' hne0
          (try rw [hmx])
          have hne : mx ≠ rb + 1 := hne0
          have hgne : rb + 1 ≠ gt := fun e2 => by
            have h1 : y1.heap[rb + 1]? = _ := R1.k
            have h2 : y1.heap[gt]? = _ := T1
            rw [e2, h2] at h1
            injection h1 with h1
            injection h1 with _ h1 _
            exact absurd h1 (by decide)
          have xd : y1.drew.cell? ⟨mx, 2, none⟩ = some (.pointer (some ⟨rb + 1, 9, none⟩)) := x1
          clear t0 t1 t2 x0 y0 hmx hne0 hb R0 T0 CK
          cases hx : readS (sayF fs nProvides) with
          | error e0 =>
            have HRE := Lib.hid (show rdTo fs P1 6 = .error e0 from rdTo_error (k := 6) (by rw [hrd.out]; show (readS (sayF fs nProvides)).map _ = _; rw [hx]; rfl) 6 (by omega))
            have C := Lib.hid (listR_no hx y1.drew (HE.out.below (step_below R1.w (below_drew _))) (HS.out.below (step_below R1.w (below_drew _))) (by have := HSZ.out nProvides; omega))
            clear hx hrd
            go_upto_region 17 with fail
            go_region_held3 (fun W => W.cell? ⟨mx, 2, none⟩ = some (.pointer (some ⟨rb + 1, 9, none⟩)))
              ((first | assumption | exact xd | exact x2 | exact cell_put hne x2))
              (first | (go_at_call 98; refine C.out.mono ?_; rintro E y2 ⟨rfl, h34, hb2⟩; have x2 := kept hb2 xd; have R2 := R1.below (step_below (below_drew _) hb2); have fk := R2.k.frozen; have kk := R2.k.cell (i := 9) rfl))
            all_goals
              have z := R2.z
              have fz := z.frozen
              have z0 := (z.cell (i := 0) rfl); have z1 := (z.cell (i := 1) rfl); have z2 := (z.cell (i := 2) rfl); have z3 := (z.cell (i := 3) rfl); have z4 := (z.cell (i := 4) rfl); have z5 := (z.cell (i := 5) rfl); have z6 := (z.cell (i := 6) rfl); have z7 := (z.cell (i := 7) rfl); have z8 := (z.cell (i := 8) rfl); have z9 := (z.cell (i := 9) rfl); have z10 := (z.cell (i := 10) rfl); have z11 := (z.cell (i := 11) rfl); have z12 := (z.cell (i := 12) rfl)
              have HB := Lib.hid (R2.w.setCell (p := ⟨rb + 1, 9, none⟩) (Nat.le_trans R2.low (Nat.le_succ rb)) (.slice none 0 0))
              have hlow := R2.low
              have HRR := Lib.hid (rd_error (e := e0) (fs := fs) (by rw [HP.out, HRE.out]))
              have he0 : ¬ e0 = 0 := by omega
              clear z R2 R1 T1 kk
              go_wp2_with fail
              refine bodyPost_ret (v := .tuple #[.agg zeros, errV e0]) (by simp [results, zeros, errV, he0, Tryz.results26, go_sem, z0, z1, z2, z3, z4, z5, z6, z7, z8, z9, z10, z11, z12]) rfl ?_
              exact readIs_err HRR.out (below_set13 HB.out hlow _ _ _ _ _ _ _ _ _ _ _ _ _)
          | ok L =>
            have HRE := Lib.hid (show rdTo fs P1 6 = .ok { q with pr := L } by rw [hrd.out]; show (readS (sayF fs nProvides)).map _ = _; rw [hx]; rfl)
            have C := Lib.hid (listR_ok hx y1.drew (HE.out.below (step_below R1.w (below_drew _))) (HS.out.below (step_below R1.w (below_drew _))) (by have := HSZ.out nProvides; omega))
            clear hx hrd
            go_upto_region 17 with fail
            go_region_held3 (fun W => W.cell? ⟨mx, 2, none⟩ = some (.pointer (some ⟨rb + 1, 9, none⟩)))
              ((first | assumption | exact xd | exact x2 | exact cell_put hne x2))
              (first | (go_at_call 98; refine C.out.mono ?_; rintro E y2 ⟨A, n, c, rfl, hA, hb2⟩; have x2 := kept hb2 xd; have R2 := R1.below (step_below (below_drew _) hb2); have fk := R2.k.frozen; have kk := R2.k.cell (i := 9) rfl))
            all_goals
              have RN := Lib.hid (R2.put (i := 9) (.slice A n c) (q' := { q with pr := L }) (u1 := v1) (u2 := v2) (u3 := v3) (u4 := v4) (u5 := v5) (u6 := (.slice A n c)) (u7 := v7) (u8 := v8) rfl ⟨R2.v.d, R2.v.a, R2.v.g, R2.v.b, R2.v.r, (hA.mono (show rb + 2 ≤ y1.heap.size by have := R1.k.lt; omega)), R2.v.s, R2.v.l, R2.v.f⟩)
              have TN := Lib.hid ((T1.keep (step_below (below_drew _) hb2)).put (i := 9) (v := .slice A n c) hgne)
              clear R2 R1 T1 kk hA
              go_wp2_with fail
              go_roundw
              case rel => first | exact ⟨6, _, _, _, _, _, _, _, _, _, by omega, by go_num, HRE, RN, TN⟩ | ((repeat apply Exists.intro); exact ⟨⟨6, _, _, _, _, _, _, _, _, _, by omega, by go_num, HRE, RN, TN⟩, rfl⟩)
              case measure => simp [intOf]
      · obtain rfl : k = 6 := by omega
        obtain ⟨A1, m1, c1, rfl⟩ := ask_slice HR.out.v.d.1
        obtain ⟨A2, m2, c2, rfl⟩ := ask_slice HR.out.v.a.1
        obtain ⟨A3, m3, c3, rfl⟩ := term_slice HR.out.v.g.1
        obtain ⟨A4, m4, c4, rfl⟩ := term_slice HR.out.v.b.1
        obtain ⟨A5, m5, c5, rfl⟩ := term_slice HR.out.v.r.1
        obtain ⟨A6, m6, c6, rfl⟩ := term_slice HR.out.v.p.1
        have R := HR.out
        have HQ := Lib.hid (show rdTo fs P1 6 = .ok q from Hq.out)
        have HPQ := Lib.hid (show readP fs = if linesOk fs nConffiles && linesOk fs nTriggers then (if saysOk (rdEnd fs q) then .ok (rdEnd fs q) else .error 1) else .error 3 by rw [HP.out, HQ.out])
        have HFT := Lib.hid (HFIT.out q HQ.out)
        have HQE := Lib.hid (show q.e = e by
          obtain ⟨_, _, _, _, _, _, _, _, _, _, _, _, hqq⟩ := six_read HQ.out
          rw [hqq]; exact HPE.out)
        have CA := Lib.hid (CL.out nConffiles (by decide) wr R.w)
        clear HR HT Hq HP HFIT
        go_wp2_with fail
        refine CA.out.mono ?_
        rintro E y1 ⟨Aa, na, ca, rfl, hsa, hfa, hb⟩
        have R1 := R.below hb
        have fk := R1.k.frozen
        have kk := R1.k.cell (i := 10) rfl
        have hlt := R.k.lt
        have R2 := R1.put (i := 10) (.slice Aa na ca) (q' := { q with se := linesV fs nConffiles }) (u1 := (.slice A1 m1 c1)) (u2 := (.slice A2 m2 c2)) (u3 := (.slice A3 m3 c3)) (u4 := (.slice A4 m4 c4)) (u5 := (.slice A5 m5 c5)) (u6 := (.slice A6 m6 c6)) (u7 := (.slice Aa na ca)) (u8 := v8) rfl ⟨R1.v.d, R1.v.a, R1.v.g, R1.v.b, R1.v.r, R1.v.p, ⟨hsa, fun b off n c hv => Nat.le_trans (show rb + 2 ≤ wr.heap.size by omega) (hfa b off n c hv)⟩, R1.v.l, R1.v.f⟩
        have CB := Lib.hid (CL.out nTriggers (by decide) _ R2.w)
        have hlt2 := R2.k.lt
        clear R1 R CA hsa hfa hb
        go_wp2_with fail
        refine CB.out.mono ?_
        rintro E y2 ⟨Ab, nb, cb, rfl, hsb, hfb, hb⟩
        have R3 := R2.below hb
        clear fk kk
        have fk := R3.k.frozen
        have kk := R3.k.cell (i := 11) rfl
        have R4 := R3.put (i := 11) (.slice Ab nb cb) (q' := rdEnd fs q) (u1 := (.slice A1 m1 c1)) (u2 := (.slice A2 m2 c2)) (u3 := (.slice A3 m3 c3)) (u4 := (.slice A4 m4 c4)) (u5 := (.slice A5 m5 c5)) (u6 := (.slice A6 m6 c6)) (u7 := (.slice Aa na ca)) (u8 := (.slice Ab nb cb)) rfl ⟨R3.v.d, R3.v.a, R3.v.g, R3.v.b, R3.v.r, R3.v.p, R3.v.s, ⟨hsb, fun b off n c hv => Nat.le_trans (show rb + 2 ≤ _ by omega) (hfb b off n c hv)⟩, R3.v.f⟩
        obtain ⟨W9, hW9⟩ : ∃ x, x = y2.setCell ⟨rb + 1, 11, none⟩ (.slice Ab nb cb) := ⟨_, rfl⟩
        rw [← hW9] at R4
        have HR4 := Lib.hid R4
        obtain ⟨ba, hba⟩ : ∃ ba, linesOk fs nConffiles = ba := ⟨_, rfl⟩
        obtain ⟨bb, hbb⟩ : ∃ bb, linesOk fs nTriggers = bb := ⟨_, rfl⟩
        rw [hba, hbb] at HPQ
        (try rw [hba])
        (try rw [hbb])
        clear R2 R3 CB hsb hfb hb hba hbb hlt hlt2
        go_upto_region 24 with fail
        (try rw [← hW9])
        clear hW9 fk kk
        have kb := HR4.out.k
        have z := HR4.out.z
        have fz := z.frozen
        have z0 := (z.cell (i := 0) rfl); have z1 := (z.cell (i := 1) rfl); have z2 := (z.cell (i := 2) rfl); have z3 := (z.cell (i := 3) rfl); have z4 := (z.cell (i := 4) rfl); have z5 := (z.cell (i := 5) rfl); have z6 := (z.cell (i := 6) rfl); have z7 := (z.cell (i := 7) rfl); have z8 := (z.cell (i := 8) rfl); have z9 := (z.cell (i := 9) rfl); have z10 := (z.cell (i := 10) rfl); have z11 := (z.cell (i := 11) rfl); have z12 := (z.cell (i := 12) rfl)
        have hlow := HR4.out.low
        have HB := Lib.hid HR4.out.w
        cases hab : (ba && bb) with
        | false =>
          have HRR := Lib.hid (rd_error (e := 3) (fs := fs) (by rw [HPQ.out, hab]; rfl))
          clear z kb R4
          cases ba <;> cases bb <;> first | (cases hab; done) | (
            go_wp2_with fail
            refine bodyPost_ret (v := .tuple #[.agg zeros, errV 3]) (by simp [results, zeros, errV, Tryz.results26, go_sem, z0, z1, z2, z3, z4, z5, z6, z7, z8, z9, z10, z11, z12]) rfl ?_
            exact readIs_err HRR.out (below_set13 HB.out hlow _ _ _ _ _ _ _ _ _ _ _ _ _))
        | true =>
          obtain ⟨rfl, rfl⟩ := Bool.and_eq_true_iff.1 hab
          obtain ⟨bs, hbs⟩ : ∃ bs, saysOk (rdEnd fs q) = bs := ⟨_, rfl⟩
          have HPK := Lib.hid (packAt_of R4.v (show -9223372036854775808 ≤ q.e by rw [HQE.out]; have := HEE.out; omega) (show q.e ≤ 9223372036854775807 by rw [HQE.out]; have := HEE.out; omega))
          have CR := Lib.hid (recRight_calls _ (rdEnd fs q) W9 (HE.out.below HB.out) HPK.out HFT.out)
          rw [hbs] at CR
          obtain ⟨k0, k1, k2, k3, k4, k5, k6, k7, k8, k9, k10, k11, k12⟩ := kb.box
          have HPZ := Lib.hid (show readP fs = if bs then .ok (rdEnd fs q) else .error 1 by rw [HPQ.out, hbs]; rfl)
          clear kb R4 hbs hab z z0 z1 z2 z3 z4 z5 z6 z7 z8 z9 z10 z11 z12 fz
          go_wp2_with fail
          refine CR.out.mono ?_
          rintro E wz ⟨rfl, hb⟩
          have RZ := HR4.out.below hb
          have HRZ := Lib.hid RZ
          have z := RZ.z
          have fz := z.frozen
          have z0 := (z.cell (i := 0) rfl); have z1 := (z.cell (i := 1) rfl); have z2 := (z.cell (i := 2) rfl); have z3 := (z.cell (i := 3) rfl); have z4 := (z.cell (i := 4) rfl); have z5 := (z.cell (i := 5) rfl); have z6 := (z.cell (i := 6) rfl); have z7 := (z.cell (i := 7) rfl); have z8 := (z.cell (i := 8) rfl); have z9 := (z.cell (i := 9) rfl); have z10 := (z.cell (i := 10) rfl); have z11 := (z.cell (i := 11) rfl); have z12 := (z.cell (i := 12) rfl)
          have kb := RZ.k
          clear k0 k1 k2 k3 k4 k5 k6 k7 k8 k9 k10 k11 k12
          obtain ⟨k0, k1, k2, k3, k4, k5, k6, k7, k8, k9, k10, k11, k12⟩ := kb.box
          have HBZ := Lib.hid RZ.w
          clear RZ hb CR z kb
          cases bs with
          | false =>
            have HRR := Lib.hid (rd_error (e := 1) (fs := fs) (by rw [HPZ.out]; rfl))
            go_wp2_with fail
            refine bodyPost_ret (v := .tuple #[.agg zeros, errV 1]) (by simp [results, zeros, errV, Tryz.results26, go_sem, z0, z1, z2, z3, z4, z5, z6, z7, z8, z9, z10, z11, z12]) rfl ?_
            exact readIs_err HRR.out (below_set13 HBZ.out hlow _ _ _ _ _ _ _ _ _ _ _ _ _)
          | true =>
            have HRR := Lib.hid (rd_ok (p := rdEnd fs q) (fs := fs) (by rw [HPZ.out]; rfl))
            go_wp2_with fail
            refine bodyPost_ret (v := .tuple #[.agg (cells13 (rdEnd fs q) (.slice A1 m1 c1) (.slice A2 m2 c2) (.slice A3 m3 c3) (.slice A4 m4 c4) (.slice A5 m5 c5) (.slice A6 m6 c6) (.slice Aa na ca) (.slice Ab nb cb)), .nilIface]) (by simp [results, cells13, Tryz.results26, go_sem, z0, z1, z2, z3, z4, z5, z6, z7, z8, z9, z10, z11, z12]) rfl ?_
            refine ⟨_, by rw [HRR.out.1]; rfl, ?_, below_set13 HBZ.out hlow _ _ _ _ _ _ _ _ _ _ _ _ _, by rw [HRR.out.2]; exact ⟨_, _, _, _, _, _, _, _, rfl, (HRZ.out.v.keep (fromAs_set13 (by omega) _ _ _ _ _ _ _ _ _ _ _ _ _)).low (by have := HRZ.out.low; omega)⟩⟩
            rw [HRR.out.2]
            exact packAt_of (HRZ.out.v.keep (fromAs_set13 (by omega) _ _ _ _ _ _ _ _ _ _ _ _ _)) (show -9223372036854775808 ≤ q.e by rw [HQE.out]; have := HEE.out; omega) (show q.e ≤ 9223372036854775807 by rw [HQE.out]; have := HEE.out; omega)
end Go.Proofs.YtodbbfgkclkpgaaGreatDoor

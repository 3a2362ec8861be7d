/- ShelfPlays: both shelves in memory, round by round. · law.flat, law.terms: is what is asked for short enough to be held. · law.sameTerms, law.sameAsked: of the same that was asked for they say so. -/
import Derived.Test.YtofogjfemlhffaaGreatDoorSPK36
import Derived.Test.YtofogjfemlhffaaGreatDoorSPK34
import Derived.Test.YtofogjfemlhffaaGreatDoorSPK37
import Derived.Test.YtofogjfemlhffaaGreatDoorSPK38
import Derived.Test.YtofogjfemlhffaaGreatDoorSPK3
import Derived.Deep.QuietTactic
import Derived.BigQuiet
import Derived.Deep.RegionHeld3
namespace Go.Proofs.YtofogjfemlhffaaGreatDoor
open Go Go.RowKit Go.Maps

theorem foot_lt {W : World} {d i : Nat} {D : Dk} (h : DiskAt W d D) (hf : foot W d i) : i < W.heap.size := by
  obtain ⟨m0, m1, hb, hm⟩ := h
  have e0 := hb.cell (i := 0) rfl
  have e1 := hb.cell (i := 1) rfl
  rcases hf with rfl | h0 | h1
  · exact hb.lt
  · rw [e0] at h0
    injection h0 with h0
    rcases hm with ⟨q, _⟩ | ⟨b0, b1, q0, _, _, k0, _⟩
    · rw [q] at h0; cases h0
    · rw [q0] at h0
      injection h0 with h0
      injection h0 with h0
      exact h0 ▸ k0.lt
  · rw [e1] at h1
    injection h1 with h1
    rcases hm with ⟨_, q, _⟩ | ⟨b0, b1, _, q1, _, _, k1⟩
    · rw [q] at h1; cases h1
    · rw [q1] at h1
      injection h1 with h1
      injection h1 with h1
      exact h1 ▸ k1.lt
theorem disk_of {W W' : World} {d : Nat} {D : Dk} (h : DiskAt W d D) (hb : ∀ i, foot W d i → W'.heap[i]? = W.heap[i]?) : DiskAt W' d D := by
  obtain ⟨m0, m1, hx, hm⟩ := h
  have e0 := hx.cell (i := 0) rfl
  have e1 := hx.cell (i := 1) rfl
  refine ⟨m0, m1, (hb d (.inl rfl)).trans hx, ?_⟩
  rcases hm with q | ⟨b0, b1, q0, q1, hne, k0, k1⟩
  · exact .inl q
  · subst q0 q1
    exact .inr ⟨b0, b1, rfl, rfl, hne, k0.keep (hb _ (.inr (.inl e0))), k1.keep (hb _ (.inr (.inr e1)))⟩
theorem cell_map {W : World} {b : Nat} {M : Fm} {a : Addr} {v : Value} (h : MapAt W b M) (hc : W.cell? a = some v) : a.block ≠ b := by
  rintro rfl
  obtain ⟨⟨es, clock, hm, _⟩, _⟩ := h
  unfold World.cell? at hc
  rw [hm] at hc
  simp at hc

structure PM (w W : World) (sh d r b0 b1 b2 : Nat) (D : Dk) (Wm Dm Sm : Fm) : Prop where
  s : ShAt W sh d D
  rs : RShAt W r b0 b1 b2 Wm Dm Sm
  t : Trk w w.heap.size d W
  nr : ¬ foot W d r
  n0 : ¬ foot W d b0
  n1 : ¬ foot W d b1
  n2 : ¬ foot W d b2
  l0 : w.heap.size ≤ b0
  l1 : w.heap.size ≤ b1
  l2 : w.heap.size ≤ b2
section
variable {w W W' : World} {sh d r b0 b1 b2 : Nat} {D D' : Dk} {Wm Dm Sm Wm' Dm' Sm' : Fm}
theorem PM.size (h : PM w W sh d r b0 b1 b2 D Wm Dm Sm) : w.heap.size ≤ W.heap.size := h.t.below.size
theorem PM.below (h : PM w W sh d r b0 b1 b2 D Wm Dm Sm) (hb : Below W.heap.size W W') : PM w W' sh d r b0 b1 b2 D Wm Dm Sm :=
  ⟨h.s.keep hb, h.rs.keep hb, h.t.step hb h.s.dk.lt h.size, fun hf => h.nr ((foot_kept hb h.s.dk.lt).1 hf), fun hf => h.n0 ((foot_kept hb h.s.dk.lt).1 hf), fun hf => h.n1 ((foot_kept hb h.s.dk.lt).1 hf), fun hf => h.n2 ((foot_kept hb h.s.dk.lt).1 hf), h.l0, h.l1, h.l2⟩
theorem PM.prog (h : PM w W sh d r b0 b1 b2 D Wm Dm Sm) (ho : OffN W.heap.size d W W') (hs : ShAt W' sh d D') : PM w W' sh d r b0 b1 b2 D' Wm Dm Sm := by
  have lr := h.rs.bx.lt
  have l0 := h.rs.m0.lt
  have l1 := h.rs.m1.lt
  have l2 := h.rs.m2.lt
  have nf : ∀ i, i < W.heap.size → ¬ foot W d i → ¬ foot W' d i := fun i hi hn hf => (ho.foot i hf).elim hn (fun h => by omega)
  exact ⟨hs, ⟨(ho.block _ lr h.nr).trans h.rs.bx, h.rs.m0.keep (ho.block _ l0 h.n0), h.rs.m1.keep (ho.block _ l1 h.n1), h.rs.m2.keep (ho.block _ l2 h.n2), h.rs.d01, h.rs.d02, h.rs.d12⟩, h.t.go ho h.size, nf _ lr h.nr, nf _ l0 h.n0, nf _ l1 h.n1, nf _ l2 h.n2, h.l0, h.l1, h.l2⟩
theorem PM.refs (h : PM w W sh d r b0 b1 b2 D Wm Dm Sm) (ho : ROff W.heap.size b0 b1 b2 W W') (hr : RShAt W' r b0 b1 b2 Wm' Dm' Sm') : PM w W' sh d r b0 b1 b2 D Wm' Dm' Sm' := by
  have hk : ∀ i, foot W d i → W'.heap[i]? = W.heap[i]? := fun i hf => ho.block i (foot_lt h.s.dk hf) (fun e => h.n0 (e ▸ hf)) (fun e => h.n1 (e ▸ hf)) (fun e => h.n2 (e ▸ hf))
  have hff : ∀ i, foot W' d i ↔ foot W d i := fun i => foot_of (hk d (.inl rfl))
  have hc : W'.cell? ⟨sh, 0, none⟩ = some (.pointer (some ⟨d, 0, none⟩)) := by
    have h1 := h.s.c
    have h2 := World.block_lt_of_cell? W _ h1
    have e0 := cell_map h.rs.m0 h1
    have e1 := cell_map h.rs.m1 h1
    have e2 := cell_map h.rs.m2 h1
    unfold World.cell? at h1 ⊢
    rw [ho.block _ h2 e0 e1 e2]
    exact h1
  refine ⟨⟨hc, fun hf => h.s.off ((hff _).1 hf), disk_of h.s.dk hk⟩, hr, ⟨⟨ho.os.trans h.t.below.os, ho.tape.trans h.t.below.tape, ho.output.trans h.t.below.output, Nat.le_trans h.t.below.size ho.size, fun i hi => ?_⟩, fun i hf => h.t.low i ((hff i).1 hf)⟩,
    fun hf => h.nr ((hff _).1 hf), fun hf => h.n0 ((hff _).1 hf), fun hf => h.n1 ((hff _).1 hf), fun hf => h.n2 ((hff _).1 hf), h.l0, h.l1, h.l2⟩
  have q := h.size
  have q0 := h.l0
  have q1 := h.l1
  have q2 := h.l2
  exact (ho.block i (by omega) (by omega) (by omega) (by omega)).trans (h.t.below.block i hi)
theorem PM.both {k : Nat} (h : PM w W sh d r b0 b1 b2 D Wm Dm Sm) (hE : Env w) (hG : EnvE w) (hp : PlaySt k D Wm Dm Sm) (hk : k ≤ 31) : Both W sh d r b0 b1 b2 D Wm Dm Sm :=
  ⟨hE.below h.t.below, hG.below h.t.below, h.s, hp.calm.ok, hp.fit.mono (by omega), h.rs, hp.rel, by have := hp.lw; omega⟩
end

/-- what both Puts answer, and what the program's leaves -/
def playE (D : Dk) (p : Pv) (tk : ByteArray → Bool) : Int × Int := if archB p = false then (1, -1) else if 0 ≤ (clashD D p.n tk p.fi).1 then (9, (clashD D p.n tk p.fi).1) else (0, -1)
def playD (D : Dk) (p : Pv) (tk : ByteArray → Bool) (a : List Bool) : Dk := if archB p = false then D else if 0 ≤ (clashD D p.n tk p.fi).1 then D else (putFD D p.n p.se p.fi a).2
theorem play_of {sh d m : Nat} {D : Dk} {p : Pv} {tk : ByteArray → Bool} {a : List Bool} {w w' : World} {E : Ending} (h : PutDone sh d m D p tk a w E w') (hg : archB p = true → ¬ 0 ≤ (clashD D p.n tk p.fi).1 → (putFD D p.n p.se p.fi a).1 = 0) :
    ∃ v, E = .returned v ∧ FaultAt w' v (playE D p tk).1 (playE D p tk).2 ∧ ShAt w' sh d (playD D p tk a) ∧ OffN m d w w' := by
  unfold PutDone at h
  unfold playE playD
  by_cases ha : archB p = false
  · simp only [if_pos ha] at h ⊢
    exact ⟨_, h.1, .inr (.inl ⟨1, rfl, rfl, rfl⟩), h.2.1, h.2.2⟩
  · simp only [if_neg ha] at h ⊢
    by_cases hc : 0 ≤ (clashD D p.n tk p.fi).1
    · simp only [if_pos hc] at h ⊢
      obtain ⟨b, he, _, c0, c1, hs, ho⟩ := h
      exact ⟨_, he, .inr (.inr ⟨b, rfl, c0, c1⟩), hs, ho⟩
    · simp only [if_neg hc] at h ⊢
      obtain ⟨he, hs, ho⟩ := h
      rw [hg (by simpa using ha) hc] at he
      exact ⟨_, he, .inl ⟨rfl, rfl, rfl⟩, hs, ho⟩
theorem plays_of {r b0 b1 b2 k : Nat} {D : Dk} {Wm Dm Sm : Fm} {p : Pv} {tk : ByteArray → Bool} {a : List Bool} {w w' : World} {E : Ending} (hp : PlaySt k D Wm Dm Sm) (hk : k ≤ 30) (hs : SaysFit p) (h : RPutIs r b0 b1 b2 Wm Dm Sm (ownersM D.now) p tk a w E w') :
    E = .returned (.agg #[.int .i64 (playE D p tk).1, .int .i64 (playE D p tk).2]) ∧ ROff w.heap.size b0 b1 b2 w w' ∧ ∃ W2 D2 S2, RShAt w' r b0 b1 b2 W2 D2 S2 ∧ PlaySt (k + 1) (playD D p tk a) W2 D2 S2 := by
  obtain ⟨ho, h⟩ := h
  rw [clash_rel hp.rel] at h
  unfold playE playD
  rcases h with ⟨ha, he, hr⟩ | ⟨ha, hc, he, hr⟩ | ⟨ha, hc, he, W2, hr, l1, l2, l3, hG⟩
  · simp only [if_pos ha]
    exact ⟨he, ho, _, _, _, hr, hp.next⟩
  · simp only [if_neg (show ¬ archB p = false by rw [ha]; simp), if_pos hc]
    exact ⟨he, ho, _, _, _, hr, hp.next⟩
  · simp only [if_neg (show ¬ archB p = false by rw [ha]; simp), if_neg hc]
    exact ⟨he, ho, _, _, _, hr, (hp.put hk hs ha tk a hc hr.m0.2 l1 l2 l3 hG).2⟩
theorem put_zero {k : Nat} {D : Dk} {Wm Dm Sm : Fm} (h : PlaySt k D Wm Dm Sm) (hk : k ≤ 30) {p : Pv} (hs : SaysFit p) (a : List Bool) (tk : ByteArray → Bool) : archB p = true → ¬ 0 ≤ (clashD D p.n tk p.fi).1 → (putFD D p.n p.se p.fi a).1 = 0 := fun ha _ => by
  have hff := arch_files_fit ha
  have hfin := hs.fin
  have hlen := h.len
  exact (put_goes h.calm p.se a hs.n (fun f hf => (path_no (hff.path f hf)).2.1) (fun n hn => (h.rel.inv.small n hn).1) (by omega)).none

theorem PM.start {w W W' : World} {sh d : Nat} (hs : ShAt W sh d D0) (ht : Trk w w.heap.size d W) (hr : RShAt W' (W.heap.size + 3) W.heap.size (W.heap.size + 1) (W.heap.size + 2) [] [] []) (hb : Below W.heap.size W W') : PM w W' sh d (W.heap.size + 3) W.heap.size (W.heap.size + 1) (W.heap.size + 2) D0 [] [] [] := by
  have hsz := ht.below.size
  have hf : ∀ i, foot W' d i → i < W.heap.size := fun i hi => foot_lt hs.dk ((foot_kept hb hs.dk.lt).1 hi)
  exact ⟨hs.keep hb, hr, ht.step hb hs.dk.lt hsz, fun h => by have := hf _ h; omega, fun h => by have := hf _ h; omega, fun h => by have := hf _ h; omega, fun h => by have := hf _ h; omega, hsz, by omega, by omega⟩
theorem FaultAt.refs {b0 b1 b2 r : Nat} {Wm Dm Sm : Fm} {w w' : World} {v : Value} {e p : Int} (h : FaultAt w v e p) (hr : RShAt w r b0 b1 b2 Wm Dm Sm) (ho : ROff w.heap.size b0 b1 b2 w w') : FaultAt w' v e p := by
  have key : ∀ (a : Addr) (u : Value), w.cell? a = some u → w'.cell? a = some u := fun a u hc => by
    have h2 := World.block_lt_of_cell? w _ hc
    have e0 := cell_map hr.m0 hc
    have e1 := cell_map hr.m1 hc
    have e2 := cell_map hr.m2 hc
    unfold World.cell? at hc ⊢
    rw [ho.block _ h2 e0 e1 e2]
    exact hc
  rcases h with h | h | ⟨b, h, h0, h1⟩
  · exact .inl h
  · exact .inr (.inl h)
  · exact .inr (.inr ⟨b, h, key _ _ h0, key _ _ h1⟩)
theorem rel_sz {k : Nat} {D : Dk} {Wm Dm Sm : Fm} (h : PlaySt k D Wm Dm Sm) {q n : ByteArray} (hq : getF Wm q = some n) : q.size ≤ 60 ∧ n.size ≤ 60 := by
  have h1 := (h.rel.ow n q).2 hq
  exact ⟨(path_no (h.rel.inv.path n q h1)).2.1, (h.rel.inv.small n (pathsM_owner h1)).1⟩

set_option maxHeartbeats 1000000 in
/-- the program's Put -/
theorem put_plays (sh d r b0 b1 b2 k cq : Nat) (D : Dk) (Wm Dm Sm Wx Dx Sx : Fm) (p : Pv) (tk : ByteArray) (a : List Bool) (va v1 v2 v3 v4 v5 v6 v7 v8 v9 : Value) (w W : World) (hE : Env w) (h : PM w W sh d r b0 b1 b2 D Wx Dx Sx) (hp : PlaySt k D Wm Dm Sm) (hk : k ≤ 30)
    (HP : PackAt w (.agg #[.string p.n, .int .i64 p.e, .string p.u, .string p.r, v1, v2, v3, v4, v5, v6, v7, v8, v9]) p) (hs : saysB p = true) (HA : BoolsAt w va a) (hc : W.cell? ⟨cq, 14, none⟩ = some (.string tk)) :
    Calls Tryz.prog 12 #[.pointer (some ⟨sh, 0, none⟩), .agg #[.string p.n, .int .i64 p.e, .string p.u, .string p.r, v1, v2, v3, v4, v5, v6, v7, v8, v9], .func (.func 8) #[] #[.pointer (some ⟨cq, 0, none⟩)], va] W fun E w' =>
      ∃ v, E = .returned v ∧ FaultAt w' v (playE D p (takesB tk)).1 (playE D p (takesB tk)).2 ∧ PM w w' sh d r b0 b1 b2 (playD D p (takesB tk) a) Wx Dx Sx ∧ OffN W.heap.size d W w' := by
  have hfit := fit_of HP hs
  have hsf := says_fit hs
  have hb : ∀ W', OffN W.heap.size d W W' → Below w.heap.size w W' := fun W' ho => (h.t.go ho h.size).below
  have hbb : ∀ W', Below W.heap.size W W' → Below w.heap.size w W' := fun W' h' => hb W' (OffN.of (Off.of_below h' h.s.dk.lt) (Nat.le_refl _))
  refine (put_calls sh d W.heap.size 700000 D p (takesB tk) v1 v2 v3 v4 v5 v6 v7 v8 v9 _ va a W ((h.t.env hE).mono h.size) h.s hp.calm.ok (hp.small hk) (Nat.le_refl _) (Nat.le_refl _) (fun W' hW' => HP.below (hb W' hW')) hfit (by have := hsf.n; omega) (fun f hf => by have := (hsf.fi f hf).1; omega) (fun f hf => by have := (hsf.fi f hf).2; omega) (by have := says_lines hsf; omega) (by have := hsf.fin; omega) (fun W' hW' => bools_below HA (hb W' hW')) fun W' hW' => ?_).mono fun E w' h' => ?_
  · exact clashP_calls sh d cq D p (takesB tk) v1 v2 v3 v4 v5 v6 v7 v8 v9 W' (hE.below (hbb W' hW')) (h.s.keep hW') hp.calm.ok ((hp.small hk).mono (by omega)) (pack_parts (HP.below (hbb W' hW'))).2 (fun f hf => by have := (hsf.fi f hf).1; omega) fun W2 s hW2 => takes_calls tk s cq 0 W2 (kept (step_below hW' hW2) hc)
  · obtain ⟨v, he, hf, hsh, ho⟩ := play_of h' (put_zero hp hk hsf a (takesB tk))
    exact ⟨v, he, hf, h.prog ho hsh, ho⟩
theorem clash_plays (sh d r b0 b1 b2 k cq : Nat) (D : Dk) (Wm Dm Sm : Fm) (p : Pv) (tk : ByteArray) (v1 v2 v3 v4 v5 v6 v7 v8 v9 : Value) (w W : World) (hE : Env w) (h : PM w W sh d r b0 b1 b2 D Wm Dm Sm) (hp : PlaySt k D Wm Dm Sm) (hk : k ≤ 30)
    (HP : PackAt w (.agg #[.string p.n, .int .i64 p.e, .string p.u, .string p.r, v1, v2, v3, v4, v5, v6, v7, v8, v9]) p) (hs : saysB p = true) (hc : W.cell? ⟨cq, 14, none⟩ = some (.string tk)) :
    Calls Tryz.prog 10 #[.pointer (some ⟨sh, 0, none⟩), .agg #[.string p.n, .int .i64 p.e, .string p.u, .string p.r, v1, v2, v3, v4, v5, v6, v7, v8, v9], .func (.func 8) #[] #[.pointer (some ⟨cq, 0, none⟩)]] W fun E w' => E = .returned (.tuple #[.int .i64 (clashD D p.n (takesB tk) p.fi).1, .string (clashD D p.n (takesB tk) p.fi).2]) ∧ Below W.heap.size W w' := by
  have hsf := says_fit hs
  exact clashP_calls sh d cq D p (takesB tk) v1 v2 v3 v4 v5 v6 v7 v8 v9 W (hE.below h.t.below) h.s hp.calm.ok ((hp.small hk).mono (by omega)) (pack_parts (HP.below h.t.below)).2 (fun f hf => by have := (hsf.fi f hf).1; omega) fun W2 s hW2 => takes_calls tk s cq 0 W2 (kept hW2 hc)
theorem rclash_plays (sh d r b0 b1 b2 k cq : Nat) (D : Dk) (Wm Dm Sm : Fm) (p : Pv) (tk : ByteArray) (v1 v2 v3 v4 v5 v6 v7 v8 v9 : Value) (w W : World) (h : PM w W sh d r b0 b1 b2 D Wm Dm Sm) (hp : PlaySt k D Wm Dm Sm) (hk : k ≤ 30)
    (HP : PackAt w (.agg #[.string p.n, .int .i64 p.e, .string p.u, .string p.r, v1, v2, v3, v4, v5, v6, v7, v8, v9]) p) (hs : saysB p = true) (hc : W.cell? ⟨cq, 14, none⟩ = some (.string tk)) :
    Calls Tryz.prog 9 #[.pointer (some ⟨r, 0, none⟩), .agg #[.string p.n, .int .i64 p.e, .string p.u, .string p.r, v1, v2, v3, v4, v5, v6, v7, v8, v9], .func (.func 8) #[] #[.pointer (some ⟨cq, 0, none⟩)]] W fun E w' => E = .returned (.tuple #[.int .i64 (clashD D p.n (takesB tk) p.fi).1, .string (clashD D p.n (takesB tk) p.fi).2]) ∧ Below W.heap.size W w' := by
  have hsf := says_fit hs
  rw [← clash_rel hp.rel]
  exact rclash_calls r b0 b1 b2 cq Wm Dm Sm (ownersM D.now) p (takesB tk) v1 v2 v3 v4 v5 v6 v7 v8 v9 W h.rs hp.rel.owners (by have := hp.lw; omega) (fun q n hq => by have := rel_sz hp hq; omega) (pack_parts (HP.below h.t.below)).2 (fun f hf => by have := (hsf.fi f hf).1; omega) fun W2 s hW2 => takes_calls tk s cq 0 W2 (kept hW2 hc)
set_option maxHeartbeats 1000000 in
/-- the reference's Put -/
theorem rput_plays (sh d r b0 b1 b2 k cq : Nat) (D Dx : Dk) (Wm Dm Sm : Fm) (p : Pv) (tk : ByteArray) (a : List Bool) (va : Value) (A1 A2 A3 A4 A5 A6 A7 A8 A9 : Option Addr) (m1 m2 m3 m4 m5 m6 m7 m8 m9 c1 c2 c3 c4 c5 c6 c7 c8 c9 : Nat) (w W : World) (hE : Env w) (hF : EnvFi w) (h : PM w W sh d r b0 b1 b2 Dx Wm Dm Sm) (hp : PlaySt k D Wm Dm Sm) (hk : k ≤ 30)
    (HP : PackAt w (.agg #[.string p.n, .int .i64 p.e, .string p.u, .string p.r, .slice A1 m1 c1, .slice A2 m2 c2, .slice A3 m3 c3, .slice A4 m4 c4, .slice A5 m5 c5, .slice A6 m6 c6, .slice A7 m7 c7, .slice A8 m8 c8, .slice A9 m9 c9]) p) (hs : saysB p = true) (HA : BoolsAt w va a) (hc : W.cell? ⟨cq, 14, none⟩ = some (.string tk)) :
    Calls Tryz.prog 13 #[.pointer (some ⟨r, 0, none⟩), .agg #[.string p.n, .int .i64 p.e, .string p.u, .string p.r, .slice A1 m1 c1, .slice A2 m2 c2, .slice A3 m3 c3, .slice A4 m4 c4, .slice A5 m5 c5, .slice A6 m6 c6, .slice A7 m7 c7, .slice A8 m8 c8, .slice A9 m9 c9], .func (.func 8) #[] #[.pointer (some ⟨cq, 0, none⟩)], va] W fun E w' =>
      E = .returned (.agg #[.int .i64 (playE D p (takesB tk)).1, .int .i64 (playE D p (takesB tk)).2]) ∧ ROff W.heap.size b0 b1 b2 W w' ∧ ∃ W2 D2 S2, PM w w' sh d r b0 b1 b2 Dx W2 D2 S2 ∧ PlaySt (k + 1) (playD D p (takesB tk) a) W2 D2 S2 := by
  have hfit := fit_of HP hs
  have hsf := says_fit hs
  refine (rput_calls r b0 b1 b2 cq Wm Dm Sm (ownersM D.now) p (takesB tk) a A1 A2 A3 A4 A5 A6 A7 A8 A9 m1 m2 m3 m4 m5 m6 m7 m8 m9 c1 c2 c3 c4 c5 c6 c7 c8 c9 va W (hE.below h.t.below) (hF.below h.t.below) h.rs hp.rel.owners (by have := hp.lw; omega) (by have := hp.ld; omega) (by have := hp.ls; omega) (fun q n hq => by have := rel_sz hp hq; omega) (HP.below h.t.below) hfit (fun f hf => by have := (hsf.fi f hf).1; omega) (fun f hf => by have := (hsf.fi f hf).2; omega) (by have := hsf.n; omega) (by have := hsf.sen; omega) (bools_below HA h.t.below) fun W2 s hW2 => takes_calls tk s cq 0 W2 (kept hW2 hc)).mono fun E w' h' => ?_
  obtain ⟨he, ho, W2, D2, S2, hr, hpl⟩ := plays_of hp hk hsf h'
  exact ⟨he, ho, W2, D2, S2, h.refs ho hr, hpl⟩
/-- Drop, both -/
theorem drop_plays (sh d r b0 b1 b2 k : Nat) (D : Dk) (Wm Dm Sm : Fm) (n : ByteArray) (all : Bool) (w W : World) (hE : Env w) (h : PM w W sh d r b0 b1 b2 D Wm Dm Sm) (hp : PlaySt k D Wm Dm Sm) (hk : k ≤ 30) (hn : n.size ≤ 60) :
    Calls Tryz.prog 14 #[.pointer (some ⟨sh, 0, none⟩), .string n, .bool all] W fun E w' => E = .returned .nilIface ∧ OffN W.heap.size d W w' ∧ PM w w' sh d r b0 b1 b2 (dropD D n all).2 Wm Dm Sm :=
  (drop_calls sh d 900000 D n all W (hE.below h.t.below) h.s hp.calm.ok ((hp.small hk).mono (by omega)) (Nat.le_refl _) (by omega)).mono fun E w' ⟨he, hs, ho⟩ => by
    rw [(hp.drop hk hn all).1, errV_0] at he
    exact ⟨he, OffN.of ho (Nat.le_refl _), h.prog (OffN.of ho (Nat.le_refl _)) hs⟩
theorem rdrop_plays (sh d r b0 b1 b2 k : Nat) (D Dx : Dk) (Wm Dm Sm : Fm) (n : ByteArray) (all : Bool) (w W : World) (h : PM w W sh d r b0 b1 b2 Dx Wm Dm Sm) (hp : PlaySt k D Wm Dm Sm) (hk : k ≤ 30) (hn : n.size ≤ 60) :
    Calls Tryz.prog 15 #[.pointer (some ⟨r, 0, none⟩), .string n, .bool all] W fun E w' => E = .returned (.tuple #[]) ∧ ROff W.heap.size b0 b1 b2 W w' ∧ ∃ W2 D2 S2, PM w w' sh d r b0 b1 b2 Dx W2 D2 S2 ∧ PlaySt (k + 1) (dropD D n all).2 W2 D2 S2 :=
  (rdrop_calls r b0 b1 b2 Wm Dm Sm n all W h.rs (by have := hp.lw; omega) (fun q n hq => by have := rel_sz hp hq; unfold maxLen; omega)).mono fun E w' ⟨he, hr, ho⟩ =>
    ⟨he, ho, _, _, _, h.refs ho hr, (hp.drop hk hn all).2⟩
/-- Edit, both -/
theorem edit_plays (sh d r b0 b1 b2 k : Nat) (D : Dk) (Wm Dm Sm Wx Dx Sx : Fm) (p s : ByteArray) (ms : Bool) (w W : World) (hE : Env w) (h : PM w W sh d r b0 b1 b2 D Wx Dx Sx) (hp : PlaySt k D Wm Dm Sm) (hk : k ≤ 30) (hpz : p.size ≤ 1000) (hs : s.size ≤ 1000) :
    Calls Tryz.prog 16 #[.pointer (some ⟨sh, 0, none⟩), .string p, .string s, .bool ms] W fun E w' => E = .returned (errV (reditE Wm Dm p ms)) ∧ OffN W.heap.size d W w' ∧ PM w w' sh d r b0 b1 b2 (editD D p s ms).2 Wx Dx Sx :=
  (edit_calls sh d D p s ms W (hE.below h.t.below) h.s hp.calm.ok ((hp.small hk).mono (by omega)) hpz (by omega)).mono fun E w' ⟨he, hsx, ho⟩ => by
    rw [(hp.edit hk p s ms hs).1] at he
    exact ⟨he, OffN.of ho (Nat.le_refl _), h.prog (OffN.of ho (Nat.le_refl _)) hsx⟩
theorem redit_plays (sh d r b0 b1 b2 k : Nat) (D Dx : Dk) (Wm Dm Sm : Fm) (p s : ByteArray) (ms : Bool) (w W : World) (h : PM w W sh d r b0 b1 b2 Dx Wm Dm Sm) (hp : PlaySt k D Wm Dm Sm) (hk : k ≤ 30) (hpz : p.size ≤ 1000) (hs : s.size ≤ 1000) :
    Calls Tryz.prog 17 #[.pointer (some ⟨r, 0, none⟩), .string p, .string s, .bool ms] W fun E w' => E = .returned (.int .i64 (reditE Wm Dm p ms)) ∧ ROff W.heap.size b0 b1 b2 W w' ∧ ∃ W2 D2 S2, PM w w' sh d r b0 b1 b2 Dx W2 D2 S2 ∧ PlaySt (k + 1) (editD D p s ms).2 W2 D2 S2 :=
  (redit_calls r b0 b1 b2 Wm Dm Sm p s ms W h.rs (by unfold maxLen; omega) (by unfold maxLen; omega) (by have := hp.ld; unfold maxLen; omega)).mono fun E w' ⟨he, hr, ho⟩ =>
    ⟨he, ho, _, _, _, h.refs ho hr, (hp.edit hk p s ms hs).2⟩
/-- a box that no shelf has -/
theorem box_prog {T : TypeId} {W W' : World} {d g : Nat} {cs : Array Value} (h : Blk T W g cs) (hf : ¬ foot W d g) (ho : OffN W.heap.size d W W') : Blk T W' g cs ∧ ¬ foot W' d g :=
  ⟨(ho.block _ h.lt hf).trans h, fun hf' => (ho.foot g hf').elim hf (fun h' => by have := h.lt; omega)⟩
theorem box_refs {T : TypeId} {w W W' : World} {sh d r b0 b1 b2 g : Nat} {D : Dk} {Wm Dm Sm : Fm} {cs : Array Value} (hp : PM w W sh d r b0 b1 b2 D Wm Dm Sm) (h : Blk T W g cs) (hf : ¬ foot W d g) (ho : ROff W.heap.size b0 b1 b2 W W') : Blk T W' g cs ∧ ¬ foot W' d g := by
  have h0 := rblk_map h hp.rs.m0
  have h1 := rblk_map h hp.rs.m1
  have h2 := rblk_map h hp.rs.m2
  exact ⟨(ho.block _ h.lt h0 h1 h2).trans h, fun hf' => hf ((foot_of (ho.block d hp.s.dk.lt (fun e => hp.n0 (e ▸ .inl rfl)) (fun e => hp.n1 (e ▸ .inl rfl)) (fun e => hp.n2 (e ▸ .inl rfl)))).1 hf')⟩
theorem box_below {T : TypeId} {W W' : World} {d g : Nat} {cs : Array Value} (h : Blk T W g cs) (hf : ¬ foot W d g) (hd : d < W.heap.size) (hb : Below W.heap.size W W') : Blk T W' g cs ∧ ¬ foot W' d g := ⟨h.keep hb, fun h' => hf ((foot_kept hb hd).1 h')⟩
/-- the cells of a move's box -/
theorem move_cells {T : TypeId} {W : World} {g : Nat} {cs : List Value} {x0 x1 x2 x3 x4 x5 x6 x7 x8 x9 x10 x11 x12 x13 x14 x15 x16 x17 x18 : Value} (h : Blk T W g cs.toArray) (e : cs = [x0, x1, x2, x3, x4, x5, x6, x7, x8, x9, x10, x11, x12, x13, x14, x15, x16, x17, x18]) :
    W.cell? ⟨g, 0, none⟩ = some x0 ∧ W.cell? ⟨g, 1, none⟩ = some x1 ∧ W.cell? ⟨g, 2, none⟩ = some x2 ∧ W.cell? ⟨g, 3, none⟩ = some x3 ∧ W.cell? ⟨g, 4, none⟩ = some x4 ∧ W.cell? ⟨g, 5, none⟩ = some x5 ∧ W.cell? ⟨g, 6, none⟩ = some x6 ∧ W.cell? ⟨g, 7, none⟩ = some x7 ∧ W.cell? ⟨g, 8, none⟩ = some x8 ∧ W.cell? ⟨g, 9, none⟩ = some x9 ∧ W.cell? ⟨g, 10, none⟩ = some x10 ∧ W.cell? ⟨g, 11, none⟩ = some x11 ∧ W.cell? ⟨g, 12, none⟩ = some x12 ∧ W.cell? ⟨g, 13, none⟩ = some x13 ∧ W.cell? ⟨g, 14, none⟩ = some x14 ∧ W.cell? ⟨g, 15, none⟩ = some x15 ∧ W.cell? ⟨g, 16, none⟩ = some x16 ∧ W.cell? ⟨g, 17, none⟩ = some x17 ∧ W.cell? ⟨g, 18, none⟩ = some x18 := by
  subst e
  exact ⟨h.cell rfl, h.cell rfl, h.cell rfl, h.cell rfl, h.cell rfl, h.cell rfl, h.cell rfl, h.cell rfl, h.cell rfl, h.cell rfl, h.cell rfl, h.cell rfl, h.cell rfl, h.cell rfl, h.cell rfl, h.cell rfl, h.cell rfl, h.cell rfl, h.cell rfl⟩
end Go.Proofs.YtofogjfemlhffaaGreatDoor

namespace Go.Proofs.YtofogjfemlhffaaGreatDoor
open Go.RowKit

set_option maxHeartbeats 1000000 in
set_option maxRecDepth 100000 in
theorem lawFlat_calls (v : Value) (ts : List Tv) (w : World) (h : TermsAt w v ts) : Calls Tryz.prog 22 #[v] w (BoolIs (flatB ts) w) := by
  obtain ⟨A, c, rfl, hc, hm, hr⟩ := h
  obtain ⟨len, hlen⟩ : ∃ len, ts.length = len := ⟨_, rfl⟩
  have HL := Lib.hid hlen
  rw [hlen] at hc hm ⊢
  clear hlen
  by_cases h40 : 40 < len
  · have F := Lib.hid (show flatB ts = false by unfold flatB; rw [HL.out]; simp; omega)
    clear hr
    go_enter Tryz.func22, Tryz.ntmps22
    go_wp2
    go_ret
    exact ⟨ret_bool F.out.symm, Below.refl _ _⟩
  · have F := Lib.hid (show flatB ts = ts.all flatT by unfold flatB; rw [HL.out, decide_eq_true (by omega)]; rfl)
    have HR := Lib.hid hr
    clear hr
    go_enter Tryz.func22, Tryz.ntmps22
    go_wp2_with fail
    go_loopw [3] (fun i wr => ∃ k : Nat, k ≤ len ∧ i = .int .i64 k ∧ Hid ((ts.take k).all flatT = true) ∧ Below w.heap.size w wr) (fun i _ => len - (intOf i).toNat)
    case atStart => exact ⟨0, Nat.zero_le _, rfl, rfl, Below.refl _ _⟩
    case round =>
      obtain ⟨k, hk, rfl, hall, hB⟩ := hrel
      by_cases hlt : k < len
      · have hne : ts ≠ [] := by
          intro e
          have := HL.out
          rw [e] at this
          simp at this
          omega
        obtain ⟨t, ht⟩ : ∃ t, ts[k]? = some t := ⟨ts[k]'(by have := HL.out; omega), List.getElem?_eq_getElem _⟩
        obtain ⟨b, off, rfl, hi⟩ := HR.out hne
        obtain ⟨hT0, hok⟩ := hi k t ht
        clear hi hne
        have hT := hT0.below hB
        obtain ⟨c0, c1, c2, c3, c4⟩ := hT
        have HT := Lib.hid ht
        clear ht hT0 hok
        by_cases hn : 60 < t.n.size
        · have HF := Lib.hid (show flatT t = false by unfold flatT; rw [decide_eq_false (by omega)]; rfl)
          go_wp2_with fail
          go_ret
          exact ⟨ret_bool (by rw [F.out, all_stop HT.out HF.out]), hB⟩
        · have HF := Lib.hid (show flatT t = shortB t.u t.r by unfold flatT; rw [decide_eq_true (by omega)]; rfl)
          go_wp2_with fail
          refine (lawShort_calls t.e t.u t.r _).mono ?_
          rintro E w1 ⟨rfl, hb⟩
          have hB := step_below hB hb
          clear hb c0 c1 c2 c3 c4
          have hs : shortB t.u t.r = true ∨ shortB t.u t.r = false := by cases shortB t.u t.r <;> simp
          rcases hs with hs | hs
          · have HS := Lib.hid hs
            rw [hs]
            clear hs
            go_wp2_with fail
            go_roundw
            case rel => exact ⟨k + 1, by omega, by go_num, Lib.hid (all_take_succ hall.out HT.out (by rw [HF.out, HS.out])), hB⟩
            case measure => simp [intOf]; omega
          · have HS := Lib.hid hs
            rw [hs]
            clear hs
            go_wp2_with fail
            go_ret
            exact ⟨ret_bool (by rw [F.out, all_stop HT.out (by rw [HF.out, HS.out])]), hB⟩
      · obtain rfl : k = len := by omega
        go_wp2_with fail
        go_ret
        exact ⟨ret_bool (by rw [F.out]; have := hall.out; rw [← HL.out] at this; exact (all_done this).symm), hB⟩

set_option maxHeartbeats 1000000 in
set_option maxRecDepth 100000 in
theorem lawTerms_calls (v : Value) (L : List (List Tv)) (w : World) (h : AskedAt w v L) : Calls Tryz.prog 21 #[v] w (BoolIs (termsB L) w) := by
  obtain ⟨A, c, rfl, hc, hm, hr⟩ := h
  obtain ⟨len, hlen⟩ : ∃ len, L.length = len := ⟨_, rfl⟩
  have HL := Lib.hid hlen
  rw [hlen] at hc hm ⊢
  clear hlen
  by_cases h40 : 40 < len
  · have F := Lib.hid (show termsB L = false by unfold termsB; rw [HL.out]; simp; omega)
    clear hr
    go_enter Tryz.func21, Tryz.ntmps21
    go_wp2
    go_ret
    exact ⟨ret_bool F.out.symm, Below.refl _ _⟩
  · have F := Lib.hid (show termsB L = L.all flatB by unfold termsB; rw [HL.out, decide_eq_true (by omega)]; rfl)
    have HR := Lib.hid hr
    clear hr
    go_enter Tryz.func21, Tryz.ntmps21
    go_wp2_with fail
    go_loopw [3] (fun i wr => ∃ k : Nat, k ≤ len ∧ i = .int .i64 k ∧ Hid ((L.take k).all flatB = true) ∧ Below w.heap.size w wr) (fun i _ => len - (intOf i).toNat)
    case atStart => exact ⟨0, Nat.zero_le _, rfl, rfl, Below.refl _ _⟩
    case round =>
      obtain ⟨k, hk, rfl, hall, hB⟩ := hrel
      by_cases hlt : k < len
      · have hne : L ≠ [] := by
          intro e
          have := HL.out
          rw [e] at this
          simp at this
          omega
        obtain ⟨x, hx⟩ : ∃ x, L[k]? = some x := ⟨L[k]'(by have := HL.out; omega), List.getElem?_eq_getElem _⟩
        obtain ⟨b, off, rfl, hi⟩ := HR.out hne
        obtain ⟨vx, hc0, hT⟩ := hi k x hx
        clear hi hne
        have hT1 := Lib.hid (hT.below hB)
        have c0 := kept hB hc0
        have HT := Lib.hid hx
        clear hx hc0 hT
        go_wp2_with fail
        refine (lawFlat_calls vx x _ hT1.out).mono ?_
        rintro E w1 ⟨rfl, hb⟩
        have hB := step_below hB hb
        clear hb c0
        have hs : flatB x = true ∨ flatB x = false := by cases flatB x <;> simp
        rcases hs with hs | hs
        · have HS := Lib.hid hs
          rw [hs]
          clear hs
          go_wp2_with fail
          go_roundw
          case rel => exact ⟨k + 1, by omega, by go_num, Lib.hid (all_take_succ hall.out HT.out HS.out), hB⟩
          case measure => simp [intOf]; omega
        · have HS := Lib.hid hs
          rw [hs]
          clear hs
          go_wp2_with fail
          go_ret
          exact ⟨ret_bool (by rw [F.out, all_stop HT.out HS.out]), hB⟩
      · obtain rfl : k = len := by omega
        go_wp2_with fail
        go_ret
        exact ⟨ret_bool (by rw [F.out]; have := hall.out; rw [← HL.out] at this; exact (all_done this).symm), hB⟩
end Go.Proofs.YtofogjfemlhffaaGreatDoor

namespace Go.Proofs.YtofogjfemlhffaaGreatDoor
open Go.RowKit

end Go.Proofs.YtofogjfemlhffaaGreatDoor

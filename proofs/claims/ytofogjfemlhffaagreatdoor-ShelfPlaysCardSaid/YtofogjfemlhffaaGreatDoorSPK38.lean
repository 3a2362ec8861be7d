/- The moves of ShelfPlays, as they come in. -/
import Derived.Test.YtofogjfemlhffaaGreatDoorSPK37
import Derived.Test.YtofogjfemlhffaaGreatDoorSPK26
namespace Go.Proofs.YtofogjfemlhffaaGreatDoor
open Go.RowKit Go.ChangeShapes Go.WideShapes Go.ChangeAt Go.Joins

structure Mv where
  what : Int
  p : Pv
  tk : ByteArray
  an : List Bool
  pa : ByteArray
  da : ByteArray
  all : Bool
/-- nineteen cells that are one move -/
def MvCs (w : World) (cs : List Value) (m : Mv) : Prop := ∃ (A1 A2 A3 A4 A5 A6 A7 A8 A9 Aa : Option Addr) (c1 c2 c3 c4 c5 c6 c7 c8 c9 ca : Nat), cs = [.int .i64 m.what, .string m.p.n, .int .i64 m.p.e, .string m.p.u, .string m.p.r, .slice A1 m.p.dep.length c1, .slice A2 m.p.ahead.length c2, .slice A3 m.p.ag.length c3, .slice A4 m.p.br.length c4, .slice A5 m.p.re.length c5, .slice A6 m.p.pr.length c6, .slice A7 m.p.se.length c7, .slice A8 m.p.li.length c8, .slice A9 m.p.fi.length c9, .string m.tk, .slice Aa m.an.length ca, .string m.pa, .string m.da, .bool m.all] ∧ PackAt w (.agg #[.string m.p.n, .int .i64 m.p.e, .string m.p.u, .string m.p.r, .slice A1 m.p.dep.length c1, .slice A2 m.p.ahead.length c2, .slice A3 m.p.ag.length c3, .slice A4 m.p.br.length c4, .slice A5 m.p.re.length c5, .slice A6 m.p.pr.length c6, .slice A7 m.p.se.length c7, .slice A8 m.p.li.length c8, .slice A9 m.p.fi.length c9]) m.p ∧ BoolsAt w (.slice Aa m.an.length ca) m.an
def MvAt (w : World) (b o : Nat) (m : Mv) : Prop := ∃ cs : List Value, MvCs w cs m ∧ ∀ (j : Nat) (u : Value), cs[j]? = some u → w.cell? ⟨b, o + j, none⟩ = some u
def MvsAt (w : World) (v : Value) (ms : List Mv) : Prop :=
  ∃ A c, v = .slice A ms.length c ∧ ms.length ≤ c ∧ ms.length ≤ 9223372036854775807 ∧ (ms ≠ [] → ∃ b off, A = some ⟨b, off, none⟩ ∧ ∀ (i : Nat) (m : Mv), ms[i]? = some m → MvAt w b (off + i * 19) m)
theorem bools_below {W W' : World} {v : Value} {a : List Bool} (h : BoolsAt W v a) (hb : Below W.heap.size W W') : BoolsAt W' v a := by
  obtain ⟨A, c, hv, hc, hm, hi⟩ := h
  refine ⟨A, c, hv, hc, hm, fun hn => ?_⟩
  obtain ⟨b, o, hA, hcell⟩ := hi hn
  exact ⟨b, o, hA, fun i x hx => kept hb (hcell i x hx)⟩
theorem MvAt.below {w w' : World} {b o : Nat} {m : Mv} (h : MvAt w b o m) (hb : Below w.heap.size w w') : MvAt w' b o m := by
  obtain ⟨cs, ⟨A1, A2, A3, A4, A5, A6, A7, A8, A9, Aa, c1, c2, c3, c4, c5, c6, c7, c8, c9, ca, e, hp, ha⟩, hc⟩ := h
  exact ⟨cs, ⟨A1, A2, A3, A4, A5, A6, A7, A8, A9, Aa, c1, c2, c3, c4, c5, c6, c7, c8, c9, ca, e, hp.below hb, bools_below ha hb⟩, fun j u hj => kept hb (hc j u hj)⟩
theorem MvsAt.below {w w' : World} {v : Value} {ms : List Mv} (h : MvsAt w v ms) (hb : Below w.heap.size w w') : MvsAt w' v ms := by
  obtain ⟨A, c, hv, hc, hm, hi⟩ := h
  refine ⟨A, c, hv, hc, hm, fun hn => ?_⟩
  obtain ⟨b, off, hA, h2⟩ := hi hn
  exact ⟨b, off, hA, fun i m hk => (h2 i m hk).below hb⟩
theorem cells_move : Tryz.prog.cellsOf 46 = 19 := by kernel_rfl
theorem cells_bools : Tryz.prog.cellsOf 44 = 1 := by kernel_rfl
section
variable {H : Type} {enc : TypeId × Value → H} {w : World} {base : Nat} {held : Bool}
theorem read_bools {n : Nat} {v : Value} {x : DataW H × List MemPlace} (h : DataW.trod enc Tryz.prog w base (fun _ => true) held n 44 [v] = some x) : ∃ ss : List Bool, BoolsAt w v ss := by
  rcases Go.Deep.open_slice Tryz.underlying44 h with ⟨hc, _⟩ | ⟨a, len, cap, m, k, D, Pl, hc, _, hl, hm, hmm, _, hi⟩
  · have hv : v = .slice none 0 0 := by simpa using hc
    subst hv
    exact ⟨[], none, 0, rfl, Nat.le_refl _, by omega, fun h => absurd rfl h⟩
  · have hv : v = .slice (some a) len cap := by simpa using hc
    subst hv
    rw [if_pos rfl] at hmm
    unfold maxLen at hm
    rcases Nat.eq_zero_or_pos len with h0 | h0
    · subst h0
      exact ⟨[], some a, cap, rfl, Nat.zero_le _, by omega, fun h => absurd rfl h⟩
    · have each : ∀ i, i < len → ∃ s : Bool, w.cell? (a.add i) = some (.bool s) := by
        intro i hi'
        obtain ⟨cs', h1, h2⟩ := hi i (by omega)
        rw [cells_boolstK, Nat.mul_one] at h1
        obtain ⟨_, hlen, hcell⟩ := World.cells?_some h1
        match cs', hlen with
        | [u], _ =>
          obtain ⟨s, hs, _⟩ := DataW.trod_bool Tryz.underlying4 h2
          obtain rfl : u = .bool s := by simpa using hs
          exact ⟨s, by simpa [Addr.add] using hcell 0 (by omega)⟩
      obtain ⟨s0, hs0⟩ := each 0 h0
      obtain ⟨b, off, rfl⟩ := plain_addr (w := w) (a := a) (v := .bool s0) (by simpa [Addr.add] using hs0)
      obtain ⟨ss, hss, hp⟩ := choose_list len each
      subst hss
      refine ⟨ss, some ⟨b, off, none⟩, cap, rfl, hl, by omega, fun _ => ⟨b, off, rfl, fun j s hs => ?_⟩⟩
      have := hp j s hs
      rwa [add_plain] at this
set_option maxRecDepth 100000 in
theorem read_move {n : Nat} {cs : List Value} {x : DataW H × List MemPlace} (hlen : cs.length = 19) (h : DataW.trod enc Tryz.prog w base (fun _ => true) held n 46 cs = some x) : ∃ m : Mv, MvCs w cs m := by
  obtain ⟨ys, q, _, _, _, hyl, hf⟩ := DataW.trod_struct Tryz.underlying46 h
  match ys, hyl with
  | [y0, y1, y2, y3, y4, y5, y6], _ =>
    have f0 : DataW.trod enc Tryz.prog w base (fun _ => true) held q 3 ((cs.drop 0).take (Tryz.prog.cellsOf 3)) = some y0 := hf 0 _ rfl
    have f1 : DataW.trod enc Tryz.prog w base (fun _ => true) held q 43 ((cs.drop 1).take (Tryz.prog.cellsOf 43)) = some y1 := hf 1 _ rfl
    have f2 : DataW.trod enc Tryz.prog w base (fun _ => true) held q 9 ((cs.drop 14).take (Tryz.prog.cellsOf 9)) = some y2 := hf 2 _ rfl
    have f3 : DataW.trod enc Tryz.prog w base (fun _ => true) held q 44 ((cs.drop 15).take (Tryz.prog.cellsOf 44)) = some y3 := hf 3 _ rfl
    have f4 : DataW.trod enc Tryz.prog w base (fun _ => true) held q 9 ((cs.drop 16).take (Tryz.prog.cellsOf 9)) = some y4 := hf 4 _ rfl
    have f5 : DataW.trod enc Tryz.prog w base (fun _ => true) held q 9 ((cs.drop 17).take (Tryz.prog.cellsOf 9)) = some y5 := hf 5 _ rfl
    have f6 : DataW.trod enc Tryz.prog w base (fun _ => true) held q 4 ((cs.drop 18).take (Tryz.prog.cellsOf 4)) = some y6 := hf 6 _ rfl
    rw [cells_int] at f0
    rw [cells_pack] at f1
    rw [cells_string] at f2 f4 f5
    rw [cells_bools] at f3
    rw [cells_boolstK] at f6
    obtain ⟨what, e0, _, _⟩ := DataW.trod_int Tryz.underlying3 f0
    obtain ⟨p, hp⟩ := read_pack (by rw [List.length_take, List.length_drop, hlen]; rfl) f1
    obtain ⟨tk, e2, _, _⟩ := DataW.trod_string Tryz.underlying9 f2
    obtain ⟨va, t3, g3⟩ := one_cell (cs := cs) (k := 15) (by omega)
    rw [t3] at f3
    obtain ⟨an, ha⟩ := read_bools f3
    obtain ⟨pa, e4, _, _⟩ := DataW.trod_string Tryz.underlying9 f4
    obtain ⟨da, e5, _, _⟩ := DataW.trod_string Tryz.underlying9 f5
    obtain ⟨all, e6, _⟩ := DataW.trod_bool Tryz.underlying4 f6
    obtain ⟨v1, v2, v3, v4, v5, v6, v7, v8, v9, hv, h1, h2, h3, h4, h5, h6, h7, h8, h9, b1, b2⟩ := id hp
    obtain ⟨Aa, ca, rfl, _⟩ := id ha
    obtain ⟨A1, c1, rfl, _⟩ := id h1
    obtain ⟨A2, c2, rfl, _⟩ := id h2
    obtain ⟨A3, c3, rfl, _⟩ := id h3
    obtain ⟨A4, c4, rfl, _⟩ := id h4
    obtain ⟨A5, c5, rfl, _⟩ := id h5
    obtain ⟨A6, c6, rfl, _⟩ := id h6
    obtain ⟨A7, c7, rfl, _⟩ := id h7
    obtain ⟨A8, c8, rfl, _⟩ := id h8
    obtain ⟨A9, c9, rfl, _⟩ := id h9
    have e1 := list13 hv
    refine ⟨⟨what, p, tk, an, pa, da, all⟩, A1, A2, A3, A4, A5, A6, A7, A8, A9, Aa, c1, c2, c3, c4, c5, c6, c7, c8, c9, ca, ?_, by rw [hv] at hp; exact hp, ha⟩
    have q0 := one_of_take e0
    have q2 := one_of_take e2
    have q4 := one_of_take e4
    have q5 := one_of_take e5
    have q6 := one_of_take e6
    match cs, hlen with
    | [x0, x1, x2, x3, x4, x5, x6, x7, x8, x9, x10, x11, x12, x13, x14, x15, x16, x17, x18], _ =>
      simp only [List.take_succ_cons, List.take_zero, List.drop_succ_cons, List.drop_zero, List.cons.injEq] at e1
      obtain ⟨rfl, rfl, rfl, rfl, rfl, rfl, rfl, rfl, rfl, rfl, rfl, rfl, rfl, _⟩ := e1
      obtain rfl := Option.some.inj q0
      obtain rfl := Option.some.inj q2
      obtain rfl := Option.some.inj g3
      obtain rfl := Option.some.inj q4
      obtain rfl := Option.some.inj q5
      obtain rfl := Option.some.inj q6
      rfl
theorem read_moves {n : Nat} {v : Value} {x : DataW H × List MemPlace} (h : DataW.trod enc Tryz.prog w base (fun _ => true) held n 22 [v] = some x) : ∃ ms : List Mv, MvsAt w v ms := by
  rcases Go.Deep.open_slice Tryz.underlying22 h with ⟨hc, _⟩ | ⟨a, len, cap, m, k, D, Pl, hc, _, hl, hm, hmm, _, hi⟩
  · have hv : v = .slice none 0 0 := by simpa using hc
    subst hv
    exact ⟨[], none, 0, rfl, Nat.le_refl _, by simp, fun h => absurd rfl h⟩
  · have hv : v = .slice (some a) len cap := by simpa using hc
    subst hv
    rw [if_pos rfl] at hmm
    unfold maxLen at hm
    rcases Nat.eq_zero_or_pos len with h0 | h0
    · subst h0
      exact ⟨[], some a, cap, rfl, Nat.zero_le _, by simp, fun h => absurd rfl h⟩
    · have each : ∀ i, i < len → ∃ y : Mv × List Value, y.2.length = 19 ∧ MvCs w y.2 y.1 ∧ ∀ j, (hj : j < 19) → w.cell? ((a.add (i * 19)).add j) = y.2[j]? := by
        intro i hi'
        obtain ⟨cs', h1, h2⟩ := hi i (by omega)
        rw [cells_move] at h1
        obtain ⟨_, hlen, hcell⟩ := World.cells?_some h1
        obtain ⟨k, hk⟩ := read_move (cs := cs') hlen h2
        exact ⟨(k, cs'), hlen, hk, fun j hj => hcell j (by omega)⟩
      obtain ⟨y0, hl0, hp0, hc0⟩ := each 0 h0
      have hv0 : ∃ u, y0.2[0]? = some u := ⟨y0.2[0]'(by omega), List.getElem?_eq_getElem _⟩
      obtain ⟨u0, hu0⟩ := hv0
      obtain ⟨b, off, rfl⟩ := plain_addr (w := w) (a := a) (v := u0) (by have := hc0 0 (by omega); rw [hu0] at this; simpa [Addr.add] using this)
      obtain ⟨ys, hys, hp⟩ := choose_list len each
      subst hys
      refine ⟨ys.map (·.1), some ⟨b, off, none⟩, cap, by rw [List.length_map], by rw [List.length_map]; exact hl, by rw [List.length_map]; omega, fun _ => ⟨b, off, rfl, fun i x hx => ?_⟩⟩
      rw [List.getElem?_map, Option.map_eq_some_iff] at hx
      obtain ⟨y, hy, rfl⟩ := hx
      obtain ⟨q1, q2, q3⟩ := hp i y hy
      refine ⟨y.2, q2, fun j u hj => ?_⟩
      have hj2 : j < 19 := by have := (List.getElem?_eq_some_iff.1 hj).1; omega
      have g := q3 j hj2
      rw [add_plain, add_plain] at g
      exact g.trans hj
end
set_option maxRecDepth 100000 in
theorem open_moves {H : Type} {enc : TypeId × Value → H} {W : World} {base b0 : Nat} {held : Bool} {r : Reach} {v : Value} {d : DataW H} {p : List MemPlace}
    (hv : Value.okWide Tryz.prog W r b0 22 v) (h : DataW.Trod enc Tryz.prog W base (fun _ => true) held 22 v d p) : ∃ ms, MvsAt W v ms := by
  obtain ⟨a0, len, cap, rfl⟩ := okWide_slice Tryz.underlying22 hv
  obtain ⟨fuel, hf⟩ := h
  exact read_moves hf
end Go.Proofs.YtofogjfemlhffaaGreatDoor

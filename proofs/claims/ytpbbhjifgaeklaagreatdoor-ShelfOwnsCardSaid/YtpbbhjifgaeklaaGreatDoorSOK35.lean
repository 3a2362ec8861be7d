/- A package, as it comes in. · A slice of packages, as it comes in. · keep.flat, keep.terms: is what is asked for short enough to be held. -/
import Derived.Test.YtpbbhjifgaeklaaGreatDoorSOK14
import Derived.Test.YtpbbhjifgaeklaaGreatDoorSOK34
import Derived.Test.YtpbbhjifgaeklaaGreatDoorSOK6
import Derived.Deep.QuietTactic
import Derived.BigQuiet
import Derived.Deep.RegionHeld3
namespace Go.Proofs.YtpbbhjifgaeklaaGreatDoor
open Go.RowKit Go.ChangeShapes Go.WideShapes Go.ChangeAt Go.Joins
section
variable {H : Type} {enc : TypeId × Value → H} {w : World} {base : Nat} {held : Bool}

theorem cells_pack : Tryz.prog.cellsOf 67 = 13 := by kernel_rfl
theorem cells_file : Tryz.prog.cellsOf 62 = 2 := by kernel_rfl
theorem cells_askd : Tryz.prog.cellsOf 64 = 1 := by kernel_rfl
theorem cells_strs : Tryz.prog.cellsOf 24 = 1 := by kernel_rfl
theorem cells_files : Tryz.prog.cellsOf 63 = 1 := by kernel_rfl

/-- a slice of texts that comes in -/
theorem read_strs {n : Nat} {v : Value} {x : DataW H × List MemPlace} (h : DataW.trod enc Tryz.prog w base (fun _ => true) held n 24 [v] = some x) : ∃ ss : List ByteArray, StrsAt w v ss := by
  rcases Go.Deep.open_slice Tryz.underlying24 h with ⟨hc, _⟩ | ⟨a, len, cap, m, k, D, Pl, hc, _, hl, hm, hmm, _, hi⟩
  · have hv : v = .slice none 0 0 := by simpa using hc
    subst hv
    exact ⟨[], SlC.nil w none 0⟩
  · have hv : v = .slice (some a) len cap := by simpa using hc
    subst hv
    rw [if_pos rfl] at hmm
    unfold maxLen at hm
    rcases Nat.eq_zero_or_pos len with h0 | h0
    · subst h0
      exact ⟨[], SlC.nil w (some a) cap⟩
    · have each : ∀ i, i < len → ∃ s : ByteArray, w.cell? (a.add i) = some (.string s) := by
        intro i hi'
        obtain ⟨cs', h1, h2⟩ := hi i (by omega)
        rw [cells_string, Nat.mul_one] at h1
        obtain ⟨_, hlen, hcell⟩ := World.cells?_some h1
        match cs', hlen with
        | [u], _ =>
          obtain ⟨s, hs, _, _⟩ := DataW.trod_string Tryz.underlying9 h2
          obtain rfl : u = .string s := by simpa using hs
          exact ⟨s, by simpa [Addr.add] using hcell 0 (by omega)⟩
      obtain ⟨s0, hs0⟩ := each 0 h0
      obtain ⟨b, off, rfl⟩ := plain_addr (w := w) (a := a) (v := .string s0) (by simpa [Addr.add] using hs0)
      obtain ⟨ss, hss, hp⟩ := choose_list len each
      subst hss
      refine ⟨ss, some ⟨b, off, none⟩, cap, rfl, hl, by omega, fun _ => ⟨b, off, rfl, fun j u hj => ?_⟩⟩
      rw [flat_strs, List.getElem?_map, Option.map_eq_some_iff] at hj
      obtain ⟨s, hs, rfl⟩ := hj
      have := hp j s hs
      rwa [add_plain] at this

/-- a slice of files that comes in -/
theorem read_files {n : Nat} {v : Value} {x : DataW H × List MemPlace} (h : DataW.trod enc Tryz.prog w base (fun _ => true) held n 63 [v] = some x) : ∃ fs : List Fv, FieldsAt w v fs := by
  rcases Go.Deep.open_slice Tryz.underlying63 h with ⟨hc, _⟩ | ⟨a, len, cap, m, k, D, Pl, hc, _, hl, hm, hmm, _, hi⟩
  · have hv : v = .slice none 0 0 := by simpa using hc
    subst hv
    exact ⟨[], SlC.nil w none 0⟩
  · have hv : v = .slice (some a) len cap := by simpa using hc
    subst hv
    rw [if_pos rfl] at hmm
    unfold maxLen at hm
    rcases Nat.eq_zero_or_pos len with h0 | h0
    · subst h0
      exact ⟨[], SlC.nil w (some a) cap⟩
    · have each : ∀ i, i < len → ∃ f : Fv, w.cell? (a.add (i * 2)) = some (.string f.n) ∧ w.cell? ((a.add (i * 2)).add 1) = some (.string f.v) := by
        intro i hi'
        obtain ⟨cs', h1, h2⟩ := hi i (by omega)
        rw [cells_file] at h1
        obtain ⟨_, hlen, hcell⟩ := World.cells?_some h1
        obtain ⟨ys, m', _, _, _, hyl, hf⟩ := DataW.trod_struct Tryz.underlying62 h2
        match ys, hyl with
        | [y0, y1], _ =>
          have f0 : DataW.trod enc Tryz.prog w base (fun _ => true) held m' 9 ((cs'.drop 0).take (Tryz.prog.cellsOf 9)) = some y0 := hf 0 _ rfl
          have f1 : DataW.trod enc Tryz.prog w base (fun _ => true) held m' 9 ((cs'.drop 1).take (Tryz.prog.cellsOf 9)) = some y1 := hf 1 _ rfl
          rw [cells_string] at f0 f1
          obtain ⟨n, e0, _, _⟩ := DataW.trod_string Tryz.underlying9 f0
          obtain ⟨s, e1, _, _⟩ := DataW.trod_string Tryz.underlying9 f1
          have g0 := hcell 0 (by omega)
          have g1 := hcell 1 (by omega)
          rw [one_of_take e0] at g0
          rw [one_of_take e1] at g1
          exact ⟨⟨n, s⟩, by simpa [Addr.add] using g0, g1⟩
      obtain ⟨t0, ht0⟩ := each 0 h0
      obtain ⟨b, off, rfl⟩ := plain_addr (w := w) (a := a) (v := .string t0.n) (by simpa [Addr.add] using ht0.1)
      obtain ⟨fs, hfs, hp⟩ := choose_list len each
      subst hfs
      refine ⟨fs, some ⟨b, off, none⟩, cap, rfl, hl, by omega, fun _ => ⟨b, off, rfl, fun j u hj => ?_⟩⟩
      have hlt := (List.getElem?_eq_some_iff.1 hj).1
      have hs : ∀ f : Fv, (fldC f).length = 2 := fun _ => rfl
      rw [flat_length hs] at hlt
      have hfj : fs[j / 2]? = some (fs[j / 2]'(by omega)) := List.getElem?_eq_getElem _
      obtain ⟨p0, p1⟩ := hp (j / 2) _ hfj
      rw [add_plain] at p0 p1
      rw [add_plain] at p1
      obtain hr | hr : j = j / 2 * 2 + 0 ∨ j = j / 2 * 2 + 1 := by omega
      · rw [hr, flat_at hs hfj 0 (by omega)] at hj
        rw [hr, ← Option.some.inj hj]
        exact p0
      · rw [hr, flat_at hs hfj 1 (by omega)] at hj
        rw [hr, ← Option.some.inj hj, ← Nat.add_assoc]
        exact p1

theorem one_cell {cs : List Value} {k : Nat} (h : k < cs.length) : ∃ v, (cs.drop k).take 1 = [v] ∧ cs[k]? = some v := by
  refine ⟨cs[k], ?_, List.getElem?_eq_getElem h⟩
  rw [List.drop_eq_getElem_cons h]
  rfl

set_option maxRecDepth 100000 in
/-- thirteen cells that read as a package -/
theorem read_pack {n : Nat} {cs : List Value} {x : DataW H × List MemPlace} (hlen : cs.length = 13) (h : DataW.trod enc Tryz.prog w base (fun _ => true) held n 67 cs = some x) : ∃ p : Pv, PackAt w (.agg cs.toArray) p := by
  obtain ⟨ys, m, _, _, _, hyl, hf⟩ := DataW.trod_struct Tryz.underlying67 h
  match ys, hyl with
  | [y0, y1, y2, y3, y4, y5, y6, y7, y8, y9, y10], _ =>
    have f0 : DataW.trod enc Tryz.prog w base (fun _ => true) held m 9 ((cs.drop 0).take (Tryz.prog.cellsOf 9)) = some y0 := hf 0 _ rfl
    have f1 : DataW.trod enc Tryz.prog w base (fun _ => true) held m 23 ((cs.drop 1).take (Tryz.prog.cellsOf 23)) = some y1 := hf 1 _ rfl
    have f2 : DataW.trod enc Tryz.prog w base (fun _ => true) held m 64 ((cs.drop 4).take (Tryz.prog.cellsOf 64)) = some y2 := hf 2 _ rfl
    have f3 : DataW.trod enc Tryz.prog w base (fun _ => true) held m 64 ((cs.drop 5).take (Tryz.prog.cellsOf 64)) = some y3 := hf 3 _ rfl
    have f4 : DataW.trod enc Tryz.prog w base (fun _ => true) held m 65 ((cs.drop 6).take (Tryz.prog.cellsOf 65)) = some y4 := hf 4 _ rfl
    have f5 : DataW.trod enc Tryz.prog w base (fun _ => true) held m 65 ((cs.drop 7).take (Tryz.prog.cellsOf 65)) = some y5 := hf 5 _ rfl
    have f6 : DataW.trod enc Tryz.prog w base (fun _ => true) held m 65 ((cs.drop 8).take (Tryz.prog.cellsOf 65)) = some y6 := hf 6 _ rfl
    have f7 : DataW.trod enc Tryz.prog w base (fun _ => true) held m 65 ((cs.drop 9).take (Tryz.prog.cellsOf 65)) = some y7 := hf 7 _ rfl
    have f8 : DataW.trod enc Tryz.prog w base (fun _ => true) held m 24 ((cs.drop 10).take (Tryz.prog.cellsOf 24)) = some y8 := hf 8 _ rfl
    have f9 : DataW.trod enc Tryz.prog w base (fun _ => true) held m 24 ((cs.drop 11).take (Tryz.prog.cellsOf 24)) = some y9 := hf 9 _ rfl
    have f10 : DataW.trod enc Tryz.prog w base (fun _ => true) held m 63 ((cs.drop 12).take (Tryz.prog.cellsOf 63)) = some y10 := hf 10 _ rfl
    rw [cells_string] at f0
    rw [cells_vers] at f1
    rw [cells_askd] at f2 f3
    rw [cells_terms] at f4 f5 f6 f7
    rw [cells_strs] at f8 f9
    rw [cells_files] at f10
    obtain ⟨n, e0, _, _⟩ := DataW.trod_string Tryz.underlying9 f0
    obtain ⟨e, u, r, e1, e2, e3, b1, b2⟩ := read_vers f1
    obtain ⟨v1, t1, g1⟩ := one_cell (cs := cs) (k := 4) (by omega)
    obtain ⟨v2, t2, g2⟩ := one_cell (cs := cs) (k := 5) (by omega)
    obtain ⟨v3, t3, g3⟩ := one_cell (cs := cs) (k := 6) (by omega)
    obtain ⟨v4, t4, g4⟩ := one_cell (cs := cs) (k := 7) (by omega)
    obtain ⟨v5, t5, g5⟩ := one_cell (cs := cs) (k := 8) (by omega)
    obtain ⟨v6, t6, g6⟩ := one_cell (cs := cs) (k := 9) (by omega)
    obtain ⟨v7, t7, g7⟩ := one_cell (cs := cs) (k := 10) (by omega)
    obtain ⟨v8, t8, g8⟩ := one_cell (cs := cs) (k := 11) (by omega)
    obtain ⟨v9, t9, g9⟩ := one_cell (cs := cs) (k := 12) (by omega)
    rw [t1] at f2
    rw [t2] at f3
    rw [t3] at f4
    rw [t4] at f5
    rw [t5] at f6
    rw [t6] at f7
    rw [t7] at f8
    rw [t8] at f9
    rw [t9] at f10
    obtain ⟨dep, h1⟩ := read_asked f2
    obtain ⟨ahead, h2⟩ := read_asked f3
    obtain ⟨ag, h3⟩ := read_terms f4
    obtain ⟨br, h4⟩ := read_terms f5
    obtain ⟨re, h5⟩ := read_terms f6
    obtain ⟨pr, h6⟩ := read_terms f7
    obtain ⟨se, h7⟩ := read_strs f8
    obtain ⟨li, h8⟩ := read_strs f9
    obtain ⟨fi, h9⟩ := read_files f10
    refine ⟨⟨n, e, u, r, dep, ahead, ag, br, re, pr, se, li, fi⟩, v1, v2, v3, v4, v5, v6, v7, v8, v9, ?_, h1, h2, h3, h4, h5, h6, h7, h8, h9, b1, b2⟩
    have q0 := one_of_take e0
    have q1 : cs[1]? = some (.int .i64 e) := by simpa [List.getElem?_take, List.getElem?_drop] using e1
    have q2 : cs[2]? = some (.string u) := by simpa [List.getElem?_take, List.getElem?_drop] using e2
    have q3 : cs[3]? = some (.string r) := by simpa [List.getElem?_take, List.getElem?_drop] using e3
    match cs, hlen with
    | [c0, c1, c2, c3, c4, c5, c6, c7, c8, c9, c10, c11, c12], _ =>
      obtain rfl := Option.some.inj q0
      obtain rfl := Option.some.inj q1
      obtain rfl := Option.some.inj q2
      obtain rfl := Option.some.inj q3
      obtain rfl := Option.some.inj g1
      obtain rfl := Option.some.inj g2
      obtain rfl := Option.some.inj g3
      obtain rfl := Option.some.inj g4
      obtain rfl := Option.some.inj g5
      obtain rfl := Option.some.inj g6
      obtain rfl := Option.some.inj g7
      obtain rfl := Option.some.inj g8
      obtain rfl := Option.some.inj g9
      rfl
end

end Go.Proofs.YtpbbhjifgaeklaaGreatDoor

namespace Go.Proofs.YtpbbhjifgaeklaaGreatDoor
open Go.RowKit Go.ChangeShapes Go.WideShapes Go.ChangeAt Go.Joins

/-- a package's thirteen cells at a place -/
def PackC (w : World) (b o : Nat) (p : Pv) : Prop := ∃ v1 v2 v3 v4 v5 v6 v7 v8 v9 : Value,
  (w.cell? ⟨b, o, none⟩ = some (.string p.n) ∧ w.cell? ⟨b, o + 1, none⟩ = some (.int .i64 p.e) ∧ w.cell? ⟨b, o + 2, none⟩ = some (.string p.u) ∧ w.cell? ⟨b, o + 3, none⟩ = some (.string p.r) ∧ w.cell? ⟨b, o + 4, none⟩ = some v1 ∧ w.cell? ⟨b, o + 5, none⟩ = some v2 ∧ w.cell? ⟨b, o + 6, none⟩ = some v3 ∧ w.cell? ⟨b, o + 7, none⟩ = some v4 ∧ w.cell? ⟨b, o + 8, none⟩ = some v5 ∧ w.cell? ⟨b, o + 9, none⟩ = some v6 ∧ w.cell? ⟨b, o + 10, none⟩ = some v7 ∧ w.cell? ⟨b, o + 11, none⟩ = some v8 ∧ w.cell? ⟨b, o + 12, none⟩ = some v9) ∧
  PackAt w (.agg #[.string p.n, .int .i64 p.e, .string p.u, .string p.r, v1, v2, v3, v4, v5, v6, v7, v8, v9]) p
theorem PackC.below {w w' : World} {b o : Nat} {p : Pv} (h : PackC w b o p) (hb : Below w.heap.size w w') : PackC w' b o p := by
  obtain ⟨v1, v2, v3, v4, v5, v6, v7, v8, v9, ⟨h0, h1, h2, h3, h4, h5, h6, h7, h8, h9, h10, h11, h12⟩, hp⟩ := h
  exact ⟨v1, v2, v3, v4, v5, v6, v7, v8, v9, ⟨kept hb h0, kept hb h1, kept hb h2, kept hb h3, kept hb h4, kept hb h5, kept hb h6, kept hb h7, kept hb h8, kept hb h9, kept hb h10, kept hb h11, kept hb h12⟩, hp.below hb⟩
/-- a slice of packages -/
def PacksAt (w : World) (v : Value) (l : List Pv) : Prop :=
  ∃ A c, v = .slice A l.length c ∧ l.length ≤ c ∧ l.length ≤ 9223372036854775807 ∧ (l ≠ [] → ∃ b off, A = some ⟨b, off, none⟩ ∧ ∀ i p, l[i]? = some p → PackC w b (off + i * 13) p)
theorem PacksAt.below {w w' : World} {v : Value} {l : List Pv} (h : PacksAt w v l) (hb : Below w.heap.size w w') : PacksAt w' v l := by
  obtain ⟨A, c, hv, hc, hm, h⟩ := h
  refine ⟨A, c, hv, hc, hm, fun hn => ?_⟩
  obtain ⟨b, off, hA, hi⟩ := h hn
  exact ⟨b, off, hA, fun i p hp => (hi i p hp).below hb⟩
section
variable {H : Type} {enc : TypeId × Value → H} {w : World} {base : Nat} {held : Bool}
theorem list13 {cs : List Value} {u0 u1 u2 u3 u4 u5 u6 u7 u8 u9 ua ub uc : Value} (h : (Value.agg cs.toArray) = .agg #[u0, u1, u2, u3, u4, u5, u6, u7, u8, u9, ua, ub, uc]) : cs = [u0, u1, u2, u3, u4, u5, u6, u7, u8, u9, ua, ub, uc] := by
  injection h with h
  exact congrArg Array.toList h
theorem read_packs {n : Nat} {v : Value} {x : DataW H × List MemPlace} (h : DataW.trod enc Tryz.prog w base (fun _ => true) held n 87 [v] = some x) : ∃ l : List Pv, PacksAt w v l := by
  rcases Go.Deep.open_slice Tryz.underlying87 h with ⟨hc, _⟩ | ⟨a, len, cap, m, k, D, Pl, hc, _, hl, hm, hmm, _, hi⟩
  · have hv : v = .slice none 0 0 := by simpa using hc
    subst hv
    exact ⟨[], none, 0, rfl, Nat.le_refl _, by simp, fun h => absurd rfl h⟩
  · have hv : v = .slice (some a) len cap := by simpa using hc
    subst hv
    rw [if_pos rfl] at hmm
    unfold maxLen at hm
    rcases Nat.eq_zero_or_pos len with h0 | h0
    · subst h0
      exact ⟨[], some a, cap, rfl, Nat.zero_le _, by simp, fun h => absurd rfl h⟩
    · have each : ∀ i, i < len → ∃ y : Pv × List Value, y.2.length = 13 ∧ PackAt w (.agg y.2.toArray) y.1 ∧ ∀ j, (hj : j < 13) → w.cell? ((a.add (i * 13)).add j) = y.2[j]? := by
        intro i hi'
        obtain ⟨cs', h1, h2⟩ := hi i (by omega)
        rw [cells_pack] at h1
        obtain ⟨_, hlen, hcell⟩ := World.cells?_some h1
        obtain ⟨p, hp⟩ := read_pack (cs := cs') hlen h2
        exact ⟨(p, cs'), hlen, hp, fun j hj => hcell j (by omega)⟩
      obtain ⟨y0, hl0, hp0, hc0⟩ := each 0 h0
      have hv0 : ∃ u, y0.2[0]? = some u := ⟨y0.2[0]'(by omega), List.getElem?_eq_getElem _⟩
      obtain ⟨u0, hu0⟩ := hv0
      obtain ⟨b, off, rfl⟩ := plain_addr (w := w) (a := a) (v := u0) (by have := hc0 0 (by omega); rw [hu0] at this; simpa [Addr.add] using this)
      obtain ⟨ys, hys, hp⟩ := choose_list len each
      subst hys
      refine ⟨ys.map (·.1), some ⟨b, off, none⟩, cap, by rw [List.length_map], by rw [List.length_map]; exact hl, by rw [List.length_map]; omega, fun _ => ⟨b, off, rfl, fun i x hx => ?_⟩⟩
      rw [List.getElem?_map, Option.map_eq_some_iff] at hx
      obtain ⟨y, hy, rfl⟩ := hx
      obtain ⟨q1, q2, q3⟩ := hp i y hy
      obtain ⟨v1, v2, v3, v4, v5, v6, v7, v8, v9, e, r⟩ := id q2
      have e2 := list13 e
      have g : ∀ j, (hj : j < 13) → w.cell? ⟨b, off + i * 13 + j, none⟩ = y.2[j]? := fun j hj => by
        have := q3 j hj
        rw [add_plain, add_plain] at this
        exact this
      rw [e2] at g
      refine ⟨v1, v2, v3, v4, v5, v6, v7, v8, v9, ⟨g 0 (by omega), g 1 (by omega), g 2 (by omega), g 3 (by omega), g 4 (by omega), g 5 (by omega), g 6 (by omega), g 7 (by omega), g 8 (by omega), g 9 (by omega), g 10 (by omega), g 11 (by omega), g 12 (by omega)⟩, ?_⟩
      rw [← e]
      exact q2
end
set_option maxRecDepth 100000 in
theorem open_packs {H : Type} {enc : TypeId × Value → H} {W : World} {base b0 : Nat} {held : Bool} {r : Reach} {v : Value} {d : DataW H} {p : List MemPlace}
    (hv : Value.okWide Tryz.prog W r b0 87 v) (h : DataW.Trod enc Tryz.prog W base (fun _ => true) held 87 v d p) : ∃ l, PacksAt W v l := by
  obtain ⟨a0, len, cap, rfl⟩ := okWide_slice Tryz.underlying87 hv
  obtain ⟨fuel, hf⟩ := h
  exact read_packs hf
end Go.Proofs.YtpbbhjifgaeklaaGreatDoor

namespace Go.Proofs.YtpbbhjifgaeklaaGreatDoor
open Go.RowKit

set_option maxHeartbeats 1000000 in
set_option maxRecDepth 100000 in
theorem keepFlat_calls (v : Value) (ts : List Tv) (w : World) (h : TermsAt w v ts) : Calls Tryz.prog 115 #[v] w (BoolIs (flatB ts) w) := by
  obtain ⟨A, c, rfl, hc, hm, hr⟩ := h
  obtain ⟨len, hlen⟩ : ∃ len, ts.length = len := ⟨_, rfl⟩
  have HL := Lib.hid hlen
  rw [hlen] at hc hm ⊢
  clear hlen
  by_cases h40 : 40 < len
  · have F := Lib.hid (show flatB ts = false by unfold flatB; rw [HL.out]; simp; omega)
    clear hr
    go_enter Tryz.func115, Tryz.ntmps115
    go_wp2
    go_ret
    exact ⟨ret_bool F.out.symm, Below.refl _ _⟩
  · have F := Lib.hid (show flatB ts = ts.all flatT by unfold flatB; rw [HL.out, decide_eq_true (by omega)]; rfl)
    have HR := Lib.hid hr
    clear hr
    go_enter Tryz.func115, Tryz.ntmps115
    go_wp2_with fail
    go_loopw [3] (fun i wr => ∃ k : Nat, k ≤ len ∧ i = .int .i64 k ∧ Hid ((ts.take k).all flatT = true) ∧ Below w.heap.size w wr) (fun i _ => len - (intOf i).toNat)
    case atStart => exact ⟨0, Nat.zero_le _, rfl, rfl, Below.refl _ _⟩
    case round =>
      obtain ⟨k, hk, rfl, hall, hB⟩ := hrel
      by_cases hlt : k < len
      · have hne : ts ≠ [] := by
          intro e
          have := HL.out
          rw [e] at this
          simp at this
          omega
        obtain ⟨t, ht⟩ : ∃ t, ts[k]? = some t := ⟨ts[k]'(by have := HL.out; omega), List.getElem?_eq_getElem _⟩
        obtain ⟨b, off, rfl, hi⟩ := HR.out hne
        obtain ⟨hT0, hok⟩ := hi k t ht
        clear hi hne
        have hT := hT0.below hB
        obtain ⟨c0, c1, c2, c3, c4⟩ := hT
        have HT := Lib.hid ht
        clear ht hT0 hok
        by_cases hn : 60 < t.n.size
        · have HF := Lib.hid (show flatT t = false by unfold flatT; rw [decide_eq_false (by omega)]; rfl)
          go_wp2_with fail
          go_ret
          exact ⟨ret_bool (by rw [F.out, all_stop HT.out HF.out]), hB⟩
        · have HF := Lib.hid (show flatT t = shortB t.u t.r by unfold flatT; rw [decide_eq_true (by omega)]; rfl)
          go_wp2_with fail
          refine (short_calls t.e t.u t.r _).mono ?_
          rintro E w1 ⟨rfl, hb⟩
          have hB := step_below hB hb
          clear hb c0 c1 c2 c3 c4
          have hs : shortB t.u t.r = true ∨ shortB t.u t.r = false := by cases shortB t.u t.r <;> simp
          rcases hs with hs | hs
          · have HS := Lib.hid hs
            rw [hs]
            clear hs
            go_wp2_with fail
            go_roundw
            case rel => exact ⟨k + 1, by omega, by go_num, Lib.hid (all_take_succ hall.out HT.out (by rw [HF.out, HS.out])), hB⟩
            case measure => simp [intOf]; omega
          · have HS := Lib.hid hs
            rw [hs]
            clear hs
            go_wp2_with fail
            go_ret
            exact ⟨ret_bool (by rw [F.out, all_stop HT.out (by rw [HF.out, HS.out])]), hB⟩
      · obtain rfl : k = len := by omega
        go_wp2_with fail
        go_ret
        exact ⟨ret_bool (by rw [F.out]; have := hall.out; rw [← HL.out] at this; exact (all_done this).symm), hB⟩

set_option maxHeartbeats 1000000 in
set_option maxRecDepth 100000 in
theorem keepTerms_calls (v : Value) (L : List (List Tv)) (w : World) (h : AskedAt w v L) : Calls Tryz.prog 114 #[v] w (BoolIs (termsB L) w) := by
  obtain ⟨A, c, rfl, hc, hm, hr⟩ := h
  obtain ⟨len, hlen⟩ : ∃ len, L.length = len := ⟨_, rfl⟩
  have HL := Lib.hid hlen
  rw [hlen] at hc hm ⊢
  clear hlen
  by_cases h40 : 40 < len
  · have F := Lib.hid (show termsB L = false by unfold termsB; rw [HL.out]; simp; omega)
    clear hr
    go_enter Tryz.func114, Tryz.ntmps114
    go_wp2
    go_ret
    exact ⟨ret_bool F.out.symm, Below.refl _ _⟩
  · have F := Lib.hid (show termsB L = L.all flatB by unfold termsB; rw [HL.out, decide_eq_true (by omega)]; rfl)
    have HR := Lib.hid hr
    clear hr
    go_enter Tryz.func114, Tryz.ntmps114
    go_wp2_with fail
    go_loopw [3] (fun i wr => ∃ k : Nat, k ≤ len ∧ i = .int .i64 k ∧ Hid ((L.take k).all flatB = true) ∧ Below w.heap.size w wr) (fun i _ => len - (intOf i).toNat)
    case atStart => exact ⟨0, Nat.zero_le _, rfl, rfl, Below.refl _ _⟩
    case round =>
      obtain ⟨k, hk, rfl, hall, hB⟩ := hrel
      by_cases hlt : k < len
      · have hne : L ≠ [] := by
          intro e
          have := HL.out
          rw [e] at this
          simp at this
          omega
        obtain ⟨x, hx⟩ : ∃ x, L[k]? = some x := ⟨L[k]'(by have := HL.out; omega), List.getElem?_eq_getElem _⟩
        obtain ⟨b, off, rfl, hi⟩ := HR.out hne
        obtain ⟨vx, hc0, hT⟩ := hi k x hx
        clear hi hne
        have hT1 := Lib.hid (hT.below hB)
        have c0 := kept hB hc0
        have HT := Lib.hid hx
        clear hx hc0 hT
        go_wp2_with fail
        refine (keepFlat_calls vx x _ hT1.out).mono ?_
        rintro E w1 ⟨rfl, hb⟩
        have hB := step_below hB hb
        clear hb c0
        have hs : flatB x = true ∨ flatB x = false := by cases flatB x <;> simp
        rcases hs with hs | hs
        · have HS := Lib.hid hs
          rw [hs]
          clear hs
          go_wp2_with fail
          go_roundw
          case rel => exact ⟨k + 1, by omega, by go_num, Lib.hid (all_take_succ hall.out HT.out HS.out), hB⟩
          case measure => simp [intOf]; omega
        · have HS := Lib.hid hs
          rw [hs]
          clear hs
          go_wp2_with fail
          go_ret
          exact ⟨ret_bool (by rw [F.out, all_stop HT.out HS.out]), hB⟩
      · obtain rfl : k = len := by omega
        go_wp2_with fail
        go_ret
        exact ⟨ret_bool (by rw [F.out]; have := hall.out; rw [← HL.out] at this; exact (all_done this).symm), hB⟩
end Go.Proofs.YtpbbhjifgaeklaaGreatDoor

/- A status, as it comes in. · A slice of packages, as it comes in. · What is known, as it comes in. · status.after: what the walks read of it, out of the row's list. · A row that lists the handle of errors.errorType besides plain tables: what it gives a walk, and a world that meets it. · CheckSpares: the statement of the seat, ahead of its card. -/
import Derived.Test.YtpbbhjifgaeklaaGreatDoorCSK39
import Derived.Test.YtpbbhjifgaeklaaGreatDoorCSK16
import Derived.Test.YtpbbhjifgaeklaaGreatDoorCSK10
import Derived.Test.YtpbbhjifgaeklaaGreatDoorCSK5
import Derived.Deep.RegionHeld3
import Derived.Deep.DeepCutAuto
import Derived.Test.YtpbbhjifgaeklaaGreatDoorRows
import Derived.OpenShut
import Derived.FnData
import Derived.LaidSub
import Derived.Test.YtpbbhjifgaeklaaGreatDoorCSK9
import Derived.LaidHandle
import Derived.Test.YtpbbhjifgaeklaaGreatDoorTie
import Derived.Test.YtpbbhjifgaeklaaGreatDoorCards
namespace Go.Proofs.YtpbbhjifgaeklaaGreatDoor
open Go.RowKit Go.ChangeShapes Go.WideShapes Go.ChangeAt Go.Joins
section
variable {H : Type} {enc : TypeId × Value → H} {w : World} {base : Nat} {held : Bool}

theorem cells_statK : Tryz.prog.cellsOf 26 = 7 := by kernel_rfl
theorem cells_boolstK : Tryz.prog.cellsOf 4 = 1 := by kernel_rfl

set_option maxRecDepth 100000 in
/-- seven cells that read as a status -/
theorem read_statK {n : Nat} {cs : List Value} {x : DataW H × List MemPlace} (hlen : cs.length = 7) (h : DataW.trod enc Tryz.prog w base (fun _ => true) held n 26 cs = some x) : ∃ z v1 v2, cs.toArray = #[.int .i64 z.n, .int .i64 z.e, .string z.u, .string z.r, .bool z.h, v1, v2] ∧ StAt w v1 v2 z ∧ -9223372036854775808 ≤ z.e ∧ z.e ≤ 9223372036854775807 := by
  obtain ⟨ys, m, _, _, _, hyl, hf⟩ := DataW.trod_struct Tryz.underlying26 h
  match ys, hyl with
  | [y0, y1, y2, y3, y4], _ =>
    have f0 : DataW.trod enc Tryz.prog w base (fun _ => true) held m 3 ((cs.drop 0).take (Tryz.prog.cellsOf 3)) = some y0 := hf 0 _ rfl
    have f1 : DataW.trod enc Tryz.prog w base (fun _ => true) held m 23 ((cs.drop 1).take (Tryz.prog.cellsOf 23)) = some y1 := hf 1 _ rfl
    have f2 : DataW.trod enc Tryz.prog w base (fun _ => true) held m 4 ((cs.drop 4).take (Tryz.prog.cellsOf 4)) = some y2 := hf 2 _ rfl
    have f3 : DataW.trod enc Tryz.prog w base (fun _ => true) held m 24 ((cs.drop 5).take (Tryz.prog.cellsOf 24)) = some y3 := hf 3 _ rfl
    have f4 : DataW.trod enc Tryz.prog w base (fun _ => true) held m 24 ((cs.drop 6).take (Tryz.prog.cellsOf 24)) = some y4 := hf 4 _ rfl
    rw [cells_int] at f0
    rw [cells_vers] at f1
    rw [cells_boolstK] at f2
    rw [cells_strs] at f3 f4
    obtain ⟨n, e0, _, _⟩ := DataW.trod_int Tryz.underlying3 f0
    obtain ⟨e, u, r, e1, e2, e3, b1, b2⟩ := read_vers f1
    obtain ⟨hh, e4, _⟩ := DataW.trod_bool Tryz.underlying4 f2
    obtain ⟨v1, t1, g1⟩ := one_cell (cs := cs) (k := 5) (by omega)
    obtain ⟨v2, t2, g2⟩ := one_cell (cs := cs) (k := 6) (by omega)
    rw [t1] at f3
    rw [t2] at f4
    obtain ⟨ws, h1⟩ := read_strs f3
    obtain ⟨ts, h2⟩ := read_strs f4
    refine ⟨⟨n, e, u, r, hh, ws, ts⟩, v1, v2, ?_, ⟨h1, h2⟩, b1, b2⟩
    have q0 := one_of_take e0
    have q1 : cs[1]? = some (.int .i64 e) := by simpa [List.getElem?_take, List.getElem?_drop] using e1
    have q2 : cs[2]? = some (.string u) := by simpa [List.getElem?_take, List.getElem?_drop] using e2
    have q3 : cs[3]? = some (.string r) := by simpa [List.getElem?_take, List.getElem?_drop] using e3
    have q4 := one_of_take e4
    match cs, hlen with
    | [c0, c1, c2, c3, c4, c5, c6], _ =>
      obtain rfl := Option.some.inj q0
      obtain rfl := Option.some.inj q1
      obtain rfl := Option.some.inj q2
      obtain rfl := Option.some.inj q3
      obtain rfl := Option.some.inj q4
      obtain rfl := Option.some.inj g1
      obtain rfl := Option.some.inj g2
      rfl
end

end Go.Proofs.YtpbbhjifgaeklaaGreatDoor

namespace Go.Proofs.YtpbbhjifgaeklaaGreatDoor
open Go.RowKit Go.ChangeShapes Go.WideShapes Go.ChangeAt Go.Joins

/-- a package's thirteen cells at a place -/
def PackC (w : World) (b o : Nat) (p : Pv) : Prop := ∃ v1 v2 v3 v4 v5 v6 v7 v8 v9 : Value,
  (w.cell? ⟨b, o, none⟩ = some (.string p.n) ∧ w.cell? ⟨b, o + 1, none⟩ = some (.int .i64 p.e) ∧ w.cell? ⟨b, o + 2, none⟩ = some (.string p.u) ∧ w.cell? ⟨b, o + 3, none⟩ = some (.string p.r) ∧ w.cell? ⟨b, o + 4, none⟩ = some v1 ∧ w.cell? ⟨b, o + 5, none⟩ = some v2 ∧ w.cell? ⟨b, o + 6, none⟩ = some v3 ∧ w.cell? ⟨b, o + 7, none⟩ = some v4 ∧ w.cell? ⟨b, o + 8, none⟩ = some v5 ∧ w.cell? ⟨b, o + 9, none⟩ = some v6 ∧ w.cell? ⟨b, o + 10, none⟩ = some v7 ∧ w.cell? ⟨b, o + 11, none⟩ = some v8 ∧ w.cell? ⟨b, o + 12, none⟩ = some v9) ∧
  PackAt w (.agg #[.string p.n, .int .i64 p.e, .string p.u, .string p.r, v1, v2, v3, v4, v5, v6, v7, v8, v9]) p
theorem PackC.below {w w' : World} {b o : Nat} {p : Pv} (h : PackC w b o p) (hb : Below w.heap.size w w') : PackC w' b o p := by
  obtain ⟨v1, v2, v3, v4, v5, v6, v7, v8, v9, ⟨h0, h1, h2, h3, h4, h5, h6, h7, h8, h9, h10, h11, h12⟩, hp⟩ := h
  exact ⟨v1, v2, v3, v4, v5, v6, v7, v8, v9, ⟨kept hb h0, kept hb h1, kept hb h2, kept hb h3, kept hb h4, kept hb h5, kept hb h6, kept hb h7, kept hb h8, kept hb h9, kept hb h10, kept hb h11, kept hb h12⟩, hp.below hb⟩
/-- a slice of packages -/
def PacksAt (w : World) (v : Value) (l : List Pv) : Prop :=
  ∃ A c, v = .slice A l.length c ∧ l.length ≤ c ∧ l.length ≤ 9223372036854775807 ∧ (l ≠ [] → ∃ b off, A = some ⟨b, off, none⟩ ∧ ∀ i p, l[i]? = some p → PackC w b (off + i * 13) p)
theorem PacksAt.below {w w' : World} {v : Value} {l : List Pv} (h : PacksAt w v l) (hb : Below w.heap.size w w') : PacksAt w' v l := by
  obtain ⟨A, c, hv, hc, hm, h⟩ := h
  refine ⟨A, c, hv, hc, hm, fun hn => ?_⟩
  obtain ⟨b, off, hA, hi⟩ := h hn
  exact ⟨b, off, hA, fun i p hp => (hi i p hp).below hb⟩
section
variable {H : Type} {enc : TypeId × Value → H} {w : World} {base : Nat} {held : Bool}
theorem list13 {cs : List Value} {u0 u1 u2 u3 u4 u5 u6 u7 u8 u9 ua ub uc : Value} (h : (Value.agg cs.toArray) = .agg #[u0, u1, u2, u3, u4, u5, u6, u7, u8, u9, ua, ub, uc]) : cs = [u0, u1, u2, u3, u4, u5, u6, u7, u8, u9, ua, ub, uc] := by
  injection h with h
  exact congrArg Array.toList h
end
end Go.Proofs.YtpbbhjifgaeklaaGreatDoor

namespace Go.Proofs.YtpbbhjifgaeklaaGreatDoor
open Go.RowKit Go.ChangeShapes Go.WideShapes Go.ChangeAt Go.Joins

/-- twenty cells that are one that is known -/
def KnowCs (w : World) (cs : List Value) (k : Kv) : Prop := ∃ (Aw At A1 A2 A3 A4 A5 A6 A7 A8 A9 : Option Addr) (nw nt cw ct c1 c2 c3 c4 c5 c6 c7 c8 c9 : Nat),
  cs.toArray = kvC k (.slice Aw nw cw) (.slice At nt ct) (.slice A1 k.p.dep.length c1) (.slice A2 k.p.ahead.length c2) (.slice A3 k.p.ag.length c3) (.slice A4 k.p.br.length c4) (.slice A5 k.p.re.length c5) (.slice A6 k.p.pr.length c6) (.slice A7 k.p.se.length c7) (.slice A8 k.p.li.length c8) (.slice A9 k.p.fi.length c9) ∧ PackAt w (.agg #[.string k.p.n, .int .i64 k.p.e, .string k.p.u, .string k.p.r, .slice A1 k.p.dep.length c1, .slice A2 k.p.ahead.length c2, .slice A3 k.p.ag.length c3, .slice A4 k.p.br.length c4, .slice A5 k.p.re.length c5, .slice A6 k.p.pr.length c6, .slice A7 k.p.se.length c7, .slice A8 k.p.li.length c8, .slice A9 k.p.fi.length c9]) k.p
theorem cells_known : Tryz.prog.cellsOf 79 = 20 := by kernel_rfl
section
variable {H : Type} {enc : TypeId × Value → H} {w : World} {base : Nat} {held : Bool}
set_option maxRecDepth 100000 in
theorem read_known {n : Nat} {cs : List Value} {x : DataW H × List MemPlace} (hlen : cs.length = 20) (h : DataW.trod enc Tryz.prog w base (fun _ => true) held n 79 cs = some x) : ∃ k : Kv, KnowCs w cs k := by
  obtain ⟨ys, m, _, _, _, hyl, hf⟩ := DataW.trod_struct Tryz.underlying79 h
  match ys, hyl with
  | [y0, y1], _ =>
    have f0 : DataW.trod enc Tryz.prog w base (fun _ => true) held m 26 ((cs.drop 0).take (Tryz.prog.cellsOf 26)) = some y0 := hf 0 _ rfl
    have f1 : DataW.trod enc Tryz.prog w base (fun _ => true) held m 67 ((cs.drop 7).take (Tryz.prog.cellsOf 67)) = some y1 := hf 1 _ rfl
    rw [cells_statK] at f0
    rw [cells_pack] at f1
    obtain ⟨z, u1, u2, e0, hst, _, _⟩ := read_statK (by rw [List.length_take, List.length_drop, hlen]; rfl) f0
    obtain ⟨p, hp⟩ := read_pack (by rw [List.length_take, List.length_drop, hlen]; rfl) f1
    obtain ⟨v1, v2, v3, v4, v5, v6, v7, v8, v9, hv, h1, h2, h3, h4, h5, h6, h7, h8, h9, b1, b2⟩ := id hp
    obtain ⟨g1, g2⟩ := hst
    obtain ⟨Aw, cw, rfl, _⟩ := id g1
    obtain ⟨At, ct, rfl, _⟩ := id g2
    obtain ⟨A1, c1, rfl, _⟩ := id h1
    obtain ⟨A2, c2, rfl, _⟩ := id h2
    obtain ⟨A3, c3, rfl, _⟩ := id h3
    obtain ⟨A4, c4, rfl, _⟩ := id h4
    obtain ⟨A5, c5, rfl, _⟩ := id h5
    obtain ⟨A6, c6, rfl, _⟩ := id h6
    obtain ⟨A7, c7, rfl, _⟩ := id h7
    obtain ⟨A8, c8, rfl, _⟩ := id h8
    obtain ⟨A9, c9, rfl, _⟩ := id h9
    have e1 := congrArg Array.toList e0
    have e2 := list13 hv
    refine ⟨⟨z.n, z.e, z.u, z.r, z.h, p⟩, Aw, At, A1, A2, A3, A4, A5, A6, A7, A8, A9, z.ws.length, z.ts.length, cw, ct, c1, c2, c3, c4, c5, c6, c7, c8, c9, ?_, by rw [hv] at hp; exact hp⟩
    match cs, hlen with
    | [c0', c1', c2', c3', c4', c5', c6', c7', c8', c9', c10', c11', c12', c13', c14', c15', c16', c17', c18', c19'], _ =>
      simp only [List.drop_zero, List.take_succ_cons, List.take_zero, List.drop_succ_cons, List.cons.injEq] at e1 e2
      obtain ⟨rfl, rfl, rfl, rfl, rfl, rfl, rfl, _⟩ := e1
      obtain ⟨rfl, rfl, rfl, rfl, rfl, rfl, rfl, rfl, rfl, rfl, rfl, rfl, rfl, _⟩ := e2
      rfl
theorem read_knowns {n : Nat} {v : Value} {x : DataW H × List MemPlace} (h : DataW.trod enc Tryz.prog w base (fun _ => true) held n 73 [v] = some x) : ∃ ks : List Kv, KnownsAt w v ks := by
  rcases Go.Deep.open_slice Tryz.underlying73 h with ⟨hc, _⟩ | ⟨a, len, cap, m, k, D, Pl, hc, _, hl, hm, hmm, _, hi⟩
  · have hv : v = .slice none 0 0 := by simpa using hc
    subst hv
    exact ⟨[], none, 0, rfl, Nat.le_refl _, by simp, fun h => absurd rfl h⟩
  · have hv : v = .slice (some a) len cap := by simpa using hc
    subst hv
    rw [if_pos rfl] at hmm
    unfold maxLen at hm
    rcases Nat.eq_zero_or_pos len with h0 | h0
    · subst h0
      exact ⟨[], some a, cap, rfl, Nat.zero_le _, by simp, fun h => absurd rfl h⟩
    · have each : ∀ i, i < len → ∃ y : Kv × List Value, y.2.length = 20 ∧ KnowCs w y.2 y.1 ∧ ∀ j, (hj : j < 20) → w.cell? ((a.add (i * 20)).add j) = y.2[j]? := by
        intro i hi'
        obtain ⟨cs', h1, h2⟩ := hi i (by omega)
        rw [cells_known] at h1
        obtain ⟨_, hlen, hcell⟩ := World.cells?_some h1
        obtain ⟨k, hk⟩ := read_known (cs := cs') hlen h2
        exact ⟨(k, cs'), hlen, hk, fun j hj => hcell j (by omega)⟩
      obtain ⟨y0, hl0, hp0, hc0⟩ := each 0 h0
      have hv0 : ∃ u, y0.2[0]? = some u := ⟨y0.2[0]'(by omega), List.getElem?_eq_getElem _⟩
      obtain ⟨u0, hu0⟩ := hv0
      obtain ⟨b, off, rfl⟩ := plain_addr (w := w) (a := a) (v := u0) (by have := hc0 0 (by omega); rw [hu0] at this; simpa [Addr.add] using this)
      obtain ⟨ys, hys, hp⟩ := choose_list len each
      subst hys
      refine ⟨ys.map (·.1), some ⟨b, off, none⟩, cap, by rw [List.length_map], by rw [List.length_map]; exact hl, by rw [List.length_map]; omega, fun _ => ⟨b, off, rfl, fun i x hx => ?_⟩⟩
      rw [List.getElem?_map, Option.map_eq_some_iff] at hx
      obtain ⟨y, hy, rfl⟩ := hx
      obtain ⟨q1, ⟨Aw, At, A1, A2, A3, A4, A5, A6, A7, A8, A9, nw, nt, cw, ct, c1, c2, c3, c4, c5, c6, c7, c8, c9, e, hpk⟩, q3⟩ := hp i y hy
      refine ⟨⟨Aw, At, A1, A2, A3, A4, A5, A6, A7, A8, A9, nw, nt, cw, ct, c1, c2, c3, c4, c5, c6, c7, c8, c9, fun j u hj => ?_, hpk⟩⟩
      rw [← e, List.getElem?_toArray] at hj
      have hj2 : j < 20 := by have := (List.getElem?_eq_some_iff.1 hj).1; omega
      have g := q3 j hj2
      rw [add_plain, add_plain] at g
      exact g.trans hj
end
set_option maxRecDepth 100000 in
theorem open_knowns {H : Type} {enc : TypeId × Value → H} {W : World} {base b0 : Nat} {held : Bool} {r : Reach} {v : Value} {d : DataW H} {p : List MemPlace}
    (hv : Value.okWide Tryz.prog W r b0 73 v) (h : DataW.Trod enc Tryz.prog W base (fun _ => true) held 73 v d p) : ∃ ks, KnownsAt W v ks := by
  obtain ⟨a0, len, cap, rfl⟩ := okWide_slice Tryz.underlying73 hv
  obtain ⟨fuel, hf⟩ := h
  exact read_knowns hf
end Go.Proofs.YtpbbhjifgaeklaaGreatDoor

namespace Go.Proofs.YtpbbhjifgaeklaaGreatDoor
open Go.RowKit Go.ChangeShapes Go.WideShapes Go.ChangeAt Go.Joins

theorem afterIs : Tryz.prog.globalNamed "stevedore/status.after" = some 1 := by kernel_rfl
theorem afterType : (Tryz.prog.globals[1]?).map (·.type) = some 175 := by kernel_rfl
theorem cells8 : Tryz.prog.cellsOf 174 = 8 := by kernel_rfl
theorem cellsIntN : Tryz.prog.cellsOf 3 = 1 := by kernel_rfl

theorem envN_reads {W : World} (h : Lib.VarReads Tryz.prog W "stevedore/status.after" (Rows.laid_stevedore_status_after : DataW Unit)) : EnvN W := by
  obtain ⟨g, t, cs, fuel, p, hg, ht, hvar, hd⟩ := h
  obtain rfl := Option.some.inj (afterIs.symm.trans hg)
  obtain rfl := Option.some.inj (afterType.symm.trans ht)
  obtain ⟨xs, m, _, hx, _, hxl, hf⟩ := DataW.trod_array Tryz.underlying175 hd
  have hx1 : xs.map (·.1) = afterR.map fun r => .agg (r.map fun n => .lit (.int .i64 n)) := by
    have := congrArg Prod.fst hx
    simp only [Rows.laid_stevedore_status_after] at this
    injection this with this
    exact this.symm
  intro e s he hs
  rw [World.var?_cell afterIs hvar (e * 8 + s)]
  have hfe := hf e he
  rw [cells8] at hfe
  have hxe : xs[e]? = some (xs[e]'(by omega)) := List.getElem?_eq_getElem _
  rw [hxe] at hfe
  obtain ⟨ys, m', _, hy, _, hyl, hf2⟩ := DataW.trod_array Tryz.underlying174 hfe
  have hfs := hf2 s hs
  rw [cellsIntN, Nat.mul_one] at hfs
  have hys : ys[s]? = some (ys[s]'(by omega)) := List.getElem?_eq_getElem _
  rw [hys] at hfs
  obtain ⟨n, hc, hyn, _⟩ := DataW.trod_int Tryz.underlying3 hfs
  have hcell : cs.toList[e * 8 + s]? = some (.int .i64 n) := by
    have := congrArg (·[0]?) hc
    simpa [List.getElem?_take, List.getElem?_drop, hs] using this
  have h1 : (xs.map (·.1))[e]? = some (.agg (ys.map (·.1))) := by
    rw [List.getElem?_map, hxe, hy]; rfl
  rw [hx1, List.getElem?_map] at h1
  obtain ⟨r, hr, hr2⟩ := Option.map_eq_some_iff.1 h1
  injection hr2 with hr2
  have h2 : (ys.map (·.1))[s]? = some (.lit (.int .i64 n)) := by
    rw [List.getElem?_map, hys, hyn]; rfl
  rw [← hr2, List.getElem?_map] at h2
  obtain ⟨n', hn, hn2⟩ := Option.map_eq_some_iff.1 h2
  injection hn2 with hn2
  injection hn2 with _ hn2
  have : cs[e * 8 + s]? = some (.int .i64 n) := by rw [← Array.getElem?_toList]; exact hcell
  rw [this]
  unfold afterT
  rw [List.getD_eq_getElem?_getD, List.getD_eq_getElem?_getD, hr]
  show _ = some (Value.int .i64 ((r[s]?).getD 0))
  rw [hn, ← hn2]
  rfl

theorem envN_at {W : World} {laid : List (String × DataW Unit)} (hL : laidMetH Tryz.prog laid W) (hm : ("stevedore/status.after", (Rows.laid_stevedore_status_after : DataW Unit)) ∈ laid) : EnvN W :=
  envN_reads (Lib.laidMet.reads (laidMetH_iff.1 hL).1 (List.mem_filter.2 ⟨hm, rfl⟩))
end Go.Proofs.YtpbbhjifgaeklaaGreatDoor

namespace Go.Proofs.YtpbbhjifgaeklaaGreatDoor
open Go.RowKit Go.ChangeShapes Go.WideShapes Go.ChangeAt Go.Joins

theorem rtypeIs : (Tryz.prog.cutTypes.find? (·.1 == "internal/reflectlite.rtype")).map (·.2) = some 304 := by kernel_rfl
theorem errorTypeIs : Tryz.prog.globalNamed "errors.errorType" = some 2 := by kernel_rfl
theorem errorRow : ((List.range 372).filter fun t => Tryz.prog.rowNamed t [101, 114, 114, 111, 114]) = [31] := by kernel_rfl
theorem typesSize : Tryz.prog.types.size = 372 := by kernel_rfl

/-- what is listed of handles -/
theorem envE_at {W : World} {laid : List (String × DataW Unit)} (hL : laidMetH Tryz.prog laid W) (hm : ("errors.errorType", (Rows.laid_errors_errorType : DataW Unit)) ∈ laid) : EnvE W := by
  obtain ⟨_, hh⟩ := laidMetH_iff.1 hL
  obtain ⟨name, u, ty, e1, e2, e3, e4, e5⟩ := hh _ (List.mem_filter.2 ⟨hm, rfl⟩)
  have en : name = [101, 114, 114, 111, 114] := (Option.some.inj e1).symm
  subst en
  obtain rfl := Option.some.inj (rtypeIs.symm.trans e2)
  have hmem : ty ∈ (List.range 372).filter fun t => Tryz.prog.rowNamed t [101, 114, 114, 111, 114] := List.mem_filter.2 ⟨List.mem_range.2 (by rw [← typesSize]; exact e3), e4⟩
  rw [errorRow] at hmem
  obtain rfl := List.mem_singleton.1 hmem
  have hd : typeHandle Tryz.prog 31 = .pointer (some ⟨11, 31, none⟩) := by kernel_rfl
  rw [hd] at e5
  unfold EnvE
  simpa using World.var?_cell errorTypeIs e5 0

/-- what is listed of plain tables -/
theorem env_handed {W : World} {laid : List (String × DataW Unit)} (hL : laidMetH Tryz.prog laid W) (hm : ("internal/strconv.uint64pow10", (Rows.laid_internal_strconv_uint64pow10 : DataW Unit)) ∈ laid) (hsh : W.ShapedOpen Tryz.prog) : Env W :=
  env_at (laidMetH_iff.1 hL).1 (List.mem_filter.2 ⟨hm, rfl⟩) hsh

/-- the variables as they start, the handle laid -/
noncomputable def handBase (os : Os) : World :=
  { World.holding Tryz.prog os ⟨#[], #[], []⟩ with heap := (World.holding Tryz.prog os ⟨#[], #[], []⟩).heap.modify 2 fun
      | .cells _ t frozen => .cells #[.iface 304 (.agg #[.pointer (some ⟨11, 31, none⟩)])] t frozen
      | o => o }
noncomputable def handWorld (os : Os) (laid : List (String × DataW Unit)) : World := (handBase os).layVars Tryz.prog (laid.filter fun x => x.2.handleName?.isNone)
theorem handWorld_os (os : Os) (laid : List (String × DataW Unit)) : (handWorld os laid).os = os := World.layVars_os _ _ _
theorem handWorld_met {os : Os} {laid : List (String × DataW Unit)} (args : Array Value)
    (hf : (handBase os).layFits Tryz.prog (laid.filter fun x => x.2.handleName?.isNone) [] = true)
    (hi : (handBase os).layIfaces Tryz.prog (laid.filter fun x => x.2.handleName?.isNone) (handWorld os laid) = true)
    (hh : (laid.filter fun x => x.2.handleName?.isSome).all (handleAtB Tryz.prog ((handWorld os laid).forCall (fun _ _ => 0) ⟨#[], args, []⟩).memory) = true) :
    laidMetH Tryz.prog laid ((handWorld os laid).forCall (fun _ _ => 0) ⟨#[], args, []⟩).memory := by
  refine laidMetH_of_parts ?_ hh
  obtain ⟨plain, hp⟩ : ∃ plain, (laid.filter fun x => x.2.handleName?.isNone) = plain := ⟨_, rfl⟩
  have hw : handWorld os laid = (handBase os).layVars Tryz.prog plain := by unfold handWorld; rw [hp]
  rw [hp] at hf hi ⊢
  rw [hw] at hi ⊢
  have e1 : (plain.filter fun x => (plain.map (·.1)).contains x.1) = plain := List.filter_eq_self.2 fun x hx => List.contains_iff_mem.2 (List.mem_map.2 ⟨x, hx, rfl⟩)
  have e2 : (plain.filter fun x => !(plain.map (·.1)).contains x.1) = [] := List.filter_eq_nil_iff.2 fun x hx => by rw [List.contains_iff_mem.2 (List.mem_map.2 ⟨x, hx, rfl⟩)]; simp
  have h : laidMet Tryz.prog plain ((handBase os).layVars Tryz.prog plain) := laidMet_layVars (w0 := handBase os) (plain.map (·.1)) [] (by rw [e1]) (by rw [e1]; exact hf) (by rw [e1]; exact hi) (by rw [e2]; exact LaidIn.none)
  exact h.of_heap (by simp [World.memory, World.forCall, Input.heap])
end Go.Proofs.YtpbbhjifgaeklaaGreatDoor

namespace Go.Proofs.YtpbbhjifgaeklaaGreatDoor
open Go.RowKit Go.ChangeShapes Go.WideShapes Go.ChangeAt Go.Joins

set_option maxRecDepth 100000 in
theorem spares_lifted (os : Os) (started : os.Started) (H : Type) (enc : TypeId × Value → H) :
    ReturnsInHanded {} Tryz.checked os 6 .any (fun w args => (Rows.checkSparesSpec.pre enc Tryz.prog Tryz.f6 [] false w args ∧ laidMetH Tryz.prog Rows.checkSparesRow.laid w) ∧ sizedMet enc Tryz.prog Tryz.f6 (OpenSpec.ofChange Rows.checkSparesSpec) false w args)
      (Rows.checkSparesSpec.post enc Tryz.prog Tryz.f6 false true false false) := by
  refine returnsInHanded_listed_shaped (C := Tryz.checked) (X := fun w _ => laidMetH Tryz.prog Rows.checkSparesRow.laid w) (fun _ _ _ hh h => h.of_heap hh) own started (by kernel_rfl) Tryz.func6
    (ChangeSpec.witness_shaped (enc := enc) (C := Tryz.checked) (os := os) (X := fun w _ => laidMetH Tryz.prog Rows.checkSparesRow.laid w) false (handWorld os Rows.checkSparesRow.laid) #[.slice none 0 0, .int .i64 0] 8 (handWorld_os _ _)
      (World.shaped_of_ZipB (by kernel_rfl) (by kernel_rfl)) (by kernel_rfl) (by kernel_rfl) (by kernel_rfl)
      (handWorld_met _ (by kernel_rfl) (by kernel_rfl) (by kernel_rfl))) ?_
  intro W base args ds gs before hval0 hW _ _ hL hsh _
  have hval : ∀ (j : Nat) t v, Tryz.f6.params[j]? = some t → args[j]? = some v → Value.okWide Tryz.prog W .any base t v := hval0
  have hW' := hW
  obtain ⟨p, q, hA0, hV, hpq, _, _⟩ := hW
  have hA : DataW.TrodAll enc Tryz.prog W 0 (fun _ => true) true Tryz.f6.params.toList args.toList ds p := hA0
  rw [Tryz.params6] at hA hval
  obtain ⟨v0, v1, d0, d1, p0, p1, hv01, hd01, hp01, h0, h1⟩ := trodAll_two hA
  obtain ⟨rfl, rfl⟩ := trodVars_none hV
  obtain rfl : args = #[v0, v1] := by cases args; simp at hv01; rw [hv01]
  obtain ⟨ks, hK⟩ := open_knowns (hval 0 73 v0 rfl rfl) h0
  obtain ⟨x, rfl, rfl, rfl, _⟩ := open_int Tryz.underlying3 (hval 1 3 v1 rfl rfl) h1
  have hE : Env W := env_handed hL (.tail _ (.tail _ (.head _))) hsh
  have hG : EnvE W := envE_at hL (.tail _ (.tail _ (.tail _ (.tail _ (.head _)))))
  have hN : EnvN W := envN_at hL (.tail _ (.tail _ (.tail _ (.tail _ (.tail _ (.head _))))))
  refine (spares_law v0 ks x W hE hG hN hK).mono fun e W' ⟨he, hb⟩ => ?_
  subst he
  have hargs := below_trodAll (enc := enc) laidOut hb (by kernel_rfl) hA (DataW.TrodAll.lt hA)
  subst hd01
  exact ⟨_, rfl, _, _, _, [], p, [], hW', trodAll_mk1 (shut_bool Tryz.underlying4 _), hargs, rfl, hb.frame _, fun h => by cases h⟩

set_option maxHeartbeats 10000000 in
set_option maxRecDepth 100000 in
theorem spares_facts : joinedFacts Tryz.prog 6 Tryz.f6 Rows.checkSparesSpec Rows.checkSparesRow = true := by
  unfold joinedFacts
  simp only [Bool.and_eq_true]
  (repeat' apply And.intro)
  all_goals (as_aux_lemma => kernel_rfl)

theorem spares_holds : Rows.CheckSparesSaid :=
  OpenClaim.holds_of_wide 6 Tryz.f6 rfl rfl rfl rfl rfl rfl rfl ⟨rfl, rfl, rfl, rfl, rfl⟩ rfl rfl rfl rfl rfl (by as_aux_lemma => kernel_rfl) Tryz.func6 spares_facts
    (of_decide_eq_true (by as_aux_lemma => kernel_rfl)) (by unfold Func.isWrapper; first | (rw [if_pos (by decide +kernel)]; kernel_rfl) | (rw [if_neg (by decide +kernel)]; exact ⟨rfl, rfl⟩))
    (fun os started H enc _ => spares_lifted os started H enc)
end Go.Proofs.YtpbbhjifgaeklaaGreatDoor

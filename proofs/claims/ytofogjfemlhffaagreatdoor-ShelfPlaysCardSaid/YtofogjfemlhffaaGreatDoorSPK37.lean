/- What is asked for, as it comes in. · A package, as it comes in. · A slice of packages, as it comes in. · ShelfOwns: for every packages, numbers and truth value the call returns true: the walk. · A status, as it comes in. -/
import Derived.Test.YtofogjfemlhffaaGreatDoorSPK3
import Derived.Test.YtofogjfemlhffaaGreatDoorSPK36
import Derived.Deep.Slices
import Derived.OpenShut
import Derived.Test.YtofogjfemlhffaaGreatDoorSPK11
import Derived.Test.YtofogjfemlhffaaGreatDoorSPK13
import Derived.Test.YtofogjfemlhffaaGreatDoorSPK2
import Derived.Deep.QuietTactic
import Derived.BigQuiet
import Derived.Deep.RegionHeld3
import Derived.Test.YtofogjfemlhffaaGreatDoorSPK7
import Derived.Deep.DeepCutAuto
namespace Go.Proofs.YtofogjfemlhffaaGreatDoor
open Go.RowKit Go.ChangeShapes Go.WideShapes Go.ChangeAt Go.Joins
section
variable {H : Type} {enc : TypeId × Value → H} {w : World} {base : Nat} {spare : Nat → Bool} {held : Bool}

theorem one_of_take {cs : List Value} {j : Nat} {v : Value} (h : (cs.drop j).take 1 = [v]) : cs[j]? = some v := by
  have := congrArg (·[0]?) h
  simpa [List.getElem?_take, List.getElem?_drop] using this

theorem cells_string : Tryz.prog.cellsOf 9 = 1 := by kernel_rfl
theorem cells_int : Tryz.prog.cellsOf 3 = 1 := by kernel_rfl
theorem cells_vers : Tryz.prog.cellsOf 37 = 3 := by kernel_rfl
theorem cells_term : Tryz.prog.cellsOf 96 = 5 := by kernel_rfl
theorem cells_terms : Tryz.prog.cellsOf 39 = 1 := by kernel_rfl

/-- three cells that read as a version -/
theorem read_vers {n : Nat} {cs : List Value} {x : DataW H × List MemPlace} (h : DataW.trod enc Tryz.prog w base spare held n 37 cs = some x) :
    ∃ (e : Int) (u r : ByteArray), cs[0]? = some (.int .i64 e) ∧ cs[1]? = some (.string u) ∧ cs[2]? = some (.string r) ∧ -9223372036854775808 ≤ e ∧ e ≤ 9223372036854775807 := by
  obtain ⟨ys, m, _, _, _, hyl, hf⟩ := DataW.trod_struct Tryz.underlying37 h
  match ys, hyl with
  | [y0, y1, y2], _ =>
    have f0 : DataW.trod enc Tryz.prog w base spare held m 3 ((cs.drop 0).take (Tryz.prog.cellsOf 3)) = some y0 := hf 0 _ rfl
    have f1 : DataW.trod enc Tryz.prog w base spare held m 9 ((cs.drop 1).take (Tryz.prog.cellsOf 9)) = some y1 := hf 1 _ rfl
    have f2 : DataW.trod enc Tryz.prog w base spare held m 9 ((cs.drop 2).take (Tryz.prog.cellsOf 9)) = some y2 := hf 2 _ rfl
    rw [cells_int] at f0
    rw [cells_string] at f1 f2
    obtain ⟨e, e0, _, we⟩ := DataW.trod_int Tryz.underlying3 f0
    obtain ⟨u, e1, _, _⟩ := DataW.trod_string Tryz.underlying9 f1
    obtain ⟨r, e2, _, _⟩ := DataW.trod_string Tryz.underlying9 f2
    have hb := bounds_i64 we
    exact ⟨e, u, r, one_of_take e0, one_of_take e1, one_of_take e2, hb.1, hb.2⟩

/-- five cells that read as a term -/
theorem read_term {n : Nat} {cs : List Value} {x : DataW H × List MemPlace} (h : DataW.trod enc Tryz.prog w base spare held n 96 cs = some x) :
    ∃ t : Tv, cs[0]? = some (.string t.n) ∧ cs[1]? = some (.int .i64 t.op) ∧ cs[2]? = some (.int .i64 t.e) ∧ cs[3]? = some (.string t.u) ∧ cs[4]? = some (.string t.r) ∧ t.ok := by
  obtain ⟨ys, m, _, _, _, hyl, hf⟩ := DataW.trod_struct Tryz.underlying96 h
  match ys, hyl with
  | [y0, y1, y2], _ =>
    have f0 : DataW.trod enc Tryz.prog w base spare held m 9 ((cs.drop 0).take (Tryz.prog.cellsOf 9)) = some y0 := hf 0 _ rfl
    have f1 : DataW.trod enc Tryz.prog w base spare held m 3 ((cs.drop 1).take (Tryz.prog.cellsOf 3)) = some y1 := hf 1 _ rfl
    have f2 : DataW.trod enc Tryz.prog w base spare held m 37 ((cs.drop 2).take (Tryz.prog.cellsOf 37)) = some y2 := hf 2 _ rfl
    rw [cells_string] at f0
    rw [cells_int] at f1
    rw [cells_vers] at f2
    obtain ⟨n, e0, _, _⟩ := DataW.trod_string Tryz.underlying9 f0
    obtain ⟨op, e1, _, wo⟩ := DataW.trod_int Tryz.underlying3 f1
    obtain ⟨e, u, r, e2, e3, e4, b1, b2⟩ := read_vers f2
    have hb := bounds_i64 wo
    refine ⟨⟨n, op, e, u, r⟩, one_of_take e0, one_of_take e1, ?_, ?_, ?_, b1, b2, hb.1, hb.2⟩
    · simpa [List.getElem?_take, List.getElem?_drop] using e2
    · simpa [List.getElem?_take, List.getElem?_drop] using e3
    · simpa [List.getElem?_take, List.getElem?_drop] using e4

theorem choose_list {α : Type} {p : Nat → α → Prop} : ∀ n : Nat, (∀ i, i < n → ∃ a, p i a) → ∃ l : List α, l.length = n ∧ ∀ (i : Nat) (a : α), l[i]? = some a → p i a
  | 0, _ => ⟨[], rfl, fun i a h => by simp at h⟩
  | n + 1, h => by
    obtain ⟨l, hl, hp⟩ := choose_list n (fun i hi => h i (by omega))
    obtain ⟨a, ha⟩ := h n (by omega)
    refine ⟨l ++ [a], by rw [List.length_append, hl]; rfl, fun i b hb => ?_⟩
    rcases Nat.lt_trichotomy i n with hi | hi | hi
    · rw [List.getElem?_append_left (by omega)] at hb
      exact hp i b hb
    · subst hi
      rw [List.getElem?_append_right (by omega), hl, Nat.sub_self] at hb
      obtain rfl := Option.some.inj hb
      exact ha
    · rw [List.getElem?_eq_none (by rw [List.length_append, List.length_singleton]; omega)] at hb
      cases hb

theorem plain_addr {a : Addr} {v : Value} (h : w.cell? a = some v) : ∃ b off, a = ⟨b, off, none⟩ := by
  obtain ⟨b, off, spot⟩ := a
  have hspot : spot = none := by simpa using World.cell?_spot h
  subst hspot
  exact ⟨b, off, rfl⟩

/-- a slice of terms that comes in -/
theorem read_terms {n : Nat} {v : Value} {x : DataW H × List MemPlace} (h : DataW.trod enc Tryz.prog w base (fun _ => true) held n 39 [v] = some x) : ∃ ts : List Tv, TermsAt w v ts := by
  rcases Go.Deep.open_slice Tryz.underlying39 h with ⟨hc, _⟩ | ⟨a, len, cap, m, k, D, Pl, hc, _, hl, hm, hmm, _, hi⟩
  · have hv : v = .slice none 0 0 := by simpa using hc
    subst hv
    exact ⟨[], none, 0, rfl, Nat.le_refl _, by simp, fun h => absurd rfl h⟩
  · have hv : v = .slice (some a) len cap := by simpa using hc
    subst hv
    rw [if_pos rfl] at hmm
    unfold maxLen at hm
    rcases Nat.eq_zero_or_pos len with h0 | h0
    · subst h0
      exact ⟨[], some a, cap, rfl, Nat.zero_le _, by simp, fun h => absurd rfl h⟩
    · have each : ∀ i, i < len → ∃ t : Tv, w.cell? (a.add (i * 5)) = some (.string t.n) ∧ w.cell? ((a.add (i * 5)).add 1) = some (.int .i64 t.op) ∧ w.cell? ((a.add (i * 5)).add 2) = some (.int .i64 t.e) ∧ w.cell? ((a.add (i * 5)).add 3) = some (.string t.u) ∧ w.cell? ((a.add (i * 5)).add 4) = some (.string t.r) ∧ t.ok := by
        intro i hi'
        obtain ⟨cs', h1, h2⟩ := hi i (by omega)
        rw [cells_term] at h1
        obtain ⟨_, hlen, hcell⟩ := World.cells?_some h1
        obtain ⟨t, t0, t1, t2, t3, t4, hok⟩ := read_term h2
        have g0 := hcell 0 (by omega)
        have g1 := hcell 1 (by omega)
        have g2 := hcell 2 (by omega)
        have g3 := hcell 3 (by omega)
        have g4 := hcell 4 (by omega)
        rw [t0] at g0
        rw [t1] at g1
        rw [t2] at g2
        rw [t3] at g3
        rw [t4] at g4
        exact ⟨t, by simpa [Addr.add] using g0, g1, g2, g3, g4, hok⟩
      obtain ⟨t0, ht0⟩ := each 0 h0
      obtain ⟨b, off, rfl⟩ := plain_addr (w := w) (a := a) (v := .string t0.n) (by simpa [Addr.add] using ht0.1)
      obtain ⟨ts, hts, hp⟩ := choose_list len each
      subst hts
      refine ⟨ts, some ⟨b, off, none⟩, cap, rfl, hl, by omega, fun _ => ⟨b, off, rfl, fun i t ht => ?_⟩⟩
      obtain ⟨p0, p1, p2, p3, p4, hok⟩ := hp i t ht
      rw [add_plain] at p0 p1 p2 p3 p4
      rw [add_plain] at p1 p2 p3 p4
      exact ⟨⟨p0, p1, p2, p3, p4⟩, hok⟩

/-- a slice of such slices that comes in -/
theorem read_asked {n : Nat} {v : Value} {x : DataW H × List MemPlace} (h : DataW.trod enc Tryz.prog w base (fun _ => true) held n 38 [v] = some x) : ∃ L : List (List Tv), AskedAt w v L := by
  rcases Go.Deep.open_slice Tryz.underlying38 h with ⟨hc, _⟩ | ⟨a, len, cap, m, k, D, Pl, hc, _, hl, hm, hmm, _, hi⟩
  · have hv : v = .slice none 0 0 := by simpa using hc
    subst hv
    exact ⟨[], none, 0, rfl, Nat.le_refl _, by simp, fun h => absurd rfl h⟩
  · have hv : v = .slice (some a) len cap := by simpa using hc
    subst hv
    rw [if_pos rfl] at hmm
    unfold maxLen at hm
    rcases Nat.eq_zero_or_pos len with h0 | h0
    · subst h0
      exact ⟨[], some a, cap, rfl, Nat.zero_le _, by simp, fun h => absurd rfl h⟩
    · have each : ∀ i, i < len → ∃ y : Value × List Tv, w.cell? (a.add i) = some y.1 ∧ TermsAt w y.1 y.2 := by
        intro i hi'
        obtain ⟨cs', h1, h2⟩ := hi i (by omega)
        rw [cells_terms, Nat.mul_one] at h1
        obtain ⟨_, hlen, hcell⟩ := World.cells?_some h1
        match cs', hlen with
        | [u], _ =>
          obtain ⟨ts, hts⟩ := read_terms h2
          exact ⟨(u, ts), by simpa [Addr.add] using hcell 0 (by omega), hts⟩
      obtain ⟨y0, hy0, _⟩ := each 0 h0
      obtain ⟨b, off, rfl⟩ := plain_addr (w := w) (a := a) (v := y0.1) (by simpa [Addr.add] using hy0)
      obtain ⟨ys, hys, hp⟩ := choose_list len each
      subst hys
      refine ⟨ys.map (·.2), some ⟨b, off, none⟩, cap, by rw [List.length_map], by rw [List.length_map]; exact hl, by rw [List.length_map]; omega, fun _ => ⟨b, off, rfl, fun i x hx => ?_⟩⟩
      rw [List.getElem?_map, Option.map_eq_some_iff] at hx
      obtain ⟨y, hy, rfl⟩ := hx
      obtain ⟨p0, p1⟩ := hp i y hy
      rw [add_plain] at p0
      exact ⟨y.1, p0, p1⟩
end

end Go.Proofs.YtofogjfemlhffaaGreatDoor

namespace Go.Proofs.YtofogjfemlhffaaGreatDoor
open Go.RowKit Go.ChangeShapes Go.WideShapes Go.ChangeAt Go.Joins
section
variable {H : Type} {enc : TypeId × Value → H} {w : World} {base : Nat} {held : Bool}

theorem cells_pack : Tryz.prog.cellsOf 43 = 13 := by kernel_rfl
theorem cells_file : Tryz.prog.cellsOf 72 = 2 := by kernel_rfl
theorem cells_askd : Tryz.prog.cellsOf 38 = 1 := by kernel_rfl
theorem cells_strs : Tryz.prog.cellsOf 40 = 1 := by kernel_rfl
theorem cells_files : Tryz.prog.cellsOf 41 = 1 := by kernel_rfl

/-- a slice of texts that comes in -/
theorem read_strs {n : Nat} {v : Value} {x : DataW H × List MemPlace} (h : DataW.trod enc Tryz.prog w base (fun _ => true) held n 40 [v] = some x) : ∃ ss : List ByteArray, StrsAt w v ss := by
  rcases Go.Deep.open_slice Tryz.underlying40 h with ⟨hc, _⟩ | ⟨a, len, cap, m, k, D, Pl, hc, _, hl, hm, hmm, _, hi⟩
  · have hv : v = .slice none 0 0 := by simpa using hc
    subst hv
    exact ⟨[], SlC.nil w none 0⟩
  · have hv : v = .slice (some a) len cap := by simpa using hc
    subst hv
    rw [if_pos rfl] at hmm
    unfold maxLen at hm
    rcases Nat.eq_zero_or_pos len with h0 | h0
    · subst h0
      exact ⟨[], SlC.nil w (some a) cap⟩
    · have each : ∀ i, i < len → ∃ s : ByteArray, w.cell? (a.add i) = some (.string s) := by
        intro i hi'
        obtain ⟨cs', h1, h2⟩ := hi i (by omega)
        rw [cells_string, Nat.mul_one] at h1
        obtain ⟨_, hlen, hcell⟩ := World.cells?_some h1
        match cs', hlen with
        | [u], _ =>
          obtain ⟨s, hs, _, _⟩ := DataW.trod_string Tryz.underlying9 h2
          obtain rfl : u = .string s := by simpa using hs
          exact ⟨s, by simpa [Addr.add] using hcell 0 (by omega)⟩
      obtain ⟨s0, hs0⟩ := each 0 h0
      obtain ⟨b, off, rfl⟩ := plain_addr (w := w) (a := a) (v := .string s0) (by simpa [Addr.add] using hs0)
      obtain ⟨ss, hss, hp⟩ := choose_list len each
      subst hss
      refine ⟨ss, some ⟨b, off, none⟩, cap, rfl, hl, by omega, fun _ => ⟨b, off, rfl, fun j u hj => ?_⟩⟩
      rw [flat_strs, List.getElem?_map, Option.map_eq_some_iff] at hj
      obtain ⟨s, hs, rfl⟩ := hj
      have := hp j s hs
      rwa [add_plain] at this

/-- a slice of files that comes in -/
theorem read_files {n : Nat} {v : Value} {x : DataW H × List MemPlace} (h : DataW.trod enc Tryz.prog w base (fun _ => true) held n 41 [v] = some x) : ∃ fs : List Fv, FieldsAt w v fs := by
  rcases Go.Deep.open_slice Tryz.underlying41 h with ⟨hc, _⟩ | ⟨a, len, cap, m, k, D, Pl, hc, _, hl, hm, hmm, _, hi⟩
  · have hv : v = .slice none 0 0 := by simpa using hc
    subst hv
    exact ⟨[], SlC.nil w none 0⟩
  · have hv : v = .slice (some a) len cap := by simpa using hc
    subst hv
    rw [if_pos rfl] at hmm
    unfold maxLen at hm
    rcases Nat.eq_zero_or_pos len with h0 | h0
    · subst h0
      exact ⟨[], SlC.nil w (some a) cap⟩
    · have each : ∀ i, i < len → ∃ f : Fv, w.cell? (a.add (i * 2)) = some (.string f.n) ∧ w.cell? ((a.add (i * 2)).add 1) = some (.string f.v) := by
        intro i hi'
        obtain ⟨cs', h1, h2⟩ := hi i (by omega)
        rw [cells_file] at h1
        obtain ⟨_, hlen, hcell⟩ := World.cells?_some h1
        obtain ⟨ys, m', _, _, _, hyl, hf⟩ := DataW.trod_struct Tryz.underlying72 h2
        match ys, hyl with
        | [y0, y1], _ =>
          have f0 : DataW.trod enc Tryz.prog w base (fun _ => true) held m' 9 ((cs'.drop 0).take (Tryz.prog.cellsOf 9)) = some y0 := hf 0 _ rfl
          have f1 : DataW.trod enc Tryz.prog w base (fun _ => true) held m' 9 ((cs'.drop 1).take (Tryz.prog.cellsOf 9)) = some y1 := hf 1 _ rfl
          rw [cells_string] at f0 f1
          obtain ⟨n, e0, _, _⟩ := DataW.trod_string Tryz.underlying9 f0
          obtain ⟨s, e1, _, _⟩ := DataW.trod_string Tryz.underlying9 f1
          have g0 := hcell 0 (by omega)
          have g1 := hcell 1 (by omega)
          rw [one_of_take e0] at g0
          rw [one_of_take e1] at g1
          exact ⟨⟨n, s⟩, by simpa [Addr.add] using g0, g1⟩
      obtain ⟨t0, ht0⟩ := each 0 h0
      obtain ⟨b, off, rfl⟩ := plain_addr (w := w) (a := a) (v := .string t0.n) (by simpa [Addr.add] using ht0.1)
      obtain ⟨fs, hfs, hp⟩ := choose_list len each
      subst hfs
      refine ⟨fs, some ⟨b, off, none⟩, cap, rfl, hl, by omega, fun _ => ⟨b, off, rfl, fun j u hj => ?_⟩⟩
      have hlt := (List.getElem?_eq_some_iff.1 hj).1
      have hs : ∀ f : Fv, (fldC f).length = 2 := fun _ => rfl
      rw [flat_length hs] at hlt
      have hfj : fs[j / 2]? = some (fs[j / 2]'(by omega)) := List.getElem?_eq_getElem _
      obtain ⟨p0, p1⟩ := hp (j / 2) _ hfj
      rw [add_plain] at p0 p1
      rw [add_plain] at p1
      obtain hr | hr : j = j / 2 * 2 + 0 ∨ j = j / 2 * 2 + 1 := by omega
      · rw [hr, flat_at hs hfj 0 (by omega)] at hj
        rw [hr, ← Option.some.inj hj]
        exact p0
      · rw [hr, flat_at hs hfj 1 (by omega)] at hj
        rw [hr, ← Option.some.inj hj, ← Nat.add_assoc]
        exact p1

theorem one_cell {cs : List Value} {k : Nat} (h : k < cs.length) : ∃ v, (cs.drop k).take 1 = [v] ∧ cs[k]? = some v := by
  refine ⟨cs[k], ?_, List.getElem?_eq_getElem h⟩
  rw [List.drop_eq_getElem_cons h]
  rfl

set_option maxRecDepth 100000 in
/-- thirteen cells that read as a package -/
theorem read_pack {n : Nat} {cs : List Value} {x : DataW H × List MemPlace} (hlen : cs.length = 13) (h : DataW.trod enc Tryz.prog w base (fun _ => true) held n 43 cs = some x) : ∃ p : Pv, PackAt w (.agg cs.toArray) p := by
  obtain ⟨ys, m, _, _, _, hyl, hf⟩ := DataW.trod_struct Tryz.underlying43 h
  match ys, hyl with
  | [y0, y1, y2, y3, y4, y5, y6, y7, y8, y9, y10], _ =>
    have f0 : DataW.trod enc Tryz.prog w base (fun _ => true) held m 9 ((cs.drop 0).take (Tryz.prog.cellsOf 9)) = some y0 := hf 0 _ rfl
    have f1 : DataW.trod enc Tryz.prog w base (fun _ => true) held m 37 ((cs.drop 1).take (Tryz.prog.cellsOf 37)) = some y1 := hf 1 _ rfl
    have f2 : DataW.trod enc Tryz.prog w base (fun _ => true) held m 38 ((cs.drop 4).take (Tryz.prog.cellsOf 38)) = some y2 := hf 2 _ rfl
    have f3 : DataW.trod enc Tryz.prog w base (fun _ => true) held m 38 ((cs.drop 5).take (Tryz.prog.cellsOf 38)) = some y3 := hf 3 _ rfl
    have f4 : DataW.trod enc Tryz.prog w base (fun _ => true) held m 39 ((cs.drop 6).take (Tryz.prog.cellsOf 39)) = some y4 := hf 4 _ rfl
    have f5 : DataW.trod enc Tryz.prog w base (fun _ => true) held m 39 ((cs.drop 7).take (Tryz.prog.cellsOf 39)) = some y5 := hf 5 _ rfl
    have f6 : DataW.trod enc Tryz.prog w base (fun _ => true) held m 39 ((cs.drop 8).take (Tryz.prog.cellsOf 39)) = some y6 := hf 6 _ rfl
    have f7 : DataW.trod enc Tryz.prog w base (fun _ => true) held m 39 ((cs.drop 9).take (Tryz.prog.cellsOf 39)) = some y7 := hf 7 _ rfl
    have f8 : DataW.trod enc Tryz.prog w base (fun _ => true) held m 40 ((cs.drop 10).take (Tryz.prog.cellsOf 40)) = some y8 := hf 8 _ rfl
    have f9 : DataW.trod enc Tryz.prog w base (fun _ => true) held m 40 ((cs.drop 11).take (Tryz.prog.cellsOf 40)) = some y9 := hf 9 _ rfl
    have f10 : DataW.trod enc Tryz.prog w base (fun _ => true) held m 41 ((cs.drop 12).take (Tryz.prog.cellsOf 41)) = some y10 := hf 10 _ rfl
    rw [cells_string] at f0
    rw [cells_vers] at f1
    rw [cells_askd] at f2 f3
    rw [cells_terms] at f4 f5 f6 f7
    rw [cells_strs] at f8 f9
    rw [cells_files] at f10
    obtain ⟨n, e0, _, _⟩ := DataW.trod_string Tryz.underlying9 f0
    obtain ⟨e, u, r, e1, e2, e3, b1, b2⟩ := read_vers f1
    obtain ⟨v1, t1, g1⟩ := one_cell (cs := cs) (k := 4) (by omega)
    obtain ⟨v2, t2, g2⟩ := one_cell (cs := cs) (k := 5) (by omega)
    obtain ⟨v3, t3, g3⟩ := one_cell (cs := cs) (k := 6) (by omega)
    obtain ⟨v4, t4, g4⟩ := one_cell (cs := cs) (k := 7) (by omega)
    obtain ⟨v5, t5, g5⟩ := one_cell (cs := cs) (k := 8) (by omega)
    obtain ⟨v6, t6, g6⟩ := one_cell (cs := cs) (k := 9) (by omega)
    obtain ⟨v7, t7, g7⟩ := one_cell (cs := cs) (k := 10) (by omega)
    obtain ⟨v8, t8, g8⟩ := one_cell (cs := cs) (k := 11) (by omega)
    obtain ⟨v9, t9, g9⟩ := one_cell (cs := cs) (k := 12) (by omega)
    rw [t1] at f2
    rw [t2] at f3
    rw [t3] at f4
    rw [t4] at f5
    rw [t5] at f6
    rw [t6] at f7
    rw [t7] at f8
    rw [t8] at f9
    rw [t9] at f10
    obtain ⟨dep, h1⟩ := read_asked f2
    obtain ⟨ahead, h2⟩ := read_asked f3
    obtain ⟨ag, h3⟩ := read_terms f4
    obtain ⟨br, h4⟩ := read_terms f5
    obtain ⟨re, h5⟩ := read_terms f6
    obtain ⟨pr, h6⟩ := read_terms f7
    obtain ⟨se, h7⟩ := read_strs f8
    obtain ⟨li, h8⟩ := read_strs f9
    obtain ⟨fi, h9⟩ := read_files f10
    refine ⟨⟨n, e, u, r, dep, ahead, ag, br, re, pr, se, li, fi⟩, v1, v2, v3, v4, v5, v6, v7, v8, v9, ?_, h1, h2, h3, h4, h5, h6, h7, h8, h9, b1, b2⟩
    have q0 := one_of_take e0
    have q1 : cs[1]? = some (.int .i64 e) := by simpa [List.getElem?_take, List.getElem?_drop] using e1
    have q2 : cs[2]? = some (.string u) := by simpa [List.getElem?_take, List.getElem?_drop] using e2
    have q3 : cs[3]? = some (.string r) := by simpa [List.getElem?_take, List.getElem?_drop] using e3
    match cs, hlen with
    | [c0, c1, c2, c3, c4, c5, c6, c7, c8, c9, c10, c11, c12], _ =>
      obtain rfl := Option.some.inj q0
      obtain rfl := Option.some.inj q1
      obtain rfl := Option.some.inj q2
      obtain rfl := Option.some.inj q3
      obtain rfl := Option.some.inj g1
      obtain rfl := Option.some.inj g2
      obtain rfl := Option.some.inj g3
      obtain rfl := Option.some.inj g4
      obtain rfl := Option.some.inj g5
      obtain rfl := Option.some.inj g6
      obtain rfl := Option.some.inj g7
      obtain rfl := Option.some.inj g8
      obtain rfl := Option.some.inj g9
      rfl
end

end Go.Proofs.YtofogjfemlhffaaGreatDoor

namespace Go.Proofs.YtofogjfemlhffaaGreatDoor
open Go.RowKit Go.ChangeShapes Go.WideShapes Go.ChangeAt Go.Joins

/-- a package's thirteen cells at a place -/
def PackC (w : World) (b o : Nat) (p : Pv) : Prop := ∃ v1 v2 v3 v4 v5 v6 v7 v8 v9 : Value,
  (w.cell? ⟨b, o, none⟩ = some (.string p.n) ∧ w.cell? ⟨b, o + 1, none⟩ = some (.int .i64 p.e) ∧ w.cell? ⟨b, o + 2, none⟩ = some (.string p.u) ∧ w.cell? ⟨b, o + 3, none⟩ = some (.string p.r) ∧ w.cell? ⟨b, o + 4, none⟩ = some v1 ∧ w.cell? ⟨b, o + 5, none⟩ = some v2 ∧ w.cell? ⟨b, o + 6, none⟩ = some v3 ∧ w.cell? ⟨b, o + 7, none⟩ = some v4 ∧ w.cell? ⟨b, o + 8, none⟩ = some v5 ∧ w.cell? ⟨b, o + 9, none⟩ = some v6 ∧ w.cell? ⟨b, o + 10, none⟩ = some v7 ∧ w.cell? ⟨b, o + 11, none⟩ = some v8 ∧ w.cell? ⟨b, o + 12, none⟩ = some v9) ∧
  PackAt w (.agg #[.string p.n, .int .i64 p.e, .string p.u, .string p.r, v1, v2, v3, v4, v5, v6, v7, v8, v9]) p
theorem PackC.below {w w' : World} {b o : Nat} {p : Pv} (h : PackC w b o p) (hb : Below w.heap.size w w') : PackC w' b o p := by
  obtain ⟨v1, v2, v3, v4, v5, v6, v7, v8, v9, ⟨h0, h1, h2, h3, h4, h5, h6, h7, h8, h9, h10, h11, h12⟩, hp⟩ := h
  exact ⟨v1, v2, v3, v4, v5, v6, v7, v8, v9, ⟨kept hb h0, kept hb h1, kept hb h2, kept hb h3, kept hb h4, kept hb h5, kept hb h6, kept hb h7, kept hb h8, kept hb h9, kept hb h10, kept hb h11, kept hb h12⟩, hp.below hb⟩
/-- a slice of packages -/
def PacksAt (w : World) (v : Value) (l : List Pv) : Prop :=
  ∃ A c, v = .slice A l.length c ∧ l.length ≤ c ∧ l.length ≤ 9223372036854775807 ∧ (l ≠ [] → ∃ b off, A = some ⟨b, off, none⟩ ∧ ∀ i p, l[i]? = some p → PackC w b (off + i * 13) p)
theorem PacksAt.below {w w' : World} {v : Value} {l : List Pv} (h : PacksAt w v l) (hb : Below w.heap.size w w') : PacksAt w' v l := by
  obtain ⟨A, c, hv, hc, hm, h⟩ := h
  refine ⟨A, c, hv, hc, hm, fun hn => ?_⟩
  obtain ⟨b, off, hA, hi⟩ := h hn
  exact ⟨b, off, hA, fun i p hp => (hi i p hp).below hb⟩
section
variable {H : Type} {enc : TypeId × Value → H} {w : World} {base : Nat} {held : Bool}
theorem list13 {cs : List Value} {u0 u1 u2 u3 u4 u5 u6 u7 u8 u9 ua ub uc : Value} (h : (Value.agg cs.toArray) = .agg #[u0, u1, u2, u3, u4, u5, u6, u7, u8, u9, ua, ub, uc]) : cs = [u0, u1, u2, u3, u4, u5, u6, u7, u8, u9, ua, ub, uc] := by
  injection h with h
  exact congrArg Array.toList h
end
end Go.Proofs.YtofogjfemlhffaaGreatDoor

namespace Go.Proofs.YtofogjfemlhffaaGreatDoor
open Go Go.RowKit Go.Maps

/-- numbers in a row -/
def intC (n : Int) : List Value := [.int .i64 n]
def IntsAt (W : World) (v : Value) (l : List Int) : Prop := SlC intC W v l
theorem flat_ints (l : List Int) : l.flatMap intC = l.map (Value.int .i64) := by
  induction l with
  | nil => rfl
  | cons a r ih => rw [List.flatMap_cons, ih]; rfl
theorem IntsAt.open {w : World} {v : Value} {l : List Int} (h : IntsAt w v l) :
    ∃ A c, v = .slice A l.length c ∧ l.length ≤ c ∧ l.length ≤ 9223372036854775807 ∧ (l ≠ [] → ∃ b off, A = some ⟨b, off, none⟩ ∧ ∀ (i : Nat) (x : Int), l[i]? = some x → w.cell? ⟨b, off + i, none⟩ = some (.int .i64 x)) := by
  obtain ⟨A, c, hv, hc, hm, h⟩ := h
  refine ⟨A, c, hv, hc, hm, fun hn => ?_⟩
  obtain ⟨b, off, hA, hi⟩ := h hn
  refine ⟨b, off, hA, fun i x hx => hi i _ ?_⟩
  rw [flat_ints, List.getElem?_map, hx]
  rfl
/-- one Put of the loop, at a package that came in: what comes of it -/
inductive PutWay (sh d m : Nat) (D : Dk) (p : Pv) (tk : ByteArray → Bool) (w : World) (E : Ending) (w' : World) : Prop
  | bad (he : E = .returned (.iface 33 (.int .i64 1))) (h1 : ¬ (archB p = true ∧ ¬ 0 ≤ (clashD D p.n tk p.fi).1)) (hs : ShAt w' sh d D) (ho : OffN m d w w')
  | clash (b : Nat) (he : E = .returned (.iface 78 (.pointer (some ⟨b, 0, none⟩)))) (h1 : ¬ (archB p = true ∧ ¬ 0 ≤ (clashD D p.n tk p.fi).1)) (hs : ShAt w' sh d D) (ho : OffN m d w w')
  | good (he : E = .returned .nilIface) (h1 : archB p = true) (h2 : ¬ 0 ≤ (clashD D p.n tk p.fi).1) (hs : ShAt w' sh d (putFD D p.n p.se p.fi []).2) (ho : OffN m d w w')
end Go.Proofs.YtofogjfemlhffaaGreatDoor

namespace Go.Proofs.YtofogjfemlhffaaGreatDoor
open Go.RowKit Go.ChangeShapes Go.WideShapes Go.ChangeAt Go.Joins
section
variable {H : Type} {enc : TypeId × Value → H} {w : World} {base : Nat} {held : Bool}

theorem cells_boolstK : Tryz.prog.cellsOf 4 = 1 := by kernel_rfl

end

end Go.Proofs.YtofogjfemlhffaaGreatDoor

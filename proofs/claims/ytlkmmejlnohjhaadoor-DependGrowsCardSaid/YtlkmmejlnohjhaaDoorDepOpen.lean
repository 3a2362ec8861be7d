/- What is asked for, as it comes in. -/
import Derived.Test.YtlkmmejlnohjhaaDoorDepMem
import Derived.Test.YtlkmmejlnohjhaaDoorOpen
import Derived.Deep.Slices
import Derived.OpenShut
namespace Go.Proofs.YtlkmmejlnohjhaaDoor
open Go.RowKit Go.ChangeShapes Go.WideShapes Go.ChangeAt Go.Joins
section
variable {H : Type} {enc : TypeId × Value → H} {w : World} {base : Nat} {spare : Nat → Bool} {held : Bool}

theorem one_of_take {cs : List Value} {j : Nat} {v : Value} (h : (cs.drop j).take 1 = [v]) : cs[j]? = some v := by
  have := congrArg (·[0]?) h
  simpa [List.getElem?_take, List.getElem?_drop] using this

theorem cells_string : Tryd.prog.cellsOf 9 = 1 := by kernel_rfl
theorem cells_int : Tryd.prog.cellsOf 3 = 1 := by kernel_rfl
theorem cells_vers : Tryd.prog.cellsOf 23 = 3 := by kernel_rfl
theorem cells_term : Tryd.prog.cellsOf 57 = 5 := by kernel_rfl
theorem cells_terms : Tryd.prog.cellsOf 49 = 1 := by kernel_rfl

/-- three cells that read as a version -/
theorem read_vers {n : Nat} {cs : List Value} {x : DataW H × List MemPlace} (h : DataW.trod enc Tryd.prog w base spare held n 23 cs = some x) :
    ∃ (e : Int) (u r : ByteArray), cs[0]? = some (.int .i64 e) ∧ cs[1]? = some (.string u) ∧ cs[2]? = some (.string r) ∧ -9223372036854775808 ≤ e ∧ e ≤ 9223372036854775807 := by
  obtain ⟨ys, m, _, _, _, hyl, hf⟩ := DataW.trod_struct Tryd.underlying23 h
  match ys, hyl with
  | [y0, y1, y2], _ =>
    have f0 : DataW.trod enc Tryd.prog w base spare held m 3 ((cs.drop 0).take (Tryd.prog.cellsOf 3)) = some y0 := hf 0 _ rfl
    have f1 : DataW.trod enc Tryd.prog w base spare held m 9 ((cs.drop 1).take (Tryd.prog.cellsOf 9)) = some y1 := hf 1 _ rfl
    have f2 : DataW.trod enc Tryd.prog w base spare held m 9 ((cs.drop 2).take (Tryd.prog.cellsOf 9)) = some y2 := hf 2 _ rfl
    rw [cells_int] at f0
    rw [cells_string] at f1 f2
    obtain ⟨e, e0, _, we⟩ := DataW.trod_int Tryd.underlying3 f0
    obtain ⟨u, e1, _, _⟩ := DataW.trod_string Tryd.underlying9 f1
    obtain ⟨r, e2, _, _⟩ := DataW.trod_string Tryd.underlying9 f2
    have hb := bounds_i64 we
    exact ⟨e, u, r, one_of_take e0, one_of_take e1, one_of_take e2, hb.1, hb.2⟩

/-- five cells that read as a term -/
theorem read_term {n : Nat} {cs : List Value} {x : DataW H × List MemPlace} (h : DataW.trod enc Tryd.prog w base spare held n 57 cs = some x) :
    ∃ t : Tv, cs[0]? = some (.string t.n) ∧ cs[1]? = some (.int .i64 t.op) ∧ cs[2]? = some (.int .i64 t.e) ∧ cs[3]? = some (.string t.u) ∧ cs[4]? = some (.string t.r) ∧ t.ok := by
  obtain ⟨ys, m, _, _, _, hyl, hf⟩ := DataW.trod_struct Tryd.underlying57 h
  match ys, hyl with
  | [y0, y1, y2], _ =>
    have f0 : DataW.trod enc Tryd.prog w base spare held m 9 ((cs.drop 0).take (Tryd.prog.cellsOf 9)) = some y0 := hf 0 _ rfl
    have f1 : DataW.trod enc Tryd.prog w base spare held m 3 ((cs.drop 1).take (Tryd.prog.cellsOf 3)) = some y1 := hf 1 _ rfl
    have f2 : DataW.trod enc Tryd.prog w base spare held m 23 ((cs.drop 2).take (Tryd.prog.cellsOf 23)) = some y2 := hf 2 _ rfl
    rw [cells_string] at f0
    rw [cells_int] at f1
    rw [cells_vers] at f2
    obtain ⟨n, e0, _, _⟩ := DataW.trod_string Tryd.underlying9 f0
    obtain ⟨op, e1, _, wo⟩ := DataW.trod_int Tryd.underlying3 f1
    obtain ⟨e, u, r, e2, e3, e4, b1, b2⟩ := read_vers f2
    have hb := bounds_i64 wo
    refine ⟨⟨n, op, e, u, r⟩, one_of_take e0, one_of_take e1, ?_, ?_, ?_, b1, b2, hb.1, hb.2⟩
    · simpa [List.getElem?_take, List.getElem?_drop] using e2
    · simpa [List.getElem?_take, List.getElem?_drop] using e3
    · simpa [List.getElem?_take, List.getElem?_drop] using e4

theorem choose_list {α : Type} {p : Nat → α → Prop} : ∀ n : Nat, (∀ i, i < n → ∃ a, p i a) → ∃ l : List α, l.length = n ∧ ∀ (i : Nat) (a : α), l[i]? = some a → p i a
  | 0, _ => ⟨[], rfl, fun i a h => by simp at h⟩
  | n + 1, h => by
    obtain ⟨l, hl, hp⟩ := choose_list n (fun i hi => h i (by omega))
    obtain ⟨a, ha⟩ := h n (by omega)
    refine ⟨l ++ [a], by rw [List.length_append, hl]; rfl, fun i b hb => ?_⟩
    rcases Nat.lt_trichotomy i n with hi | hi | hi
    · rw [List.getElem?_append_left (by omega)] at hb
      exact hp i b hb
    · subst hi
      rw [List.getElem?_append_right (by omega), hl, Nat.sub_self] at hb
      obtain rfl := Option.some.inj hb
      exact ha
    · rw [List.getElem?_eq_none (by rw [List.length_append, List.length_singleton]; omega)] at hb
      cases hb

theorem plain_addr {a : Addr} {v : Value} (h : w.cell? a = some v) : ∃ b off, a = ⟨b, off, none⟩ := by
  obtain ⟨b, off, spot⟩ := a
  have hspot : spot = none := by simpa using World.cell?_spot h
  subst hspot
  exact ⟨b, off, rfl⟩

/-- a slice of terms that comes in -/
theorem read_terms {n : Nat} {v : Value} {x : DataW H × List MemPlace} (h : DataW.trod enc Tryd.prog w base (fun _ => true) held n 49 [v] = some x) : ∃ ts : List Tv, TermsAt w v ts := by
  rcases Go.Deep.open_slice Tryd.underlying49 h with ⟨hc, _⟩ | ⟨a, len, cap, m, k, D, Pl, hc, _, hl, hm, hmm, _, hi⟩
  · have hv : v = .slice none 0 0 := by simpa using hc
    subst hv
    exact ⟨[], none, 0, rfl, Nat.le_refl _, by simp, fun h => absurd rfl h⟩
  · have hv : v = .slice (some a) len cap := by simpa using hc
    subst hv
    rw [if_pos rfl] at hmm
    unfold maxLen at hm
    rcases Nat.eq_zero_or_pos len with h0 | h0
    · subst h0
      exact ⟨[], some a, cap, rfl, Nat.zero_le _, by simp, fun h => absurd rfl h⟩
    · have each : ∀ i, i < len → ∃ t : Tv, w.cell? (a.add (i * 5)) = some (.string t.n) ∧ w.cell? ((a.add (i * 5)).add 1) = some (.int .i64 t.op) ∧ w.cell? ((a.add (i * 5)).add 2) = some (.int .i64 t.e) ∧ w.cell? ((a.add (i * 5)).add 3) = some (.string t.u) ∧ w.cell? ((a.add (i * 5)).add 4) = some (.string t.r) ∧ t.ok := by
        intro i hi'
        obtain ⟨cs', h1, h2⟩ := hi i (by omega)
        rw [cells_term] at h1
        obtain ⟨_, hlen, hcell⟩ := World.cells?_some h1
        obtain ⟨t, t0, t1, t2, t3, t4, hok⟩ := read_term h2
        have g0 := hcell 0 (by omega)
        have g1 := hcell 1 (by omega)
        have g2 := hcell 2 (by omega)
        have g3 := hcell 3 (by omega)
        have g4 := hcell 4 (by omega)
        rw [t0] at g0
        rw [t1] at g1
        rw [t2] at g2
        rw [t3] at g3
        rw [t4] at g4
        exact ⟨t, by simpa [Addr.add] using g0, g1, g2, g3, g4, hok⟩
      obtain ⟨t0, ht0⟩ := each 0 h0
      obtain ⟨b, off, rfl⟩ := plain_addr (w := w) (a := a) (v := .string t0.n) (by simpa [Addr.add] using ht0.1)
      obtain ⟨ts, hts, hp⟩ := choose_list len each
      subst hts
      refine ⟨ts, some ⟨b, off, none⟩, cap, rfl, hl, by omega, fun _ => ⟨b, off, rfl, fun i t ht => ?_⟩⟩
      obtain ⟨p0, p1, p2, p3, p4, hok⟩ := hp i t ht
      rw [add_plain] at p0 p1 p2 p3 p4
      rw [add_plain] at p1 p2 p3 p4
      exact ⟨⟨p0, p1, p2, p3, p4⟩, hok⟩

/-- a slice of such slices that comes in -/
theorem read_asked {n : Nat} {v : Value} {x : DataW H × List MemPlace} (h : DataW.trod enc Tryd.prog w base (fun _ => true) held n 46 [v] = some x) : ∃ L : List (List Tv), AskedAt w v L := by
  rcases Go.Deep.open_slice Tryd.underlying46 h with ⟨hc, _⟩ | ⟨a, len, cap, m, k, D, Pl, hc, _, hl, hm, hmm, _, hi⟩
  · have hv : v = .slice none 0 0 := by simpa using hc
    subst hv
    exact ⟨[], none, 0, rfl, Nat.le_refl _, by simp, fun h => absurd rfl h⟩
  · have hv : v = .slice (some a) len cap := by simpa using hc
    subst hv
    rw [if_pos rfl] at hmm
    unfold maxLen at hm
    rcases Nat.eq_zero_or_pos len with h0 | h0
    · subst h0
      exact ⟨[], some a, cap, rfl, Nat.zero_le _, by simp, fun h => absurd rfl h⟩
    · have each : ∀ i, i < len → ∃ y : Value × List Tv, w.cell? (a.add i) = some y.1 ∧ TermsAt w y.1 y.2 := by
        intro i hi'
        obtain ⟨cs', h1, h2⟩ := hi i (by omega)
        rw [cells_terms, Nat.mul_one] at h1
        obtain ⟨_, hlen, hcell⟩ := World.cells?_some h1
        match cs', hlen with
        | [u], _ =>
          obtain ⟨ts, hts⟩ := read_terms h2
          exact ⟨(u, ts), by simpa [Addr.add] using hcell 0 (by omega), hts⟩
      obtain ⟨y0, hy0, _⟩ := each 0 h0
      obtain ⟨b, off, rfl⟩ := plain_addr (w := w) (a := a) (v := y0.1) (by simpa [Addr.add] using hy0)
      obtain ⟨ys, hys, hp⟩ := choose_list len each
      subst hys
      refine ⟨ys.map (·.2), some ⟨b, off, none⟩, cap, by rw [List.length_map], by rw [List.length_map]; exact hl, by rw [List.length_map]; omega, fun _ => ⟨b, off, rfl, fun i x hx => ?_⟩⟩
      rw [List.getElem?_map, Option.map_eq_some_iff] at hx
      obtain ⟨y, hy, rfl⟩ := hx
      obtain ⟨p0, p1⟩ := hp i y hy
      rw [add_plain] at p0
      exact ⟨y.1, p0, p1⟩
end

set_option maxRecDepth 100000 in
theorem open_terms {H : Type} {enc : TypeId × Value → H} {W : World} {base b0 : Nat} {held : Bool} {r : Reach} {v : Value} {d : DataW H} {p : List MemPlace}
    (hv : Value.okWide Tryd.prog W r b0 49 v) (h : DataW.Trod enc Tryd.prog W base (fun _ => true) held 49 v d p) : ∃ ts, TermsAt W v ts := by
  obtain ⟨a0, len, cap, rfl⟩ := okWide_slice Tryd.underlying49 hv
  obtain ⟨fuel, hf⟩ := h
  exact read_terms hf
set_option maxRecDepth 100000 in
theorem open_asked {H : Type} {enc : TypeId × Value → H} {W : World} {base b0 : Nat} {held : Bool} {r : Reach} {v : Value} {d : DataW H} {p : List MemPlace}
    (hv : Value.okWide Tryd.prog W r b0 46 v) (h : DataW.Trod enc Tryd.prog W base (fun _ => true) held 46 v d p) : ∃ L, AskedAt W v L := by
  obtain ⟨a0, len, cap, rfl⟩ := okWide_slice Tryd.underlying46 hv
  obtain ⟨fuel, hf⟩ := h
  exact read_asked hf
end Go.Proofs.YtlkmmejlnohjhaaDoor

/- Packages that are there, as they come in. -/
import Derived.Test.YtlkmmejlnohjhaaDoorDepOpen
import Derived.Test.YtlkmmejlnohjhaaDoorMeets
namespace Go.Proofs.YtlkmmejlnohjhaaDoor
open Go.RowKit Go.ChangeShapes Go.WideShapes Go.ChangeAt Go.Joins
section
variable {H : Type} {enc : TypeId × Value → H} {w : World} {base : Nat} {held : Bool}

theorem cells_offer : Tryd.prog.cellsOf 51 = 5 := by kernel_rfl

/-- five cells that read as a package that is there -/
theorem read_offer {n : Nat} {cs : List Value} {x : DataW H × List MemPlace} (h : DataW.trod enc Tryd.prog w base (fun _ => true) held n 51 cs = some x) :
    ∃ (o : Ov) (vp : Value), cs[0]? = some (.string o.n) ∧ cs[1]? = some (.int .i64 o.e) ∧ cs[2]? = some (.string o.u) ∧ cs[3]? = some (.string o.r) ∧ cs[4]? = some vp ∧ TermsAt w vp o.ps := by
  obtain ⟨ys, m, _, _, _, hyl, hf⟩ := DataW.trod_struct Tryd.underlying51 h
  match ys, hyl with
  | [y0, y1, y2], _ =>
    have f0 : DataW.trod enc Tryd.prog w base (fun _ => true) held m 9 ((cs.drop 0).take (Tryd.prog.cellsOf 9)) = some y0 := hf 0 _ rfl
    have f1 : DataW.trod enc Tryd.prog w base (fun _ => true) held m 23 ((cs.drop 1).take (Tryd.prog.cellsOf 23)) = some y1 := hf 1 _ rfl
    have f2 : DataW.trod enc Tryd.prog w base (fun _ => true) held m 49 ((cs.drop 4).take (Tryd.prog.cellsOf 49)) = some y2 := hf 2 _ rfl
    rw [cells_string] at f0
    rw [cells_vers] at f1
    rw [cells_terms] at f2
    obtain ⟨n, e0, _, _⟩ := DataW.trod_string Tryd.underlying9 f0
    obtain ⟨e, u, r, e1, e2, e3, _, _⟩ := read_vers f1
    have hlen : (cs.drop 4).take 1 = [] ∨ ∃ vp, (cs.drop 4).take 1 = [vp] := by
      rcases hd : (cs.drop 4) with _ | ⟨vp, l⟩
      · exact .inl rfl
      · exact .inr ⟨vp, rfl⟩
    rcases hlen with hl | ⟨vp, hl⟩
    · rw [hl] at f2
      exfalso
      rcases Go.Deep.open_slice Tryd.underlying49 f2 with ⟨hc, _⟩ | ⟨_, _, _, _, _, _, _, hc, _⟩
      · cases hc
      · cases hc
    · rw [hl] at f2
      obtain ⟨ts, hT⟩ := read_terms f2
      refine ⟨⟨n, e, u, r, ts⟩, vp, one_of_take e0, ?_, ?_, ?_, one_of_take hl, hT⟩
      · simpa [List.getElem?_take, List.getElem?_drop] using e1
      · simpa [List.getElem?_take, List.getElem?_drop] using e2
      · simpa [List.getElem?_take, List.getElem?_drop] using e3

/-- a slice of packages that comes in -/
theorem read_offers {n : Nat} {v : Value} {x : DataW H × List MemPlace} (h : DataW.trod enc Tryd.prog w base (fun _ => true) held n 47 [v] = some x) : ∃ os : List Ov, OffersAt w v os := by
  rcases Go.Deep.open_slice Tryd.underlying47 h with ⟨hc, _⟩ | ⟨a, len, cap, m, k, D, Pl, hc, _, hl, hm, hmm, _, hi⟩
  · have hv : v = .slice none 0 0 := by simpa using hc
    subst hv
    exact ⟨[], none, 0, rfl, Nat.le_refl _, by simp, fun h => absurd rfl h⟩
  · have hv : v = .slice (some a) len cap := by simpa using hc
    subst hv
    rw [if_pos rfl] at hmm
    unfold maxLen at hm
    rcases Nat.eq_zero_or_pos len with h0 | h0
    · subst h0
      exact ⟨[], some a, cap, rfl, Nat.zero_le _, by simp, fun h => absurd rfl h⟩
    · have each : ∀ i, i < len → ∃ y : Ov × Value, w.cell? (a.add (i * 5)) = some (.string y.1.n) ∧ w.cell? ((a.add (i * 5)).add 1) = some (.int .i64 y.1.e) ∧ w.cell? ((a.add (i * 5)).add 2) = some (.string y.1.u) ∧ w.cell? ((a.add (i * 5)).add 3) = some (.string y.1.r) ∧ w.cell? ((a.add (i * 5)).add 4) = some y.2 ∧ TermsAt w y.2 y.1.ps := by
        intro i hi'
        obtain ⟨cs', h1, h2⟩ := hi i (by omega)
        rw [cells_offer] at h1
        obtain ⟨_, hlen, hcell⟩ := World.cells?_some h1
        obtain ⟨o, vp, t0, t1, t2, t3, t4, hT⟩ := read_offer h2
        have g0 := hcell 0 (by omega)
        have g1 := hcell 1 (by omega)
        have g2 := hcell 2 (by omega)
        have g3 := hcell 3 (by omega)
        have g4 := hcell 4 (by omega)
        rw [t0] at g0
        rw [t1] at g1
        rw [t2] at g2
        rw [t3] at g3
        rw [t4] at g4
        exact ⟨(o, vp), by simpa [Addr.add] using g0, g1, g2, g3, g4, hT⟩
      obtain ⟨t0, ht0⟩ := each 0 h0
      obtain ⟨b, off, rfl⟩ := plain_addr (w := w) (a := a) (v := .string t0.1.n) (by simpa [Addr.add] using ht0.1)
      obtain ⟨ys, hys, hp⟩ := choose_list len each
      subst hys
      refine ⟨ys.map (·.1), some ⟨b, off, none⟩, cap, by rw [List.length_map], by rw [List.length_map]; exact hl, by rw [List.length_map]; omega, fun _ => ⟨b, off, rfl, fun i x hx => ?_⟩⟩
      rw [List.getElem?_map, Option.map_eq_some_iff] at hx
      obtain ⟨y, hy, rfl⟩ := hx
      obtain ⟨p0, p1, p2, p3, p4, hT⟩ := hp i y hy
      rw [add_plain] at p0 p1 p2 p3 p4
      rw [add_plain] at p1 p2 p3 p4
      exact ⟨y.2, p0, p1, p2, p3, p4, hT⟩
end

set_option maxRecDepth 100000 in
theorem open_offers {H : Type} {enc : TypeId × Value → H} {W : World} {base b0 : Nat} {held : Bool} {r : Reach} {v : Value} {d : DataW H} {p : List MemPlace}
    (hv : Value.okWide Tryd.prog W r b0 47 v) (h : DataW.Trod enc Tryd.prog W base (fun _ => true) held 47 v d p) : ∃ os, OffersAt W v os := by
  obtain ⟨a0, len, cap, rfl⟩ := okWide_slice Tryd.underlying47 hv
  obtain ⟨fuel, hf⟩ := h
  exact read_offers hf
end Go.Proofs.YtlkmmejlnohjhaaDoor

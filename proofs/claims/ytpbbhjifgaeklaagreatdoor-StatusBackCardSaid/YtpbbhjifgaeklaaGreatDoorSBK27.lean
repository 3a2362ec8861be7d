/- A status, as it comes in. · What the walks read of strconv's two errors, and of the reference's Fine, out of the row's list. · status.after: what the walks read of it, out of the row's list. · A row that lists the handle of errors.errorType besides plain tables: what it gives a walk, and a world that meets it. -/
import Derived.Test.YtpbbhjifgaeklaaGreatDoorSBK26
import Derived.Test.YtpbbhjifgaeklaaGreatDoorSBK19
import Derived.Test.YtpbbhjifgaeklaaGreatDoorSBK15
import Derived.Deep.RegionHeld3
import Derived.Deep.DeepCutAuto
import Derived.Test.YtpbbhjifgaeklaaGreatDoorRows
import Derived.OpenShut
import Derived.FnData
import Derived.LaidSub
import Derived.Test.YtpbbhjifgaeklaaGreatDoorSBK21
import Derived.LaidLaws
import Derived.Test.YtpbbhjifgaeklaaGreatDoorSBK24
import Derived.Test.YtpbbhjifgaeklaaGreatDoorSBK16
import Derived.LaidHandle
namespace Go.Proofs.YtpbbhjifgaeklaaGreatDoor
open Go.RowKit Go.ChangeShapes Go.WideShapes Go.ChangeAt Go.Joins
section
variable {H : Type} {enc : TypeId × Value → H} {w : World} {base : Nat} {held : Bool}

theorem cells_statK : Tryz.prog.cellsOf 26 = 7 := by kernel_rfl
theorem cells_boolstK : Tryz.prog.cellsOf 4 = 1 := by kernel_rfl

set_option maxRecDepth 100000 in
/-- seven cells that read as a status -/
theorem read_statK {n : Nat} {cs : List Value} {x : DataW H × List MemPlace} (hlen : cs.length = 7) (h : DataW.trod enc Tryz.prog w base (fun _ => true) held n 26 cs = some x) : ∃ z v1 v2, cs.toArray = #[.int .i64 z.n, .int .i64 z.e, .string z.u, .string z.r, .bool z.h, v1, v2] ∧ StAt w v1 v2 z ∧ -9223372036854775808 ≤ z.e ∧ z.e ≤ 9223372036854775807 := by
  obtain ⟨ys, m, _, _, _, hyl, hf⟩ := DataW.trod_struct Tryz.underlying26 h
  match ys, hyl with
  | [y0, y1, y2, y3, y4], _ =>
    have f0 : DataW.trod enc Tryz.prog w base (fun _ => true) held m 3 ((cs.drop 0).take (Tryz.prog.cellsOf 3)) = some y0 := hf 0 _ rfl
    have f1 : DataW.trod enc Tryz.prog w base (fun _ => true) held m 23 ((cs.drop 1).take (Tryz.prog.cellsOf 23)) = some y1 := hf 1 _ rfl
    have f2 : DataW.trod enc Tryz.prog w base (fun _ => true) held m 4 ((cs.drop 4).take (Tryz.prog.cellsOf 4)) = some y2 := hf 2 _ rfl
    have f3 : DataW.trod enc Tryz.prog w base (fun _ => true) held m 24 ((cs.drop 5).take (Tryz.prog.cellsOf 24)) = some y3 := hf 3 _ rfl
    have f4 : DataW.trod enc Tryz.prog w base (fun _ => true) held m 24 ((cs.drop 6).take (Tryz.prog.cellsOf 24)) = some y4 := hf 4 _ rfl
    rw [cells_int] at f0
    rw [cells_vers] at f1
    rw [cells_boolstK] at f2
    rw [cells_strs] at f3 f4
    obtain ⟨n, e0, _, _⟩ := DataW.trod_int Tryz.underlying3 f0
    obtain ⟨e, u, r, e1, e2, e3, b1, b2⟩ := read_vers f1
    obtain ⟨hh, e4, _⟩ := DataW.trod_bool Tryz.underlying4 f2
    obtain ⟨v1, t1, g1⟩ := one_cell (cs := cs) (k := 5) (by omega)
    obtain ⟨v2, t2, g2⟩ := one_cell (cs := cs) (k := 6) (by omega)
    rw [t1] at f3
    rw [t2] at f4
    obtain ⟨ws, h1⟩ := read_strs f3
    obtain ⟨ts, h2⟩ := read_strs f4
    refine ⟨⟨n, e, u, r, hh, ws, ts⟩, v1, v2, ?_, ⟨h1, h2⟩, b1, b2⟩
    have q0 := one_of_take e0
    have q1 : cs[1]? = some (.int .i64 e) := by simpa [List.getElem?_take, List.getElem?_drop] using e1
    have q2 : cs[2]? = some (.string u) := by simpa [List.getElem?_take, List.getElem?_drop] using e2
    have q3 : cs[3]? = some (.string r) := by simpa [List.getElem?_take, List.getElem?_drop] using e3
    have q4 := one_of_take e4
    match cs, hlen with
    | [c0, c1, c2, c3, c4, c5, c6], _ =>
      obtain rfl := Option.some.inj q0
      obtain rfl := Option.some.inj q1
      obtain rfl := Option.some.inj q2
      obtain rfl := Option.some.inj q3
      obtain rfl := Option.some.inj q4
      obtain rfl := Option.some.inj g1
      obtain rfl := Option.some.inj g2
      rfl
end

set_option maxRecDepth 100000 in
/-- A status that comes in. -/
theorem open_statK {H : Type} {enc : TypeId × Value → H} {W : World} {base b0 : Nat} {held : Bool} {r : Reach} {v : Value} {d : DataW H} {p : List MemPlace}
    (hv : Value.okWide Tryz.prog W r b0 26 v) (h : DataW.Trod enc Tryz.prog W base (fun _ => true) held 26 v d p) : ∃ z v1 v2, v = stV z v1 v2 ∧ StAt W v1 v2 z ∧ -9223372036854775808 ≤ z.e ∧ z.e ≤ 9223372036854775807 := by
  obtain ⟨cs, rfl, hsz⟩ := okWide_struct Tryz.underlying26 hv
  obtain ⟨fuel, hf⟩ := h
  have hl : cs.toList.length = 7 := by rw [Array.length_toList, hsz, cells_statK]
  obtain ⟨z, v1, v2, e, h1, h2, h3⟩ := read_statK (cs := cs.toList) hl hf
  refine ⟨z, v1, v2, ?_, h1, h2, h3⟩
  unfold stV
  rw [← e]
end Go.Proofs.YtpbbhjifgaeklaaGreatDoor

namespace Go.Proofs.YtpbbhjifgaeklaaGreatDoor
open Go.RowKit Go.ChangeShapes Go.WideShapes Go.ChangeAt Go.Joins

theorem errSyntaxIs : Tryz.prog.globalNamed "strconv.ErrSyntax" = some 3 := by kernel_rfl
theorem errRangeIs : Tryz.prog.globalNamed "strconv.ErrRange" = some 4 := by kernel_rfl
theorem errSyntaxType : (Tryz.prog.globals[3]?).map (·.type) = some 31 := by kernel_rfl
theorem errRangeType : (Tryz.prog.globals[4]?).map (·.type) = some 31 := by kernel_rfl
theorem iface_reads {W : World} {n name : String} {g : Nat} {d : DataW Unit} (hn : Tryz.prog.globalNamed n = some g) (hty : (Tryz.prog.globals[g]?).map (·.type) = some 31) (h : Lib.VarReads Tryz.prog W n (.iface name d)) : ∃ t p, W.cell? ⟨g, 0, none⟩ = some (.iface t p) := by
  obtain ⟨g', t, cs, fuel, p, hg, ht, hvar, hd⟩ := h
  obtain rfl := Option.some.inj (hn.symm.trans hg)
  obtain rfl := Option.some.inj (hty.symm.trans ht)
  obtain ⟨_, u, v, hcs, _, _⟩ := iface_of_trod Tryz.underlying31 hd
  refine ⟨u, v, ?_⟩
  rw [World.var?_cell hn hvar 0, ← Array.getElem?_toList, hcs]
  rfl
theorem envA_at {W : World} {laid : List (String × DataW Unit)} (hL : laidMetH Tryz.prog laid W) (hm : ("strconv.ErrSyntax", (Rows.laid_strconv_ErrSyntax : DataW Unit)) ∈ laid) (hm2 : ("strconv.ErrRange", (Rows.laid_strconv_ErrRange : DataW Unit)) ∈ laid) : EnvA W :=
  ⟨iface_reads errSyntaxIs errSyntaxType (Lib.laidMet.reads (laidMetH_iff.1 hL).1 (List.mem_filter.2 ⟨hm, rfl⟩)), iface_reads errRangeIs errRangeType (Lib.laidMet.reads (laidMetH_iff.1 hL).1 (List.mem_filter.2 ⟨hm2, rfl⟩))⟩
end Go.Proofs.YtpbbhjifgaeklaaGreatDoor

namespace Go.Proofs.YtpbbhjifgaeklaaGreatDoor
open Go.RowKit Go.ChangeShapes Go.WideShapes Go.ChangeAt Go.Joins

theorem afterIs : Tryz.prog.globalNamed "stevedore/status.after" = some 1 := by kernel_rfl
theorem afterType : (Tryz.prog.globals[1]?).map (·.type) = some 175 := by kernel_rfl
theorem cells8 : Tryz.prog.cellsOf 174 = 8 := by kernel_rfl
theorem cellsIntN : Tryz.prog.cellsOf 3 = 1 := by kernel_rfl

theorem envN_reads {W : World} (h : Lib.VarReads Tryz.prog W "stevedore/status.after" (Rows.laid_stevedore_status_after : DataW Unit)) : EnvN W := by
  obtain ⟨g, t, cs, fuel, p, hg, ht, hvar, hd⟩ := h
  obtain rfl := Option.some.inj (afterIs.symm.trans hg)
  obtain rfl := Option.some.inj (afterType.symm.trans ht)
  obtain ⟨xs, m, _, hx, _, hxl, hf⟩ := DataW.trod_array Tryz.underlying175 hd
  have hx1 : xs.map (·.1) = afterR.map fun r => .agg (r.map fun n => .lit (.int .i64 n)) := by
    have := congrArg Prod.fst hx
    simp only [Rows.laid_stevedore_status_after] at this
    injection this with this
    exact this.symm
  intro e s he hs
  rw [World.var?_cell afterIs hvar (e * 8 + s)]
  have hfe := hf e he
  rw [cells8] at hfe
  have hxe : xs[e]? = some (xs[e]'(by omega)) := List.getElem?_eq_getElem _
  rw [hxe] at hfe
  obtain ⟨ys, m', _, hy, _, hyl, hf2⟩ := DataW.trod_array Tryz.underlying174 hfe
  have hfs := hf2 s hs
  rw [cellsIntN, Nat.mul_one] at hfs
  have hys : ys[s]? = some (ys[s]'(by omega)) := List.getElem?_eq_getElem _
  rw [hys] at hfs
  obtain ⟨n, hc, hyn, _⟩ := DataW.trod_int Tryz.underlying3 hfs
  have hcell : cs.toList[e * 8 + s]? = some (.int .i64 n) := by
    have := congrArg (·[0]?) hc
    simpa [List.getElem?_take, List.getElem?_drop, hs] using this
  have h1 : (xs.map (·.1))[e]? = some (.agg (ys.map (·.1))) := by
    rw [List.getElem?_map, hxe, hy]; rfl
  rw [hx1, List.getElem?_map] at h1
  obtain ⟨r, hr, hr2⟩ := Option.map_eq_some_iff.1 h1
  injection hr2 with hr2
  have h2 : (ys.map (·.1))[s]? = some (.lit (.int .i64 n)) := by
    rw [List.getElem?_map, hys, hyn]; rfl
  rw [← hr2, List.getElem?_map] at h2
  obtain ⟨n', hn, hn2⟩ := Option.map_eq_some_iff.1 h2
  injection hn2 with hn2
  injection hn2 with _ hn2
  have : cs[e * 8 + s]? = some (.int .i64 n) := by rw [← Array.getElem?_toList]; exact hcell
  rw [this]
  unfold afterT
  rw [List.getD_eq_getElem?_getD, List.getD_eq_getElem?_getD, hr]
  show _ = some (Value.int .i64 ((r[s]?).getD 0))
  rw [hn, ← hn2]
  rfl

theorem envN_at {W : World} {laid : List (String × DataW Unit)} (hL : laidMetH Tryz.prog laid W) (hm : ("stevedore/status.after", (Rows.laid_stevedore_status_after : DataW Unit)) ∈ laid) : EnvN W :=
  envN_reads (Lib.laidMet.reads (laidMetH_iff.1 hL).1 (List.mem_filter.2 ⟨hm, rfl⟩))
end Go.Proofs.YtpbbhjifgaeklaaGreatDoor

namespace Go.Proofs.YtpbbhjifgaeklaaGreatDoor
open Go.RowKit Go.ChangeShapes Go.WideShapes Go.ChangeAt Go.Joins

/-- what is listed of plain tables -/
theorem env_handed {W : World} {laid : List (String × DataW Unit)} (hL : laidMetH Tryz.prog laid W) (hm : ("internal/strconv.uint64pow10", (Rows.laid_internal_strconv_uint64pow10 : DataW Unit)) ∈ laid) (hsh : W.ShapedOpen Tryz.prog) : Env W :=
  env_at (laidMetH_iff.1 hL).1 (List.mem_filter.2 ⟨hm, rfl⟩) hsh

/-- the variables as they start, the handle laid -/
noncomputable def handBase (os : Os) : World :=
  { World.holding Tryz.prog os ⟨#[], #[], []⟩ with heap := (World.holding Tryz.prog os ⟨#[], #[], []⟩).heap.modify 2 fun
      | .cells _ t frozen => .cells #[.iface 304 (.agg #[.pointer (some ⟨11, 31, none⟩)])] t frozen
      | o => o }
noncomputable def handWorld (os : Os) (laid : List (String × DataW Unit)) : World := (handBase os).layVars Tryz.prog (laid.filter fun x => x.2.handleName?.isNone)
theorem handWorld_os (os : Os) (laid : List (String × DataW Unit)) : (handWorld os laid).os = os := World.layVars_os _ _ _
theorem handWorld_met {os : Os} {laid : List (String × DataW Unit)} (args : Array Value)
    (hf : (handBase os).layFits Tryz.prog (laid.filter fun x => x.2.handleName?.isNone) [] = true)
    (hi : (handBase os).layIfaces Tryz.prog (laid.filter fun x => x.2.handleName?.isNone) (handWorld os laid) = true)
    (hh : (laid.filter fun x => x.2.handleName?.isSome).all (handleAtB Tryz.prog ((handWorld os laid).forCall (fun _ _ => 0) ⟨#[], args, []⟩).memory) = true) :
    laidMetH Tryz.prog laid ((handWorld os laid).forCall (fun _ _ => 0) ⟨#[], args, []⟩).memory := by
  refine laidMetH_of_parts ?_ hh
  obtain ⟨plain, hp⟩ : ∃ plain, (laid.filter fun x => x.2.handleName?.isNone) = plain := ⟨_, rfl⟩
  have hw : handWorld os laid = (handBase os).layVars Tryz.prog plain := by unfold handWorld; rw [hp]
  rw [hp] at hf hi ⊢
  rw [hw] at hi ⊢
  have e1 : (plain.filter fun x => (plain.map (·.1)).contains x.1) = plain := List.filter_eq_self.2 fun x hx => List.contains_iff_mem.2 (List.mem_map.2 ⟨x, hx, rfl⟩)
  have e2 : (plain.filter fun x => !(plain.map (·.1)).contains x.1) = [] := List.filter_eq_nil_iff.2 fun x hx => by rw [List.contains_iff_mem.2 (List.mem_map.2 ⟨x, hx, rfl⟩)]; simp
  have h : laidMet Tryz.prog plain ((handBase os).layVars Tryz.prog plain) := laidMet_layVars (w0 := handBase os) (plain.map (·.1)) [] (by rw [e1]) (by rw [e1]; exact hf) (by rw [e1]; exact hi) (by rw [e2]; exact LaidIn.none)
  exact h.of_heap (by simp [World.memory, World.forCall, Input.heap])
end Go.Proofs.YtpbbhjifgaeklaaGreatDoor

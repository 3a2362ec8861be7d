/- RecordReads: for all fields the call returns true, and its arguments read as before: the row, and its tied card. Conditions: none of ours; the row lists seven variables (six of the library's, and depend.signs), tied to the program's text. · A row that lists the handle of errors.errorType besides plain tables: what it gives a walk, and a world that meets it. -/
import Derived.Test.YtodbbfgkclkpgaaGreatDoorRR43
import Derived.Test.YtodbbfgkclkpgaaGreatDoorRR22
import Derived.LaidSub
import Derived.LaidHandle
import Derived.Test.YtodbbfgkclkpgaaGreatDoorRR42
import Derived.Test.YtodbbfgkclkpgaaGreatDoorTie
import Derived.Test.YtodbbfgkclkpgaaGreatDoorCards
namespace Go.Proofs.YtodbbfgkclkpgaaGreatDoor
open Go.RowKit Go.ChangeShapes Go.WideShapes Go.ChangeAt Go.Joins

theorem rtypeIs : (Tryz.prog.cutTypes.find? (·.1 == "internal/reflectlite.rtype")).map (·.2) = some 226 := by kernel_rfl
theorem errorTypeIs : Tryz.prog.globalNamed "errors.errorType" = some 2 := by kernel_rfl
theorem errorRow : ((List.range 301).filter fun t => Tryz.prog.rowNamed t [101, 114, 114, 111, 114]) = [36] := by kernel_rfl
theorem typesSize : Tryz.prog.types.size = 301 := by kernel_rfl

/-- what is listed of handles -/
theorem envE_at {W : World} {laid : List (String × DataW Unit)} (hL : laidMetH Tryz.prog laid W) (hm : ("errors.errorType", (Rows.laid_errors_errorType : DataW Unit)) ∈ laid) : EnvE W := by
  obtain ⟨_, hh⟩ := laidMetH_iff.1 hL
  obtain ⟨name, u, ty, e1, e2, e3, e4, e5⟩ := hh _ (List.mem_filter.2 ⟨hm, rfl⟩)
  have en : name = [101, 114, 114, 111, 114] := (Option.some.inj e1).symm
  subst en
  obtain rfl := Option.some.inj (rtypeIs.symm.trans e2)
  have hmem : ty ∈ (List.range 301).filter fun t => Tryz.prog.rowNamed t [101, 114, 114, 111, 114] := List.mem_filter.2 ⟨List.mem_range.2 (by rw [← typesSize]; exact e3), e4⟩
  rw [errorRow] at hmem
  obtain rfl := List.mem_singleton.1 hmem
  have hd : typeHandle Tryz.prog 36 = .pointer (some ⟨12, 36, none⟩) := by kernel_rfl
  rw [hd] at e5
  unfold EnvE
  simpa using World.var?_cell errorTypeIs e5 0

/-- what is listed of plain tables -/
theorem env_handed {W : World} {laid : List (String × DataW Unit)} (hL : laidMetH Tryz.prog laid W) (hm : ("internal/strconv.uint64pow10", (Rows.laid_internal_strconv_uint64pow10 : DataW Unit)) ∈ laid) (hsh : W.ShapedOpen Tryz.prog) : Env W :=
  env_at (laidMetH_iff.1 hL).1 (List.mem_filter.2 ⟨hm, rfl⟩) hsh

/-- the variables as they start, the handle laid -/
noncomputable def handBase (os : Os) : World :=
  { World.holding Tryz.prog os ⟨#[], #[], []⟩ with heap := (World.holding Tryz.prog os ⟨#[], #[], []⟩).heap.modify 2 fun
      | .cells _ t frozen => .cells #[.iface 226 (.agg #[.pointer (some ⟨12, 36, none⟩)])] t frozen
      | o => o }
noncomputable def handWorld (os : Os) (laid : List (String × DataW Unit)) : World := (handBase os).layVars Tryz.prog (laid.filter fun x => x.2.handleName?.isNone)
theorem handWorld_os (os : Os) (laid : List (String × DataW Unit)) : (handWorld os laid).os = os := World.layVars_os _ _ _
theorem handWorld_met {os : Os} {laid : List (String × DataW Unit)} (args : Array Value)
    (hf : (handBase os).layFits Tryz.prog (laid.filter fun x => x.2.handleName?.isNone) [] = true)
    (hi : (handBase os).layIfaces Tryz.prog (laid.filter fun x => x.2.handleName?.isNone) (handWorld os laid) = true)
    (hh : (laid.filter fun x => x.2.handleName?.isSome).all (handleAtB Tryz.prog ((handWorld os laid).forCall (fun _ _ => 0) ⟨#[], args, []⟩).memory) = true) :
    laidMetH Tryz.prog laid ((handWorld os laid).forCall (fun _ _ => 0) ⟨#[], args, []⟩).memory := by
  refine laidMetH_of_parts ?_ hh
  obtain ⟨plain, hp⟩ : ∃ plain, (laid.filter fun x => x.2.handleName?.isNone) = plain := ⟨_, rfl⟩
  have hw : handWorld os laid = (handBase os).layVars Tryz.prog plain := by unfold handWorld; rw [hp]
  rw [hp] at hf hi ⊢
  rw [hw] at hi ⊢
  have e1 : (plain.filter fun x => (plain.map (·.1)).contains x.1) = plain := List.filter_eq_self.2 fun x hx => List.contains_iff_mem.2 (List.mem_map.2 ⟨x, hx, rfl⟩)
  have e2 : (plain.filter fun x => !(plain.map (·.1)).contains x.1) = [] := List.filter_eq_nil_iff.2 fun x hx => by rw [List.contains_iff_mem.2 (List.mem_map.2 ⟨x, hx, rfl⟩)]; simp
  have h : laidMet Tryz.prog plain ((handBase os).layVars Tryz.prog plain) := laidMet_layVars (w0 := handBase os) (plain.map (·.1)) [] (by rw [e1]) (by rw [e1]; exact hf) (by rw [e1]; exact hi) (by rw [e2]; exact LaidIn.none)
  exact h.of_heap (by simp [World.memory, World.forCall, Input.heap])
end Go.Proofs.YtodbbfgkclkpgaaGreatDoor

namespace Go.Proofs.YtodbbfgkclkpgaaGreatDoor
open Go.RowKit Go.ChangeShapes Go.WideShapes Go.ChangeAt Go.Joins

section
variable {H : Type} {enc : TypeId × Value → H} {w : World} {base : Nat} {held : Bool}
theorem cells_fld : Tryz.prog.cellsOf 69 = 2 := by kernel_rfl
theorem cells_flds : Tryz.prog.cellsOf 31 = 1 := by kernel_rfl
/-- a slice of fields that comes in -/
theorem read_flds {n : Nat} {v : Value} {x : DataW H × List MemPlace} (h : DataW.trod enc Tryz.prog w base (fun _ => true) held n 31 [v] = some x) : ∃ fs : List Fv, FieldsAt w v fs := by
  rcases Go.Deep.open_slice Tryz.underlying31 h with ⟨hc, _⟩ | ⟨a, len, cap, m, k, D, Pl, hc, _, hl, hm, hmm, _, hi⟩
  · have hv : v = .slice none 0 0 := by simpa using hc
    subst hv
    exact ⟨[], SlC.nil w none 0⟩
  · have hv : v = .slice (some a) len cap := by simpa using hc
    subst hv
    rw [if_pos rfl] at hmm
    unfold maxLen at hm
    rcases Nat.eq_zero_or_pos len with h0 | h0
    · subst h0
      exact ⟨[], SlC.nil w (some a) cap⟩
    · have each : ∀ i, i < len → ∃ f : Fv, w.cell? (a.add (i * 2)) = some (.string f.n) ∧ w.cell? ((a.add (i * 2)).add 1) = some (.string f.v) := by
        intro i hi'
        obtain ⟨cs', h1, h2⟩ := hi i (by omega)
        rw [cells_fld] at h1
        obtain ⟨_, hlen, hcell⟩ := World.cells?_some h1
        obtain ⟨ys, m', _, _, _, hyl, hf⟩ := DataW.trod_struct Tryz.underlying69 h2
        match ys, hyl with
        | [y0, y1], _ =>
          have f0 : DataW.trod enc Tryz.prog w base (fun _ => true) held m' 9 ((cs'.drop 0).take (Tryz.prog.cellsOf 9)) = some y0 := hf 0 _ rfl
          have f1 : DataW.trod enc Tryz.prog w base (fun _ => true) held m' 9 ((cs'.drop 1).take (Tryz.prog.cellsOf 9)) = some y1 := hf 1 _ rfl
          rw [cells_string] at f0 f1
          obtain ⟨n, e0, _, _⟩ := DataW.trod_string Tryz.underlying9 f0
          obtain ⟨s, e1, _, _⟩ := DataW.trod_string Tryz.underlying9 f1
          have g0 := hcell 0 (by omega)
          have g1 := hcell 1 (by omega)
          rw [one_of_take e0] at g0
          rw [one_of_take e1] at g1
          exact ⟨⟨n, s⟩, by simpa [Addr.add] using g0, g1⟩
      obtain ⟨t0, ht0⟩ := each 0 h0
      obtain ⟨b, off, rfl⟩ := plain_addr (w := w) (a := a) (v := .string t0.n) (by simpa [Addr.add] using ht0.1)
      obtain ⟨fs, hfs, hp⟩ := choose_list len each
      subst hfs
      refine ⟨fs, some ⟨b, off, none⟩, cap, rfl, hl, by omega, fun _ => ⟨b, off, rfl, fun j u hj => ?_⟩⟩
      have hlt := (List.getElem?_eq_some_iff.1 hj).1
      have hs : ∀ f : Fv, (fldC f).length = 2 := fun _ => rfl
      rw [flat_length hs] at hlt
      have hfj : fs[j / 2]? = some (fs[j / 2]'(by omega)) := List.getElem?_eq_getElem _
      obtain ⟨p0, p1⟩ := hp (j / 2) _ hfj
      rw [add_plain] at p0 p1
      rw [add_plain] at p1
      obtain hr | hr : j = j / 2 * 2 + 0 ∨ j = j / 2 * 2 + 1 := by omega
      · rw [hr, flat_at hs hfj 0 (by omega)] at hj
        rw [hr, ← Option.some.inj hj]
        exact p0
      · rw [hr, flat_at hs hfj 1 (by omega)] at hj
        rw [hr, ← Option.some.inj hj, ← Nat.add_assoc]
        exact p1

end
set_option maxRecDepth 100000 in
/-- Fields that come in. -/
theorem open_flds {H : Type} {enc : TypeId × Value → H} {W : World} {base b0 : Nat} {held : Bool} {r : Reach} {v : Value} {d : DataW H} {p : List MemPlace}
    (hv : Value.okWide Tryz.prog W r b0 31 v) (h : DataW.Trod enc Tryz.prog W base (fun _ => true) held 31 v d p) : ∃ fs, FieldsAt W v fs := by
  obtain ⟨a0, len, cap, rfl⟩ := okWide_slice Tryz.underlying31 hv
  obtain ⟨fuel, hf⟩ := h
  exact read_flds hf

set_option maxRecDepth 100000 in
theorem rreads_lifted (os : Os) (started : os.Started) (H : Type) (enc : TypeId × Value → H) :
    ReturnsInHanded {} Tryz.checked os 5 .any (fun w args => (Rows.recordReadsSpec.pre enc Tryz.prog Tryz.f5 [] false w args ∧ laidMetH Tryz.prog Rows.recordReadsRow.laid w) ∧ sizedMet enc Tryz.prog Tryz.f5 (OpenSpec.ofChange Rows.recordReadsSpec) false w args)
      (Rows.recordReadsSpec.post enc Tryz.prog Tryz.f5 false true false false) := by
  refine returnsInHanded_listed_shaped (C := Tryz.checked) (X := fun w _ => laidMetH Tryz.prog Rows.recordReadsRow.laid w) (fun _ _ _ hh h => h.of_heap hh) own started (by kernel_rfl) Tryz.func5
    (ChangeSpec.witness_shaped (enc := enc) (C := Tryz.checked) (os := os) (X := fun w _ => laidMetH Tryz.prog Rows.recordReadsRow.laid w) false (handWorld os Rows.recordReadsRow.laid) #[.slice none 0 0] 8 (handWorld_os _ _)
      (World.shaped_of_ZipB (by kernel_rfl) (by kernel_rfl)) (by kernel_rfl) (by kernel_rfl) (by kernel_rfl)
      (handWorld_met _ (by kernel_rfl) (by kernel_rfl) (by kernel_rfl))) ?_
  intro W base args ds gs before hval0 hW _ _ hL hsh _
  have hval : ∀ (j : Nat) t v, Tryz.f5.params[j]? = some t → args[j]? = some v → Value.okWide Tryz.prog W .any base t v := hval0
  have hW' := hW
  obtain ⟨p, q, hA0, hV, hpq, _, _⟩ := hW
  have hA : DataW.TrodAll enc Tryz.prog W 0 (fun _ => true) true Tryz.f5.params.toList args.toList ds p := hA0
  rw [Tryz.params5] at hA hval
  obtain ⟨v0, vs0, d0, ds0, p0, q0, e0, g0, k0, h0, hA1⟩ := trodAll_cons hA
  obtain ⟨rfl, rfl, rfl⟩ := trodAll_nil hA1
  obtain ⟨rfl, rfl⟩ := trodVars_none hV
  obtain rfl : args = #[v0] := by cases args; simp at e0; rw [e0]
  obtain ⟨fs, hP0⟩ := open_flds (hval 0 31 v0 rfl rfl) h0
  have hE : Env W := env_handed hL (.tail _ (.tail _ (.head _))) hsh
  have hG : EnvE W := envE_at hL (.tail _ (.tail _ (.tail _ (.tail _ (.head _)))))
  have hS : EnvS W := envS_at hL (.tail _ (.tail _ (.tail _ (.tail _ (.tail _ (.head _))))))
  refine (reads2_calls v0 fs W hE hG hS hP0).mono fun e W' ⟨he, hb⟩ => ?_
  subst he
  have hargs := below_trodAll (enc := enc) laidOut hb (by kernel_rfl) hA (DataW.TrodAll.lt hA)
  subst g0
  exact ⟨_, rfl, _, _, _, [], p, [], hW', trodAll_mk1 (shut_bool Tryz.underlying4 _), hargs, rfl, hb.frame _, fun h => by cases h⟩

theorem rreads_holds : Rows.RecordReadsSaid :=
  OpenClaim.holds_of_wide 5 Tryz.f5 rfl rfl rfl rfl rfl rfl rfl ⟨rfl, rfl, rfl, rfl, rfl⟩ rfl rfl rfl rfl rfl (by kernel_rfl) Tryz.func5 (by kernel_rfl)
    (of_decide_eq_true (by kernel_rfl)) (by unfold Func.isWrapper; first | (rw [if_pos (by decide +kernel)]; kernel_rfl) | (rw [if_neg (by decide +kernel)]; exact ⟨rfl, rfl⟩))
    (fun os started H enc _ => rreads_lifted os started H enc)

theorem rreads_card : Rows.RecordReadsCardSaid :=
  Claim7.holds_tied_plain_at .later [] [.data, .data, .data, .data, .handle, .data, .pinned] true Rows.recordReadsCard.stood.harness true
    rreads_holds (fun _ h => by cases h) (by kernel_rfl) (fun _ h => by cases h) recordReads_row_tie rfl ⟨rfl, rfl⟩ (by kernel_rfl) rfl
    (fun f fn hf hfn => by
      obtain rfl : f = 5 := Option.some.inj ((show Tryz.prog.funcNamed "stevedore/stevedorelaw.RecordReads" = some 5 by kernel_rfl).symm.trans hf) |>.symm
      obtain rfl : fn = Tryz.f5 := (Option.some.inj (Tryz.func5.symm.trans hfn)).symm
      exact ⟨by kernel_rfl, fun j t ht => by
        rw [Tryz.params5] at ht
        have hm : t ∈ [31] := by simpa using Array.mem_of_getElem? ht
        have hall : ([31].all fun u => !Tryz.prog.wantsStandIn u) = true := by kernel_rfl
        exact (show Tryz.prog.wantsStandIn t = false by simpa using List.all_eq_true.1 hall t hm)⟩)
    (by kernel_rfl)
#print axioms rreads_card
end Go.Proofs.YtodbbfgkclkpgaaGreatDoor

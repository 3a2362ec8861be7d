/- The reference's ReadFields: the boxes; names in small letters. · record.Read of all fields. · The frame of a law: what is the same for every statement of this seat. · What comes in: the library's variables out of the row's list; a version. · What the walks read of depend.signs, out of the row's list. -/
import Derived.Test.YtodbbfgkclkpgaaGreatDoorABK29
import Derived.Test.YtodbbfgkclkpgaaGreatDoorABK30
import Derived.Test.YtodbbfgkclkpgaaGreatDoorABK3
import Derived.HandedShaped
import Derived.PinnedBridge
import Derived.Lay
import Derived.SevenTiedAt
import Derived.Lib.LaidTab
import Derived.Lib.LaidU8
import Derived.Test.YtodbbfgkclkpgaaGreatDoorRows
import Derived.Test.YtodbbfgkclkpgaaGreatDoorABK8
import Derived.OpenShut
import Derived.FnData
import Derived.LaidSub
namespace Go.Proofs.YtodbbfgkclkpgaaGreatDoor
open Go Go.RowKit

def lPackage : ByteArray := ⟨#[112, 97, 99, 107, 97, 103, 101]⟩
def lVersion : ByteArray := ⟨#[118, 101, 114, 115, 105, 111, 110]⟩
def lDepends : ByteArray := ⟨#[100, 101, 112, 101, 110, 100, 115]⟩
def lPre : ByteArray := ⟨#[112, 114, 101, 45, 100, 101, 112, 101, 110, 100, 115]⟩
def lConflicts : ByteArray := ⟨#[99, 111, 110, 102, 108, 105, 99, 116, 115]⟩
def lBreaks : ByteArray := ⟨#[98, 114, 101, 97, 107, 115]⟩
def lReplaces : ByteArray := ⟨#[114, 101, 112, 108, 97, 99, 101, 115]⟩
def lProvides : ByteArray := ⟨#[112, 114, 111, 118, 105, 100, 101, 115]⟩
def lConffiles : ByteArray := ⟨#[99, 111, 110, 102, 102, 105, 108, 101, 115]⟩
def lTriggers : ByteArray := ⟨#[116, 114, 105, 103, 103, 101, 114, 115]⟩
theorem get_low (fs : List Fv) : getB fs lPackage = getB fs nPackage ∧ getB fs lVersion = getB fs nVersion ∧ getB fs lDepends = getB fs nDepends ∧ getB fs lPre = getB fs nPre ∧ getB fs lConflicts = getB fs nConflicts ∧ getB fs lBreaks = getB fs nBreaks ∧ getB fs lReplaces = getB fs nReplaces ∧ getB fs lProvides = getB fs nProvides ∧ getB fs lConffiles = getB fs nConffiles ∧ getB fs lTriggers = getB fs nTriggers :=
  ⟨getB_small (by decide), getB_small (by decide), getB_small (by decide), getB_small (by decide), getB_small (by decide), getB_small (by decide), getB_small (by decide), getB_small (by decide), getB_small (by decide), getB_small (by decide)⟩

theorem pieces_feed (l : List UInt8) : VP.pieces 10 (10 :: l) = [] :: VP.pieces 10 l := by simp [VP.pieces]
/-- the state: the fields' box b, the result's b + 1, the empty one b + 2, the package's b + 3 -/
structure RfSt (w : World) (b : Nat) (lv : Value) (q : Pv) (v1 v2 v3 v4 v5 v6 v7 v8 : Value) (W : World) : Prop where
  l : W.cell? ⟨b, 0, none⟩ = some lv
  z : PkBlk W (b + 1) zeros
  n : PkBlk W (b + 2) zeros
  k : PkBlk W (b + 3) (cells13 q v1 v2 v3 v4 v5 v6 v7 v8)
  v : RdVals (b + 4) W q v1 v2 v3 v4 v5 v6 v7 v8
  low : w.heap.size ≤ b
  w : Below w.heap.size w W
theorem RfSt.below {w W W' : World} {b : Nat} {lv : Value} {q : Pv} {v1 v2 v3 v4 v5 v6 v7 v8 : Value} (h : RfSt w b lv q v1 v2 v3 v4 v5 v6 v7 v8 W) (hb : Below W.heap.size W W') : RfSt w b lv q v1 v2 v3 v4 v5 v6 v7 v8 W' :=
  ⟨kept hb h.l, h.z.keep hb, h.n.keep hb, h.k.keep hb, h.v.keep (FromAs.of_below hb), h.low, step_below h.w hb⟩
theorem RfSt.put {w W : World} {b i : Nat} {lv : Value} {q q' : Pv} {v1 v2 v3 v4 v5 v6 v7 v8 u1 u2 u3 u4 u5 u6 u7 u8 : Value} (h : RfSt w b lv q v1 v2 v3 v4 v5 v6 v7 v8 W) (x : Value)
    (hc : (cells13 q v1 v2 v3 v4 v5 v6 v7 v8).setIfInBounds i x = cells13 q' u1 u2 u3 u4 u5 u6 u7 u8) (hv : RdVals (b + 4) W q' u1 u2 u3 u4 u5 u6 u7 u8) : RfSt w b lv q' u1 u2 u3 u4 u5 u6 u7 u8 (W.setCell ⟨b + 3, i, none⟩ x) :=
  ⟨by rw [World.cell?_setCell_other _ _ _ _ (by intro e; simp only [Addr.mk.injEq] at e; omega)]; exact h.l, h.z.other (by omega) i x, h.n.other (by omega) i x, by have := h.k.set i x; rwa [hc] at this, hv.keep (fromAs_set W (b + 3) i x), h.low, h.w.setCell (p := ⟨b + 3, i, none⟩) (show w.heap.size ≤ b + 3 by have := h.low; omega) x⟩
theorem RfSt.start (w : World) (lv : Value) : RfSt w w.heap.size lv pack0 (.slice none 0 0) (.slice none 0 0) (.slice none 0 0) (.slice none 0 0) (.slice none 0 0) (.slice none 0 0) (.slice none 0 0) (.slice none 0 0)
    ((((w.alloc (.cells #[lv] 31)).alloc (.cells zeros 29)).alloc (.cells zeros 29)).alloc (.cells zeros 29)) := by
  have b1 := below_alloc w (.cells #[lv] 31)
  have b2 := below_alloc (w.alloc (.cells #[lv] 31)) (.cells zeros 29)
  have b3 := below_alloc ((w.alloc (.cells #[lv] 31)).alloc (.cells zeros 29)) (.cells zeros 29)
  have b4 := below_alloc (((w.alloc (.cells #[lv] 31)).alloc (.cells zeros 29)).alloc (.cells zeros 29)) (.cells zeros 29)
  have l0 : (w.alloc (.cells #[lv] 31)).cell? ⟨w.heap.size, 0, none⟩ = some lv := by go_cell
  have z1 := pk_new (w.alloc (.cells #[lv] 31)) zeros
  have z2 := pk_new ((w.alloc (.cells #[lv] 31)).alloc (.cells zeros 29)) zeros
  have z3 := pk_new (((w.alloc (.cells #[lv] 31)).alloc (.cells zeros 29)).alloc (.cells zeros 29)) zeros
  simp only [World.size_alloc] at z1 z2 z3
  exact ⟨kept b4 (kept b3 (kept b2 l0)), (z1.keep b3).keep b4, z2.keep b4, z3,
    ⟨askedIn_nil _ _ _, askedIn_nil _ _ _, termsFrom_nil _ _ _, termsFrom_nil _ _ _, termsFrom_nil _ _ _, termsFrom_nil _ _ _, strsFrom_nil _ _ _, strsFrom_nil _ _ _, rfl⟩, Nat.le_refl _, step_below (step_below (step_below b1 b2) b3) b4⟩
end Go.Proofs.YtodbbfgkclkpgaaGreatDoor

namespace Go.Proofs.YtodbbfgkclkpgaaGreatDoor
open Go Go.RowKit

theorem slc_sl {α : Type} {cs : α → List Value} {w : World} {v : Value} {xs : List α} (h : SlC cs w v xs) : ∃ A n c, v = .slice A n c := by
  obtain ⟨A, c, hv, _⟩ := h
  exact ⟨A, _, c, hv⟩
set_option maxHeartbeats 4000000 in
set_option maxRecDepth 100000 in
theorem read_missing (v : Value) (fs : List Fv) (w : World) (h : FieldsAt w v fs) (hs : ∀ f ∈ fs, f.n.size ≤ 6000 ∧ f.v.size ≤ 6000) (hm : ((getB fs nPackage).isSome && (getB fs nVersion).isSome) = false) : Calls Tryz.prog 26 #[v] w (ReadIs fs w) := by
  have CG := Lib.hid (fun (n : ByteArray) (hn : n.size ≤ 1000) (W : World) (hb : Below w.heap.size w W) => (show Calls Tryz.prog 95 #[v, .string n] W (fun E W' => E = .returned (.tuple #[.string (sayF fs n), .bool (getB fs n).isSome]) ∧ Below W.heap.size W W') from get_calls v fs n W (h.below hb) (fun f hf => by have := (hs f hf).1; omega) (by omega)))
  obtain ⟨A0, n0, k0, rfl⟩ : ∃ A n c, v = .slice A n c := by obtain ⟨A, c, hv, _⟩ := h; exact ⟨A, _, c, hv⟩
  have HR := Lib.hid (rd_error (readP_missing hm))
  have C1 := Lib.hid (CG.out nPackage (by decide))
  have C2 := Lib.hid (CG.out nVersion (by decide))
  have LOW := Lib.hid (get_low fs)


  obtain ⟨a, ha⟩ : ∃ a, (getB fs nPackage).isSome = a := ⟨_, rfl⟩
  obtain ⟨b, hb⟩ : ∃ b, (getB fs nVersion).isSome = b := ⟨_, rfl⟩
  rw [ha] at C1 hm
  rw [hb] at C2 hm
  have R0 := RdSt.start w
  have hB0 := R0.w

  clear ha hb h hs CG
  go_enter Tryz.func26, Tryz.ntmps26
  go_wp2_with fail
  refine (C1.out _ hB0).mono ?_
  rintro E w1 ⟨rfl, hb⟩
  have R1 := R0.below hb
  have HB1 := Lib.hid R1.w

  clear hb hB0 R0 
  go_wp2_with fail
  refine (C2.out _ HB1.out).mono ?_
  rintro E w2 ⟨rfl, hb⟩
  have R2 := R1.below hb
  have HB2 := Lib.hid R2.w
  have fz := R2.z.frozen
  have z0 := (R2.z.cell (i := 0) rfl); have z1 := (R2.z.cell (i := 1) rfl); have z2 := (R2.z.cell (i := 2) rfl); have z3 := (R2.z.cell (i := 3) rfl); have z4 := (R2.z.cell (i := 4) rfl); have z5 := (R2.z.cell (i := 5) rfl); have z6 := (R2.z.cell (i := 6) rfl); have z7 := (R2.z.cell (i := 7) rfl); have z8 := (R2.z.cell (i := 8) rfl); have z9 := (R2.z.cell (i := 9) rfl); have z10 := (R2.z.cell (i := 10) rfl); have z11 := (R2.z.cell (i := 11) rfl); have z12 := (R2.z.cell (i := 12) rfl)

  have hlow : w.heap.size ≤ w.heap.size := by omega
  clear C1 C2 hb R1 R2 
  cases a <;> cases b <;> first | (cases hm; done) | (
    go_wp2_with fail
    refine bodyPost_ret (v := .tuple #[.agg zeros, .iface 32 (.int .i64 7)]) (by simp [results, zeros, Tryz.results26, go_sem, z0, z1, z2, z3, z4, z5, z6, z7, z8, z9, z10, z11, z12]) rfl ?_
    exact readIs_err (n := 7) HR.out (below_set13 HB2.out hlow _ _ _ _ _ _ _ _ _ _ _ _ _))

theorem read_calls (v : Value) (fs : List Fv) (w : World) (hE : Env w) (hS : EnvS w) (h : FieldsAt w v fs) (hs : ∀ f ∈ fs, f.n.size ≤ 6000 ∧ f.v.size ≤ 6000) : Calls Tryz.prog 26 #[v] w (ReadIs fs w) := by
  cases hm : (getB fs nPackage).isSome && (getB fs nVersion).isSome with
  | false => exact read_missing v fs w h hs hm
  | true => exact read_main v fs w hE hS h hs hm
end Go.Proofs.YtodbbfgkclkpgaaGreatDoor

namespace Go.Proofs.YtodbbfgkclkpgaaGreatDoor
open Go.RowKit Go.ChangeShapes Go.WideShapes Go.ChangeAt Go.Joins
section
variable {H : Type} {enc : TypeId × Value → H}

/-- The plain wrap with both: what the row lists, and the world's shape. -/
theorem returnsInHanded_listed_shaped {a : Assume} {C : Checked} {os : Os} {f : FuncId} {fn : Func} {s : ChangeSpec} {conds : List PathCond} {apart fresh handsOn again : Bool} {X : World → Array Value → Prop}
    (hX : ∀ (w w' : World) (args : Array Value), w.heap = w'.heap → X w args → X w' args)
    (own : ownKnob C.prog.godebug = none) (started : os.Started) (noInit : C.prog.inits.idxOf? f = none) (hfn : C.prog.funcs[f]? = some fn)
    (witness : ∃ (w : World) (tape : Tape) (i : Input), w.os = os ∧ (w.forCall tape i).Shaped C.prog ∧ i.vars = [] ∧ Input.okWide C.prog (w.forCall tape i) .any w.heap.size f i ∧
      ((s.pre enc C.prog fn conds apart (w.forCall tape i).memory i.args ∧ X (w.forCall tape i).memory i.args) ∧ sizedMet enc C.prog fn (OpenSpec.ofChange s) apart (w.forCall tape i).memory i.args) ∧ a.holds C.prog (lone (Frame.enter C.prog f i.args .normal) [] (w.forCall tape i)))
    (contract : ∀ (W : World) (base : Nat) (args : Array Value) (ds gs : List (DataW H)) (before : List MemPlace),
      (∀ (j : Nat) t v, fn.params[j]? = some t → args[j]? = some v → Value.okWide C.prog W .any base t v) →
      DataW.Whole enc C.prog fn.params.toList s.vars apart W args.toList ds gs before →
      conds.all (PathCond.test C.prog ⟨fn.params.toList, ds, s.plain.varTypes C.prog, gs⟩) = true →
      (DataW.weightsEach C.prog (fn.params.toList ++ s.plain.varTypes C.prog) (ds ++ gs)).all (· ≤ reachBytes) = true → X W args → W.ShapedOpen C.prog →
      a.holds C.prog (lone (Frame.enter C.prog f args .normal) [] W) →
      Calls C.prog f args W fun e W' => ∃ v, e = .returned v ∧ s.post enc C.prog fn apart fresh handsOn again W args v W') :
    ReturnsInHanded a C os f .any (fun w args => (s.pre enc C.prog fn conds apart w args ∧ X w args) ∧ sizedMet enc C.prog fn (OpenSpec.ofChange s) apart w args) (s.post enc C.prog fn apart fresh handsOn again) := by
  refine returnsInHanded_of_calls own started noInit witness ?_
  intro w tape i _ hsh _ hok hpre hholds
  obtain ⟨_, _, _, fn', hfn', _, _, _, _, hval⟩ := hok
  have e : fn' = fn := Option.some.inj (hfn'.symm.trans hfn)
  subst e
  obtain ⟨⟨⟨ds, gs, before, hw, hc⟩, hx⟩, hz⟩ := hpre
  have hw' := DataW.Whole.of_heap (w' := w.forCall tape i) (by rfl) hw
  refine (contract (w.forCall tape i) w.heap.size i.args ds gs before hval hw' hc (hz.weights hw) (hX _ _ _ (by rfl) hx) hsh hholds).mono fun e W' ⟨v, he, hp⟩ => ?_
  subst he
  exact ChangeSpec.post_blind hp

theorem below_trodAll {P : Program} (hl : laidOutB P = true) {W W' : World} (hb : Below W.heap.size W W') :
    ∀ {ts : List TypeId} {vs : List Value} {ds : List (DataW H)} {ps : List MemPlace}, (ts.all fun t => P.readableRec t && decide (t < P.types.size)) = true →
      DataW.TrodAll enc P W 0 (fun _ => true) true ts vs ds ps → (∀ x ∈ ps, x.block < W.heap.size) → DataW.TrodAll enc P W' 0 (fun b => decide (b < W.heap.size)) true ts vs ds ps
  | [], vs, ds, ps, _, h, _ => by
    obtain ⟨rfl, rfl, rfl⟩ := trodAll_nil h
    exact trodAll_mk0
  | t :: ts, vs, ds, ps, hr, h, hlt => by
    obtain ⟨v, vs', d, ds', p, q, rfl, rfl, rfl, h1, h2⟩ := trodAll_cons h
    rw [List.all_cons, Bool.and_eq_true, Bool.and_eq_true] at hr
    exact trodAll_cons_mk (Below.trod hl hr.1.1 (by simpa using hr.1.2) h1 hb (fun x hx => hlt x (List.mem_append_left _ hx))) (below_trodAll hl hb hr.2 h2 (fun x hx => hlt x (List.mem_append_right _ hx)))

theorem tabIs_of_reads {P : Program} {W : World} {name : String} {k : IntKind} {zs : List Int} {d : DataW Unit} {g : Nat} {t e : TypeId} {n : Nat} (hd : d = Lib.tabData k zs)
    (hg : P.globalNamed name = some g) (hty : (P.globals[g]?).map (·.type) = some t) (ht : P.underlying t = some (.array n e)) (he : P.underlying e = some (.int k)) (hce : P.cellsOf e = 1) (hct : P.cellsOf t = n)
    (h : Lib.VarReads P W name d) : Lib.TabIs P W name k zs := by
  subst hd
  obtain ⟨g', t', cs, fuel, p, hg', ht', hvar, hd⟩ := h
  obtain rfl := Option.some.inj (hg.symm.trans hg')
  obtain rfl := Option.some.inj (hty.symm.trans ht')
  unfold Lib.TabIs
  rw [hvar, ← Lib.cells_of_tab ht he hce hct hd]
end

theorem own : ownKnob Tryz.prog.godebug = none := by kernel_rfl
theorem laidOut : laidOutB Tryz.prog = true := by kernel_rfl
end Go.Proofs.YtodbbfgkclkpgaaGreatDoor

namespace Go.Proofs.YtodbbfgkclkpgaaGreatDoor
open Go.RowKit Go.ChangeShapes Go.WideShapes Go.ChangeAt Go.Joins

set_option maxRecDepth 100000 in
/-- What the walks read of the library's variables, out of the row's list and the world's shape. -/
theorem env_at {W : World} {laid : List (String × DataW Unit)} (hL : laidMet Tryz.prog laid W) (hm : ("internal/strconv.uint64pow10", (Rows.laid_internal_strconv_uint64pow10 : DataW Unit)) ∈ laid) (hsh : W.ShapedOpen Tryz.prog) : Env W :=
  ⟨Tryz.laysM145.s1_3 W hsh, tabIs_of_reads (g := 7) (by kernel_rfl) (by kernel_rfl) (by kernel_rfl) Tryz.underlying259 Tryz.underlying243 (by kernel_rfl) (by kernel_rfl) (Lib.laidMet.reads hL hm)⟩

end Go.Proofs.YtodbbfgkclkpgaaGreatDoor

namespace Go.Proofs.YtodbbfgkclkpgaaGreatDoor
open Go.RowKit Go.ChangeShapes Go.WideShapes Go.ChangeAt Go.Joins

theorem signsIs : Tryz.prog.globalNamed "stevedore/depend.signs" = some 3 := by kernel_rfl
theorem signsType : (Tryz.prog.globals[3]?).map (·.type) = some 199 := by kernel_rfl
theorem cellsStr : Tryz.prog.cellsOf 9 = 1 := by kernel_rfl

theorem envS_reads {W : World} (h : Lib.VarReads Tryz.prog W "stevedore/depend.signs" (Rows.laid_stevedore_depend_signs : DataW Unit)) : EnvS W := by
  obtain ⟨g, t, cs, fuel, p, hg, ht, hvar, hd⟩ := h
  obtain rfl := Option.some.inj (signsIs.symm.trans hg)
  obtain rfl := Option.some.inj (signsType.symm.trans ht)
  obtain ⟨xs, m, _, hx, _, hxl, hf⟩ := DataW.trod_array Tryz.underlying199 hd
  have hx1 : xs.map (·.1) = [.lit (.string []), .lit (.string [60, 60]), .lit (.string [60, 61]), .lit (.string [61]), .lit (.string [62, 61]), .lit (.string [62, 62])] := by
    have := congrArg Prod.fst hx
    simp only [Rows.laid_stevedore_depend_signs] at this
    injection this with this
    exact this.symm
  intro k hk
  rw [World.var?_cell signsIs hvar k]
  have hfk := hf k hk
  rw [cellsStr, Nat.mul_one] at hfk
  have hxk : xs[k]? = some (xs[k]'(by omega)) := List.getElem?_eq_getElem _
  rw [hxk] at hfk
  obtain ⟨s, hc, hy, _⟩ := DataW.trod_string Tryz.underlying9 hfk
  have hcell : cs.toList[k]? = some (.string s) := by
    have := congrArg (·[0]?) hc
    simpa [List.getElem?_take, List.getElem?_drop] using this
  have hdk : (xs.map (·.1))[k]? = some (.lit (.string s.data.toList)) := by
    rw [List.getElem?_map, hxk, hy]
    rfl
  rw [hx1] at hdk
  have hs : s.data.toList = VP.signP (k : Int) := by
    have h6 : k = 0 ∨ k = 1 ∨ k = 2 ∨ k = 3 ∨ k = 4 ∨ k = 5 := by omega
    rcases h6 with rfl | rfl | rfl | rfl | rfl | rfl
    all_goals
      injection hdk with hdk
      injection hdk with hdk
      injection hdk with hdk
      exact hdk.symm
  have : cs[k]? = some (.string s) := by rw [← Array.getElem?_toList]; exact hcell
  rw [this]
  congr 2
  exact data_inj hs

/-- depend.signs is listed -/
theorem envS_at {W : World} {laid : List (String × DataW Unit)} (hL : laidMetH Tryz.prog laid W) (hm : ("stevedore/depend.signs", (Rows.laid_stevedore_depend_signs : DataW Unit)) ∈ laid) : EnvS W :=
  envS_reads (Lib.laidMet.reads (laidMetH_iff.1 hL).1 (List.mem_filter.2 ⟨hm, rfl⟩))
end Go.Proofs.YtodbbfgkclkpgaaGreatDoor

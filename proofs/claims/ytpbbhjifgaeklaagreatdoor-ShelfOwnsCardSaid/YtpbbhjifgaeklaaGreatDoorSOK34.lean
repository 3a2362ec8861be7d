/- ShelfOwns: what a package that may be gives; the state of the loop. Plain. · The frame of a law: what is the same for every statement of this seat. · What is asked for, as it comes in. -/
import Derived.Test.YtpbbhjifgaeklaaGreatDoorSOK32
import Derived.Test.YtpbbhjifgaeklaaGreatDoorSOK33
import Derived.Test.YtpbbhjifgaeklaaGreatDoorSOK15
import Derived.Test.YtpbbhjifgaeklaaGreatDoorSOK28
import Derived.Test.YtpbbhjifgaeklaaGreatDoorSOK2
import Derived.HandedShaped
import Derived.PinnedBridge
import Derived.Lay
import Derived.SevenTiedAt
import Derived.Lib.LaidTab
import Derived.Lib.LaidU8
import Derived.Test.YtpbbhjifgaeklaaGreatDoorSOK6
import Derived.Test.YtpbbhjifgaeklaaGreatDoorRows
import Derived.Deep.Slices
import Derived.OpenShut
namespace Go.Proofs.YtpbbhjifgaeklaaGreatDoor
open Go Go.RowKit Go.Maps

theorem arch_files_fit {p : Pv} (h : archB p = true) : FilesFit p.fi := by
  unfold archB at h
  simp only [Bool.and_eq_true] at h
  have hf := VP.allAt_iff.1 h.2.2.1
  have key : ∀ i (f : Fv), p.fi[i]? = some f → VP.pathP f.n.data.toList = true ∧ ∀ k (g : Fv), p.fi[k]? = some g → pairOk f i g k = true := fun i f hi => by
    have h1 := hf i (List.getElem?_eq_some_iff.1 hi).1
    unfold fileAt at h1
    rw [hi] at h1
    simp only [Bool.and_eq_true] at h1
    refine ⟨h1.1, fun k g hk => ?_⟩
    have h2 := VP.allAt_iff.1 h1.2 k (List.getElem?_eq_some_iff.1 hk).1
    rw [hk] at h2
    exact h2
  refine ⟨?_, fun f hm => ?_⟩
  · rw [List.Nodup, List.pairwise_map, List.pairwise_iff_getElem]
    intro i j hi hj hij e
    have h1 := (key i _ (List.getElem?_eq_getElem hi)).2 j _ (List.getElem?_eq_getElem hj)
    unfold pairOk clashB at h1
    rw [decide_eq_false (by omega), decide_eq_true e.symm] at h1
    exact absurd h1 (by simp)
  · obtain ⟨i, hi⟩ := List.mem_iff_getElem?.1 hm
    exact (key i f hi).1
theorem arch_name {p : Pv} (h : archB p = true) : p.n.size ≠ 0 := by
  unfold archB at h
  simp only [Bool.and_eq_true] at h
  have h1 := h.1
  rw [says_prog] at h1
  simp only [Bool.and_eq_true] at h1
  intro e
  have h2 := h1.2.1
  rw [eq_empty _ e] at h2
  exact absurd h2 (by decide +kernel)
structure SaysFit (p : Pv) : Prop where
  n : p.n.size ≤ 60
  se : ∀ s ∈ p.se, s.size ≤ 100
  sen : p.se.length ≤ 40
  fi : ∀ f ∈ p.fi, f.n.size ≤ 100 ∧ f.v.size ≤ 500
  fin : p.fi.length ≤ 30
theorem says_fit {p : Pv} (h : saysB p = true) : SaysFit p := by
  unfold saysB at h
  simp only [Bool.and_eq_true, decide_eq_true_eq] at h
  obtain ⟨k0, k1, k2, k3, k4, k5, k6, k7, k8, k9, k10⟩ := h
  unfold textsB at k8
  unfold filesB at k10
  simp only [Bool.and_eq_true, decide_eq_true_eq, List.all_eq_true] at k8 k10
  exact ⟨k0, k8.2, k8.1, k10.2, k10.1⟩
theorem says_lines {p : Pv} (h : SaysFit p) : (linesT (p.fi.map (·.n))).size ≤ 3100 := by
  have h1 := lines_le 100 (p.fi.map (·.n)) fun s hs => by
    obtain ⟨f, hf, rfl⟩ := List.mem_map.1 hs
    exact (h.fi f hf).1
  rw [List.length_map] at h1
  have := h.fin
  have h2 : p.fi.length * (100 + 1) ≤ 30 * 101 := Nat.mul_le_mul this (Nat.le_refl _)
  omega

/-- the state of the loop: before round k -/
structure OwnsSt (k : Nat) (D : Dk) : Prop where
  calm : Calm D
  inv : OwnInv D.now
  len : D.now.length ≤ k * 100
  fit : FitD (1000 + k * 20000) D
theorem ownsSt_0 : OwnsSt 0 D0 := ⟨calm0, ownInv_nil, Nat.zero_le _, fit0 _⟩
theorem OwnsSt.small {k : Nat} {D : Dk} (h : OwnsSt k D) (hk : k ≤ 15) : FitD 400000 D := h.fit.mono (by omega)
theorem OwnsSt.paths {k : Nat} {D : Dk} (h : OwnsSt k D) : ∀ n, ∀ q ∈ pathsD D n, q.size ≤ 60 := fun n q hq => (path_no (h.inv.path n q hq)).2.1
theorem OwnsSt.next {k : Nat} {D : Dk} (h : OwnsSt k D) : OwnsSt (k + 1) D := ⟨h.calm, h.inv, by have := h.len; omega, h.fit.mono (by omega)⟩
/-- a package is put: the first time, and once more -/
theorem OwnsSt.put {k : Nat} {D : Dk} (h : OwnsSt k D) (hk : k ≤ 15) {p : Pv} (hs : SaysFit p) (ha : archB p = true) (tk : ByteArray → Bool) (hc : ¬ 0 ≤ (clashD D p.n tk p.fi).1) :
    Goes (putFD D p.n p.se p.fi []) (putM D.now p.n p.se p.fi []) ∧ OwnInv (putM D.now p.n p.se p.fi []) ∧ (putM D.now p.n p.se p.fi []).length ≤ k * 100 + 61 ∧ FitD (1000 + k * 20000 + 4000) (putFD D p.n p.se p.fi []).2 ∧
    (∀ f ∈ p.fi, f.n ∈ pathsM (putM D.now p.n p.se p.fi []) p.n) ∧ (∀ f ∈ p.fi, hasB p.se f.n = false → getF (putM D.now p.n p.se p.fi []) (thP ++ f.n) = some f.v) ∧ putM (putM D.now p.n p.se p.fi []) p.n p.se p.fi [] = putM D.now p.n p.se p.fi [] := by
  have hff := arch_files_fit ha
  have hn : p.n.size ≤ 60 ∧ p.n.size ≠ 0 := ⟨hs.n, arch_name ha⟩
  have hfree : FreeOf D.now p.n p.fi := free_of rfl hc
  have hI := put_inv h.inv hn p.se [] hff hfree
  have hfin := hs.fin
  have hlen := h.len
  refine ⟨put_goes h.calm p.se [] hs.n (fun f hf => (path_no (hff.path f hf)).2.1) (fun n hn => (h.inv.small n hn).1) (by omega), hI, ?_, ?_, fun f hf => ?_, fun f hf hb => ?_, put_again h.inv p.se hff hI⟩
  · have := putM_len D.now p.n p.se p.fi []
    omega
  · refine (putFD_fit (Z := 3100) h.fit p.n p.se p.fi [] (fun f hf => by have := (hs.fi f hf).2; omega) (says_lines hs)).mono (by omega)
  · rw [put_paths h.inv.ok (h.inv.nodup p.n) p.se [] hff.ok, if_pos rfl, sortB_mem]
    exact List.mem_append_left _ (List.mem_map.2 ⟨f, hf, rfl⟩)
  · rw [put_th p.n p.se p.fi [] (List.mem_map.2 ⟨f, hf, rfl⟩)]
    exact (putLM_new p.se p.fi [] D.now hff.nodup f hf hb).1
theorem owner_of {M : Fm} (hI : OwnInv M) {n q : ByteArray} (hq : q ∈ pathsM M n) {D : Dk} (hD : D.now = M) : ownerD D q = n := by
  unfold ownerD
  rw [ownersD_M, hD]
  have hP : ∀ m, pathsD D m = pathsM M m := fun m => by rw [pathsD_M, hD]
  simp only [hP]
  cases hf : (ownersM M).find? fun m => hasB (pathsM M m) q with
  | some m =>
    have h0 : hasB (pathsM M m) q = true := List.find?_some (p := fun m => hasB (pathsM M m) q) hf
    have h1 := hasB_iff.1 h0
    show m = n
    exact Classical.byContradiction fun hne => hI.one m n q hne h1 hq
  | none => exact absurd (hasB_iff.2 hq) (List.find?_eq_none.1 hf n (pathsM_owner hq))
/-- a package is put, and put again -/
theorem OwnsSt.puts {k : Nat} {D : Dk} (h : OwnsSt k D) (hk : k < 15) {p : Pv} (hs : SaysFit p) (ha : archB p = true) (tk : ByteArray → Bool) (hc : ¬ 0 ≤ (clashD D p.n tk p.fi).1) :
    (putFD D p.n p.se p.fi []).1 = 0 ∧ OwnsSt (k + 1) (putFD D p.n p.se p.fi []).2 ∧ (∀ f ∈ p.fi, ownerD (putFD D p.n p.se p.fi []).2 f.n = p.n ∧ (hasB p.se f.n = false → getF (putFD D p.n p.se p.fi []).2.now (thP ++ f.n) = some f.v)) ∧
    ¬ 0 ≤ (clashD (putFD D p.n p.se p.fi []).2 p.n tk p.fi).1 ∧ (putFD (putFD D p.n p.se p.fi []).2 p.n p.se p.fi []).1 = 0 ∧ OwnsSt (k + 1) (putFD (putFD D p.n p.se p.fi []).2 p.n p.se p.fi []).2 ∧ (putFD (putFD D p.n p.se p.fi []).2 p.n p.se p.fi []).2.now = (putFD D p.n p.se p.fi []).2.now := by
  obtain ⟨g1, hI, hl, hf, h3, h4, h5⟩ := h.put (by omega) hs ha tk hc
  have hff := arch_files_fit ha
  obtain ⟨D1, hD1⟩ : ∃ D1, (putFD D p.n p.se p.fi []).2 = D1 := ⟨_, rfl⟩
  have hn1 : D1.now = putM D.now p.n p.se p.fi [] := by rw [← hD1]; exact g1.now
  have hc1 : Calm D1 := by rw [← hD1]; exact g1.calm
  rw [hD1] at hf ⊢
  have hS : OwnsSt (k + 1) D1 := ⟨hc1, by rw [hn1]; exact hI, by rw [hn1]; omega, hf.mono (by omega)⟩
  have hcl : clashD D1 p.n tk p.fi = (-1, ⟨#[]⟩) := again_free (by rw [hn1]; exact hI) tk rfl (by rw [hn1]; exact h3)
  have hnc : ¬ 0 ≤ (clashD D1 p.n tk p.fi).1 := by rw [hcl]; decide
  obtain ⟨g2, _, _, _, _, _, _⟩ := hS.put (by omega) hs ha tk hnc
  have e2 : (putFD D1 p.n p.se p.fi []).2.now = D1.now := by rw [g2.now, hn1, h5]
  refine ⟨g1.none, hS, fun f hfm => ⟨owner_of hI (h3 f hfm) hn1, fun hb => by rw [hn1]; exact h4 f hfm hb⟩, hnc, g2.none, ⟨g2.calm, by rw [e2]; exact hS.inv, by rw [e2]; exact hS.len, ?_⟩, e2⟩
  exact (putFD_fit (Z := 3100) hf p.n p.se p.fi [] (fun f hf => by have := (hs.fi f hf).2; omega) (says_lines hs)).mono (by omega)
theorem OwnsSt.put_len {k : Nat} {D : Dk} (h : OwnsSt k D) (hk : k < 15) {p : Pv} (hs : SaysFit p) (ha : archB p = true) (tk : ByteArray → Bool) (hc : ¬ 0 ≤ (clashD D p.n tk p.fi).1) : (putFD D p.n p.se p.fi []).2.now.length ≤ k * 100 + 61 := by
  obtain ⟨g1, _, hl, _⟩ := h.put (by omega) hs ha tk hc
  rw [g1.now]
  exact hl
/-- a package is dropped -/
theorem OwnsSt.drop {k : Nat} {D : Dk} (h : OwnsSt k D) (hk : k ≤ 15) {n : ByteArray} (hn : n.size ≤ 60) (all : Bool) : Goes (dropD D n all) (dropM D.now n all) ∧ OwnInv (dropM D.now n all) ∧ (dropM D.now n all).length ≤ D.now.length + 1 ∧ FitD (1000 + k * 20000) (dropD D n all).2 := by
  obtain ⟨K, h1, h2, h3, h4⟩ := drop_paths h.inv n all
  refine ⟨drop_goes h.calm all hn (by have := h.len; omega), h4, ?_, dropD_fit h.fit n all⟩
  unfold dropM
  refine Nat.le_trans (setM_len1 _ _ _) ?_
  have := dropLM_len all (pathsM D.now n) [] D.now
  omega
theorem there_nil {M : Fm} (h : ownersM M = []) : thereM M = ⟨#[]⟩ := by
  unfold thereM
  rw [h]
  rfl
/-- behind a whole drop who owns, owned before, and is another one -/
theorem drop_owners {M : Fm} (hI : OwnInv M) {n m : ByteArray} (hm : m ∈ ownersM (dropM M n true)) : m ∈ ownersM M ∧ m ≠ n := by
  obtain ⟨K, h1, h2, h3, h4⟩ := drop_paths hI n true
  have hne := (h4.small m hm).2.2
  rw [h3, h2 rfl] at hne
  by_cases e : m = n
  · rw [if_pos e] at hne
    exact absurd rfl hne
  · rw [if_neg e] at hne
    cases hl : pathsM M m with
    | nil => exact absurd hl hne
    | cons q r => exact ⟨pathsM_owner (by rw [hl]; exact List.mem_cons_self ..), e⟩
end Go.Proofs.YtpbbhjifgaeklaaGreatDoor

namespace Go.Proofs.YtpbbhjifgaeklaaGreatDoor
open Go.RowKit Go.ChangeShapes Go.WideShapes Go.ChangeAt Go.Joins
section
variable {H : Type} {enc : TypeId × Value → H}

/-- The plain wrap with both: what the row lists, and the world's shape. -/
theorem returnsInHanded_listed_shaped {a : Assume} {C : Checked} {os : Os} {f : FuncId} {fn : Func} {s : ChangeSpec} {conds : List PathCond} {apart fresh handsOn again : Bool} {X : World → Array Value → Prop}
    (hX : ∀ (w w' : World) (args : Array Value), w.heap = w'.heap → X w args → X w' args)
    (own : ownKnob C.prog.godebug = none) (started : os.Started) (noInit : C.prog.inits.idxOf? f = none) (hfn : C.prog.funcs[f]? = some fn)
    (witness : ∃ (w : World) (tape : Tape) (i : Input), w.os = os ∧ (w.forCall tape i).Shaped C.prog ∧ i.vars = [] ∧ Input.okWide C.prog (w.forCall tape i) .any w.heap.size f i ∧
      ((s.pre enc C.prog fn conds apart (w.forCall tape i).memory i.args ∧ X (w.forCall tape i).memory i.args) ∧ sizedMet enc C.prog fn (OpenSpec.ofChange s) apart (w.forCall tape i).memory i.args) ∧ a.holds C.prog (lone (Frame.enter C.prog f i.args .normal) [] (w.forCall tape i)))
    (contract : ∀ (W : World) (base : Nat) (args : Array Value) (ds gs : List (DataW H)) (before : List MemPlace),
      (∀ (j : Nat) t v, fn.params[j]? = some t → args[j]? = some v → Value.okWide C.prog W .any base t v) →
      DataW.Whole enc C.prog fn.params.toList s.vars apart W args.toList ds gs before →
      conds.all (PathCond.test C.prog ⟨fn.params.toList, ds, s.plain.varTypes C.prog, gs⟩) = true →
      (DataW.weightsEach C.prog (fn.params.toList ++ s.plain.varTypes C.prog) (ds ++ gs)).all (· ≤ reachBytes) = true → X W args → W.ShapedOpen C.prog →
      a.holds C.prog (lone (Frame.enter C.prog f args .normal) [] W) →
      Calls C.prog f args W fun e W' => ∃ v, e = .returned v ∧ s.post enc C.prog fn apart fresh handsOn again W args v W') :
    ReturnsInHanded a C os f .any (fun w args => (s.pre enc C.prog fn conds apart w args ∧ X w args) ∧ sizedMet enc C.prog fn (OpenSpec.ofChange s) apart w args) (s.post enc C.prog fn apart fresh handsOn again) := by
  refine returnsInHanded_of_calls own started noInit witness ?_
  intro w tape i _ hsh _ hok hpre hholds
  obtain ⟨_, _, _, fn', hfn', _, _, _, _, hval⟩ := hok
  have e : fn' = fn := Option.some.inj (hfn'.symm.trans hfn)
  subst e
  obtain ⟨⟨⟨ds, gs, before, hw, hc⟩, hx⟩, hz⟩ := hpre
  have hw' := DataW.Whole.of_heap (w' := w.forCall tape i) (by rfl) hw
  refine (contract (w.forCall tape i) w.heap.size i.args ds gs before hval hw' hc (hz.weights hw) (hX _ _ _ (by rfl) hx) hsh hholds).mono fun e W' ⟨v, he, hp⟩ => ?_
  subst he
  exact ChangeSpec.post_blind hp

theorem below_trodAll {P : Program} (hl : laidOutB P = true) {W W' : World} (hb : Below W.heap.size W W') :
    ∀ {ts : List TypeId} {vs : List Value} {ds : List (DataW H)} {ps : List MemPlace}, (ts.all fun t => P.readableRec t && decide (t < P.types.size)) = true →
      DataW.TrodAll enc P W 0 (fun _ => true) true ts vs ds ps → (∀ x ∈ ps, x.block < W.heap.size) → DataW.TrodAll enc P W' 0 (fun b => decide (b < W.heap.size)) true ts vs ds ps
  | [], vs, ds, ps, _, h, _ => by
    obtain ⟨rfl, rfl, rfl⟩ := trodAll_nil h
    exact trodAll_mk0
  | t :: ts, vs, ds, ps, hr, h, hlt => by
    obtain ⟨v, vs', d, ds', p, q, rfl, rfl, rfl, h1, h2⟩ := trodAll_cons h
    rw [List.all_cons, Bool.and_eq_true, Bool.and_eq_true] at hr
    exact trodAll_cons_mk (Below.trod hl hr.1.1 (by simpa using hr.1.2) h1 hb (fun x hx => hlt x (List.mem_append_left _ hx))) (below_trodAll hl hb hr.2 h2 (fun x hx => hlt x (List.mem_append_right _ hx)))

theorem tabIs_of_reads {P : Program} {W : World} {name : String} {k : IntKind} {zs : List Int} {d : DataW Unit} {g : Nat} {t e : TypeId} {n : Nat} (hd : d = Lib.tabData k zs)
    (hg : P.globalNamed name = some g) (hty : (P.globals[g]?).map (·.type) = some t) (ht : P.underlying t = some (.array n e)) (he : P.underlying e = some (.int k)) (hce : P.cellsOf e = 1) (hct : P.cellsOf t = n)
    (h : Lib.VarReads P W name d) : Lib.TabIs P W name k zs := by
  subst hd
  obtain ⟨g', t', cs, fuel, p, hg', ht', hvar, hd⟩ := h
  obtain rfl := Option.some.inj (hg.symm.trans hg')
  obtain rfl := Option.some.inj (hty.symm.trans ht')
  unfold Lib.TabIs
  rw [hvar, ← Lib.cells_of_tab ht he hce hct hd]
end

theorem own : ownKnob Tryz.prog.godebug = none := by kernel_rfl
theorem laidOut : laidOutB Tryz.prog = true := by kernel_rfl
end Go.Proofs.YtpbbhjifgaeklaaGreatDoor

namespace Go.Proofs.YtpbbhjifgaeklaaGreatDoor
open Go.RowKit Go.ChangeShapes Go.WideShapes Go.ChangeAt Go.Joins
section
variable {H : Type} {enc : TypeId × Value → H} {w : World} {base : Nat} {spare : Nat → Bool} {held : Bool}

theorem one_of_take {cs : List Value} {j : Nat} {v : Value} (h : (cs.drop j).take 1 = [v]) : cs[j]? = some v := by
  have := congrArg (·[0]?) h
  simpa [List.getElem?_take, List.getElem?_drop] using this

theorem cells_string : Tryz.prog.cellsOf 9 = 1 := by kernel_rfl
theorem cells_int : Tryz.prog.cellsOf 3 = 1 := by kernel_rfl
theorem cells_vers : Tryz.prog.cellsOf 23 = 3 := by kernel_rfl
theorem cells_term : Tryz.prog.cellsOf 143 = 5 := by kernel_rfl
theorem cells_terms : Tryz.prog.cellsOf 65 = 1 := by kernel_rfl

/-- three cells that read as a version -/
theorem read_vers {n : Nat} {cs : List Value} {x : DataW H × List MemPlace} (h : DataW.trod enc Tryz.prog w base spare held n 23 cs = some x) :
    ∃ (e : Int) (u r : ByteArray), cs[0]? = some (.int .i64 e) ∧ cs[1]? = some (.string u) ∧ cs[2]? = some (.string r) ∧ -9223372036854775808 ≤ e ∧ e ≤ 9223372036854775807 := by
  obtain ⟨ys, m, _, _, _, hyl, hf⟩ := DataW.trod_struct Tryz.underlying23 h
  match ys, hyl with
  | [y0, y1, y2], _ =>
    have f0 : DataW.trod enc Tryz.prog w base spare held m 3 ((cs.drop 0).take (Tryz.prog.cellsOf 3)) = some y0 := hf 0 _ rfl
    have f1 : DataW.trod enc Tryz.prog w base spare held m 9 ((cs.drop 1).take (Tryz.prog.cellsOf 9)) = some y1 := hf 1 _ rfl
    have f2 : DataW.trod enc Tryz.prog w base spare held m 9 ((cs.drop 2).take (Tryz.prog.cellsOf 9)) = some y2 := hf 2 _ rfl
    rw [cells_int] at f0
    rw [cells_string] at f1 f2
    obtain ⟨e, e0, _, we⟩ := DataW.trod_int Tryz.underlying3 f0
    obtain ⟨u, e1, _, _⟩ := DataW.trod_string Tryz.underlying9 f1
    obtain ⟨r, e2, _, _⟩ := DataW.trod_string Tryz.underlying9 f2
    have hb := bounds_i64 we
    exact ⟨e, u, r, one_of_take e0, one_of_take e1, one_of_take e2, hb.1, hb.2⟩

/-- five cells that read as a term -/
theorem read_term {n : Nat} {cs : List Value} {x : DataW H × List MemPlace} (h : DataW.trod enc Tryz.prog w base spare held n 143 cs = some x) :
    ∃ t : Tv, cs[0]? = some (.string t.n) ∧ cs[1]? = some (.int .i64 t.op) ∧ cs[2]? = some (.int .i64 t.e) ∧ cs[3]? = some (.string t.u) ∧ cs[4]? = some (.string t.r) ∧ t.ok := by
  obtain ⟨ys, m, _, _, _, hyl, hf⟩ := DataW.trod_struct Tryz.underlying143 h
  match ys, hyl with
  | [y0, y1, y2], _ =>
    have f0 : DataW.trod enc Tryz.prog w base spare held m 9 ((cs.drop 0).take (Tryz.prog.cellsOf 9)) = some y0 := hf 0 _ rfl
    have f1 : DataW.trod enc Tryz.prog w base spare held m 3 ((cs.drop 1).take (Tryz.prog.cellsOf 3)) = some y1 := hf 1 _ rfl
    have f2 : DataW.trod enc Tryz.prog w base spare held m 23 ((cs.drop 2).take (Tryz.prog.cellsOf 23)) = some y2 := hf 2 _ rfl
    rw [cells_string] at f0
    rw [cells_int] at f1
    rw [cells_vers] at f2
    obtain ⟨n, e0, _, _⟩ := DataW.trod_string Tryz.underlying9 f0
    obtain ⟨op, e1, _, wo⟩ := DataW.trod_int Tryz.underlying3 f1
    obtain ⟨e, u, r, e2, e3, e4, b1, b2⟩ := read_vers f2
    have hb := bounds_i64 wo
    refine ⟨⟨n, op, e, u, r⟩, one_of_take e0, one_of_take e1, ?_, ?_, ?_, b1, b2, hb.1, hb.2⟩
    · simpa [List.getElem?_take, List.getElem?_drop] using e2
    · simpa [List.getElem?_take, List.getElem?_drop] using e3
    · simpa [List.getElem?_take, List.getElem?_drop] using e4

theorem choose_list {α : Type} {p : Nat → α → Prop} : ∀ n : Nat, (∀ i, i < n → ∃ a, p i a) → ∃ l : List α, l.length = n ∧ ∀ (i : Nat) (a : α), l[i]? = some a → p i a
  | 0, _ => ⟨[], rfl, fun i a h => by simp at h⟩
  | n + 1, h => by
    obtain ⟨l, hl, hp⟩ := choose_list n (fun i hi => h i (by omega))
    obtain ⟨a, ha⟩ := h n (by omega)
    refine ⟨l ++ [a], by rw [List.length_append, hl]; rfl, fun i b hb => ?_⟩
    rcases Nat.lt_trichotomy i n with hi | hi | hi
    · rw [List.getElem?_append_left (by omega)] at hb
      exact hp i b hb
    · subst hi
      rw [List.getElem?_append_right (by omega), hl, Nat.sub_self] at hb
      obtain rfl := Option.some.inj hb
      exact ha
    · rw [List.getElem?_eq_none (by rw [List.length_append, List.length_singleton]; omega)] at hb
      cases hb

theorem plain_addr {a : Addr} {v : Value} (h : w.cell? a = some v) : ∃ b off, a = ⟨b, off, none⟩ := by
  obtain ⟨b, off, spot⟩ := a
  have hspot : spot = none := by simpa using World.cell?_spot h
  subst hspot
  exact ⟨b, off, rfl⟩

/-- a slice of terms that comes in -/
theorem read_terms {n : Nat} {v : Value} {x : DataW H × List MemPlace} (h : DataW.trod enc Tryz.prog w base (fun _ => true) held n 65 [v] = some x) : ∃ ts : List Tv, TermsAt w v ts := by
  rcases Go.Deep.open_slice Tryz.underlying65 h with ⟨hc, _⟩ | ⟨a, len, cap, m, k, D, Pl, hc, _, hl, hm, hmm, _, hi⟩
  · have hv : v = .slice none 0 0 := by simpa using hc
    subst hv
    exact ⟨[], none, 0, rfl, Nat.le_refl _, by simp, fun h => absurd rfl h⟩
  · have hv : v = .slice (some a) len cap := by simpa using hc
    subst hv
    rw [if_pos rfl] at hmm
    unfold maxLen at hm
    rcases Nat.eq_zero_or_pos len with h0 | h0
    · subst h0
      exact ⟨[], some a, cap, rfl, Nat.zero_le _, by simp, fun h => absurd rfl h⟩
    · have each : ∀ i, i < len → ∃ t : Tv, w.cell? (a.add (i * 5)) = some (.string t.n) ∧ w.cell? ((a.add (i * 5)).add 1) = some (.int .i64 t.op) ∧ w.cell? ((a.add (i * 5)).add 2) = some (.int .i64 t.e) ∧ w.cell? ((a.add (i * 5)).add 3) = some (.string t.u) ∧ w.cell? ((a.add (i * 5)).add 4) = some (.string t.r) ∧ t.ok := by
        intro i hi'
        obtain ⟨cs', h1, h2⟩ := hi i (by omega)
        rw [cells_term] at h1
        obtain ⟨_, hlen, hcell⟩ := World.cells?_some h1
        obtain ⟨t, t0, t1, t2, t3, t4, hok⟩ := read_term h2
        have g0 := hcell 0 (by omega)
        have g1 := hcell 1 (by omega)
        have g2 := hcell 2 (by omega)
        have g3 := hcell 3 (by omega)
        have g4 := hcell 4 (by omega)
        rw [t0] at g0
        rw [t1] at g1
        rw [t2] at g2
        rw [t3] at g3
        rw [t4] at g4
        exact ⟨t, by simpa [Addr.add] using g0, g1, g2, g3, g4, hok⟩
      obtain ⟨t0, ht0⟩ := each 0 h0
      obtain ⟨b, off, rfl⟩ := plain_addr (w := w) (a := a) (v := .string t0.n) (by simpa [Addr.add] using ht0.1)
      obtain ⟨ts, hts, hp⟩ := choose_list len each
      subst hts
      refine ⟨ts, some ⟨b, off, none⟩, cap, rfl, hl, by omega, fun _ => ⟨b, off, rfl, fun i t ht => ?_⟩⟩
      obtain ⟨p0, p1, p2, p3, p4, hok⟩ := hp i t ht
      rw [add_plain] at p0 p1 p2 p3 p4
      rw [add_plain] at p1 p2 p3 p4
      exact ⟨⟨p0, p1, p2, p3, p4⟩, hok⟩

/-- a slice of such slices that comes in -/
theorem read_asked {n : Nat} {v : Value} {x : DataW H × List MemPlace} (h : DataW.trod enc Tryz.prog w base (fun _ => true) held n 64 [v] = some x) : ∃ L : List (List Tv), AskedAt w v L := by
  rcases Go.Deep.open_slice Tryz.underlying64 h with ⟨hc, _⟩ | ⟨a, len, cap, m, k, D, Pl, hc, _, hl, hm, hmm, _, hi⟩
  · have hv : v = .slice none 0 0 := by simpa using hc
    subst hv
    exact ⟨[], none, 0, rfl, Nat.le_refl _, by simp, fun h => absurd rfl h⟩
  · have hv : v = .slice (some a) len cap := by simpa using hc
    subst hv
    rw [if_pos rfl] at hmm
    unfold maxLen at hm
    rcases Nat.eq_zero_or_pos len with h0 | h0
    · subst h0
      exact ⟨[], some a, cap, rfl, Nat.zero_le _, by simp, fun h => absurd rfl h⟩
    · have each : ∀ i, i < len → ∃ y : Value × List Tv, w.cell? (a.add i) = some y.1 ∧ TermsAt w y.1 y.2 := by
        intro i hi'
        obtain ⟨cs', h1, h2⟩ := hi i (by omega)
        rw [cells_terms, Nat.mul_one] at h1
        obtain ⟨_, hlen, hcell⟩ := World.cells?_some h1
        match cs', hlen with
        | [u], _ =>
          obtain ⟨ts, hts⟩ := read_terms h2
          exact ⟨(u, ts), by simpa [Addr.add] using hcell 0 (by omega), hts⟩
      obtain ⟨y0, hy0, _⟩ := each 0 h0
      obtain ⟨b, off, rfl⟩ := plain_addr (w := w) (a := a) (v := y0.1) (by simpa [Addr.add] using hy0)
      obtain ⟨ys, hys, hp⟩ := choose_list len each
      subst hys
      refine ⟨ys.map (·.2), some ⟨b, off, none⟩, cap, by rw [List.length_map], by rw [List.length_map]; exact hl, by rw [List.length_map]; omega, fun _ => ⟨b, off, rfl, fun i x hx => ?_⟩⟩
      rw [List.getElem?_map, Option.map_eq_some_iff] at hx
      obtain ⟨y, hy, rfl⟩ := hx
      obtain ⟨p0, p1⟩ := hp i y hy
      rw [add_plain] at p0
      exact ⟨y.1, p0, p1⟩
end

end Go.Proofs.YtpbbhjifgaeklaaGreatDoor

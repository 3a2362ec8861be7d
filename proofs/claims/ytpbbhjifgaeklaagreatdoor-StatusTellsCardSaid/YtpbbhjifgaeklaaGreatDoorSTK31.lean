/- The frame of a law: what is the same for every statement of this seat. · What comes in: the library's variables out of the row's list; a version. · What is asked for, as it comes in. · A package, as it comes in. · A status, as it comes in. -/
import Derived.Test.YtpbbhjifgaeklaaGreatDoorSTK1
import Derived.HandedShaped
import Derived.PinnedBridge
import Derived.Lay
import Derived.SevenTiedAt
import Derived.Lib.LaidTab
import Derived.Lib.LaidU8
import Derived.Test.YtpbbhjifgaeklaaGreatDoorRows
import Derived.Test.YtpbbhjifgaeklaaGreatDoorSTK10
import Derived.Deep.Slices
import Derived.OpenShut
import Derived.Test.YtpbbhjifgaeklaaGreatDoorSTK16
import Derived.Test.YtpbbhjifgaeklaaGreatDoorSTK21
namespace Go.Proofs.YtpbbhjifgaeklaaGreatDoor
open Go.RowKit Go.ChangeShapes Go.WideShapes Go.ChangeAt Go.Joins
section
variable {H : Type} {enc : TypeId × Value → H}

/-- The plain wrap with both: what the row lists, and the world's shape. -/
theorem returnsInHanded_listed_shaped {a : Assume} {C : Checked} {os : Os} {f : FuncId} {fn : Func} {s : ChangeSpec} {conds : List PathCond} {apart fresh handsOn again : Bool} {X : World → Array Value → Prop}
    (hX : ∀ (w w' : World) (args : Array Value), w.heap = w'.heap → X w args → X w' args)
    (own : ownKnob C.prog.godebug = none) (started : os.Started) (noInit : C.prog.inits.idxOf? f = none) (hfn : C.prog.funcs[f]? = some fn)
    (witness : ∃ (w : World) (tape : Tape) (i : Input), w.os = os ∧ (w.forCall tape i).Shaped C.prog ∧ i.vars = [] ∧ Input.okWide C.prog (w.forCall tape i) .any w.heap.size f i ∧
      ((s.pre enc C.prog fn conds apart (w.forCall tape i).memory i.args ∧ X (w.forCall tape i).memory i.args) ∧ sizedMet enc C.prog fn (OpenSpec.ofChange s) apart (w.forCall tape i).memory i.args) ∧ a.holds C.prog (lone (Frame.enter C.prog f i.args .normal) [] (w.forCall tape i)))
    (contract : ∀ (W : World) (base : Nat) (args : Array Value) (ds gs : List (DataW H)) (before : List MemPlace),
      (∀ (j : Nat) t v, fn.params[j]? = some t → args[j]? = some v → Value.okWide C.prog W .any base t v) →
      DataW.Whole enc C.prog fn.params.toList s.vars apart W args.toList ds gs before →
      conds.all (PathCond.test C.prog ⟨fn.params.toList, ds, s.plain.varTypes C.prog, gs⟩) = true →
      (DataW.weightsEach C.prog (fn.params.toList ++ s.plain.varTypes C.prog) (ds ++ gs)).all (· ≤ reachBytes) = true → X W args → W.ShapedOpen C.prog →
      a.holds C.prog (lone (Frame.enter C.prog f args .normal) [] W) →
      Calls C.prog f args W fun e W' => ∃ v, e = .returned v ∧ s.post enc C.prog fn apart fresh handsOn again W args v W') :
    ReturnsInHanded a C os f .any (fun w args => (s.pre enc C.prog fn conds apart w args ∧ X w args) ∧ sizedMet enc C.prog fn (OpenSpec.ofChange s) apart w args) (s.post enc C.prog fn apart fresh handsOn again) := by
  refine returnsInHanded_of_calls own started noInit witness ?_
  intro w tape i _ hsh _ hok hpre hholds
  obtain ⟨_, _, _, fn', hfn', _, _, _, _, hval⟩ := hok
  have e : fn' = fn := Option.some.inj (hfn'.symm.trans hfn)
  subst e
  obtain ⟨⟨⟨ds, gs, before, hw, hc⟩, hx⟩, hz⟩ := hpre
  have hw' := DataW.Whole.of_heap (w' := w.forCall tape i) (by rfl) hw
  refine (contract (w.forCall tape i) w.heap.size i.args ds gs before hval hw' hc (hz.weights hw) (hX _ _ _ (by rfl) hx) hsh hholds).mono fun e W' ⟨v, he, hp⟩ => ?_
  subst he
  exact ChangeSpec.post_blind hp

theorem below_trodAll {P : Program} (hl : laidOutB P = true) {W W' : World} (hb : Below W.heap.size W W') :
    ∀ {ts : List TypeId} {vs : List Value} {ds : List (DataW H)} {ps : List MemPlace}, (ts.all fun t => P.readableRec t && decide (t < P.types.size)) = true →
      DataW.TrodAll enc P W 0 (fun _ => true) true ts vs ds ps → (∀ x ∈ ps, x.block < W.heap.size) → DataW.TrodAll enc P W' 0 (fun b => decide (b < W.heap.size)) true ts vs ds ps
  | [], vs, ds, ps, _, h, _ => by
    obtain ⟨rfl, rfl, rfl⟩ := trodAll_nil h
    exact trodAll_mk0
  | t :: ts, vs, ds, ps, hr, h, hlt => by
    obtain ⟨v, vs', d, ds', p, q, rfl, rfl, rfl, h1, h2⟩ := trodAll_cons h
    rw [List.all_cons, Bool.and_eq_true, Bool.and_eq_true] at hr
    exact trodAll_cons_mk (Below.trod hl hr.1.1 (by simpa using hr.1.2) h1 hb (fun x hx => hlt x (List.mem_append_left _ hx))) (below_trodAll hl hb hr.2 h2 (fun x hx => hlt x (List.mem_append_right _ hx)))

theorem tabIs_of_reads {P : Program} {W : World} {name : String} {k : IntKind} {zs : List Int} {d : DataW Unit} {g : Nat} {t e : TypeId} {n : Nat} (hd : d = Lib.tabData k zs)
    (hg : P.globalNamed name = some g) (hty : (P.globals[g]?).map (·.type) = some t) (ht : P.underlying t = some (.array n e)) (he : P.underlying e = some (.int k)) (hce : P.cellsOf e = 1) (hct : P.cellsOf t = n)
    (h : Lib.VarReads P W name d) : Lib.TabIs P W name k zs := by
  subst hd
  obtain ⟨g', t', cs, fuel, p, hg', ht', hvar, hd⟩ := h
  obtain rfl := Option.some.inj (hg.symm.trans hg')
  obtain rfl := Option.some.inj (hty.symm.trans ht')
  unfold Lib.TabIs
  rw [hvar, ← Lib.cells_of_tab ht he hce hct hd]
end

theorem own : ownKnob Tryz.prog.godebug = none := by kernel_rfl
theorem laidOut : laidOutB Tryz.prog = true := by kernel_rfl
end Go.Proofs.YtpbbhjifgaeklaaGreatDoor

namespace Go.Proofs.YtpbbhjifgaeklaaGreatDoor
open Go.RowKit Go.ChangeShapes Go.WideShapes Go.ChangeAt Go.Joins

set_option maxRecDepth 100000 in
/-- What the walks read of the library's variables, out of the row's list and the world's shape. -/
theorem env_at {W : World} {laid : List (String × DataW Unit)} (hL : laidMet Tryz.prog laid W) (hm : ("internal/strconv.uint64pow10", (Rows.laid_internal_strconv_uint64pow10 : DataW Unit)) ∈ laid) (hsh : W.ShapedOpen Tryz.prog) : Env W :=
  ⟨Tryz.laysM145.s1_3 W hsh, tabIs_of_reads (g := 6) (by kernel_rfl) (by kernel_rfl) (by kernel_rfl) Tryz.underlying323 Tryz.underlying277 (by kernel_rfl) (by kernel_rfl) (Lib.laidMet.reads hL hm)⟩

end Go.Proofs.YtpbbhjifgaeklaaGreatDoor

namespace Go.Proofs.YtpbbhjifgaeklaaGreatDoor
open Go.RowKit Go.ChangeShapes Go.WideShapes Go.ChangeAt Go.Joins
section
variable {H : Type} {enc : TypeId × Value → H} {w : World} {base : Nat} {spare : Nat → Bool} {held : Bool}

theorem one_of_take {cs : List Value} {j : Nat} {v : Value} (h : (cs.drop j).take 1 = [v]) : cs[j]? = some v := by
  have := congrArg (·[0]?) h
  simpa [List.getElem?_take, List.getElem?_drop] using this

theorem cells_string : Tryz.prog.cellsOf 9 = 1 := by kernel_rfl
theorem cells_int : Tryz.prog.cellsOf 3 = 1 := by kernel_rfl
theorem cells_vers : Tryz.prog.cellsOf 23 = 3 := by kernel_rfl
/-- three cells that read as a version -/
theorem read_vers {n : Nat} {cs : List Value} {x : DataW H × List MemPlace} (h : DataW.trod enc Tryz.prog w base spare held n 23 cs = some x) :
    ∃ (e : Int) (u r : ByteArray), cs[0]? = some (.int .i64 e) ∧ cs[1]? = some (.string u) ∧ cs[2]? = some (.string r) ∧ -9223372036854775808 ≤ e ∧ e ≤ 9223372036854775807 := by
  obtain ⟨ys, m, _, _, _, hyl, hf⟩ := DataW.trod_struct Tryz.underlying23 h
  match ys, hyl with
  | [y0, y1, y2], _ =>
    have f0 : DataW.trod enc Tryz.prog w base spare held m 3 ((cs.drop 0).take (Tryz.prog.cellsOf 3)) = some y0 := hf 0 _ rfl
    have f1 : DataW.trod enc Tryz.prog w base spare held m 9 ((cs.drop 1).take (Tryz.prog.cellsOf 9)) = some y1 := hf 1 _ rfl
    have f2 : DataW.trod enc Tryz.prog w base spare held m 9 ((cs.drop 2).take (Tryz.prog.cellsOf 9)) = some y2 := hf 2 _ rfl
    rw [cells_int] at f0
    rw [cells_string] at f1 f2
    obtain ⟨e, e0, _, we⟩ := DataW.trod_int Tryz.underlying3 f0
    obtain ⟨u, e1, _, _⟩ := DataW.trod_string Tryz.underlying9 f1
    obtain ⟨r, e2, _, _⟩ := DataW.trod_string Tryz.underlying9 f2
    have hb := bounds_i64 we
    exact ⟨e, u, r, one_of_take e0, one_of_take e1, one_of_take e2, hb.1, hb.2⟩

theorem choose_list {α : Type} {p : Nat → α → Prop} : ∀ n : Nat, (∀ i, i < n → ∃ a, p i a) → ∃ l : List α, l.length = n ∧ ∀ (i : Nat) (a : α), l[i]? = some a → p i a
  | 0, _ => ⟨[], rfl, fun i a h => by simp at h⟩
  | n + 1, h => by
    obtain ⟨l, hl, hp⟩ := choose_list n (fun i hi => h i (by omega))
    obtain ⟨a, ha⟩ := h n (by omega)
    refine ⟨l ++ [a], by rw [List.length_append, hl]; rfl, fun i b hb => ?_⟩
    rcases Nat.lt_trichotomy i n with hi | hi | hi
    · rw [List.getElem?_append_left (by omega)] at hb
      exact hp i b hb
    · subst hi
      rw [List.getElem?_append_right (by omega), hl, Nat.sub_self] at hb
      obtain rfl := Option.some.inj hb
      exact ha
    · rw [List.getElem?_eq_none (by rw [List.length_append, List.length_singleton]; omega)] at hb
      cases hb

theorem plain_addr {a : Addr} {v : Value} (h : w.cell? a = some v) : ∃ b off, a = ⟨b, off, none⟩ := by
  obtain ⟨b, off, spot⟩ := a
  have hspot : spot = none := by simpa using World.cell?_spot h
  subst hspot
  exact ⟨b, off, rfl⟩

end

end Go.Proofs.YtpbbhjifgaeklaaGreatDoor

namespace Go.Proofs.YtpbbhjifgaeklaaGreatDoor
open Go.RowKit Go.ChangeShapes Go.WideShapes Go.ChangeAt Go.Joins
section
variable {H : Type} {enc : TypeId × Value → H} {w : World} {base : Nat} {held : Bool}

theorem cells_strs : Tryz.prog.cellsOf 24 = 1 := by kernel_rfl
/-- a slice of texts that comes in -/
theorem read_strs {n : Nat} {v : Value} {x : DataW H × List MemPlace} (h : DataW.trod enc Tryz.prog w base (fun _ => true) held n 24 [v] = some x) : ∃ ss : List ByteArray, StrsAt w v ss := by
  rcases Go.Deep.open_slice Tryz.underlying24 h with ⟨hc, _⟩ | ⟨a, len, cap, m, k, D, Pl, hc, _, hl, hm, hmm, _, hi⟩
  · have hv : v = .slice none 0 0 := by simpa using hc
    subst hv
    exact ⟨[], SlC.nil w none 0⟩
  · have hv : v = .slice (some a) len cap := by simpa using hc
    subst hv
    rw [if_pos rfl] at hmm
    unfold maxLen at hm
    rcases Nat.eq_zero_or_pos len with h0 | h0
    · subst h0
      exact ⟨[], SlC.nil w (some a) cap⟩
    · have each : ∀ i, i < len → ∃ s : ByteArray, w.cell? (a.add i) = some (.string s) := by
        intro i hi'
        obtain ⟨cs', h1, h2⟩ := hi i (by omega)
        rw [cells_string, Nat.mul_one] at h1
        obtain ⟨_, hlen, hcell⟩ := World.cells?_some h1
        match cs', hlen with
        | [u], _ =>
          obtain ⟨s, hs, _, _⟩ := DataW.trod_string Tryz.underlying9 h2
          obtain rfl : u = .string s := by simpa using hs
          exact ⟨s, by simpa [Addr.add] using hcell 0 (by omega)⟩
      obtain ⟨s0, hs0⟩ := each 0 h0
      obtain ⟨b, off, rfl⟩ := plain_addr (w := w) (a := a) (v := .string s0) (by simpa [Addr.add] using hs0)
      obtain ⟨ss, hss, hp⟩ := choose_list len each
      subst hss
      refine ⟨ss, some ⟨b, off, none⟩, cap, rfl, hl, by omega, fun _ => ⟨b, off, rfl, fun j u hj => ?_⟩⟩
      rw [flat_strs, List.getElem?_map, Option.map_eq_some_iff] at hj
      obtain ⟨s, hs, rfl⟩ := hj
      have := hp j s hs
      rwa [add_plain] at this

theorem one_cell {cs : List Value} {k : Nat} (h : k < cs.length) : ∃ v, (cs.drop k).take 1 = [v] ∧ cs[k]? = some v := by
  refine ⟨cs[k], ?_, List.getElem?_eq_getElem h⟩
  rw [List.drop_eq_getElem_cons h]
  rfl

end

end Go.Proofs.YtpbbhjifgaeklaaGreatDoor

namespace Go.Proofs.YtpbbhjifgaeklaaGreatDoor
open Go.RowKit Go.ChangeShapes Go.WideShapes Go.ChangeAt Go.Joins
section
variable {H : Type} {enc : TypeId × Value → H} {w : World} {base : Nat} {held : Bool}

theorem cells_stat : Tryz.prog.cellsOf 42 = 7 := by kernel_rfl
theorem cells_boolst : Tryz.prog.cellsOf 4 = 1 := by kernel_rfl

set_option maxRecDepth 100000 in
/-- seven cells that read as a status -/
theorem read_stat {n : Nat} {cs : List Value} {x : DataW H × List MemPlace} (hlen : cs.length = 7) (h : DataW.trod enc Tryz.prog w base (fun _ => true) held n 42 cs = some x) : ∃ z v1 v2, cs.toArray = #[.int .i64 z.n, .int .i64 z.e, .string z.u, .string z.r, .bool z.h, v1, v2] ∧ StAt w v1 v2 z ∧ -9223372036854775808 ≤ z.e ∧ z.e ≤ 9223372036854775807 := by
  obtain ⟨ys, m, _, _, _, hyl, hf⟩ := DataW.trod_struct Tryz.underlying42 h
  match ys, hyl with
  | [y0, y1, y2, y3, y4], _ =>
    have f0 : DataW.trod enc Tryz.prog w base (fun _ => true) held m 3 ((cs.drop 0).take (Tryz.prog.cellsOf 3)) = some y0 := hf 0 _ rfl
    have f1 : DataW.trod enc Tryz.prog w base (fun _ => true) held m 23 ((cs.drop 1).take (Tryz.prog.cellsOf 23)) = some y1 := hf 1 _ rfl
    have f2 : DataW.trod enc Tryz.prog w base (fun _ => true) held m 4 ((cs.drop 4).take (Tryz.prog.cellsOf 4)) = some y2 := hf 2 _ rfl
    have f3 : DataW.trod enc Tryz.prog w base (fun _ => true) held m 24 ((cs.drop 5).take (Tryz.prog.cellsOf 24)) = some y3 := hf 3 _ rfl
    have f4 : DataW.trod enc Tryz.prog w base (fun _ => true) held m 24 ((cs.drop 6).take (Tryz.prog.cellsOf 24)) = some y4 := hf 4 _ rfl
    rw [cells_int] at f0
    rw [cells_vers] at f1
    rw [cells_boolst] at f2
    rw [cells_strs] at f3 f4
    obtain ⟨n, e0, _, _⟩ := DataW.trod_int Tryz.underlying3 f0
    obtain ⟨e, u, r, e1, e2, e3, b1, b2⟩ := read_vers f1
    obtain ⟨hh, e4, _⟩ := DataW.trod_bool Tryz.underlying4 f2
    obtain ⟨v1, t1, g1⟩ := one_cell (cs := cs) (k := 5) (by omega)
    obtain ⟨v2, t2, g2⟩ := one_cell (cs := cs) (k := 6) (by omega)
    rw [t1] at f3
    rw [t2] at f4
    obtain ⟨ws, h1⟩ := read_strs f3
    obtain ⟨ts, h2⟩ := read_strs f4
    refine ⟨⟨n, e, u, r, hh, ws, ts⟩, v1, v2, ?_, ⟨h1, h2⟩, b1, b2⟩
    have q0 := one_of_take e0
    have q1 : cs[1]? = some (.int .i64 e) := by simpa [List.getElem?_take, List.getElem?_drop] using e1
    have q2 : cs[2]? = some (.string u) := by simpa [List.getElem?_take, List.getElem?_drop] using e2
    have q3 : cs[3]? = some (.string r) := by simpa [List.getElem?_take, List.getElem?_drop] using e3
    have q4 := one_of_take e4
    match cs, hlen with
    | [c0, c1, c2, c3, c4, c5, c6], _ =>
      obtain rfl := Option.some.inj q0
      obtain rfl := Option.some.inj q1
      obtain rfl := Option.some.inj q2
      obtain rfl := Option.some.inj q3
      obtain rfl := Option.some.inj q4
      obtain rfl := Option.some.inj g1
      obtain rfl := Option.some.inj g2
      rfl
end

set_option maxRecDepth 100000 in
/-- A status that comes in. -/
theorem open_stat {H : Type} {enc : TypeId × Value → H} {W : World} {base b0 : Nat} {held : Bool} {r : Reach} {v : Value} {d : DataW H} {p : List MemPlace}
    (hv : Value.okWide Tryz.prog W r b0 42 v) (h : DataW.Trod enc Tryz.prog W base (fun _ => true) held 42 v d p) : ∃ z v1 v2, v = stV z v1 v2 ∧ StAt W v1 v2 z ∧ -9223372036854775808 ≤ z.e ∧ z.e ≤ 9223372036854775807 := by
  obtain ⟨cs, rfl, hsz⟩ := okWide_struct Tryz.underlying42 hv
  obtain ⟨fuel, hf⟩ := h
  have hl : cs.toList.length = 7 := by rw [Array.length_toList, hsz, cells_stat]
  obtain ⟨z, v1, v2, e, h1, h2, h3⟩ := read_stat (cs := cs.toList) hl hf
  refine ⟨z, v1, v2, ?_, h1, h2, h3⟩
  unfold stV
  rw [← e]
end Go.Proofs.YtpbbhjifgaeklaaGreatDoor

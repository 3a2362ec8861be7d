/- CheckSpares: the law, for every input. · The frame of a law: what is the same for every statement of this seat. · What comes in: the library's variables out of the row's list; a version. · What is asked for, as it comes in. · A package, as it comes in. -/
import Derived.Test.YtpbbhjifgaeklaaGreatDoorCSK38
import Derived.Test.YtpbbhjifgaeklaaGreatDoorCSK1
import Derived.HandedShaped
import Derived.PinnedBridge
import Derived.Lay
import Derived.SevenTiedAt
import Derived.Lib.LaidTab
import Derived.Lib.LaidU8
import Derived.Test.YtpbbhjifgaeklaaGreatDoorRows
import Derived.Test.YtpbbhjifgaeklaaGreatDoorCSK5
import Derived.Deep.Slices
import Derived.OpenShut
import Derived.Test.YtpbbhjifgaeklaaGreatDoorCSK6
namespace Go.Proofs.YtpbbhjifgaeklaaGreatDoor
open Go Go.RowKit

set_option maxHeartbeats 2000000 in
set_option maxRecDepth 100000 in
theorem spares_no (v : Value) (ks : List Kv) (x : Int) (w : World) (h : KnownsAt w v ks) (hkb : knownB ks = false) :
    Calls Tryz.prog 6 #[v, .int .i64 x] w (BoolIs true w) := by
  have HKN := Lib.hid h
  have HKB := Lib.hid hkb
  obtain ⟨A, c, rfl, hc, hm, hr⟩ := h
  obtain ⟨kl, hkl⟩ : ∃ kl, ks.length = kl := ⟨_, rfl⟩
  rw [hkl] at hc hm HKN ⊢
  have hb1 := below_alloc w (.cells #[.slice A kl c] 73)
  have hx1 := blk_new 73 w #[.slice A kl c]
  obtain ⟨W1, hW1⟩ : ∃ W, w.alloc (.cells #[.slice A kl c] 73) = W := ⟨_, rfl⟩
  rw [hW1] at hb1 hx1
  have HB1 := Lib.hid hb1
  have k0 : W1.cell? ⟨w.heap.size, 0, none⟩ = some (.slice A kl c) := hx1.cell rfl
  clear hkl hr hkb hb1 hx1
  go_enter Tryz.func6, Tryz.ntmps6
  go_wp2_with fail
  refine (known_calls _ ks _ (HKN.out.below HB1.out)).mono ?_
  rintro E w2 ⟨rfl, hb2⟩
  rw [HKB.out]
  have HB2 := Lib.hid (HB1.out.trans (hb2.mono HB1.out.size))
  clear k0 hb2 hW1 HB1 HKB
  go_wp2_with fail
  go_ret
  exact ⟨rfl, HB2.out⟩
theorem spares_law (v : Value) (ks : List Kv) (x : Int) (w : World) (hE : Env w) (hG : EnvE w) (hN : EnvN w) (h : KnownsAt w v ks) :
    Calls Tryz.prog 6 #[v, .int .i64 x] w (BoolIs true w) := by
  cases hkb : knownB ks with
  | false => exact spares_no v ks x w h hkb
  | true => exact spares_main v ks x w hE hG hN h hkb
end Go.Proofs.YtpbbhjifgaeklaaGreatDoor

namespace Go.Proofs.YtpbbhjifgaeklaaGreatDoor
open Go.RowKit Go.ChangeShapes Go.WideShapes Go.ChangeAt Go.Joins
section
variable {H : Type} {enc : TypeId × Value → H}

/-- The plain wrap with both: what the row lists, and the world's shape. -/
theorem returnsInHanded_listed_shaped {a : Assume} {C : Checked} {os : Os} {f : FuncId} {fn : Func} {s : ChangeSpec} {conds : List PathCond} {apart fresh handsOn again : Bool} {X : World → Array Value → Prop}
    (hX : ∀ (w w' : World) (args : Array Value), w.heap = w'.heap → X w args → X w' args)
    (own : ownKnob C.prog.godebug = none) (started : os.Started) (noInit : C.prog.inits.idxOf? f = none) (hfn : C.prog.funcs[f]? = some fn)
    (witness : ∃ (w : World) (tape : Tape) (i : Input), w.os = os ∧ (w.forCall tape i).Shaped C.prog ∧ i.vars = [] ∧ Input.okWide C.prog (w.forCall tape i) .any w.heap.size f i ∧
      ((s.pre enc C.prog fn conds apart (w.forCall tape i).memory i.args ∧ X (w.forCall tape i).memory i.args) ∧ sizedMet enc C.prog fn (OpenSpec.ofChange s) apart (w.forCall tape i).memory i.args) ∧ a.holds C.prog (lone (Frame.enter C.prog f i.args .normal) [] (w.forCall tape i)))
    (contract : ∀ (W : World) (base : Nat) (args : Array Value) (ds gs : List (DataW H)) (before : List MemPlace),
      (∀ (j : Nat) t v, fn.params[j]? = some t → args[j]? = some v → Value.okWide C.prog W .any base t v) →
      DataW.Whole enc C.prog fn.params.toList s.vars apart W args.toList ds gs before →
      conds.all (PathCond.test C.prog ⟨fn.params.toList, ds, s.plain.varTypes C.prog, gs⟩) = true →
      (DataW.weightsEach C.prog (fn.params.toList ++ s.plain.varTypes C.prog) (ds ++ gs)).all (· ≤ reachBytes) = true → X W args → W.ShapedOpen C.prog →
      a.holds C.prog (lone (Frame.enter C.prog f args .normal) [] W) →
      Calls C.prog f args W fun e W' => ∃ v, e = .returned v ∧ s.post enc C.prog fn apart fresh handsOn again W args v W') :
    ReturnsInHanded a C os f .any (fun w args => (s.pre enc C.prog fn conds apart w args ∧ X w args) ∧ sizedMet enc C.prog fn (OpenSpec.ofChange s) apart w args) (s.post enc C.prog fn apart fresh handsOn again) := by
  refine returnsInHanded_of_calls own started noInit witness ?_
  intro w tape i _ hsh _ hok hpre hholds
  obtain ⟨_, _, _, fn', hfn', _, _, _, _, hval⟩ := hok
  have e : fn' = fn := Option.some.inj (hfn'.symm.trans hfn)
  subst e
  obtain ⟨⟨⟨ds, gs, before, hw, hc⟩, hx⟩, hz⟩ := hpre
  have hw' := DataW.Whole.of_heap (w' := w.forCall tape i) (by rfl) hw
  refine (contract (w.forCall tape i) w.heap.size i.args ds gs before hval hw' hc (hz.weights hw) (hX _ _ _ (by rfl) hx) hsh hholds).mono fun e W' ⟨v, he, hp⟩ => ?_
  subst he
  exact ChangeSpec.post_blind hp

theorem below_trodAll {P : Program} (hl : laidOutB P = true) {W W' : World} (hb : Below W.heap.size W W') :
    ∀ {ts : List TypeId} {vs : List Value} {ds : List (DataW H)} {ps : List MemPlace}, (ts.all fun t => P.readableRec t && decide (t < P.types.size)) = true →
      DataW.TrodAll enc P W 0 (fun _ => true) true ts vs ds ps → (∀ x ∈ ps, x.block < W.heap.size) → DataW.TrodAll enc P W' 0 (fun b => decide (b < W.heap.size)) true ts vs ds ps
  | [], vs, ds, ps, _, h, _ => by
    obtain ⟨rfl, rfl, rfl⟩ := trodAll_nil h
    exact trodAll_mk0
  | t :: ts, vs, ds, ps, hr, h, hlt => by
    obtain ⟨v, vs', d, ds', p, q, rfl, rfl, rfl, h1, h2⟩ := trodAll_cons h
    rw [List.all_cons, Bool.and_eq_true, Bool.and_eq_true] at hr
    exact trodAll_cons_mk (Below.trod hl hr.1.1 (by simpa using hr.1.2) h1 hb (fun x hx => hlt x (List.mem_append_left _ hx))) (below_trodAll hl hb hr.2 h2 (fun x hx => hlt x (List.mem_append_right _ hx)))

theorem tabIs_of_reads {P : Program} {W : World} {name : String} {k : IntKind} {zs : List Int} {d : DataW Unit} {g : Nat} {t e : TypeId} {n : Nat} (hd : d = Lib.tabData k zs)
    (hg : P.globalNamed name = some g) (hty : (P.globals[g]?).map (·.type) = some t) (ht : P.underlying t = some (.array n e)) (he : P.underlying e = some (.int k)) (hce : P.cellsOf e = 1) (hct : P.cellsOf t = n)
    (h : Lib.VarReads P W name d) : Lib.TabIs P W name k zs := by
  subst hd
  obtain ⟨g', t', cs, fuel, p, hg', ht', hvar, hd⟩ := h
  obtain rfl := Option.some.inj (hg.symm.trans hg')
  obtain rfl := Option.some.inj (hty.symm.trans ht')
  unfold Lib.TabIs
  rw [hvar, ← Lib.cells_of_tab ht he hce hct hd]
end

theorem own : ownKnob Tryz.prog.godebug = none := by kernel_rfl
theorem laidOut : laidOutB Tryz.prog = true := by kernel_rfl
end Go.Proofs.YtpbbhjifgaeklaaGreatDoor

namespace Go.Proofs.YtpbbhjifgaeklaaGreatDoor
open Go.RowKit Go.ChangeShapes Go.WideShapes Go.ChangeAt Go.Joins

set_option maxRecDepth 100000 in
/-- What the walks read of the library's variables, out of the row's list and the world's shape. -/
theorem env_at {W : World} {laid : List (String × DataW Unit)} (hL : laidMet Tryz.prog laid W) (hm : ("internal/strconv.uint64pow10", (Rows.laid_internal_strconv_uint64pow10 : DataW Unit)) ∈ laid) (hsh : W.ShapedOpen Tryz.prog) : Env W :=
  ⟨Tryz.laysM145.s1_3 W hsh, tabIs_of_reads (g := 6) (by kernel_rfl) (by kernel_rfl) (by kernel_rfl) Tryz.underlying323 Tryz.underlying277 (by kernel_rfl) (by kernel_rfl) (Lib.laidMet.reads hL hm)⟩

end Go.Proofs.YtpbbhjifgaeklaaGreatDoor

namespace Go.Proofs.YtpbbhjifgaeklaaGreatDoor
open Go.RowKit Go.ChangeShapes Go.WideShapes Go.ChangeAt Go.Joins
section
variable {H : Type} {enc : TypeId × Value → H} {w : World} {base : Nat} {spare : Nat → Bool} {held : Bool}

theorem one_of_take {cs : List Value} {j : Nat} {v : Value} (h : (cs.drop j).take 1 = [v]) : cs[j]? = some v := by
  have := congrArg (·[0]?) h
  simpa [List.getElem?_take, List.getElem?_drop] using this

theorem cells_string : Tryz.prog.cellsOf 9 = 1 := by kernel_rfl
theorem cells_int : Tryz.prog.cellsOf 3 = 1 := by kernel_rfl
theorem cells_vers : Tryz.prog.cellsOf 23 = 3 := by kernel_rfl
theorem cells_term : Tryz.prog.cellsOf 143 = 5 := by kernel_rfl
theorem cells_terms : Tryz.prog.cellsOf 65 = 1 := by kernel_rfl

/-- three cells that read as a version -/
theorem read_vers {n : Nat} {cs : List Value} {x : DataW H × List MemPlace} (h : DataW.trod enc Tryz.prog w base spare held n 23 cs = some x) :
    ∃ (e : Int) (u r : ByteArray), cs[0]? = some (.int .i64 e) ∧ cs[1]? = some (.string u) ∧ cs[2]? = some (.string r) ∧ -9223372036854775808 ≤ e ∧ e ≤ 9223372036854775807 := by
  obtain ⟨ys, m, _, _, _, hyl, hf⟩ := DataW.trod_struct Tryz.underlying23 h
  match ys, hyl with
  | [y0, y1, y2], _ =>
    have f0 : DataW.trod enc Tryz.prog w base spare held m 3 ((cs.drop 0).take (Tryz.prog.cellsOf 3)) = some y0 := hf 0 _ rfl
    have f1 : DataW.trod enc Tryz.prog w base spare held m 9 ((cs.drop 1).take (Tryz.prog.cellsOf 9)) = some y1 := hf 1 _ rfl
    have f2 : DataW.trod enc Tryz.prog w base spare held m 9 ((cs.drop 2).take (Tryz.prog.cellsOf 9)) = some y2 := hf 2 _ rfl
    rw [cells_int] at f0
    rw [cells_string] at f1 f2
    obtain ⟨e, e0, _, we⟩ := DataW.trod_int Tryz.underlying3 f0
    obtain ⟨u, e1, _, _⟩ := DataW.trod_string Tryz.underlying9 f1
    obtain ⟨r, e2, _, _⟩ := DataW.trod_string Tryz.underlying9 f2
    have hb := bounds_i64 we
    exact ⟨e, u, r, one_of_take e0, one_of_take e1, one_of_take e2, hb.1, hb.2⟩

/-- five cells that read as a term -/
theorem read_term {n : Nat} {cs : List Value} {x : DataW H × List MemPlace} (h : DataW.trod enc Tryz.prog w base spare held n 143 cs = some x) :
    ∃ t : Tv, cs[0]? = some (.string t.n) ∧ cs[1]? = some (.int .i64 t.op) ∧ cs[2]? = some (.int .i64 t.e) ∧ cs[3]? = some (.string t.u) ∧ cs[4]? = some (.string t.r) ∧ t.ok := by
  obtain ⟨ys, m, _, _, _, hyl, hf⟩ := DataW.trod_struct Tryz.underlying143 h
  match ys, hyl with
  | [y0, y1, y2], _ =>
    have f0 : DataW.trod enc Tryz.prog w base spare held m 9 ((cs.drop 0).take (Tryz.prog.cellsOf 9)) = some y0 := hf 0 _ rfl
    have f1 : DataW.trod enc Tryz.prog w base spare held m 3 ((cs.drop 1).take (Tryz.prog.cellsOf 3)) = some y1 := hf 1 _ rfl
    have f2 : DataW.trod enc Tryz.prog w base spare held m 23 ((cs.drop 2).take (Tryz.prog.cellsOf 23)) = some y2 := hf 2 _ rfl
    rw [cells_string] at f0
    rw [cells_int] at f1
    rw [cells_vers] at f2
    obtain ⟨n, e0, _, _⟩ := DataW.trod_string Tryz.underlying9 f0
    obtain ⟨op, e1, _, wo⟩ := DataW.trod_int Tryz.underlying3 f1
    obtain ⟨e, u, r, e2, e3, e4, b1, b2⟩ := read_vers f2
    have hb := bounds_i64 wo
    refine ⟨⟨n, op, e, u, r⟩, one_of_take e0, one_of_take e1, ?_, ?_, ?_, b1, b2, hb.1, hb.2⟩
    · simpa [List.getElem?_take, List.getElem?_drop] using e2
    · simpa [List.getElem?_take, List.getElem?_drop] using e3
    · simpa [List.getElem?_take, List.getElem?_drop] using e4

theorem choose_list {α : Type} {p : Nat → α → Prop} : ∀ n : Nat, (∀ i, i < n → ∃ a, p i a) → ∃ l : List α, l.length = n ∧ ∀ (i : Nat) (a : α), l[i]? = some a → p i a
  | 0, _ => ⟨[], rfl, fun i a h => by simp at h⟩
  | n + 1, h => by
    obtain ⟨l, hl, hp⟩ := choose_list n (fun i hi => h i (by omega))
    obtain ⟨a, ha⟩ := h n (by omega)
    refine ⟨l ++ [a], by rw [List.length_append, hl]; rfl, fun i b hb => ?_⟩
    rcases Nat.lt_trichotomy i n with hi | hi | hi
    · rw [List.getElem?_append_left (by omega)] at hb
      exact hp i b hb
    · subst hi
      rw [List.getElem?_append_right (by omega), hl, Nat.sub_self] at hb
      obtain rfl := Option.some.inj hb
      exact ha
    · rw [List.getElem?_eq_none (by rw [List.length_append, List.length_singleton]; omega)] at hb
      cases hb

theorem plain_addr {a : Addr} {v : Value} (h : w.cell? a = some v) : ∃ b off, a = ⟨b, off, none⟩ := by
  obtain ⟨b, off, spot⟩ := a
  have hspot : spot = none := by simpa using World.cell?_spot h
  subst hspot
  exact ⟨b, off, rfl⟩

/-- a slice of terms that comes in -/
theorem read_terms {n : Nat} {v : Value} {x : DataW H × List MemPlace} (h : DataW.trod enc Tryz.prog w base (fun _ => true) held n 65 [v] = some x) : ∃ ts : List Tv, TermsAt w v ts := by
  rcases Go.Deep.open_slice Tryz.underlying65 h with ⟨hc, _⟩ | ⟨a, len, cap, m, k, D, Pl, hc, _, hl, hm, hmm, _, hi⟩
  · have hv : v = .slice none 0 0 := by simpa using hc
    subst hv
    exact ⟨[], none, 0, rfl, Nat.le_refl _, by simp, fun h => absurd rfl h⟩
  · have hv : v = .slice (some a) len cap := by simpa using hc
    subst hv
    rw [if_pos rfl] at hmm
    unfold maxLen at hm
    rcases Nat.eq_zero_or_pos len with h0 | h0
    · subst h0
      exact ⟨[], some a, cap, rfl, Nat.zero_le _, by simp, fun h => absurd rfl h⟩
    · have each : ∀ i, i < len → ∃ t : Tv, w.cell? (a.add (i * 5)) = some (.string t.n) ∧ w.cell? ((a.add (i * 5)).add 1) = some (.int .i64 t.op) ∧ w.cell? ((a.add (i * 5)).add 2) = some (.int .i64 t.e) ∧ w.cell? ((a.add (i * 5)).add 3) = some (.string t.u) ∧ w.cell? ((a.add (i * 5)).add 4) = some (.string t.r) ∧ t.ok := by
        intro i hi'
        obtain ⟨cs', h1, h2⟩ := hi i (by omega)
        rw [cells_term] at h1
        obtain ⟨_, hlen, hcell⟩ := World.cells?_some h1
        obtain ⟨t, t0, t1, t2, t3, t4, hok⟩ := read_term h2
        have g0 := hcell 0 (by omega)
        have g1 := hcell 1 (by omega)
        have g2 := hcell 2 (by omega)
        have g3 := hcell 3 (by omega)
        have g4 := hcell 4 (by omega)
        rw [t0] at g0
        rw [t1] at g1
        rw [t2] at g2
        rw [t3] at g3
        rw [t4] at g4
        exact ⟨t, by simpa [Addr.add] using g0, g1, g2, g3, g4, hok⟩
      obtain ⟨t0, ht0⟩ := each 0 h0
      obtain ⟨b, off, rfl⟩ := plain_addr (w := w) (a := a) (v := .string t0.n) (by simpa [Addr.add] using ht0.1)
      obtain ⟨ts, hts, hp⟩ := choose_list len each
      subst hts
      refine ⟨ts, some ⟨b, off, none⟩, cap, rfl, hl, by omega, fun _ => ⟨b, off, rfl, fun i t ht => ?_⟩⟩
      obtain ⟨p0, p1, p2, p3, p4, hok⟩ := hp i t ht
      rw [add_plain] at p0 p1 p2 p3 p4
      rw [add_plain] at p1 p2 p3 p4
      exact ⟨⟨p0, p1, p2, p3, p4⟩, hok⟩

/-- a slice of such slices that comes in -/
theorem read_asked {n : Nat} {v : Value} {x : DataW H × List MemPlace} (h : DataW.trod enc Tryz.prog w base (fun _ => true) held n 64 [v] = some x) : ∃ L : List (List Tv), AskedAt w v L := by
  rcases Go.Deep.open_slice Tryz.underlying64 h with ⟨hc, _⟩ | ⟨a, len, cap, m, k, D, Pl, hc, _, hl, hm, hmm, _, hi⟩
  · have hv : v = .slice none 0 0 := by simpa using hc
    subst hv
    exact ⟨[], none, 0, rfl, Nat.le_refl _, by simp, fun h => absurd rfl h⟩
  · have hv : v = .slice (some a) len cap := by simpa using hc
    subst hv
    rw [if_pos rfl] at hmm
    unfold maxLen at hm
    rcases Nat.eq_zero_or_pos len with h0 | h0
    · subst h0
      exact ⟨[], some a, cap, rfl, Nat.zero_le _, by simp, fun h => absurd rfl h⟩
    · have each : ∀ i, i < len → ∃ y : Value × List Tv, w.cell? (a.add i) = some y.1 ∧ TermsAt w y.1 y.2 := by
        intro i hi'
        obtain ⟨cs', h1, h2⟩ := hi i (by omega)
        rw [cells_terms, Nat.mul_one] at h1
        obtain ⟨_, hlen, hcell⟩ := World.cells?_some h1
        match cs', hlen with
        | [u], _ =>
          obtain ⟨ts, hts⟩ := read_terms h2
          exact ⟨(u, ts), by simpa [Addr.add] using hcell 0 (by omega), hts⟩
      obtain ⟨y0, hy0, _⟩ := each 0 h0
      obtain ⟨b, off, rfl⟩ := plain_addr (w := w) (a := a) (v := y0.1) (by simpa [Addr.add] using hy0)
      obtain ⟨ys, hys, hp⟩ := choose_list len each
      subst hys
      refine ⟨ys.map (·.2), some ⟨b, off, none⟩, cap, by rw [List.length_map], by rw [List.length_map]; exact hl, by rw [List.length_map]; omega, fun _ => ⟨b, off, rfl, fun i x hx => ?_⟩⟩
      rw [List.getElem?_map, Option.map_eq_some_iff] at hx
      obtain ⟨y, hy, rfl⟩ := hx
      obtain ⟨p0, p1⟩ := hp i y hy
      rw [add_plain] at p0
      exact ⟨y.1, p0, p1⟩
end

end Go.Proofs.YtpbbhjifgaeklaaGreatDoor

namespace Go.Proofs.YtpbbhjifgaeklaaGreatDoor
open Go.RowKit Go.ChangeShapes Go.WideShapes Go.ChangeAt Go.Joins
section
variable {H : Type} {enc : TypeId × Value → H} {w : World} {base : Nat} {held : Bool}

theorem cells_pack : Tryz.prog.cellsOf 67 = 13 := by kernel_rfl
theorem cells_file : Tryz.prog.cellsOf 62 = 2 := by kernel_rfl
theorem cells_askd : Tryz.prog.cellsOf 64 = 1 := by kernel_rfl
theorem cells_strs : Tryz.prog.cellsOf 24 = 1 := by kernel_rfl
theorem cells_files : Tryz.prog.cellsOf 63 = 1 := by kernel_rfl

/-- a slice of texts that comes in -/
theorem read_strs {n : Nat} {v : Value} {x : DataW H × List MemPlace} (h : DataW.trod enc Tryz.prog w base (fun _ => true) held n 24 [v] = some x) : ∃ ss : List ByteArray, StrsAt w v ss := by
  rcases Go.Deep.open_slice Tryz.underlying24 h with ⟨hc, _⟩ | ⟨a, len, cap, m, k, D, Pl, hc, _, hl, hm, hmm, _, hi⟩
  · have hv : v = .slice none 0 0 := by simpa using hc
    subst hv
    exact ⟨[], SlC.nil w none 0⟩
  · have hv : v = .slice (some a) len cap := by simpa using hc
    subst hv
    rw [if_pos rfl] at hmm
    unfold maxLen at hm
    rcases Nat.eq_zero_or_pos len with h0 | h0
    · subst h0
      exact ⟨[], SlC.nil w (some a) cap⟩
    · have each : ∀ i, i < len → ∃ s : ByteArray, w.cell? (a.add i) = some (.string s) := by
        intro i hi'
        obtain ⟨cs', h1, h2⟩ := hi i (by omega)
        rw [cells_string, Nat.mul_one] at h1
        obtain ⟨_, hlen, hcell⟩ := World.cells?_some h1
        match cs', hlen with
        | [u], _ =>
          obtain ⟨s, hs, _, _⟩ := DataW.trod_string Tryz.underlying9 h2
          obtain rfl : u = .string s := by simpa using hs
          exact ⟨s, by simpa [Addr.add] using hcell 0 (by omega)⟩
      obtain ⟨s0, hs0⟩ := each 0 h0
      obtain ⟨b, off, rfl⟩ := plain_addr (w := w) (a := a) (v := .string s0) (by simpa [Addr.add] using hs0)
      obtain ⟨ss, hss, hp⟩ := choose_list len each
      subst hss
      refine ⟨ss, some ⟨b, off, none⟩, cap, rfl, hl, by omega, fun _ => ⟨b, off, rfl, fun j u hj => ?_⟩⟩
      rw [flat_strs, List.getElem?_map, Option.map_eq_some_iff] at hj
      obtain ⟨s, hs, rfl⟩ := hj
      have := hp j s hs
      rwa [add_plain] at this

/-- a slice of files that comes in -/
theorem read_files {n : Nat} {v : Value} {x : DataW H × List MemPlace} (h : DataW.trod enc Tryz.prog w base (fun _ => true) held n 63 [v] = some x) : ∃ fs : List Fv, FieldsAt w v fs := by
  rcases Go.Deep.open_slice Tryz.underlying63 h with ⟨hc, _⟩ | ⟨a, len, cap, m, k, D, Pl, hc, _, hl, hm, hmm, _, hi⟩
  · have hv : v = .slice none 0 0 := by simpa using hc
    subst hv
    exact ⟨[], SlC.nil w none 0⟩
  · have hv : v = .slice (some a) len cap := by simpa using hc
    subst hv
    rw [if_pos rfl] at hmm
    unfold maxLen at hm
    rcases Nat.eq_zero_or_pos len with h0 | h0
    · subst h0
      exact ⟨[], SlC.nil w (some a) cap⟩
    · have each : ∀ i, i < len → ∃ f : Fv, w.cell? (a.add (i * 2)) = some (.string f.n) ∧ w.cell? ((a.add (i * 2)).add 1) = some (.string f.v) := by
        intro i hi'
        obtain ⟨cs', h1, h2⟩ := hi i (by omega)
        rw [cells_file] at h1
        obtain ⟨_, hlen, hcell⟩ := World.cells?_some h1
        obtain ⟨ys, m', _, _, _, hyl, hf⟩ := DataW.trod_struct Tryz.underlying62 h2
        match ys, hyl with
        | [y0, y1], _ =>
          have f0 : DataW.trod enc Tryz.prog w base (fun _ => true) held m' 9 ((cs'.drop 0).take (Tryz.prog.cellsOf 9)) = some y0 := hf 0 _ rfl
          have f1 : DataW.trod enc Tryz.prog w base (fun _ => true) held m' 9 ((cs'.drop 1).take (Tryz.prog.cellsOf 9)) = some y1 := hf 1 _ rfl
          rw [cells_string] at f0 f1
          obtain ⟨n, e0, _, _⟩ := DataW.trod_string Tryz.underlying9 f0
          obtain ⟨s, e1, _, _⟩ := DataW.trod_string Tryz.underlying9 f1
          have g0 := hcell 0 (by omega)
          have g1 := hcell 1 (by omega)
          rw [one_of_take e0] at g0
          rw [one_of_take e1] at g1
          exact ⟨⟨n, s⟩, by simpa [Addr.add] using g0, g1⟩
      obtain ⟨t0, ht0⟩ := each 0 h0
      obtain ⟨b, off, rfl⟩ := plain_addr (w := w) (a := a) (v := .string t0.n) (by simpa [Addr.add] using ht0.1)
      obtain ⟨fs, hfs, hp⟩ := choose_list len each
      subst hfs
      refine ⟨fs, some ⟨b, off, none⟩, cap, rfl, hl, by omega, fun _ => ⟨b, off, rfl, fun j u hj => ?_⟩⟩
      have hlt := (List.getElem?_eq_some_iff.1 hj).1
      have hs : ∀ f : Fv, (fldC f).length = 2 := fun _ => rfl
      rw [flat_length hs] at hlt
      have hfj : fs[j / 2]? = some (fs[j / 2]'(by omega)) := List.getElem?_eq_getElem _
      obtain ⟨p0, p1⟩ := hp (j / 2) _ hfj
      rw [add_plain] at p0 p1
      rw [add_plain] at p1
      obtain hr | hr : j = j / 2 * 2 + 0 ∨ j = j / 2 * 2 + 1 := by omega
      · rw [hr, flat_at hs hfj 0 (by omega)] at hj
        rw [hr, ← Option.some.inj hj]
        exact p0
      · rw [hr, flat_at hs hfj 1 (by omega)] at hj
        rw [hr, ← Option.some.inj hj, ← Nat.add_assoc]
        exact p1

theorem one_cell {cs : List Value} {k : Nat} (h : k < cs.length) : ∃ v, (cs.drop k).take 1 = [v] ∧ cs[k]? = some v := by
  refine ⟨cs[k], ?_, List.getElem?_eq_getElem h⟩
  rw [List.drop_eq_getElem_cons h]
  rfl

set_option maxRecDepth 100000 in
/-- thirteen cells that read as a package -/
theorem read_pack {n : Nat} {cs : List Value} {x : DataW H × List MemPlace} (hlen : cs.length = 13) (h : DataW.trod enc Tryz.prog w base (fun _ => true) held n 67 cs = some x) : ∃ p : Pv, PackAt w (.agg cs.toArray) p := by
  obtain ⟨ys, m, _, _, _, hyl, hf⟩ := DataW.trod_struct Tryz.underlying67 h
  match ys, hyl with
  | [y0, y1, y2, y3, y4, y5, y6, y7, y8, y9, y10], _ =>
    have f0 : DataW.trod enc Tryz.prog w base (fun _ => true) held m 9 ((cs.drop 0).take (Tryz.prog.cellsOf 9)) = some y0 := hf 0 _ rfl
    have f1 : DataW.trod enc Tryz.prog w base (fun _ => true) held m 23 ((cs.drop 1).take (Tryz.prog.cellsOf 23)) = some y1 := hf 1 _ rfl
    have f2 : DataW.trod enc Tryz.prog w base (fun _ => true) held m 64 ((cs.drop 4).take (Tryz.prog.cellsOf 64)) = some y2 := hf 2 _ rfl
    have f3 : DataW.trod enc Tryz.prog w base (fun _ => true) held m 64 ((cs.drop 5).take (Tryz.prog.cellsOf 64)) = some y3 := hf 3 _ rfl
    have f4 : DataW.trod enc Tryz.prog w base (fun _ => true) held m 65 ((cs.drop 6).take (Tryz.prog.cellsOf 65)) = some y4 := hf 4 _ rfl
    have f5 : DataW.trod enc Tryz.prog w base (fun _ => true) held m 65 ((cs.drop 7).take (Tryz.prog.cellsOf 65)) = some y5 := hf 5 _ rfl
    have f6 : DataW.trod enc Tryz.prog w base (fun _ => true) held m 65 ((cs.drop 8).take (Tryz.prog.cellsOf 65)) = some y6 := hf 6 _ rfl
    have f7 : DataW.trod enc Tryz.prog w base (fun _ => true) held m 65 ((cs.drop 9).take (Tryz.prog.cellsOf 65)) = some y7 := hf 7 _ rfl
    have f8 : DataW.trod enc Tryz.prog w base (fun _ => true) held m 24 ((cs.drop 10).take (Tryz.prog.cellsOf 24)) = some y8 := hf 8 _ rfl
    have f9 : DataW.trod enc Tryz.prog w base (fun _ => true) held m 24 ((cs.drop 11).take (Tryz.prog.cellsOf 24)) = some y9 := hf 9 _ rfl
    have f10 : DataW.trod enc Tryz.prog w base (fun _ => true) held m 63 ((cs.drop 12).take (Tryz.prog.cellsOf 63)) = some y10 := hf 10 _ rfl
    rw [cells_string] at f0
    rw [cells_vers] at f1
    rw [cells_askd] at f2 f3
    rw [cells_terms] at f4 f5 f6 f7
    rw [cells_strs] at f8 f9
    rw [cells_files] at f10
    obtain ⟨n, e0, _, _⟩ := DataW.trod_string Tryz.underlying9 f0
    obtain ⟨e, u, r, e1, e2, e3, b1, b2⟩ := read_vers f1
    obtain ⟨v1, t1, g1⟩ := one_cell (cs := cs) (k := 4) (by omega)
    obtain ⟨v2, t2, g2⟩ := one_cell (cs := cs) (k := 5) (by omega)
    obtain ⟨v3, t3, g3⟩ := one_cell (cs := cs) (k := 6) (by omega)
    obtain ⟨v4, t4, g4⟩ := one_cell (cs := cs) (k := 7) (by omega)
    obtain ⟨v5, t5, g5⟩ := one_cell (cs := cs) (k := 8) (by omega)
    obtain ⟨v6, t6, g6⟩ := one_cell (cs := cs) (k := 9) (by omega)
    obtain ⟨v7, t7, g7⟩ := one_cell (cs := cs) (k := 10) (by omega)
    obtain ⟨v8, t8, g8⟩ := one_cell (cs := cs) (k := 11) (by omega)
    obtain ⟨v9, t9, g9⟩ := one_cell (cs := cs) (k := 12) (by omega)
    rw [t1] at f2
    rw [t2] at f3
    rw [t3] at f4
    rw [t4] at f5
    rw [t5] at f6
    rw [t6] at f7
    rw [t7] at f8
    rw [t8] at f9
    rw [t9] at f10
    obtain ⟨dep, h1⟩ := read_asked f2
    obtain ⟨ahead, h2⟩ := read_asked f3
    obtain ⟨ag, h3⟩ := read_terms f4
    obtain ⟨br, h4⟩ := read_terms f5
    obtain ⟨re, h5⟩ := read_terms f6
    obtain ⟨pr, h6⟩ := read_terms f7
    obtain ⟨se, h7⟩ := read_strs f8
    obtain ⟨li, h8⟩ := read_strs f9
    obtain ⟨fi, h9⟩ := read_files f10
    refine ⟨⟨n, e, u, r, dep, ahead, ag, br, re, pr, se, li, fi⟩, v1, v2, v3, v4, v5, v6, v7, v8, v9, ?_, h1, h2, h3, h4, h5, h6, h7, h8, h9, b1, b2⟩
    have q0 := one_of_take e0
    have q1 : cs[1]? = some (.int .i64 e) := by simpa [List.getElem?_take, List.getElem?_drop] using e1
    have q2 : cs[2]? = some (.string u) := by simpa [List.getElem?_take, List.getElem?_drop] using e2
    have q3 : cs[3]? = some (.string r) := by simpa [List.getElem?_take, List.getElem?_drop] using e3
    match cs, hlen with
    | [c0, c1, c2, c3, c4, c5, c6, c7, c8, c9, c10, c11, c12], _ =>
      obtain rfl := Option.some.inj q0
      obtain rfl := Option.some.inj q1
      obtain rfl := Option.some.inj q2
      obtain rfl := Option.some.inj q3
      obtain rfl := Option.some.inj g1
      obtain rfl := Option.some.inj g2
      obtain rfl := Option.some.inj g3
      obtain rfl := Option.some.inj g4
      obtain rfl := Option.some.inj g5
      obtain rfl := Option.some.inj g6
      obtain rfl := Option.some.inj g7
      obtain rfl := Option.some.inj g8
      obtain rfl := Option.some.inj g9
      rfl
end

end Go.Proofs.YtpbbhjifgaeklaaGreatDoor

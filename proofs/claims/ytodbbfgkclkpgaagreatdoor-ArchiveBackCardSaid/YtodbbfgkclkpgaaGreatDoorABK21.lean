/- The fields that a package is: what saysOk holds; how long they are; what the calls return. · record.Fields: what a step of it does to the fields so far. · append(dst, src...) on a row of the call's own, from a slice that may be nil: at a step of a region that draws its order. · record.Fields: the lines of a field, joined from a slice of the call's own. -/
import Derived.Test.YtodbbfgkclkpgaaGreatDoorABK20
import Derived.Test.YtodbbfgkclkpgaaGreatDoorABK17
import Derived.Test.YtodbbfgkclkpgaaGreatDoorABK7
import Derived.RegionTactic
namespace Go.Proofs.YtodbbfgkclkpgaaGreatDoor
open Go Go.RowKit

structure Pv.Ok (p : Pv) : Prop where
  n : VP.nameP p.n.data.toList = true
  v : VP.rightP p.e p.u.data.toList p.r.data.toList = true
  dep : VP.askedP (tmL p.dep) = true
  ahead : VP.askedP (tmL p.ahead) = true
  ag : VP.askedP (tmL (p.ag.map fun t => [t])) = true
  br : VP.askedP (tmL (p.br.map fun t => [t])) = true
  re : VP.askedP (tmL (p.re.map fun t => [t])) = true
  pr : VP.askedP (tmL (p.pr.map fun t => [t])) = true
  se : pathsB p.se = true
  li : pathsB p.li = true
theorem ok_of {p : Pv} (h : saysOk p = true) : p.Ok := by
  rw [says_prog] at h
  simp only [Bool.and_eq_true] at h
  obtain ⟨_, h0, h1, h2, h3, h4, h5, h6, h7, h8, h9⟩ := h
  exact ⟨h0, h1, h2, h3, by rw [flatP_eq]; exact h4, by rw [flatP_eq]; exact h5, by rw [flatP_eq]; exact h6, by rw [flatP_eq]; exact h7, h8, h9⟩

theorem paths_len {ss : List ByteArray} (h : pathsB ss = true) : ss.length ≤ 20 ∧ ∀ s ∈ ss, s.size ≤ 60 := by
  unfold pathsB VP.pathsP at h
  rw [Bool.and_eq_true, decide_eq_true_eq, List.length_map] at h
  refine ⟨h.2, fun s hs => ?_⟩
  obtain ⟨i, hi⟩ := List.mem_iff_getElem?.1 hs
  have hlt := (List.getElem?_eq_some_iff.1 hi).1
  have h1 := VP.allAt_iff.1 h.1 i hlt
  unfold VP.pathOk at h1
  rw [List.getElem?_map, hi] at h1
  simp only [Option.map_some, Bool.and_eq_true] at h1
  have h2 := h1.1
  unfold VP.pathP at h2
  simp only [Bool.and_eq_true, decide_eq_true_eq] at h2
  rw [size_eq_length]
  exact h2.1.2
theorem linesOf_len (B : Nat) : ∀ l : List (List UInt8), (∀ x ∈ l, x.length ≤ B) → (VP.linesOf l).length ≤ l.length * (B + 1)
  | [], _ => by simp [VP.linesOf]
  | x :: l, h => by
    have ih := linesOf_len B l (fun y hy => h y (.tail _ hy))
    have := h x (.head _)
    show ((10 :: x) ++ VP.linesOf l).length ≤ _
    rw [List.length_append, List.length_cons, List.length_cons, Nat.add_mul]
    omega
theorem linesS_size {ss : List ByteArray} (h : pathsB ss = true) : (linesS ss).size ≤ 2000 := by
  obtain ⟨h1, h2⟩ := paths_len h
  have := linesOf_len 60 (ss.map (·.data.toList)) (fun x hx => by
    obtain ⟨s, hs, rfl⟩ := List.mem_map.1 hx
    rw [← size_eq_length]; exact h2 s hs)
  rw [List.length_map] at this
  rw [size_eq_length]
  show (VP.linesOf (ss.map (·.data.toList))).length ≤ 2000
  omega
theorem versS_size {p : Pv} (h : p.Ok) : (versS p).size ≤ 40 := by
  have h1 := h.v
  unfold VP.rightP at h1
  simp only [Bool.and_eq_true, decide_eq_true_eq] at h1
  rw [size_eq_length]
  exact h1.2

theorem optF_mem {n v : ByteArray} {f : Fv} (h : f ∈ optF n v) : f = ⟨n, v⟩ := by
  unfold optF at h
  split at h
  · cases h
  · simpa using h
theorem fldB_sizes {p : Pv} (h : p.Ok) (hn : p.n.size ≤ 1000000) : ∀ f ∈ fldB p, f.n.size ≤ 1000000 ∧ f.v.size ≤ 1000000 := by
  have big : (200000 : Nat) ≤ 1000000 := by decide
  intro f hf
  unfold fldB fld7 fld6 fld5 fld4 fld3 fld2 fld1 at hf
  simp only [List.mem_append] at hf
  rcases hf with (((((((hf | hf) | hf) | hf) | hf) | hf) | hf) | hf) | hf
  · unfold fld0 at hf
    rcases List.mem_cons.1 hf with rfl | hf
    · exact ⟨(show nPackage.size ≤ 1000000 by decide), hn⟩
    · rw [List.mem_singleton.1 hf]
      exact ⟨(show nVersion.size ≤ 1000000 by decide), Nat.le_trans (versS_size h) (by decide)⟩
  · rw [optF_mem hf]; exact ⟨(show nDepends.size ≤ 1000000 by decide), Nat.le_trans (wholeS_size h.dep) big⟩
  · rw [optF_mem hf]; exact ⟨(show nPre.size ≤ 1000000 by decide), Nat.le_trans (wholeS_size h.ahead) big⟩
  · rw [optF_mem hf]; exact ⟨(show nConflicts.size ≤ 1000000 by decide), Nat.le_trans (wholeS_size h.ag) big⟩
  · rw [optF_mem hf]; exact ⟨(show nBreaks.size ≤ 1000000 by decide), Nat.le_trans (wholeS_size h.br) big⟩
  · rw [optF_mem hf]; exact ⟨(show nReplaces.size ≤ 1000000 by decide), Nat.le_trans (wholeS_size h.re) big⟩
  · rw [optF_mem hf]; exact ⟨(show nProvides.size ≤ 1000000 by decide), Nat.le_trans (wholeS_size h.pr) big⟩
  · rw [optF_mem hf]; exact ⟨(show nConffiles.size ≤ 1000000 by decide), Nat.le_trans (linesS_size h.se) (by decide)⟩
  · rw [optF_mem hf]; exact ⟨(show nTriggers.size ≤ 1000000 by decide), Nat.le_trans (linesS_size h.li) (by decide)⟩

/-- what record.Fields, and the reference's, answer -/
def fldE (p : Pv) : Int := if saysOk p then (if stanzaB (fldB p) then 0 else 4) else 1
def fldR (p : Pv) : List Fv := if saysOk p then (if stanzaB (fldB p) then fldB p else []) else []
def RecFieldsIs (p : Pv) (w : World) (E : Ending) (w' : World) : Prop := ∃ v', E = .returned (.tuple #[v', errV (fldE p)]) ∧ FieldsAt w' v' (fldR p) ∧ Below w.heap.size w w'
/-! the lines of a field, joined -/
theorem lines_join (ss : List ByteArray) : Lib.join (((⟨#[]⟩ : ByteArray) :: ss).map (·.data.toList)) [10] = (linesS ss).data.toList := by
  rw [joinP_eq, List.map_cons]
  exact VP.join_lines _
/-! the state of record.Fields between its calls -/
structure FSt (w1 : World) (q a : Nat) (fs : List Fv) (W : World) : Prop where
  l : LBox w1.heap.size q fs W
  b : AddBox a q W
  z : Below w1.heap.size w1 W
  ne : a ≠ q
theorem FSt.below {w1 W W' : World} {q a : Nat} {fs : List Fv} (h : FSt w1 q a fs W) (hb : Below W.heap.size W W') : FSt w1 q a fs W' :=
  ⟨h.l.below hb, boxed_below h.b hb, step_below h.z hb, h.ne⟩
theorem FSt.next {w1 W W' : World} {q a : Nat} {fs gs : List Fv} (h : FSt w1 q a fs W) (hl : LBox w1.heap.size q gs W') (hk : KeptF w1.heap.size q W W') : FSt w1 q a gs W' :=
  ⟨hl, hk.boxed h.b (by decide) h.ne, h.z.trans hk.2.1, h.ne⟩
end Go.Proofs.YtodbbfgkclkpgaaGreatDoor

namespace Go.Proofs.YtodbbfgkclkpgaaGreatDoor
open Go Go.RowKit

def StepIs (w1 : World) (q a : Nat) (fs : List Fv) (E : Ending) (W' : World) : Prop := E = .returned (.tuple #[]) ∧ FSt w1 q a fs W'
theorem FSt.terms {w1 W : World} {q a : Nat} {fs : List Fv} (h : FSt w1 q a fs W) (n s : ByteArray) (x : Value) (hP : PrintsTo x s W) (hN : fs.length ≤ 1000) :
    Calls Tryz.prog 58 #[.string n, x, .pointer (some ⟨a, 0, none⟩)] W (StepIs w1 q a (fs ++ optF n s)) :=
  (addTerms_calls n s x w1.heap.size q a fs W hP h.l h.b hN h.z.size).mono fun _ _ ⟨he, hl, hk⟩ => ⟨he, h.next hl hk⟩
theorem FSt.add {w1 W : World} {q a : Nat} {fs : List Fv} (h : FSt w1 q a fs W) (n v : ByteArray) (hN : fs.length ≤ 1000) :
    Calls Tryz.prog 57 #[.string n, .string v, .pointer (some ⟨q, 0, none⟩)] W (StepIs w1 q a (fs ++ optF n v)) :=
  (add_calls n v w1.heap.size q fs W h.l hN h.z.size).mono fun _ _ ⟨he, hl, hk⟩ => ⟨he, h.next hl hk⟩
theorem prints_to {W : World} {x : Value} {L : List (List Tv)} (hE : Env W) (hS : EnvS W) (h : AskedAt W x L) (hs : ∀ x ∈ L, ∀ t ∈ x, t.small) (h40 : ∀ x ∈ L, x.length ≤ 1000) (hyes : VP.askedP (tmL L) = true) : PrintsTo x (wholeS L) W :=
  (printT_yes x L W hE hS h hs h40 hyes).mono fun E W' h => ⟨by rw [h.1, if_pos hyes]; rfl, h.2⟩
theorem fst_new {w1 wc : World} {q : Nat} {fs : List Fv} (hl : LBox w1.heap.size q fs wc) (hz : Below w1.heap.size w1 wc) :
    FSt w1 q wc.heap.size fs (wc.alloc (.cells #[.func (.func 57) #[] #[.pointer (some ⟨q, 0, none⟩)]] 90)) := by
  obtain ⟨s, h1, _⟩ := id hl.box
  have := h1.lt
  exact ⟨hl.below (below_alloc _ _), Boxed.new _ _ _, hz.trans ((below_alloc wc _).mono hz.size), by omega⟩
theorem row_new (w : World) (B : Nat) (hB : B ≤ w.heap.size) (a b c d : ByteArray) : (w.alloc (.cells #[.string a, .string b, .string c, .string d] 69)).ownsRow B 69 2 (.slice (some ⟨w.heap.size, 0, none⟩) 2 2) 2 ([⟨a, b⟩, ⟨c, d⟩].flatMap fldC) :=
  ⟨rfl, .inr ⟨w.heap.size, 2, _, rfl, hB, heap_alloc_new w _, Nat.le_refl _, by decide, rfl, rfl⟩⟩
def FourS (w0 : World) (m : Nat) (n : ByteArray) (e : Int) (u r : ByteArray) (W : World) : Prop := W.cell? ⟨m, 0, none⟩ = some (.string n) ∧ W.cell? ⟨m, 1, none⟩ = some (.int .i64 e) ∧ W.cell? ⟨m, 2, none⟩ = some (.string u) ∧ W.cell? ⟨m, 3, none⟩ = some (.string r) ∧ Below w0.heap.size w0 W
theorem run_store_func {P : Program} {w : World} {a : Addr} {m : Mode} (f : Fn) (x y : Array Value) : (store a (.func f x y) m).run P w = stored P w a (.func f x y) m := run_store P w a _ m rfl
end Go.Proofs.YtodbbfgkclkpgaaGreatDoor

namespace Go.Proofs.YtodbbfgkclkpgaaGreatDoor
open Go Go.RowKit

section
variable {P : Program} (w : World)
theorem run_append_src (t ty : TypeId) (base : Nat) (e : TypeId) (i : TypeInfo) (z : Value) (size bytes : Nat) (ht : P.underlying t = some (.slice e)) (hi : P.info? e = some i) (hz : i.zero = some z)
    (hsize : i.size = size) (hby : i.bytes = bytes) (hzs : z.cells.size = size) (hsz : 0 < size)
    (v : Value) (n : Nat) (xs : List Value) (hown : w.ownsRow base e size v n xs)
    (y : Value) (m : Nat) (news : List Value) (hsrc : SrcIs w y m news) (hl : news.length = m * size) (h1 : ∀ u ∈ news, u.oneCell' = true)
    (h63 : n + m ≤ maxLen) (hbytes : (n + m) * bytes ≤ 140737488355328) (hbase : base ≤ w.heap.size) :
    ∃ v' w', (Builtin.append_ #[t, t] ty #[v, y]).run P w = .ok v' w' ∧ w'.ownsRow base e size v' (n + m) (xs ++ news) ∧ w.grownBy w' v.ownBlock := by
  obtain ⟨A, c, rfl, hc⟩ := hsrc
  cases A with
  | some ad =>
    obtain ⟨v', w', hr, h2, h3, _⟩ := run_append_own (P := P) w base t ty e i z size bytes ht hi hz hsize hby hzs hsz v n xs hown ad m c news hl (fun j u hj => by
      by_cases hm : m = 0
      · subst hm
        rw [Nat.zero_mul] at hl
        rw [List.eq_nil_of_length_eq_zero hl] at hj
        cases hj
      · obtain ⟨b, off, hA, hcc⟩ := hc hm
        obtain rfl := Option.some.inj hA
        rw [Go.WideShapes.add_plain]
        exact hcc j u hj) h1 h63 hbytes hbase
    exact ⟨v', w', hr, h2, h3⟩
  | none =>
    have hm0 : m = 0 := by
      by_cases hm : m = 0
      · exact hm
      · obtain ⟨b, off, hA, _⟩ := hc hm
        cases hA
    subst hm0
    rw [Nat.zero_mul] at hl
    obtain rfl := List.eq_nil_of_length_eq_zero hl
    rcases id hown.2 with ⟨rfl, rfl⟩ | ⟨g, cap, cur, rfl, hbg, hg, hnc, hcm, hcs, htake⟩
    · refine ⟨.slice none 0 0, w, ?_, by rw [List.append_nil]; exact hown, World.grownBy.refl _ _⟩
      simp [Builtin.append_, run_underlying ht, sizeOf, typeInfo, hi, Builtin.lenOf, Builtin.firstCells]
    · have hr := run_append_room_src (P := P) w t t ty e i ht hi g 0 n cap (.slice none 0 c) 0 [] (Src.ofNil w ht c) (by omega) (fun j hj => by cases hj) (fun j hj => by cases hj)
      rw [setCells_nil] at hr
      exact ⟨_, w, hr, by rw [List.append_nil]; exact hown, World.grownBy.refl _ _⟩

theorem step_append_src {ops : Array Oper} {o : Oper} {a : Act} {K : Act → World → Prop} {Q : Exit → Act → World → Prop} {E : Prop} (hgd : o.guard = none) (s x : Operand) (t : TypeId)
    (ho : o.op = .call { callee := .builtin .append, args := #[s, x], argTypes := #[t, t] })
    (base : Nat) (e : TypeId) (i : TypeInfo) (z : Value) (size bytes : Nat) (ht : P.underlying t = some (.slice e)) (hi : P.info? e = some i) (hz : i.zero = some z)
    (hsize : i.size = size) (hby : i.bytes = bytes) (hzs : z.cells.size = size) (hsz : 0 < size)
    (v : Value) (n : Nat) (xs : List Value) (hs : a.eval s = v) (hown : w.ownsRow base e size v n xs)
    (y : Value) (m : Nat) (news : List Value) (hx : a.eval x = y) (hsrc : SrcIs w y m news) (hl : news.length = m * size) (h1 : ∀ u ∈ news, u.oneCell' = true)
    (h63 : n + m ≤ maxLen) (hbytes : (n + m) * bytes ≤ 140737488355328) (hbase : base ≤ w.heap.size)
    (h : ∀ v' w', w'.ownsRow base e size v' (n + m) (xs ++ news) → w.grownBy w' v.ownBlock → K (a.put o.dst v') w') :
    if Region.wanted o (yielded ops a.tmps) = true then Oper.wp P o a w K Q else E := by
  have hw : Region.wanted o (yielded ops a.tmps) = true := by simp [Region.wanted, hgd]
  rw [if_pos hw]
  obtain ⟨v', w', hr, h2, h3⟩ := run_append_src (P := P) w t o.type base e i z size bytes ht hi hz hsize hby hzs hsz v n xs hown y m news hsrc hl h1 h63 hbytes hbase
  unfold Oper.wp execOp
  simp only [ho, resolve, invoke, builtin, Sem.run_bind, Sem.run_pure, Result.andThen_ok, List.map_toArray, List.map_cons, List.map_nil, hs, hx, hr]
  exact h v' w' h2 h3
end
end Go.Proofs.YtodbbfgkclkpgaaGreatDoor

namespace Go.Proofs.YtodbbfgkclkpgaaGreatDoor
open Go Go.RowKit

theorem row_one (W : World) : (W.alloc (.cells #[.string ⟨#[]⟩] 9)).ownsRow W.heap.size 9 1 (.slice (some ⟨W.heap.size, 0, none⟩) 1 1) 1 [.string ⟨#[]⟩] :=
  ⟨rfl, .inr ⟨W.heap.size, 1, _, rfl, Nat.le_refl _, heap_alloc_new W _, Nat.le_refl _, by decide, rfl, rfl⟩⟩

theorem strs_one (ss : List ByteArray) : ∀ u ∈ ss.flatMap strC, u.oneCell' = true := by
  intro u hu
  rw [flat_strs] at hu
  obtain ⟨s, _, rfl⟩ := List.mem_map.1 hu
  rfl
theorem strs_len (ss : List ByteArray) : (ss.flatMap strC).length = ss.length * 1 := by rw [flat_strs, List.length_map, Nat.mul_one]

theorem linesS_len {ss : List ByteArray} (h : ss.length ≤ 20 ∧ ∀ s ∈ ss, s.size ≤ 60) : (linesS ss).data.toList.length ≤ 2000 := by
  obtain ⟨h1, h2⟩ := h
  have := linesOf_len 60 (ss.map (·.data.toList)) (fun x hx => by
    obtain ⟨s, hs, rfl⟩ := List.mem_map.1 hx
    rw [← size_eq_length]; exact h2 s hs)
  rw [List.length_map] at this
  show (VP.linesOf (ss.map (·.data.toList))).length ≤ 2000
  omega
theorem joinLines (W : World) (base : Nat) (v : Value) (ss : List ByteArray) (h : W.ownsRow base 9 1 v (1 + ss.length) ([.string ⟨#[]⟩] ++ ss.flatMap strC)) (hs : ss.length ≤ 20 ∧ ∀ s ∈ ss, s.size ≤ 60) :
    Calls Tryz.prog 61 #[v, .string ⟨#[10]⟩] W fun E W' => E = .returned (.string (linesS ss)) ∧ Below W.heap.size W W' := by
  have h' : W.ownsRow base 9 1 v (1 + ss.length) (((⟨#[]⟩ : ByteArray) :: ss).map Value.string) := by rw [flat_strs] at h; exact h
  have e : Lib.join (((⟨#[]⟩ : ByteArray) :: ss).map (·.data.toList)) (⟨#[10]⟩ : ByteArray).data.toList = (linesS ss).data.toList := lines_join ss
  refine (call_join W base v _ ((⟨#[]⟩ : ByteArray) :: ss) ⟨#[10]⟩ h' (by omega) (by rw [e]; have := linesS_len hs; omega)).mono fun E W' h => ⟨?_, h.2⟩
  rw [h.1, e, mk_data]

/-- behind the append: all is as it was -/
theorem FSt.appended {w1 W W' : World} {q a : Nat} {fs : List Fv} (h : FSt w1 q a fs W) (hg : (W.alloc (.cells #[.string ⟨#[]⟩] 9)).grownBy W' (Value.slice (some ⟨W.heap.size, 0, none⟩) 1 1).ownBlock) : FSt w1 q a fs W' := by
  refine h.below ((below_alloc W _).grown hg (by rw [World.size_alloc]; omega) (fun k e => ?_))
  have e2 : W.heap.size = k := by simpa [Value.ownBlock] using e
  omega
theorem FSt.run {w1 W : World} {q a : Nat} {fs : List Fv} (h : FSt w1 q a fs W) : W.cell? ⟨a, 0, none⟩ = some (.func (.func 57) #[] #[.pointer (some ⟨q, 0, none⟩)]) :=
  (show Boxed W a 90 (.func (.func 57) #[] #[.pointer (some ⟨q, 0, none⟩)]) from h.b).cell
end Go.Proofs.YtodbbfgkclkpgaaGreatDoor

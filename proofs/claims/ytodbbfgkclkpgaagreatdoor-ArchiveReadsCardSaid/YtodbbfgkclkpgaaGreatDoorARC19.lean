/- depend.Print: the walk. · record.Fields: its closures add and terms: a field more, if it says something. · The fields that a package is: as texts; how long they are. · The fields that a package is: what saysOk holds; how long they are; what the calls return. · record.Fields: what a step of it does to the fields so far. · append(dst, src...) on a row of the call's own, from a slice that may be nil: at a step of a region that draws its order. · record.Fields: the lines of a field, joined from a slice of the call's own. · record.Fields: the walk. · The reference's Singles: of which type the blocks of what comes back are. · The reference's Fields: plain things: the fields by number; what is loaded. · The reference's Asked: may what is asked for be. -/
import Derived.Test.YtodbbfgkclkpgaaGreatDoorARC10
import Derived.Test.YtodbbfgkclkpgaaGreatDoorARC11
import Derived.Test.YtodbbfgkclkpgaaGreatDoorARC18
import Derived.Test.YtodbbfgkclkpgaaGreatDoorARC17
import Derived.Test.YtodbbfgkclkpgaaGreatDoorARC8
import Derived.RegionTactic
import Derived.Deep.RegionHeld3
import Derived.Deep.RegionWith
import Derived.Deep.DeepCutAuto
import Derived.Test.YtodbbfgkclkpgaaGreatDoorARC12
namespace Go.Proofs.YtodbbfgkclkpgaaGreatDoor
open Go.RowKit

theorem asked_sizes {L : List (List Tv)} (h : VP.askedP (tmL L) = true) : L.length ≤ 30 ∧ ∀ x ∈ L, x.length ≤ 30 ∧ ∀ t ∈ x, VP.RightT t.tm := by
  obtain ⟨h1, h2⟩ := (VP.askedP_iff _).1 h
  have hs : sumL L ≤ 30 := by
    rw [asked_eq] at h
    rw [Bool.and_eq_true] at h
    simpa using h.2
  have hx : ∀ x ∈ L, x ≠ [] ∧ ∀ t ∈ x, VP.RightT t.tm := fun x hx => by
    obtain ⟨h3, h4⟩ := h1 (x.map Tv.tm) (List.mem_map.2 ⟨x, hx, rfl⟩)
    exact ⟨by simpa using h3, fun t ht => h4 t.tm (List.mem_map.2 ⟨t, ht, rfl⟩)⟩
  have key : ∀ M : List (List Tv), (∀ x ∈ M, x ≠ []) → M.length ≤ sumL M ∧ ∀ x ∈ M, x.length ≤ sumL M := by
    intro M
    induction M with
    | nil => intro _; exact ⟨by simp [sumL], by simp⟩
    | cons y M ih =>
      intro hM
      obtain ⟨i1, i2⟩ := ih (fun z hz => hM z (.tail _ hz))
      have hy := List.length_pos_iff.2 (hM y (.head _))
      have e : sumL (y :: M) = y.length + sumL M := by simp [sumL]
      refine ⟨by rw [e, List.length_cons]; omega, fun x hx => ?_⟩
      rcases List.mem_cons.1 hx with rfl | hx
      · omega
      · have := i2 x hx; omega
  obtain ⟨k1, k2⟩ := key L (fun x h => (hx x h).1)
  exact ⟨by omega, fun x h => ⟨by have := k2 x h; omega, (hx x h).2⟩⟩

end Go.Proofs.YtodbbfgkclkpgaaGreatDoor

namespace Go.Proofs.YtodbbfgkclkpgaaGreatDoor
open Go Go.RowKit

theorem info_field : (Tryz.prog.info? 69).map (fun i => (i.zero, i.size, i.bytes)) = some (some (.agg #[.string ⟨#[]⟩, .string ⟨#[]⟩]), 2, 32) := by kernel_rfl

/-- what writing fields keeps: all below B, and all blocks that are no fields' but q -/
def KeptF (B q : Nat) (W W' : World) : Prop := W.heap.size ≤ W'.heap.size ∧ Below B W W' ∧ ∀ (j : Nat) cs t fz, W.heap[j]? = some (.cells cs t fz) → t ≠ 69 → j ≠ q → W'.heap[j]? = W.heap[j]?
theorem KeptF.refl (B q : Nat) (W : World) : KeptF B q W W := ⟨Nat.le_refl _, Below.refl _ _, fun _ _ _ _ _ _ _ => rfl⟩
theorem KeptF.of_below {B q : Nat} {W W' : World} (hb : Below W.heap.size W W') (hB : B ≤ W.heap.size) : KeptF B q W W' :=
  ⟨hb.size, hb.mono hB, fun j _ _ _ hj _ _ => hb.block j (Array.getElem?_eq_some_iff.1 hj).1⟩
theorem KeptF.trans {B q : Nat} {W W1 W2 : World} (h : KeptF B q W W1) (k : KeptF B q W1 W2) : KeptF B q W W2 :=
  ⟨Nat.le_trans h.1 k.1, h.2.1.trans k.2.1, fun j cs t fz hj ht hq => (k.2.2 j cs t fz ((h.2.2 j cs t fz hj ht hq).trans hj) ht hq).trans (h.2.2 j cs t fz hj ht hq)⟩
theorem KeptF.boxed {B q b : Nat} {W W' : World} {t : TypeId} {v : Value} (h : KeptF B q W W') (hb : Boxed W b t v) (ht : t ≠ 69) (hq : b ≠ q) : Boxed W' b t v := (h.2.2 b _ _ _ hb ht hq).trans hb

/-- the cell q holds a slice of the call's own of these fields -/
structure LBox (B q : Nat) (fs : List Fv) (W : World) : Prop where
  box : ∃ s, Boxed W q 31 s ∧ W.ownsRow B 69 2 s fs.length (fs.flatMap fldC)
  high : B ≤ q
theorem LBox.below {B q : Nat} {fs : List Fv} {W W' : World} (h : LBox B q fs W) (hb : Below W.heap.size W W') : LBox B q fs W' := by
  obtain ⟨⟨s, h1, h2⟩, hq⟩ := h
  exact ⟨⟨s, boxed_below h1 hb, own_below h2 hb⟩, hq⟩

def optF (n v : ByteArray) : List Fv := if v.size = 0 then [] else [⟨n, v⟩]
def AddIs (B q : Nat) (fs : List Fv) (n v : ByteArray) (W : World) (E : Ending) (W' : World) : Prop := E = .returned (.tuple #[]) ∧ LBox B q (fs ++ optF n v) W' ∧ KeptF B q W W'

theorem own_other {W : World} {B : Nat} {e t : TypeId} {size n j : Nat} {s : Value} {xs : List Value} {cs : Array Value} {fz : Nat × Nat} (h : W.ownsRow B e size s n xs) (hj : W.heap[j]? = some (.cells cs t fz)) (ht : t ≠ e) : some j ≠ s.ownBlock := by
  intro e'
  rcases h.2 with ⟨rfl, _⟩ | ⟨g, cap, cur, rfl, _, hk, _⟩
  · cases e'
  · have : j = g := by injection e'
    subst this
    rw [hj] at hk
    injection hk with hk
    injection hk with _ hk _
    exact ht hk

theorem cells_new2 (W : World) (n v : ByteArray) : ∀ j u, (fldC ⟨n, v⟩)[j]? = some u → (W.alloc (.cells #[.string n, .string v] 69)).cell? ((⟨W.heap.size, 0, none⟩ : Addr).add j) = some u := by
  intro j u hj
  rw [Go.WideShapes.add_plain, Nat.zero_add]
  rcases j with _ | _ | j
  · cases hj; go_cell
  · cases hj; go_cell
  · cases hj

set_option maxHeartbeats 2000000 in
set_option maxRecDepth 100000 in
theorem add_calls (n v : ByteArray) (B q : Nat) (fs : List Fv) (W : World) (h : LBox B q fs W) (hN : fs.length ≤ 1000) (hB : B ≤ W.heap.size) :
    Calls Tryz.prog 57 #[.string n, .string v, .pointer (some ⟨q, 0, none⟩)] W (AddIs B q fs n v W) := by
  by_cases hv : v.size = 0
  · have hem := isEmpty_true v hv
    have H := Lib.hid (show AddIs B q fs n v W (.returned (.tuple #[])) W from ⟨rfl, by unfold optF; rw [if_pos hv, List.append_nil]; exact h, KeptF.refl _ _ _⟩)
    clear h hv
    go_enter Tryz.func57, Tryz.ntmps57
    go_wp2_with fail
    refine bodyPost_end (results_none rfl _ _ _) rfl ?_
    exact H.out
  · have hem := isEmpty_false v (by omega)
    obtain ⟨⟨s, h1, h2⟩, hq⟩ := h
    have c0 := h1.cell
    have f0 := h1.frozen
    obtain ⟨i0, hi, hz0, hz1, hz2⟩ := info_parts info_field
    have HO := Lib.hid (show optF n v = [⟨n, v⟩] by unfold optF; rw [if_neg hv])
    clear hv
    go_enter Tryz.func57, Tryz.ntmps57
    go_wp2_with (at_builtin; refine wpList_append_own _ rfl _ _ 31 rfl B 69 i0 (.agg #[.string ⟨#[]⟩, .string ⟨#[]⟩]) 2 32 Tryz.underlying31 hi hz0 hz1 hz2 rfl (by decide) _ _ _ rfl (h2.alloc _) ⟨W.heap.size, 0, none⟩ 1 1 (fldC ⟨n, v⟩) rfl rfl (cells_new2 _ _ _) (by simp [Value.oneCell', fldC]) (by simp only [maxLen]; omega) (by omega) (by simp; omega) ?_; intro v' w3 hown3 hgrow hnil; obtain ⟨g', cap', rfl⟩ := ownsRow_succ hown3; obtain ⟨hv1, hv2, hr3, _, hzz, hfar, hbel⟩ := appended_far (B := q) h1 (by decide) h2 hown3 hgrow; have hc1 := hv1.cell; have hf1 := hv1.frozen)
    refine bodyPost_end (results_none rfl _ _ _) rfl ?_
    refine ⟨rfl, ⟨⟨_, hv2, ?_⟩, hq⟩, hzz, hbel B hB (Nat.le_refl B) hq, fun j cs t fz hj ht hjq => hfar j (Array.getElem?_eq_some_iff.1 hj).1 hjq (own_other h2 hj ht)⟩
    rw [HO.out, List.flatMap_append, List.length_append]
    simpa using hr3

/-- the cell a holds add -/
def AddBox (a q : Nat) (W : World) : Prop := Boxed W a 90 (.func (.func 57) #[] #[.pointer (some ⟨q, 0, none⟩)])
end Go.Proofs.YtodbbfgkclkpgaaGreatDoor

namespace Go.Proofs.YtodbbfgkclkpgaaGreatDoor
open Go Go.RowKit

def nPackage : ByteArray := ⟨#[80, 97, 99, 107, 97, 103, 101]⟩
def nVersion : ByteArray := ⟨#[86, 101, 114, 115, 105, 111, 110]⟩
def nDepends : ByteArray := ⟨#[68, 101, 112, 101, 110, 100, 115]⟩
def nPre : ByteArray := ⟨#[80, 114, 101, 45, 68, 101, 112, 101, 110, 100, 115]⟩
def nConflicts : ByteArray := ⟨#[67, 111, 110, 102, 108, 105, 99, 116, 115]⟩
def nBreaks : ByteArray := ⟨#[66, 114, 101, 97, 107, 115]⟩
def nReplaces : ByteArray := ⟨#[82, 101, 112, 108, 97, 99, 101, 115]⟩
def nProvides : ByteArray := ⟨#[80, 114, 111, 118, 105, 100, 101, 115]⟩
def nConffiles : ByteArray := ⟨#[67, 111, 110, 102, 102, 105, 108, 101, 115]⟩
def nTriggers : ByteArray := ⟨#[84, 114, 105, 103, 103, 101, 114, 115]⟩

end Go.Proofs.YtodbbfgkclkpgaaGreatDoor

namespace Go.Proofs.YtodbbfgkclkpgaaGreatDoor
open Go Go.RowKit

structure Pv.Ok (p : Pv) : Prop where
  n : VP.nameP p.n.data.toList = true
  v : VP.rightP p.e p.u.data.toList p.r.data.toList = true
  dep : VP.askedP (tmL p.dep) = true
  ahead : VP.askedP (tmL p.ahead) = true
  ag : VP.askedP (tmL (p.ag.map fun t => [t])) = true
  br : VP.askedP (tmL (p.br.map fun t => [t])) = true
  re : VP.askedP (tmL (p.re.map fun t => [t])) = true
  pr : VP.askedP (tmL (p.pr.map fun t => [t])) = true
  se : pathsB p.se = true
  li : pathsB p.li = true
/-! the state of record.Fields between its calls -/
structure FSt (w1 : World) (q a : Nat) (fs : List Fv) (W : World) : Prop where
  l : LBox w1.heap.size q fs W
  b : AddBox a q W
  z : Below w1.heap.size w1 W
  ne : a ≠ q
theorem FSt.below {w1 W W' : World} {q a : Nat} {fs : List Fv} (h : FSt w1 q a fs W) (hb : Below W.heap.size W W') : FSt w1 q a fs W' :=
  ⟨h.l.below hb, boxed_below h.b hb, step_below h.z hb, h.ne⟩
theorem FSt.next {w1 W W' : World} {q a : Nat} {fs gs : List Fv} (h : FSt w1 q a fs W) (hl : LBox w1.heap.size q gs W') (hk : KeptF w1.heap.size q W W') : FSt w1 q a gs W' :=
  ⟨hl, hk.boxed h.b (by decide) h.ne, h.z.trans hk.2.1, h.ne⟩
end Go.Proofs.YtodbbfgkclkpgaaGreatDoor

namespace Go.Proofs.YtodbbfgkclkpgaaGreatDoor
open Go Go.RowKit

def StepIs (w1 : World) (q a : Nat) (fs : List Fv) (E : Ending) (W' : World) : Prop := E = .returned (.tuple #[]) ∧ FSt w1 q a fs W'
theorem FSt.add {w1 W : World} {q a : Nat} {fs : List Fv} (h : FSt w1 q a fs W) (n v : ByteArray) (hN : fs.length ≤ 1000) :
    Calls Tryz.prog 57 #[.string n, .string v, .pointer (some ⟨q, 0, none⟩)] W (StepIs w1 q a (fs ++ optF n v)) :=
  (add_calls n v w1.heap.size q fs W h.l hN h.z.size).mono fun _ _ ⟨he, hl, hk⟩ => ⟨he, h.next hl hk⟩
theorem run_store_func {P : Program} {w : World} {a : Addr} {m : Mode} (f : Fn) (x y : Array Value) : (store a (.func f x y) m).run P w = stored P w a (.func f x y) m := run_store P w a _ m rfl
end Go.Proofs.YtodbbfgkclkpgaaGreatDoor

namespace Go.Proofs.YtodbbfgkclkpgaaGreatDoor
open Go Go.RowKit

section
variable {P : Program} (w : World)
theorem run_append_src (t ty : TypeId) (base : Nat) (e : TypeId) (i : TypeInfo) (z : Value) (size bytes : Nat) (ht : P.underlying t = some (.slice e)) (hi : P.info? e = some i) (hz : i.zero = some z)
    (hsize : i.size = size) (hby : i.bytes = bytes) (hzs : z.cells.size = size) (hsz : 0 < size)
    (v : Value) (n : Nat) (xs : List Value) (hown : w.ownsRow base e size v n xs)
    (y : Value) (m : Nat) (news : List Value) (hsrc : SrcIs w y m news) (hl : news.length = m * size) (h1 : ∀ u ∈ news, u.oneCell' = true)
    (h63 : n + m ≤ maxLen) (hbytes : (n + m) * bytes ≤ 140737488355328) (hbase : base ≤ w.heap.size) :
    ∃ v' w', (Builtin.append_ #[t, t] ty #[v, y]).run P w = .ok v' w' ∧ w'.ownsRow base e size v' (n + m) (xs ++ news) ∧ w.grownBy w' v.ownBlock := by
  obtain ⟨A, c, rfl, hc⟩ := hsrc
  cases A with
  | some ad =>
    obtain ⟨v', w', hr, h2, h3, _⟩ := run_append_own (P := P) w base t ty e i z size bytes ht hi hz hsize hby hzs hsz v n xs hown ad m c news hl (fun j u hj => by
      by_cases hm : m = 0
      · subst hm
        rw [Nat.zero_mul] at hl
        rw [List.eq_nil_of_length_eq_zero hl] at hj
        cases hj
      · obtain ⟨b, off, hA, hcc⟩ := hc hm
        obtain rfl := Option.some.inj hA
        rw [Go.WideShapes.add_plain]
        exact hcc j u hj) h1 h63 hbytes hbase
    exact ⟨v', w', hr, h2, h3⟩
  | none =>
    have hm0 : m = 0 := by
      by_cases hm : m = 0
      · exact hm
      · obtain ⟨b, off, hA, _⟩ := hc hm
        cases hA
    subst hm0
    rw [Nat.zero_mul] at hl
    obtain rfl := List.eq_nil_of_length_eq_zero hl
    rcases id hown.2 with ⟨rfl, rfl⟩ | ⟨g, cap, cur, rfl, hbg, hg, hnc, hcm, hcs, htake⟩
    · refine ⟨.slice none 0 0, w, ?_, by rw [List.append_nil]; exact hown, World.grownBy.refl _ _⟩
      simp [Builtin.append_, run_underlying ht, sizeOf, typeInfo, hi, Builtin.lenOf, Builtin.firstCells]
    · have hr := run_append_room_src (P := P) w t t ty e i ht hi g 0 n cap (.slice none 0 c) 0 [] (Src.ofNil w ht c) (by omega) (fun j hj => by cases hj) (fun j hj => by cases hj)
      rw [setCells_nil] at hr
      exact ⟨_, w, hr, by rw [List.append_nil]; exact hown, World.grownBy.refl _ _⟩

theorem step_append_src {ops : Array Oper} {o : Oper} {a : Act} {K : Act → World → Prop} {Q : Exit → Act → World → Prop} {E : Prop} (hgd : o.guard = none) (s x : Operand) (t : TypeId)
    (ho : o.op = .call { callee := .builtin .append, args := #[s, x], argTypes := #[t, t] })
    (base : Nat) (e : TypeId) (i : TypeInfo) (z : Value) (size bytes : Nat) (ht : P.underlying t = some (.slice e)) (hi : P.info? e = some i) (hz : i.zero = some z)
    (hsize : i.size = size) (hby : i.bytes = bytes) (hzs : z.cells.size = size) (hsz : 0 < size)
    (v : Value) (n : Nat) (xs : List Value) (hs : a.eval s = v) (hown : w.ownsRow base e size v n xs)
    (y : Value) (m : Nat) (news : List Value) (hx : a.eval x = y) (hsrc : SrcIs w y m news) (hl : news.length = m * size) (h1 : ∀ u ∈ news, u.oneCell' = true)
    (h63 : n + m ≤ maxLen) (hbytes : (n + m) * bytes ≤ 140737488355328) (hbase : base ≤ w.heap.size)
    (h : ∀ v' w', w'.ownsRow base e size v' (n + m) (xs ++ news) → w.grownBy w' v.ownBlock → K (a.put o.dst v') w') :
    if Region.wanted o (yielded ops a.tmps) = true then Oper.wp P o a w K Q else E := by
  have hw : Region.wanted o (yielded ops a.tmps) = true := by simp [Region.wanted, hgd]
  rw [if_pos hw]
  obtain ⟨v', w', hr, h2, h3⟩ := run_append_src (P := P) w t o.type base e i z size bytes ht hi hz hsize hby hzs hsz v n xs hown y m news hsrc hl h1 h63 hbytes hbase
  unfold Oper.wp execOp
  simp only [ho, resolve, invoke, builtin, Sem.run_bind, Sem.run_pure, Result.andThen_ok, List.map_toArray, List.map_cons, List.map_nil, hs, hx, hr]
  exact h v' w' h2 h3
end
end Go.Proofs.YtodbbfgkclkpgaaGreatDoor

namespace Go.Proofs.YtodbbfgkclkpgaaGreatDoor
open Go Go.RowKit

theorem FSt.run {w1 W : World} {q a : Nat} {fs : List Fv} (h : FSt w1 q a fs W) : W.cell? ⟨a, 0, none⟩ = some (.func (.func 57) #[] #[.pointer (some ⟨q, 0, none⟩)]) :=
  (show Boxed W a 90 (.func (.func 57) #[] #[.pointer (some ⟨q, 0, none⟩)]) from h.b).cell
end Go.Proofs.YtodbbfgkclkpgaaGreatDoor

namespace Go.Proofs.YtodbbfgkclkpgaaGreatDoor
open Go Go.RowKit

theorem cell_alloc2 (w : World) (o : Obj) (c : Array Value) (t : TypeId) (i : Nat) : ((w.alloc (.cells c t)).alloc o).cell? ⟨w.heap.size, i, none⟩ = c[i]? := by
  rw [World.cell?_alloc_old _ _ _ (by simp), World.cell?_alloc_new]
theorem frozen_alloc2 (w : World) (o : Obj) (c : Array Value) (t : TypeId) (i : Nat) : ((w.alloc (.cells c t)).alloc o).frozen? ⟨w.heap.size, i, none⟩ = false := by
  rw [World.frozen?_alloc_old _ _ _ (by simp), World.frozen?_alloc_new]
attribute [local go_sem] run_store_func
attribute [local go_sem] cell_alloc2 frozen_alloc2
attribute [local simp] cell_alloc2 frozen_alloc2

end Go.Proofs.YtodbbfgkclkpgaaGreatDoor

namespace Go.Proofs.YtodbbfgkclkpgaaGreatDoor
open Go Go.RowKit

/-- the blocks of lists of terms: below B0, or of another type than fields' -/
def Ty (W : World) (B0 b : Nat) : Prop := b < B0 ∨ ∃ cs t fz, W.heap[b]? = some (.cells cs t fz) ∧ t ≠ 69
/-- what appending fields keeps: the blocks below B0, and those of other types -/
structure KeptT (B0 : Nat) (W W' : World) : Prop where
  size : W.heap.size ≤ W'.heap.size
  below : Below B0 W W'
  others : ∀ (j : Nat) cs t fz, W.heap[j]? = some (.cells cs t fz) → t ≠ 69 → W'.heap[j]? = W.heap[j]?
theorem KeptT.refl (B0 : Nat) (W : World) : KeptT B0 W W := ⟨Nat.le_refl _, Below.refl _ _, fun _ _ _ _ _ _ => rfl⟩
theorem KeptT.of_below {B0 : Nat} {W W' : World} (hb : Below W.heap.size W W') (hB : B0 ≤ W.heap.size) : KeptT B0 W W' :=
  ⟨hb.size, hb.mono hB, fun j _ _ _ hj _ => hb.block j (Array.getElem?_eq_some_iff.1 hj).1⟩
theorem KeptT.trans {B0 : Nat} {W W1 W2 : World} (h : KeptT B0 W W1) (k : KeptT B0 W1 W2) : KeptT B0 W W2 :=
  ⟨Nat.le_trans h.size k.size, h.below.trans k.below, fun j cs t fz hj ht => (k.others j cs t fz ((h.others j cs t fz hj ht).trans hj) ht).trans (h.others j cs t fz hj ht)⟩
theorem KeptT.grown {B0 : Nat} {W W' : World} {s : Value} {n size : Nat} {xs : List Value} (ho : W.ownsRow B0 69 size s n xs) (hg : W.grownBy W' s.ownBlock) (hB : B0 ≤ W.heap.size) : KeptT B0 W W' :=
  ⟨hg.size, (Below.refl B0 W).grown hg hB (fun g e => (ho.lt g e).1), fun j _ _ _ hj ht => hg.block j (Array.getElem?_eq_some_iff.1 hj).1 (own_other ho hj ht)⟩
theorem KeptT.block {B0 b : Nat} {W W' : World} (h : KeptT B0 W W') (ht : Ty W B0 b) : W'.heap[b]? = W.heap[b]? := by
  rcases ht with h1 | ⟨cs, t, fz, h1, h2⟩
  · exact h.below.block b h1
  · exact h.others b cs t fz h1 h2
theorem cell_heap {W W' : World} {a : Addr} (h : W'.heap[a.block]? = W.heap[a.block]?) : W'.cell? a = W.cell? a := by
  unfold World.cell?
  rw [h]
theorem KeptT.cell {B0 : Nat} {W W' : World} {a : Addr} {v : Value} (h : KeptT B0 W W') (hc : W.cell? a = some v) (ht : Ty W B0 a.block) : W'.cell? a = some v :=
  (cell_heap (h.block ht)).trans hc
theorem KeptT.ty {B0 b : Nat} {W W' : World} (h : KeptT B0 W W') (ht : Ty W B0 b) : Ty W' B0 b := by
  rcases ht with h1 | ⟨cs, t, fz, h1, h2⟩
  · exact .inl h1
  · exact .inr ⟨cs, t, fz, (h.others b cs t fz h1 h2).trans h1, h2⟩
end Go.Proofs.YtodbbfgkclkpgaaGreatDoor

namespace Go.Proofs.YtodbbfgkclkpgaaGreatDoor
open Go Go.RowKit

theorem Ty.below {W W' : World} {B0 b : Nat} (h : Ty W B0 b) (hb : Below W.heap.size W W') (hle : B0 ≤ W.heap.size) : Ty W' B0 b := (KeptT.of_below hb hle).ty h
end Go.Proofs.YtodbbfgkclkpgaaGreatDoor

namespace Go.Proofs.YtodbbfgkclkpgaaGreatDoor
open Go.RowKit

/-- what the reference finds wrong of a term -/
theorem wrong_ref (t : Tv) : wrongT t = (!VP.nameP t.n.data.toList || !inB t.op 0 5 || (decide (t.op = 0) && !(decide (t.e = 0) && decide (t.u.data.toList = []) && decide (t.r.data.toList = []))) || (!decide (t.op = 0) && !VP.rightP t.e t.u.data.toList t.r.data.toList)) := by
  unfold wrongT VP.rightT inB
  show (!(VP.nameP t.n.data.toList && (if t.op = 0 then decide (t.e = 0) && decide (t.u.data.toList = []) && decide (t.r.data.toList = []) else decide (0 ≤ t.op) && decide (t.op ≤ 5) && VP.rightP t.e t.u.data.toList t.r.data.toList))) = _
  by_cases h0 : t.op = 0
  · rw [if_pos h0, decide_eq_true h0, h0]
    cases VP.nameP t.n.data.toList <;> simp
  · rw [if_neg h0, decide_eq_false h0]
    cases VP.nameP t.n.data.toList <;> cases decide (0 ≤ t.op) <;> cases decide (t.op ≤ 5) <;> simp

set_option maxHeartbeats 2000000 in
set_option maxRecDepth 100000 in
theorem refAsked_calls (v : Value) (L : List (List Tv)) (w : World) (hE : Env w) (h : AskedAt w v L) (hs : ∀ x ∈ L, ∀ t ∈ x, t.small) (h40 : ∀ x ∈ L, x.length ≤ 1000) :
    Calls Tryz.prog 72 #[v] w (BoolIs (VP.askedP (tmL L)) w) := by
  have F := Lib.hid (asked_eq L)
  obtain ⟨A, c, rfl, hc, hm, hr⟩ := h
  obtain ⟨len, hlen⟩ : ∃ len, L.length = len := ⟨_, rfl⟩
  have HL := Lib.hid hlen
  have HS := Lib.hid hs
  have H40 := Lib.hid h40
  have HR := Lib.hid hr
  rw [hlen] at hc hm ⊢
  clear hlen hr hs h40
  go_enter Tryz.func72, Tryz.ntmps72
  go_wp2_with fail
  go_loopw [3, 10] (fun n i wr => ∃ k m : Nat, k ≤ len ∧ i = .int .i64 k ∧ n = .int .i64 m ∧ m ≤ 30 ∧ Hid (m = sumL (L.take k)) ∧ Hid ((L.take k).all goodL = true) ∧ Below w.heap.size w wr) (fun _ i _ => len - (intOf i).toNat)
  case atStart => exact ⟨0, 0, Nat.zero_le _, rfl, rfl, by omega, rfl, rfl, Below.refl _ _⟩
  case round =>
    obtain ⟨k, m, hk, rfl, rfl, hm30, hsum, hall, hB⟩ := hrel
    by_cases hlt : k < len
    · have hne : L ≠ [] := by
        intro e
        have := HL.out
        rw [e] at this
        simp at this
        omega
      obtain ⟨x, hx⟩ : ∃ x, L[k]? = some x := ⟨L[k]'(by have := HL.out; omega), List.getElem?_eq_getElem _⟩
      obtain ⟨b, off, rfl, hi⟩ := HR.out hne
      obtain ⟨vx, hc0, hT⟩ := hi k x hx
      clear hi hne
      have hT1 := hT.below hB
      have c0 := kept hB hc0
      have HX := Lib.hid hx
      have HSX := Lib.hid (HS.out x (List.mem_of_getElem? hx))
      have HN := Lib.hid (sumL_take_succ hx)
      have HN2 := Lib.hid (sumL_take_le L (k + 1))
      obtain ⟨A', c', rfl, hc', hm', hr'⟩ := hT1
      have HR' := Lib.hid hr'
      clear hx hc0 hT hr'
      have hx1000 := H40.out x (List.mem_of_getElem? HX.out)
      obtain ⟨xl, hxl⟩ : ∃ xl, x.length = xl := ⟨_, rfl⟩
      have HXL := Lib.hid hxl
      rw [hxl] at hc' hm' hx1000 c0
      clear hxl hm'
      by_cases hx0 : xl = 0
      · have HB : Hid (goodL x = false) := by
          have e : x = [] := List.eq_nil_of_length_eq_zero (HXL.out.trans hx0)
          unfold goodL
          rw [e]; exact rfl
        have hxb : ((xl : Int) == 0) = true := by rw [beq_iff_eq]; omega
        clear hx0
        go_wp2_with fail
        go_ret
        exact ⟨ret_bool (by rw [F.out, all_stop HX.out HB.out]; rfl), hB⟩
      · have hxb : ((xl : Int) == 0) = false := by rw [beq_eq_false_iff_ne]; omega
        have HNE : Hid (x.isEmpty = false) := by
          cases x with
          | nil => exact absurd HXL.out.symm hx0
          | cons _ _ => exact rfl
        clear hx0
        by_cases hn : 30 < m + xl
        · have hnb : decide ((30 : Int) < (m : Int) + (xl : Int)) = true := decide_eq_true (by omega)
          have hover : Hid (sumL L ≤ 30 → False) := fun h => by
            have h1 := HN.out
            have h2 := HN2.out
            have h3 := hsum.out
            have h4 := HXL.out
            omega
          go_wp2_with fail
          go_ret
          exact ⟨ret_bool (by rw [F.out, decide_eq_false (fun h => hover.out h)]; simp), hB⟩
        · have hnb : decide ((30 : Int) < (m : Int) + (xl : Int)) = false := decide_eq_false (by omega)
          obtain ⟨wo, rfl⟩ : ∃ wo : World, wo = wr := ⟨_, rfl⟩
          have HBo := Lib.hid hB
          go_wp2_with fail
          clear c0
          go_loopw [27] (fun i wr => ∃ j : Nat, j ≤ xl ∧ i = .int .i64 j ∧ Hid ((x.take j).any wrongT = false) ∧ Below w.heap.size w wr ∧ Below wo.heap.size wo wr) (fun i _ => xl - (intOf i).toNat)
          case atStart => exact ⟨0, Nat.zero_le _, rfl, rfl, HBo.out, Below.refl _ _⟩
          case round =>
            obtain ⟨j, hj, rfl, hany, hB, hBo⟩ := hrel
            by_cases hjt : j < xl
            · obtain ⟨t, ht⟩ : ∃ t, x[j]? = some t := ⟨x[j]'(by have := HXL.out; omega), List.getElem?_eq_getElem _⟩
              have hxne : x ≠ [] := by
                intro e
                have := HXL.out
                rw [e] at this
                simp at this
                omega
              obtain ⟨b', off', rfl, hi⟩ := HR'.out hxne
              obtain ⟨hT0, hok⟩ := hi j t ht
              clear hi hxne
              obtain ⟨hs1, hs2, hs3, hk1, hk2, hk3, hk4⟩ := HSX.out t (List.mem_of_getElem? ht)
              have hT := hT0.below hBo
              have HT := Lib.hid ht
              have HW := Lib.hid (wrong_ref t)
              have hE1 := hE.below hB
              obtain ⟨n, op, e, u, r⟩ := t
              obtain ⟨c0, c1, c2, c3, c4⟩ := hT
              dsimp only at c0 c1 c2 c3 c4 HW hs1 hs2 hs3 hk1 hk2 hk3 hk4
              clear ht hT0 hok
              have hb1 := below_alloc wr (.cells #[.string n, .int .i64 op, .int .i64 e, .string u, .string r] 99)
              have hB1 := step_below hB hb1
              have hBo1 := step_below hBo hb1
              replace hE1 := hE1.below hb1
              have HBk := Lib.hid hB
              have HBok := Lib.hid hBo
              clear hb1 hB hBo
              have hd : VP.nameP n.data.toList = true ∨ VP.nameP n.data.toList = false := by cases VP.nameP n.data.toList <;> simp
              have hin : inB op 0 5 = true ∨ inB op 0 5 = false := by cases inB op 0 5 <;> simp
              go_wp2_with fail
              refine (packName_calls n _ (by omega)).mono ?_
              rintro E w1 ⟨rfl, rfl⟩
              rcases hd with hd | hd
              · have HD := Lib.hid hd
                rw [hd]
                clear hd
                go_wp2_with fail
                refine (in_calls op 0 5 _).mono ?_
                rintro E w1 ⟨rfl, rfl⟩
                rcases hin with hin | hin
                · have HI := Lib.hid hin
                  rw [hin]
                  clear hin
                  go_wp2_with fail
                  · have hw : wrongT ⟨n, op, e, u, r⟩ = false := by rw [HW.out, HD.out, HI.out, ← Lib.toList_data, ← Lib.toList_data]; simp [*]
                    go_roundw
                    case rel => exact ⟨j + 1, by omega, by go_num, Lib.hid (any_take_succ hany.out HT.out hw), step_below HBk.out (below_alloc _ _), step_below HBok.out (below_alloc _ _)⟩
                    case measure => simp [intOf]; omega
                  · have hw : wrongT ⟨n, op, e, u, r⟩ = true := by rw [HW.out, HD.out, HI.out, ← Lib.toList_data, ← Lib.toList_data]; simp [*]
                    have HB : Hid (goodL x = false) := by unfold goodL; rw [any_stop HT.out hw]; simp; exact trivial
                    go_ret
                    exact ⟨ret_bool (by rw [F.out, all_stop HX.out HB.out]; rfl), step_below HBk.out (below_alloc _ _)⟩
                  · have hw : wrongT ⟨n, op, e, u, r⟩ = true := by rw [HW.out, HD.out, HI.out, ← Lib.toList_data, ← Lib.toList_data]; simp [*]
                    have HB : Hid (goodL x = false) := by unfold goodL; rw [any_stop HT.out hw]; simp; exact trivial
                    go_ret
                    exact ⟨ret_bool (by rw [F.out, all_stop HX.out HB.out]; rfl), step_below HBk.out (below_alloc _ _)⟩
                  · have hw : wrongT ⟨n, op, e, u, r⟩ = true := by rw [HW.out, HD.out, HI.out, ← Lib.toList_data, ← Lib.toList_data]; simp [*]
                    have HB : Hid (goodL x = false) := by unfold goodL; rw [any_stop HT.out hw]; simp; exact trivial
                    go_ret
                    exact ⟨ret_bool (by rw [F.out, all_stop HX.out HB.out]; rfl), step_below HBk.out (below_alloc _ _)⟩
                  · have hne0 : ¬ op = 0 := by assumption
                    have HNE0 := Lib.hid hne0
                    have hv : VP.rightP e u.data.toList r.data.toList = true ∨ VP.rightP e u.data.toList r.data.toList = false := by cases VP.rightP e u.data.toList r.data.toList <;> simp
                    refine (refRight_calls e u r _ hE1 hk1 hk2 (by omega) (by omega)).mono ?_
                    rintro E w2 ⟨rfl, hb⟩
                    have hB2 := step_below hB1 hb
                    have hBo2 := step_below hBo1 hb
                    clear hb
                    rcases hv with hv | hv
                    · have HV := Lib.hid hv
                      rw [hv]
                      clear hv
                      go_wp2_with fail
                      go_roundw
                      case rel => exact ⟨j + 1, by omega, by go_num, Lib.hid (any_take_succ hany.out HT.out (by rw [HW.out, HD.out, HI.out, HV.out, decide_eq_false HNE0.out]; rfl)), hB2, hBo2⟩
                      case measure => simp [intOf]; omega
                    · have HV := Lib.hid hv
                      rw [hv]
                      clear hv
                      have HB : Hid (goodL x = false) := by unfold goodL; rw [any_stop HT.out (by rw [HW.out, HD.out, HI.out, HV.out, decide_eq_false HNE0.out]; rfl)]; simp; exact trivial
                      go_wp2_with fail
                      go_ret
                      exact ⟨ret_bool (by rw [F.out, all_stop HX.out HB.out]; rfl), hB2⟩
                · have HB : Hid (goodL x = false) := by unfold goodL; rw [any_stop HT.out (by rw [HW.out, hin]; simp)]; simp; exact trivial
                  rw [hin]
                  clear hin
                  go_wp2_with fail
                  go_ret
                  exact ⟨ret_bool (by rw [F.out, all_stop HX.out HB.out]; rfl), hB1⟩
              · have HB : Hid (goodL x = false) := by unfold goodL; rw [any_stop HT.out (by rw [HW.out, hd]; simp)]; simp; exact trivial
                rw [hd]
                clear hd
                go_wp2_with fail
                go_ret
                exact ⟨ret_bool (by rw [F.out, all_stop HX.out HB.out]; rfl), hB1⟩
            · obtain rfl : j = xl := by omega
              have HB : Hid (goodL x = true) := by
                have h1 := hany.out
                rw [← HXL.out] at h1
                unfold goodL; rw [any_done h1, HNE.out]; exact rfl
              go_wp2_with fail
              go_roundw
              case rel => exact ⟨k + 1, m + j, by omega, by go_num, by go_num, by omega, Lib.hid (by rw [HN.out, ← hsum.out, HXL.out]), Lib.hid (all_take_succ hall.out HX.out HB.out), hB⟩
              case measure => simp [intOf]; omega
    · obtain rfl : k = len := by omega
      go_wp2_with fail
      go_ret
      refine ⟨ret_bool ?_, hB⟩
      have h1 := hall.out
      have h2 := hsum.out
      rw [← HL.out] at h1
      rw [← HL.out, List.take_length] at h2
      rw [F.out, all_done h1, decide_eq_true (by omega)]
      rfl
end Go.Proofs.YtodbbfgkclkpgaaGreatDoor

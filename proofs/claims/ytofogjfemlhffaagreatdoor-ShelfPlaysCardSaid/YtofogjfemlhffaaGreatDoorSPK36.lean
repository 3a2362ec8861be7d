/- stevedorekeep.apart: no path is two packages', or lies beneath another package's: walked. · ShelfOwns: what a package that may be gives; the state of the loop. Plain. · The reference's Edit. · ShelfPlays: plain: what both shelves' calls give, alike. · The frame of a law: what is the same for every statement of this seat. · What comes in: the library's variables out of the row's list; a version. -/
import Derived.Test.YtofogjfemlhffaaGreatDoorSPK8
import Derived.Test.YtofogjfemlhffaaGreatDoorSPK24
import Derived.Test.YtofogjfemlhffaaGreatDoorSPK27
import Derived.Test.YtofogjfemlhffaaGreatDoorSPK13
import Derived.Test.YtofogjfemlhffaaGreatDoorSPK25
import Derived.Test.YtofogjfemlhffaaGreatDoorSPK35
import Derived.Test.YtofogjfemlhffaaGreatDoorSPK1
import Derived.HandedShaped
import Derived.PinnedBridge
import Derived.Lay
import Derived.SevenTiedAt
import Derived.Lib.LaidTab
import Derived.Lib.LaidU8
import Derived.Test.YtofogjfemlhffaaGreatDoorRows
namespace Go.Proofs.YtofogjfemlhffaaGreatDoor
open Go Go.RowKit Go.Maps

/-- whose the paths of these owners are -/
def FillIs (M Mf : Fm) (own : List ByteArray) : Prop := ∀ q n, getF Mf q = some n ↔ (n ∈ own ∧ q ∈ pathsM M n)
/-- .. and these of one more -/
def FillIn (M Mf : Fm) (own : List ByteArray) (x : ByteArray) (ps : List ByteArray) : Prop := ∀ q n, getF Mf q = some n ↔ ((n ∈ own ∧ q ∈ pathsM M n) ∨ (n = x ∧ q ∈ ps))
theorem FillIs.start {M Mf : Fm} {own : List ByteArray} (h : FillIs M Mf own) (x : ByteArray) : FillIn M Mf own x [] := fun q n => by
  rw [h q n]
  exact ⟨fun h => .inl h, fun h => h.elim id fun h => by cases h.2⟩
theorem FillIn.done {M Mf : Fm} {own : List ByteArray} {x : ByteArray} (h : FillIn M Mf own x (pathsM M x)) : FillIs M Mf (own ++ [x]) := fun q n => by
  rw [h q n, List.mem_append, List.mem_singleton]
  constructor
  · rintro (⟨h1, h2⟩ | ⟨rfl, h2⟩)
    · exact ⟨.inl h1, h2⟩
    · exact ⟨.inr rfl, h2⟩
  · rintro ⟨h1 | rfl, h2⟩
    · exact .inl ⟨h1, h2⟩
    · exact .inr ⟨rfl, h2⟩
theorem FillIn.none {M Mf : Fm} {own ps : List ByteArray} {x q : ByteArray} (h : FillIn M Mf own x ps) (hI : OwnInv M) (hx : x ∉ own) (hq : q ∈ pathsM M x) (hp : q ∉ ps) : getF Mf q = Option.none := by
  cases hg : getF Mf q with
  | none => rfl
  | some n =>
    rcases (h q n).1 hg with ⟨h1, h2⟩ | ⟨_, h2⟩
    · exact absurd h2 (hI.one x n q (fun e => hx (by rw [e]; exact h1)) hq)
    · exact absurd h2 hp
theorem FillIn.step {M Mf : Fm} {own ps : List ByteArray} {x q : ByteArray} (h : FillIn M Mf own x ps) (hn : getF Mf q = Option.none) : FillIn M (putF Mf q x) own x (ps ++ [q]) := fun r n => by
  rw [getF_put, List.mem_append, List.mem_singleton]
  by_cases e : r = q
  · subst e
    rw [if_pos rfl]
    constructor
    · intro h'
      exact .inr ⟨(Option.some.inj h').symm, .inr rfl⟩
    · rintro (h' | ⟨rfl, _⟩)
      · have := (h r n).2 (.inl h')
        rw [hn] at this
        cases this
      · rfl
  · rw [if_neg e, h r n]
    constructor
    · rintro (h' | ⟨h1, h2⟩)
      · exact .inl h'
      · exact .inr ⟨h1, .inl h2⟩
    · rintro (h' | ⟨h1, h2 | h2⟩)
      · exact .inl h'
      · exact .inr ⟨h1, h2⟩
      · exact absurd h2 e

end Go.Proofs.YtofogjfemlhffaaGreatDoor

namespace Go.Proofs.YtofogjfemlhffaaGreatDoor
open Go Go.RowKit Go.Maps

theorem arch_files_fit {p : Pv} (h : archB p = true) : FilesFit p.fi := by
  unfold archB at h
  simp only [Bool.and_eq_true] at h
  have hf := VP.allAt_iff.1 h.2.2.1
  have key : ∀ i (f : Fv), p.fi[i]? = some f → VP.pathP f.n.data.toList = true ∧ ∀ k (g : Fv), p.fi[k]? = some g → pairOk f i g k = true := fun i f hi => by
    have h1 := hf i (List.getElem?_eq_some_iff.1 hi).1
    unfold fileAt at h1
    rw [hi] at h1
    simp only [Bool.and_eq_true] at h1
    refine ⟨h1.1, fun k g hk => ?_⟩
    have h2 := VP.allAt_iff.1 h1.2 k (List.getElem?_eq_some_iff.1 hk).1
    rw [hk] at h2
    exact h2
  refine ⟨?_, fun f hm => ?_⟩
  · rw [List.Nodup, List.pairwise_map, List.pairwise_iff_getElem]
    intro i j hi hj hij e
    have h1 := (key i _ (List.getElem?_eq_getElem hi)).2 j _ (List.getElem?_eq_getElem hj)
    unfold pairOk clashB at h1
    rw [decide_eq_false (by omega), decide_eq_true e.symm] at h1
    exact absurd h1 (by simp)
  · obtain ⟨i, hi⟩ := List.mem_iff_getElem?.1 hm
    exact (key i f hi).1
theorem arch_name {p : Pv} (h : archB p = true) : p.n.size ≠ 0 := by
  unfold archB at h
  simp only [Bool.and_eq_true] at h
  have h1 := h.1
  rw [says_prog] at h1
  simp only [Bool.and_eq_true] at h1
  intro e
  have h2 := h1.2.1
  rw [eq_empty _ e] at h2
  exact absurd h2 (by decide +kernel)
structure SaysFit (p : Pv) : Prop where
  n : p.n.size ≤ 60
  se : ∀ s ∈ p.se, s.size ≤ 100
  sen : p.se.length ≤ 40
  fi : ∀ f ∈ p.fi, f.n.size ≤ 100 ∧ f.v.size ≤ 500
  fin : p.fi.length ≤ 30
theorem says_fit {p : Pv} (h : saysB p = true) : SaysFit p := by
  unfold saysB at h
  simp only [Bool.and_eq_true, decide_eq_true_eq] at h
  obtain ⟨k0, k1, k2, k3, k4, k5, k6, k7, k8, k9, k10⟩ := h
  unfold textsB at k8
  unfold filesB at k10
  simp only [Bool.and_eq_true, decide_eq_true_eq, List.all_eq_true] at k8 k10
  exact ⟨k0, k8.2, k8.1, k10.2, k10.1⟩
theorem says_lines {p : Pv} (h : SaysFit p) : (linesT (p.fi.map (·.n))).size ≤ 3100 := by
  have h1 := lines_le 100 (p.fi.map (·.n)) fun s hs => by
    obtain ⟨f, hf, rfl⟩ := List.mem_map.1 hs
    exact (h.fi f hf).1
  rw [List.length_map] at h1
  have := h.fin
  have h2 : p.fi.length * (100 + 1) ≤ 30 * 101 := Nat.mul_le_mul this (Nat.le_refl _)
  omega

/-- the state of the loop: before round k -/
structure OwnsSt (k : Nat) (D : Dk) : Prop where
  calm : Calm D
  inv : OwnInv D.now
  len : D.now.length ≤ k * 100
  fit : FitD (1000 + k * 20000) D
theorem OwnsSt.small {k : Nat} {D : Dk} (h : OwnsSt k D) (hk : k ≤ 15) : FitD 400000 D := h.fit.mono (by omega)
theorem OwnsSt.paths {k : Nat} {D : Dk} (h : OwnsSt k D) : ∀ n, ∀ q ∈ pathsD D n, q.size ≤ 60 := fun n q hq => (path_no (h.inv.path n q hq)).2.1
theorem OwnsSt.next {k : Nat} {D : Dk} (h : OwnsSt k D) : OwnsSt (k + 1) D := ⟨h.calm, h.inv, by have := h.len; omega, h.fit.mono (by omega)⟩
/-- a package is put: the first time, and once more -/
theorem OwnsSt.put {k : Nat} {D : Dk} (h : OwnsSt k D) (hk : k ≤ 15) {p : Pv} (hs : SaysFit p) (ha : archB p = true) (tk : ByteArray → Bool) (hc : ¬ 0 ≤ (clashD D p.n tk p.fi).1) :
    Goes (putFD D p.n p.se p.fi []) (putM D.now p.n p.se p.fi []) ∧ OwnInv (putM D.now p.n p.se p.fi []) ∧ (putM D.now p.n p.se p.fi []).length ≤ k * 100 + 61 ∧ FitD (1000 + k * 20000 + 4000) (putFD D p.n p.se p.fi []).2 ∧
    (∀ f ∈ p.fi, f.n ∈ pathsM (putM D.now p.n p.se p.fi []) p.n) ∧ (∀ f ∈ p.fi, hasB p.se f.n = false → getF (putM D.now p.n p.se p.fi []) (thP ++ f.n) = some f.v) ∧ putM (putM D.now p.n p.se p.fi []) p.n p.se p.fi [] = putM D.now p.n p.se p.fi [] := by
  have hff := arch_files_fit ha
  have hn : p.n.size ≤ 60 ∧ p.n.size ≠ 0 := ⟨hs.n, arch_name ha⟩
  have hfree : FreeOf D.now p.n p.fi := free_of rfl hc
  have hI := put_inv h.inv hn p.se [] hff hfree
  have hfin := hs.fin
  have hlen := h.len
  refine ⟨put_goes h.calm p.se [] hs.n (fun f hf => (path_no (hff.path f hf)).2.1) (fun n hn => (h.inv.small n hn).1) (by omega), hI, ?_, ?_, fun f hf => ?_, fun f hf hb => ?_, put_again h.inv p.se hff hI⟩
  · have := putM_len D.now p.n p.se p.fi []
    omega
  · refine (putFD_fit (Z := 3100) h.fit p.n p.se p.fi [] (fun f hf => by have := (hs.fi f hf).2; omega) (says_lines hs)).mono (by omega)
  · rw [put_paths h.inv.ok (h.inv.nodup p.n) p.se [] hff.ok, if_pos rfl, sortB_mem]
    exact List.mem_append_left _ (List.mem_map.2 ⟨f, hf, rfl⟩)
  · rw [put_th p.n p.se p.fi [] (List.mem_map.2 ⟨f, hf, rfl⟩)]
    exact (putLM_new p.se p.fi [] D.now hff.nodup f hf hb).1
/-- a package is dropped -/
theorem OwnsSt.drop {k : Nat} {D : Dk} (h : OwnsSt k D) (hk : k ≤ 15) {n : ByteArray} (hn : n.size ≤ 60) (all : Bool) : Goes (dropD D n all) (dropM D.now n all) ∧ OwnInv (dropM D.now n all) ∧ (dropM D.now n all).length ≤ D.now.length + 1 ∧ FitD (1000 + k * 20000) (dropD D n all).2 := by
  obtain ⟨K, h1, h2, h3, h4⟩ := drop_paths h.inv n all
  refine ⟨drop_goes h.calm all hn (by have := h.len; omega), h4, ?_, dropD_fit h.fit n all⟩
  unfold dropM
  refine Nat.le_trans (setM_len1 _ _ _) ?_
  have := dropLM_len all (pathsM D.now n) [] D.now
  omega
end Go.Proofs.YtofogjfemlhffaaGreatDoor

namespace Go.Proofs.YtofogjfemlhffaaGreatDoor
open Go Go.RowKit Go.Maps

/-- it is somebody's -/
def hasR (Wm : Fm) (p : ByteArray) : Bool := !(decide ((getF Wm p).getD ⟨#[]⟩ = ⟨#[]⟩))
def reditE (Wm Dm : Fm) (p : ByteArray) (miss : Bool) : Int := if hasR Wm p = true then (if miss = true then (if (getF Dm p).isSome = true then 0 else 7) else 0) else 7
def reditD (Wm Dm : Fm) (p d : ByteArray) (miss : Bool) : Fm := if hasR Wm p = true then (if miss = true then (if (getF Dm p).isSome = true then delF Dm p else Dm) else putF Dm p d) else Dm

set_option maxHeartbeats 2000000 in
set_option maxRecDepth 100000 in
theorem redit_calls (r b0 b1 b2 : Nat) (Wm Dm Sm : Fm) (p d : ByteArray) (miss : Bool) (w : World) (h : RShAt w r b0 b1 b2 Wm Dm Sm) (hp : p.size ≤ maxLen) (hd : d.size ≤ maxLen) (hn : Dm.length < maxLen) :
    Calls Tryz.prog 17 #[.pointer (some ⟨r, 0, none⟩), .string p, .string d, .bool miss] w fun E w' => E = .returned (.int .i64 (reditE Wm Dm p miss)) ∧ RShAt w' r b0 b1 b2 Wm (reditD Wm Dm p d miss) Sm ∧ ROff w.heap.size b0 b1 b2 w w' := by
  have c0 := h.c0
  have c1 := h.c1
  have hl0 := h.m0.look1 p hp
  have hl1 := (h.m1.look p hp).1
  have H := Lib.hid h
  obtain ⟨o, ho⟩ : ∃ o, (getF Wm p).getD ⟨#[]⟩ = o := ⟨_, rfl⟩
  obtain ⟨b3, hb3⟩ : ∃ b3, decide (o = (⟨#[]⟩ : ByteArray)) = b3 := ⟨_, rfl⟩
  have hqf : (o.toList == (⟨#[]⟩ : ByteArray).toList) = b3 := by rw [← hb3]; exact name_eq o ⟨#[]⟩
  have hie : o.toList.isEmpty = b3 := by
    rw [← hqf, show (⟨#[]⟩ : ByteArray).toList = [] from by rw [Lib.toList_data]]
    cases o.toList <;> rfl
  have hr : hasR Wm p = !b3 := by unfold hasR; rw [ho, hb3]
  rw [ho] at hl0
  unfold reditE reditD
  rw [hr]
  clear hr ho hb3 h
  cases b3 with
  | true =>
    clear hl1 c1
    have Q := Lib.hid H.out
    go_enter Tryz.func17, Tryz.ntmps17
    go_wp2_with fail
    go_ret
    exact ⟨rfl, Q.out, ROff.refl _ _ _ _ _⟩
  | false =>
    cases miss with
    | false =>
      obtain ⟨W', hrun, hm, ht⟩ := H.out.m1.store p d hp hd hn
      have Q := Lib.hid (H.out.turn1 ht hm)
      have R := Lib.hid (ROff.turn (n := w.heap.size) (b0 := b0) (b1 := b1) (b2 := b2) ht (.inr (.inl rfl)))
      clear hm ht hl1
      go_enter Tryz.func17, Tryz.ntmps17
      go_wp2_with fail
      go_ret
      exact ⟨rfl, Q.out, R.out⟩
    | true =>
      cases hg : getF Dm p with
      | none =>
        rw [hg] at hl1
        simp only [Option.getD_none, Option.isSome_none] at hl1
        clear hg
        go_enter Tryz.func17, Tryz.ntmps17
        go_wp2_with fail
        go_ret
        exact ⟨rfl, H.out, ROff.refl _ _ _ _ _⟩
      | some s =>
        rw [hg] at hl1
        simp only [Option.getD_some, Option.isSome_some] at hl1
        clear hg
        have hdr := fun ty => H.out.m1.drop p hp ty
        obtain ⟨W', hrun, hm, ht⟩ := hdr 0
        have Q := Lib.hid (H.out.turn1 ht hm)
        have R := Lib.hid (ROff.turn (n := w.heap.size) (b0 := b0) (b1 := b1) (b2 := b2) ht (.inr (.inl rfl)))
        clear hm ht hdr
        go_enter Tryz.func17, Tryz.ntmps17
        go_wp2_with fail
        go_ret
        exact ⟨rfl, Q.out, R.out⟩
end Go.Proofs.YtofogjfemlhffaaGreatDoor

namespace Go.Proofs.YtofogjfemlhffaaGreatDoor
open Go Go.RowKit Go.Maps

theorem clash_rel {D : Dk} {Wm Dm Sm : Fm} (h : RelS D.now Wm Dm Sm) (pn : ByteArray) (tk : ByteArray → Bool) (fi : List Fv) : clashR Wm (ownersM D.now) pn tk fi = clashD D pn tk fi := by
  unfold clashR clashD
  have e : hitR Wm pn tk = hitN D pn tk := by
    funext f n
    unfold hitR hitN
    rw [show pathsD D n = pathsR Wm n from h.paths n]
  rw [e]
  rfl
/-- whose a path is: the program's and the reference's -/
theorem owner_rel {D : Dk} {Wm Dm Sm : Fm} (h : RelS D.now Wm Dm Sm) (p : ByteArray) : ownerD D p = (getF Wm p).getD ⟨#[]⟩ := by
  show ((ownersM D.now).find? fun n => hasB (pathsM D.now n) p).getD ⟨#[]⟩ = _
  rw [h.owner p]
theorem hasR_rel {D : Dk} {Wm Dm Sm : Fm} (h : RelS D.now Wm Dm Sm) (p : ByteArray) : hasR Wm p = !decide (ownerD D p = ⟨#[]⟩) := by
  unfold hasR
  rw [owner_rel h]

/-- the state of ShelfPlays' loop, ahead of round k: the disk and the reference's three maps -/
structure PlaySt (k : Nat) (D : Dk) (Wm Dm Sm : Fm) : Prop where
  calm : Calm D
  rel : RelS D.now Wm Dm Sm
  len : D.now.length ≤ k * 100
  fit : FitD (1000 + k * 20000) D
  lw : Wm.length ≤ k * 100
  ld : Dm.length ≤ k * 100
  ls : Sm.length ≤ k * 100
theorem playSt_0 : PlaySt 0 D0 [] [] [] := ⟨calm0, relS_nil, Nat.zero_le _, fit0 _, Nat.zero_le _, Nat.zero_le _, Nat.zero_le _⟩
theorem PlaySt.next {k : Nat} {D : Dk} {Wm Dm Sm : Fm} (h : PlaySt k D Wm Dm Sm) : PlaySt (k + 1) D Wm Dm Sm :=
  ⟨h.calm, h.rel, by have := h.len; omega, h.fit.mono (by omega), by have := h.lw; omega, by have := h.ld; omega, by have := h.ls; omega⟩
theorem PlaySt.small {k : Nat} {D : Dk} {Wm Dm Sm : Fm} (h : PlaySt k D Wm Dm Sm) (hk : k ≤ 30) : FitD 700000 D := h.fit.mono (by omega)
/-- Put: no error, and both shelves alike again -/
theorem PlaySt.put {k : Nat} {D : Dk} {Wm Dm Sm W2 : Fm} (h : PlaySt k D Wm Dm Sm) (hk : k ≤ 30) {p : Pv} (hs : SaysFit p) (ha : archB p = true) (tk : ByteArray → Bool) (a : List Bool) (hc : ¬ 0 ≤ (clashD D p.n tk p.fi).1) (hW : RisF W2)
    (l1 : W2.length ≤ Wm.length + 20) (l2 : (goneDW p a Wm Dm Sm).1.length ≤ Dm.length + 20) (l3 : (putDS p a Dm Sm).2.length ≤ Sm.length + 20)
    (hG : ∀ q, getF W2 q = if hasB (namesK p) q = true then some p.n else getF (goneDW p a Wm Dm Sm).2 q) :
    (putFD D p.n p.se p.fi a).1 = 0 ∧ PlaySt (k + 1) (putFD D p.n p.se p.fi a).2 W2 (goneDW p a Wm Dm Sm).1 (putDS p a Dm Sm).2 := by
  have hff := arch_files_fit ha
  have hn : p.n.size ≤ 60 ∧ p.n.size ≠ 0 := ⟨hs.n, arch_name ha⟩
  have hfree : FreeOf D.now p.n p.fi := free_of rfl hc
  have hfin := hs.fin
  have hlen := h.len
  have g := put_goes h.calm p.se a hs.n (fun f hf => (path_no (hff.path f hf)).2.1) (fun n hn => (h.rel.inv.small n hn).1) (by omega)
  have hr : RelS (putM D.now p.n p.se p.fi a) W2 (goneDW p a Wm Dm Sm).1 (putDS p a Dm Sm).2 := relS_put h.rel hn p.se a hff hfree hW hG
  have hl := putM_len D.now p.n p.se p.fi a
  refine ⟨g.none, g.calm, by rw [g.now]; exact hr, by rw [g.now]; omega, ?_, by have := h.lw; omega, by have := h.ld; omega, by have := h.ls; omega⟩
  exact (putFD_fit (Z := 3100) h.fit p.n p.se p.fi a (fun f hf => by have := (hs.fi f hf).2; omega) (says_lines hs)).mono (by omega)
theorem rdropL_len (all : Bool) : ∀ (l : List ByteArray) (W D S : Fm), (rdropL all l W D S).1.length ≤ W.length ∧ (rdropL all l W D S).2.1.length ≤ D.length ∧ (rdropL all l W D S).2.2.length ≤ S.length
  | [], _, _, _ => ⟨Nat.le_refl _, Nat.le_refl _, Nat.le_refl _⟩
  | q :: r, W, D, S => by
    rw [rdropL]
    split
    · exact rdropL_len all r W D S
    · obtain ⟨h1, h2, h3⟩ := rdropL_len all r (delF W q) (delF D q) (delF S q)
      exact ⟨Nat.le_trans h1 (len_del_le W q), Nat.le_trans h2 (len_del_le D q), Nat.le_trans h3 (len_del_le S q)⟩
/-- Drop -/
theorem PlaySt.drop {k : Nat} {D : Dk} {Wm Dm Sm : Fm} (h : PlaySt k D Wm Dm Sm) (hk : k ≤ 30) {n : ByteArray} (hn : n.size ≤ 60) (all : Bool) :
    (dropD D n all).1 = 0 ∧ PlaySt (k + 1) (dropD D n all).2 (rdropL all (pathsR Wm n) Wm Dm Sm).1 (rdropL all (pathsR Wm n) Wm Dm Sm).2.1 (rdropL all (pathsR Wm n) Wm Dm Sm).2.2 := by
  have g := drop_goes h.calm all hn (by have := h.len; omega)
  have hr := relS_drop h.rel n all
  obtain ⟨l1, l2, l3⟩ := rdropL_len all (pathsR Wm n) Wm Dm Sm
  have hl : (dropM D.now n all).length ≤ D.now.length + 1 := by
    unfold dropM
    refine Nat.le_trans (setM_len1 _ _ _) ?_
    have := dropLM_len all (pathsM D.now n) [] D.now
    omega
  exact ⟨g.none, g.calm, by rw [g.now]; exact hr, by rw [g.now]; have := h.len; omega, (dropD_fit h.fit n all).mono (by omega), by have := h.lw; omega, by have := h.ld; omega, by have := h.ls; omega⟩
/-- Edit -/
theorem PlaySt.edit {k : Nat} {D : Dk} {Wm Dm Sm : Fm} (h : PlaySt k D Wm Dm Sm) (hk : k ≤ 30) (p d : ByteArray) (ms : Bool) (hd : d.size ≤ 1000) :
    (editD D p d ms).1 = reditE Wm Dm p ms ∧ PlaySt (k + 1) (editD D p d ms).2 Wm (reditD Wm Dm p d ms) Sm := by
  have hR := hasR_rel h.rel p
  unfold editD reditE reditD
  by_cases e : (ownerD D p).size = 0
  · have e0 : ownerD D p = ⟨#[]⟩ := by
      apply data_inj
      have h1 : (ownerD D p).data.toList.length = 0 := by rw [← size_eq_length]; exact e
      rw [List.eq_nil_of_length_eq_zero h1]
    have hr : hasR Wm p = false := by rw [hR, decide_eq_true e0]; rfl
    rw [if_pos e, hr]
    exact ⟨rfl, h.next⟩
  · have e0 : ownerD D p ≠ ⟨#[]⟩ := fun h0 => e (by rw [h0]; rfl)
    have hr : hasR Wm p = true := by rw [hR, decide_eq_false e0]; rfl
    have hp : p.size ≤ 60 := by
      have h1 := owner_rel h.rel p
      cases hg : getF Wm p with
      | none => rw [hg] at h1; exact absurd h1 e0
      | some n => exact (path_no (h.rel.inv.path n p ((h.rel.ow n p).2 hg))).2.1
    rw [if_neg e, hr]
    cases ms with
    | false =>
      have g := keeps_goes h.calm (name_th hp) (by have := h.len; omega) (fun q => cmth q p) d
      have h1 := len_put_le D.now (thP ++ p) d
      have h2 := len_put_le Dm p d
      refine ⟨g.none, g.calm, by show RelS (keepsD D (thP ++ p) d).2.now _ _ _; rw [g.now]; exact relS_edit h.rel p d, by show (keepsD D (thP ++ p) d).2.now.length ≤ _; rw [g.now]; have := h.len; omega, (keepsD_fit h.fit _ _ (by omega)).mono (by omega), by have := h.lw; omega, ?_, by have := h.ls; omega⟩
      show (putF Dm p d).length ≤ _
      have := h.ld
      omega
    | true =>
      have ht := h.rel.th p
      cases hg : getF D.now (thP ++ p) with
      | none =>
        rw [hg] at ht
        have er : removeD D (thP ++ p) = (7, D) := by unfold removeD; rw [hg]
        simp only [if_true, er, ← ht, Option.isSome_none]
        exact ⟨rfl, h.next⟩
      | some s =>
        rw [hg] at ht
        have g := gone_goes h.calm (thP ++ p)
        have er : goneD D (thP ++ p) = removeD D (thP ++ p) := by unfold goneD; rw [if_neg (by rw [hg]; simp)]
        have gf := goneD_fit h.fit (thP ++ p)
        rw [er] at g gf
        have h1 := len_del_le D.now (thP ++ p)
        have h2 := len_del_le Dm p
        simp only [if_true, ← ht, Option.isSome_some]
        refine ⟨g.none, g.calm, by rw [g.now]; exact relS_strike h.rel p, by rw [g.now]; have := h.len; omega, gf.mono (by omega), by have := h.lw; omega, by have := h.ld; omega, by have := h.ls; omega⟩
end Go.Proofs.YtofogjfemlhffaaGreatDoor

namespace Go.Proofs.YtofogjfemlhffaaGreatDoor
open Go.RowKit Go.ChangeShapes Go.WideShapes Go.ChangeAt Go.Joins
section
variable {H : Type} {enc : TypeId × Value → H}

/-- The plain wrap with both: what the row lists, and the world's shape. -/
theorem returnsInHanded_listed_shaped {a : Assume} {C : Checked} {os : Os} {f : FuncId} {fn : Func} {s : ChangeSpec} {conds : List PathCond} {apart fresh handsOn again : Bool} {X : World → Array Value → Prop}
    (hX : ∀ (w w' : World) (args : Array Value), w.heap = w'.heap → X w args → X w' args)
    (own : ownKnob C.prog.godebug = none) (started : os.Started) (noInit : C.prog.inits.idxOf? f = none) (hfn : C.prog.funcs[f]? = some fn)
    (witness : ∃ (w : World) (tape : Tape) (i : Input), w.os = os ∧ (w.forCall tape i).Shaped C.prog ∧ i.vars = [] ∧ Input.okWide C.prog (w.forCall tape i) .any w.heap.size f i ∧
      ((s.pre enc C.prog fn conds apart (w.forCall tape i).memory i.args ∧ X (w.forCall tape i).memory i.args) ∧ sizedMet enc C.prog fn (OpenSpec.ofChange s) apart (w.forCall tape i).memory i.args) ∧ a.holds C.prog (lone (Frame.enter C.prog f i.args .normal) [] (w.forCall tape i)))
    (contract : ∀ (W : World) (base : Nat) (args : Array Value) (ds gs : List (DataW H)) (before : List MemPlace),
      (∀ (j : Nat) t v, fn.params[j]? = some t → args[j]? = some v → Value.okWide C.prog W .any base t v) →
      DataW.Whole enc C.prog fn.params.toList s.vars apart W args.toList ds gs before →
      conds.all (PathCond.test C.prog ⟨fn.params.toList, ds, s.plain.varTypes C.prog, gs⟩) = true →
      (DataW.weightsEach C.prog (fn.params.toList ++ s.plain.varTypes C.prog) (ds ++ gs)).all (· ≤ reachBytes) = true → X W args → W.ShapedOpen C.prog →
      a.holds C.prog (lone (Frame.enter C.prog f args .normal) [] W) →
      Calls C.prog f args W fun e W' => ∃ v, e = .returned v ∧ s.post enc C.prog fn apart fresh handsOn again W args v W') :
    ReturnsInHanded a C os f .any (fun w args => (s.pre enc C.prog fn conds apart w args ∧ X w args) ∧ sizedMet enc C.prog fn (OpenSpec.ofChange s) apart w args) (s.post enc C.prog fn apart fresh handsOn again) := by
  refine returnsInHanded_of_calls own started noInit witness ?_
  intro w tape i _ hsh _ hok hpre hholds
  obtain ⟨_, _, _, fn', hfn', _, _, _, _, hval⟩ := hok
  have e : fn' = fn := Option.some.inj (hfn'.symm.trans hfn)
  subst e
  obtain ⟨⟨⟨ds, gs, before, hw, hc⟩, hx⟩, hz⟩ := hpre
  have hw' := DataW.Whole.of_heap (w' := w.forCall tape i) (by rfl) hw
  refine (contract (w.forCall tape i) w.heap.size i.args ds gs before hval hw' hc (hz.weights hw) (hX _ _ _ (by rfl) hx) hsh hholds).mono fun e W' ⟨v, he, hp⟩ => ?_
  subst he
  exact ChangeSpec.post_blind hp

theorem below_trodAll {P : Program} (hl : laidOutB P = true) {W W' : World} (hb : Below W.heap.size W W') :
    ∀ {ts : List TypeId} {vs : List Value} {ds : List (DataW H)} {ps : List MemPlace}, (ts.all fun t => P.readableRec t && decide (t < P.types.size)) = true →
      DataW.TrodAll enc P W 0 (fun _ => true) true ts vs ds ps → (∀ x ∈ ps, x.block < W.heap.size) → DataW.TrodAll enc P W' 0 (fun b => decide (b < W.heap.size)) true ts vs ds ps
  | [], vs, ds, ps, _, h, _ => by
    obtain ⟨rfl, rfl, rfl⟩ := trodAll_nil h
    exact trodAll_mk0
  | t :: ts, vs, ds, ps, hr, h, hlt => by
    obtain ⟨v, vs', d, ds', p, q, rfl, rfl, rfl, h1, h2⟩ := trodAll_cons h
    rw [List.all_cons, Bool.and_eq_true, Bool.and_eq_true] at hr
    exact trodAll_cons_mk (Below.trod hl hr.1.1 (by simpa using hr.1.2) h1 hb (fun x hx => hlt x (List.mem_append_left _ hx))) (below_trodAll hl hb hr.2 h2 (fun x hx => hlt x (List.mem_append_right _ hx)))

theorem tabIs_of_reads {P : Program} {W : World} {name : String} {k : IntKind} {zs : List Int} {d : DataW Unit} {g : Nat} {t e : TypeId} {n : Nat} (hd : d = Lib.tabData k zs)
    (hg : P.globalNamed name = some g) (hty : (P.globals[g]?).map (·.type) = some t) (ht : P.underlying t = some (.array n e)) (he : P.underlying e = some (.int k)) (hce : P.cellsOf e = 1) (hct : P.cellsOf t = n)
    (h : Lib.VarReads P W name d) : Lib.TabIs P W name k zs := by
  subst hd
  obtain ⟨g', t', cs, fuel, p, hg', ht', hvar, hd⟩ := h
  obtain rfl := Option.some.inj (hg.symm.trans hg')
  obtain rfl := Option.some.inj (hty.symm.trans ht')
  unfold Lib.TabIs
  rw [hvar, ← Lib.cells_of_tab ht he hce hct hd]
end

theorem own : ownKnob Tryz.prog.godebug = none := by kernel_rfl
theorem laidOut : laidOutB Tryz.prog = true := by kernel_rfl
end Go.Proofs.YtofogjfemlhffaaGreatDoor

namespace Go.Proofs.YtofogjfemlhffaaGreatDoor
open Go.RowKit Go.ChangeShapes Go.WideShapes Go.ChangeAt Go.Joins

set_option maxRecDepth 100000 in
/-- What the walks read of the library's variables, out of the row's list and the world's shape. -/
theorem env_at {W : World} {laid : List (String × DataW Unit)} (hL : laidMet Tryz.prog laid W) (hm : ("internal/strconv.uint64pow10", (Rows.laid_internal_strconv_uint64pow10 : DataW Unit)) ∈ laid) (hsh : W.ShapedOpen Tryz.prog) : Env W :=
  ⟨(by first | exact Tryz.laysM145.s1_3 W hsh | exact Tryz.laysM146.s1_3 W hsh | exact Tryz.laysM219.s1_3 W hsh), tabIs_of_reads (g := 5) (by kernel_rfl) (by kernel_rfl) (by kernel_rfl) Tryz.underlying221 Tryz.underlying167 (by kernel_rfl) (by kernel_rfl) (Lib.laidMet.reads hL hm)⟩

end Go.Proofs.YtofogjfemlhffaaGreatDoor

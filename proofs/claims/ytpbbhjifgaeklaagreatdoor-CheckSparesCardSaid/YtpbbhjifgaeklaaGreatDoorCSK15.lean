/- order.Line's and order.settle's closures. · Plain: who would miss one that goes, and of those again (needsT): what is left misses nothing, and nobody goes that would not miss it. · Maps of texts, as sorted lists: look-up, store, strike; how a map in memory reads as one. · A disk in memory: what there is now, what is safe; what a call on it leaves as it was. -/
import Derived.Test.YtpbbhjifgaeklaaGreatDoorCSK14
import Derived.Test.YtpbbhjifgaeklaaGreatDoorCSK1
import Derived.Maps.OwnSet
import Derived.Maps.StringElems
import Derived.Test.YtpbbhjifgaeklaaGreatDoorCSK10
namespace Go.Proofs.YtpbbhjifgaeklaaGreatDoor
open Go Go.RowKit
open TJ (EdgeN hasN)

/-! numbers in a row -/
def natC (n : Nat) : List Value := [.int .i64 n]
def NatsAt (W : World) (v : Value) (l : List Nat) : Prop := SlC natC W v l
theorem flat_nats (l : List Nat) : l.flatMap natC = l.map fun n : Nat => Value.int .i64 n := by
  induction l with
  | nil => rfl
  | cons a r ih => rw [List.flatMap_cons, ih]; rfl
theorem NatsAt.below {w w' : World} {v : Value} {l : List Nat} (h : NatsAt w v l) (hb : Below w.heap.size w w') : NatsAt w' v l := SlC.below h hb
theorem NatsAt.open {w : World} {v : Value} {l : List Nat} (h : NatsAt w v l) :
    ∃ A c, v = .slice A l.length c ∧ l.length ≤ c ∧ l.length ≤ 9223372036854775807 ∧ (l ≠ [] → ∃ b off, A = some ⟨b, off, none⟩ ∧ ∀ (i : Nat) (x : Nat), l[i]? = some x → w.cell? ⟨b, off + i, none⟩ = some (.int .i64 x)) := by
  obtain ⟨A, c, hv, hc, hm, h⟩ := h
  refine ⟨A, c, hv, hc, hm, fun hn => ?_⟩
  obtain ⟨b, off, hA, hi⟩ := h hn
  refine ⟨b, off, hA, fun i x hx => hi i _ ?_⟩
  rw [flat_nats, List.getElem?_map, hx]
  rfl
theorem has_ints (l : List Nat) (x : Nat) : (l.map Int.ofNat).contains (x : Int) = hasN l x := by
  induction l with
  | nil => rfl
  | cons a l ih =>
    rw [List.map_cons, List.contains_cons, ih]
    unfold hasN
    rw [List.any_cons]
    congr 1
    by_cases h : a = x
    · subst h; simp
    · have h2 : ¬ (x : Int) = Int.ofNat a := fun e => h (Int.ofNat.inj (show Int.ofNat x = Int.ofNat a from e)).symm
      have h3 : ¬ a = x := h
      rw [show ((x : Int) == Int.ofNat a) = false from by rw [beq_eq_false_iff_ne]; exact h2, show (a == x) = false from by rw [beq_eq_false_iff_ne]; exact h3]
theorem nat_cell {l : List Nat} {w : World} {b off : Nat} (hi : ∀ (i : Nat) (x : Nat), l[i]? = some x → w.cell? ⟨b, off + i, none⟩ = some (.int .i64 x)) (j : Nat) (hj : j < (l.map Int.ofNat).length) : w.cell? ⟨b, off + j, none⟩ = some (.int .i64 ((l.map Int.ofNat).getD j 0)) := by
  rw [List.length_map] at hj
  rw [hi j l[j] (List.getElem?_eq_getElem hj), List.getD_eq_getElem?_getD, List.getElem?_map, List.getElem?_eq_getElem hj]
  rfl
theorem natHas_calls (v : Value) (l : List Nat) (x : Nat) (w : World) (h : NatsAt w v l) : Calls Tryz.prog 106 #[v, .int .i64 x] w fun E w' => E = .returned (.bool (hasN l x)) ∧ w = w' := by
  obtain ⟨A, c, rfl, hc, hm, hr⟩ := h.open
  cases l with
  | nil => exact (Tryz.slices_Contains_int_empty A c x w).mono fun E w' ⟨he, hw⟩ => ⟨he, hw.symm⟩
  | cons a l =>
    obtain ⟨b, off, rfl, hi⟩ := hr (by simp)
    refine (Tryz.slices_Contains_int b off (a :: l).length c ((a :: l).map Int.ofNat) x w (by simp) hm (nat_cell hi)).mono fun E w' ⟨he, hw⟩ => ⟨?_, hw.symm⟩
    rw [he, ← has_ints, List.take_of_length_le (by simp)]

/-- a strong edge that holds one back -/
def backB (left : List Nat) (v : Nat) (e : EdgeN) : Bool := e.2 == v && !(e.1 == v) && hasN left e.1
set_option maxRecDepth 100000 in
theorem lineB_calls (b1 b2 v : Nat) (vl : Value) (left : List Nat) (e : EdgeN) (w : World) (h1 : w.cell? ⟨b1, 0, none⟩ = some (.int .i64 v)) (h2 : w.cell? ⟨b2, 0, none⟩ = some vl) (hl : NatsAt w vl left) :
    Calls Tryz.prog 177 #[edgV e, .pointer (some ⟨b1, 0, none⟩), .pointer (some ⟨b2, 0, none⟩)] w (BoolIs (backB left v e) w) := by
  obtain ⟨e1, e2⟩ := e
  unfold edgV
  obtain ⟨A, c, hv, _, _, _⟩ := hl.open
  have C := Lib.hid (fun (W : World) (hb : Below w.heap.size w W) => natHas_calls vl left e1 W (hl.below hb))
  rw [hv] at C h2
  have hb := below_alloc w (.cells #[.int .i64 e1, .int .i64 e2] 153)
  have k1 := kept hb h1
  have k2 := kept hb h2
  have HB := Lib.hid hb
  obtain ⟨pb, hpb⟩ : ∃ pb, hasN left e1 = pb := ⟨_, rfl⟩
  by_cases h3 : e2 = v
  · by_cases h4 : e1 = v
    · have F := Lib.hid (show backB left v (e1, e2) = false by unfold backB; simp [h3, h4])
      have f1 : ((e2 : Int) == (v : Int)) = true := by simp [h3]
      have f2 : ((e1 : Int) == (v : Int)) = true := by simp [h4]
      have f3 : ((e1 : Int) != (v : Int)) = false := by simp [h4]
      clear hl h1 h2 hv hb h3 h4
      go_enter Tryz.func177, Tryz.ntmps177
      go_wp2_with fail
      go_ret
      exact ⟨ret_bool (by rw [F.out]), HB.out⟩
    · have F := Lib.hid (show backB left v (e1, e2) = pb by unfold backB; rw [show (e1 == v) = false from by simp [h4]]; simp [h3, hpb])
      have f1 : ((e2 : Int) == (v : Int)) = true := by simp [h3]
      have f2 : ((e1 : Int) == (v : Int)) = false := by simp; omega
      have f3 : ((e1 : Int) != (v : Int)) = true := by simp; omega
      have HP := Lib.hid hpb
      clear hl h1 h2 hv hb h3 h4 hpb
      go_enter Tryz.func177, Tryz.ntmps177
      go_wp2_with fail
      refine (C.out _ HB.out).mono ?_
      rintro E w1 ⟨rfl, rfl⟩
      rw [HP.out]
      go_wp2_with fail
      go_ret
      exact ⟨ret_bool (by rw [F.out]), HB.out⟩
  · have F := Lib.hid (show backB left v (e1, e2) = false by unfold backB; simp [h3])
    have f1 : ((e2 : Int) == (v : Int)) = false := by simp; omega
    clear hl h1 h2 hv hb h3
    go_enter Tryz.func177, Tryz.ntmps177
    go_wp2_with fail
    go_ret
    exact ⟨ret_bool (by rw [F.out]), HB.out⟩

/-- is it free -/
def freeV (strong : List EdgeN) (left : List Nat) (v : Nat) : Bool := !(strong.any (backB left v))
set_option maxRecDepth 100000 in
theorem lineF_calls (b1 b2 v : Nat) (vs vl : Value) (strong : List EdgeN) (left : List Nat) (w : World) (h1 : w.cell? ⟨b1, 0, none⟩ = some vs) (h2 : w.cell? ⟨b2, 0, none⟩ = some vl) (hs : EdgesAt w vs strong) (hl : NatsAt w vl left) :
    Calls Tryz.prog 175 #[.int .i64 v, .pointer (some ⟨b1, 0, none⟩), .pointer (some ⟨b2, 0, none⟩)] w (BoolIs (freeV strong left v) w) := by
  have hb := below_alloc w (.cells #[.int .i64 v] 3)
  have C := Lib.hid (hasEL_calls vs strong w.heap.size b2 (backB left v) (w.alloc (.cells #[.int .i64 v] 3)) (hs.below hb) fun W x hW _ => lineB_calls w.heap.size b2 v vl left x W (kept hW (by go_cell)) (kept hW (kept hb h2)) ((hl.below hb).below hW))
  obtain ⟨A, c, hv, _, _, _⟩ := hs.open
  rw [hv] at C h1
  have k1 := kept hb h1
  have HB := Lib.hid hb
  clear hs hl h1 h2 hb hv
  go_enter Tryz.func175, Tryz.ntmps175
  go_wp2_with fail
  refine C.out.mono ?_
  rintro E w1 ⟨rfl, hb1⟩
  have hB := step_below HB.out hb1
  obtain ⟨pb, hpb⟩ : ∃ pb, strong.any (backB left v) = pb := ⟨_, rfl⟩
  have HP := Lib.hid hpb
  rw [hpb]
  clear hpb hb1
  go_wp2_with fail
  go_ret
  exact ⟨ret_bool (by unfold freeV; rw [HP.out]), hB⟩
end Go.Proofs.YtpbbhjifgaeklaaGreatDoor

namespace Go.Proofs.YtpbbhjifgaeklaaGreatDoor
namespace TJ
/-- so many; who works; is one's need met by those that are chosen -/
structure Ask where
  n : Nat
  works : Nat → Bool
  met : (Nat → Bool) → Nat → Bool
def leftN (A : Ask) (gone : List Nat) (i : Nat) : Bool := !(hasN gone i) && A.works i
def missN (A : Ask) (gone : List Nat) (i : Nat) : Bool := leftN A gone i && (A.met A.works i && !(A.met (leftN A gone) i))
def nextN (A : Ask) (gone : List Nat) : Option Nat := (List.range A.n).find? (missN A gone)
def goneN (A : Ask) : Nat → List Nat → List Nat
  | 0, gone => gone
  | f + 1, gone => match nextN A gone with
    | none => gone
    | some i => goneN A f (gone ++ [i])
/-- who is gone at last -/
def goneAll (A : Ask) (which : Nat) : List Nat := goneN A (A.n + 1) [which]
def needsN (A : Ask) (which : Nat) : List Nat := srt ((goneAll A which).drop 1)

structure GoneOk (A : Ask) (which : Nat) (gone : List Nat) : Prop where
  nd : gone.Nodup
  hd : ∃ r, gone = which :: r
  lt : ∀ i, i ∈ gone → i < A.n
  ok : ∀ i, i ∈ gone → i = which ∨ (A.works i = true ∧ A.met A.works i = true ∧ A.met (leftN A gone) i = false)
def Grows (A : Ask) : Prop := ∀ (p q : Nat → Bool) (i : Nat), (∀ j, p j = true → q j = true) → A.met p i = true → A.met q i = true

theorem hasN_app {l m : List Nat} {x : Nat} : hasN (l ++ m) x = (hasN l x || hasN m x) := by unfold hasN; rw [List.any_append]
theorem next_ok {A : Ask} {which i : Nat} {gone : List Nat} (hg : Grows A) (h : GoneOk A which gone) (hi : nextN A gone = some i) : GoneOk A which (gone ++ [i]) := by
  unfold nextN at hi
  have h1 := List.find?_some hi
  have h2 := List.mem_range.1 (List.mem_of_find?_eq_some hi)
  unfold missN leftN at h1
  simp only [Bool.and_eq_true, Bool.not_eq_true'] at h1
  obtain ⟨⟨hn, hw⟩, hm, hu⟩ := h1
  have hni : i ∉ gone := fun e => by rw [hasN_mem.2 e] at hn; cases hn
  have hsub : ∀ j, leftN A (gone ++ [i]) j = true → leftN A gone j = true := by
    intro j hj
    unfold leftN at hj ⊢
    rw [hasN_app] at hj
    simp only [Bool.and_eq_true, Bool.not_eq_true', Bool.or_eq_false_iff] at hj ⊢
    exact ⟨hj.1.1, hj.2⟩
  have hmono : ∀ x, A.met (leftN A gone) x = false → A.met (leftN A (gone ++ [i])) x = false := by
    intro x hx
    cases hc : A.met (leftN A (gone ++ [i])) x with
    | false => rfl
    | true =>
      have := hg _ _ x hsub hc
      rw [hx] at this
      cases this
  refine ⟨?_, ?_, fun x hx => ?_, fun x hx => ?_⟩
  · rw [List.nodup_append]
    refine ⟨h.nd, by simp, fun a ha b hb e => ?_⟩
    rw [List.mem_singleton] at hb
    exact hni (by rw [← hb, ← e]; exact ha)
  · obtain ⟨r, hr⟩ := h.hd
    exact ⟨r ++ [i], by rw [hr]; rfl⟩
  · rcases List.mem_append.1 hx with hx | hx
    · exact h.lt x hx
    · rw [List.mem_singleton] at hx
      rw [hx]; exact h2
  · rcases List.mem_append.1 hx with hx | hx
    · rcases h.ok x hx with e | ⟨e1, e2, e3⟩
      · exact .inl e
      · exact .inr ⟨e1, e2, hmono x e3⟩
    · rw [List.mem_singleton] at hx
      subst hx
      exact .inr ⟨hw, hm, hmono x hu⟩
theorem gone_ok {A : Ask} {which : Nat} (hg : Grows A) : ∀ (f : Nat) (gone : List Nat), GoneOk A which gone → A.n < gone.length + f → GoneOk A which (goneN A f gone) ∧ nextN A (goneN A f gone) = none
  | 0, gone, h, hf => by
    have := nodup_le h.nd h.lt
    omega
  | f + 1, gone, h, hf => by
    unfold goneN
    cases hn : nextN A gone with
    | none => exact ⟨h, hn⟩
    | some i => exact gone_ok hg f _ (next_ok hg h hn) (by rw [List.length_append, List.length_singleton]; omega)
theorem goneAll_ok {A : Ask} {which : Nat} (hg : Grows A) (hw : which < A.n) : GoneOk A which (goneAll A which) ∧ nextN A (goneAll A which) = none := by
  refine gone_ok hg _ _ ⟨by simp, ⟨[], rfl⟩, fun i hi => ?_, fun i hi => ?_⟩ (by simp; omega)
  · rw [List.mem_singleton] at hi
    rw [hi]; exact hw
  · rw [List.mem_singleton] at hi
    exact .inl hi
theorem none_left {A : Ask} {gone : List Nat} (h : nextN A gone = none) {i : Nat} (hi : i < A.n) (hl : leftN A gone i = true) (hm : A.met A.works i = true) : A.met (leftN A gone) i = true := by
  unfold nextN at h
  have h1 := List.find?_eq_none.1 h i (List.mem_range.2 hi)
  unfold missN at h1
  rw [hl, hm] at h1
  simpa using h1
/-- fuel makes no difference, where it is enough -/
theorem goneN_stop {A : Ask} {gone : List Nat} (h : nextN A gone = none) : ∀ f, goneN A f gone = gone
  | 0 => rfl
  | f + 1 => by unfold goneN; rw [h]
end TJ
end Go.Proofs.YtpbbhjifgaeklaaGreatDoor

namespace Go.Proofs.YtpbbhjifgaeklaaGreatDoor
open Go Go.RowKit

/-- a map of texts: its entries, the keys rising -/
abbrev Fm := List (ByteArray × ByteArray)
def befB (a b : ByteArray) : Bool := bytesBefore a.data.toList b.data.toList
def insF (x : ByteArray × ByteArray) : Fm → Fm
  | [] => [x]
  | y :: r => if befB x.1 y.1 then x :: y :: r else y :: insF x r
def getF (M : Fm) (k : ByteArray) : Option ByteArray := (M.find? fun p => decide (p.1 = k)).map (·.2)
def delF (M : Fm) (k : ByteArray) : Fm := M.filter fun p => !decide (p.1 = k)
def putF (M : Fm) (k v : ByteArray) : Fm := insF (k, v) (delF M k)
def RisF (M : Fm) : Prop := M.Pairwise fun p q => befB p.1 q.1 = true
/-! the order of keys -/
theorem before_lt : ∀ (x y : List UInt8), bytesBefore x y = decide (x < y)
  | [], [] => by simp [bytesBefore]
  | [], _ :: _ => by simp [bytesBefore]
  | _ :: _, [] => by simp [bytesBefore]
  | a :: x, b :: y => by
    rw [bytesBefore, before_lt x y]
    simp only [List.cons_lt_cons_iff]
    by_cases h1 : a < b <;> by_cases h2 : a = b <;> by_cases h3 : x < y <;> simp [h1, h2, h3]
theorem befB_iff (a b : ByteArray) : befB a b = true ↔ a.data.toList < b.data.toList := by
  unfold befB
  rw [before_lt, decide_eq_true_iff]
theorem befB_trans {a b c : ByteArray} (h1 : befB a b = true) (h2 : befB b c = true) : befB a c = true := (befB_iff a c).2 (List.lt_trans ((befB_iff a b).1 h1) ((befB_iff b c).1 h2))
theorem befB_total {a b : ByteArray} (h : a ≠ b) : befB a b = true ∨ befB b a = true := by
  rcases Classical.em (a.data.toList < b.data.toList) with h1 | h1
  · exact .inl ((befB_iff a b).2 h1)
  · rcases Classical.em (b.data.toList < a.data.toList) with h2 | h2
    · exact .inr ((befB_iff b a).2 h2)
    · exact absurd (List.le_antisymm (List.not_lt.1 h2) (List.not_lt.1 h1)) fun e => h (by rw [← Lib.mk_data a, ← Lib.mk_data b, e])

theorem getF_cons (p : ByteArray × ByteArray) (M : Fm) (k : ByteArray) : getF (p :: M) k = if p.1 = k then some p.2 else getF M k := by
  unfold getF
  rw [List.find?_cons]
  by_cases h : p.1 = k
  · rw [if_pos h, decide_eq_true h]; rfl
  · rw [if_neg h, decide_eq_false h]
theorem ris_del {M : Fm} (h : RisF M) (k : ByteArray) : RisF (delF M k) := List.Pairwise.sublist List.filter_sublist h
theorem mem_ins {x p : ByteArray × ByteArray} {M : Fm} : p ∈ insF x M ↔ p = x ∨ p ∈ M := by
  induction M with
  | nil => simp [insF]
  | cons y M ih =>
    unfold insF
    split
    · simp
    · simp only [List.mem_cons, ih]
      constructor
      · rintro (h | h | h)
        · exact .inr (.inl h)
        · exact .inl h
        · exact .inr (.inr h)
      · rintro (h | h | h)
        · exact .inr (.inl h)
        · exact .inl h
        · exact .inr (.inr h)
theorem ris_ins {x : ByteArray × ByteArray} {M : Fm} (h : RisF M) (hx : ∀ p ∈ M, p.1 ≠ x.1) : RisF (insF x M) := by
  induction M with
  | nil => exact List.Pairwise.cons (fun _ h => by cases h) List.Pairwise.nil
  | cons y M ih =>
    obtain ⟨h1, h2⟩ := List.pairwise_cons.1 h
    unfold insF
    split
    · rename_i hb
      refine List.pairwise_cons.2 ⟨fun p hp => ?_, h⟩
      rcases List.mem_cons.1 hp with rfl | hp
      · exact hb
      · exact befB_trans hb (h1 p hp)
    · rename_i hb
      refine List.pairwise_cons.2 ⟨fun p hp => ?_, ih h2 fun p hp => hx p (.tail _ hp)⟩
      rcases mem_ins.1 hp with rfl | hp
      · rcases befB_total (hx y (.head _)) with h | h
        · exact h
        · exact absurd h hb
      · exact h1 p hp
theorem ris_put {M : Fm} (h : RisF M) (k v : ByteArray) : RisF (putF M k v) :=
  ris_ins (ris_del h k) fun p hp => by
    have := (List.mem_filter.1 hp).2
    simpa using this
/-! how a map in memory reads -/
def entF (p : ByteArray × ByteArray) : Lit × DataW Unit := (.string p.1.data.toList, .lit (.string p.2.data.toList))
def datF (M : Fm) : DataW Unit := .map (M.map entF)
theorem same_iff (a b : ByteArray) : (Lit.string a.data.toList).sameKey (.string b.data.toList) = decide (a = b) := by
  show (a.data.toList == b.data.toList) = decide (a = b)
  rw [Bool.eq_iff_iff, beq_iff_eq, decide_eq_true_iff]
  exact ⟨fun h => by rw [← Lib.mk_data a, ← Lib.mk_data b, h], fun h => by rw [h]⟩
theorem datF_del (M : Fm) (k : ByteArray) : (datF M).del (.string k.data.toList) = datF (delF M k) := by
  show DataW.map ((M.map entF).filter fun p => !p.1.sameKey (.string k.data.toList)) = DataW.map ((M.filter fun p => !decide (p.1 = k)).map entF)
  rw [List.filter_map]
  congr 2
  refine List.filter_congr fun p _ => ?_
  show (!(entF p).1.sameKey (.string k.data.toList)) = _
  rw [show (entF p).1 = .string p.1.data.toList from rfl, same_iff]
theorem insert_map (x : ByteArray × ByteArray) (M : Fm) : DataW.insert (entF x) (M.map entF) = (insF x M).map entF := by
  induction M with
  | nil => rfl
  | cons y M ih =>
    rw [List.map_cons]
    unfold DataW.insert insF
    rw [show (entF x).1.before (entF y).1 = befB x.1 y.1 from rfl]
    split
    · rfl
    · rw [ih]; rfl
theorem datF_put (M : Fm) (k v : ByteArray) : (datF M).put (.string k.data.toList) (.lit (.string v.data.toList)) = datF (putF M k v) := by
  have h := datF_del M k
  unfold DataW.del datF at h
  show DataW.map (DataW.insert (entF (k, v)) ((M.map entF).filter fun p => !p.1.sameKey (.string k.data.toList))) = _
  injection h with h
  rw [h, insert_map]
  rfl
theorem datF_at (M : Fm) (k : ByteArray) (z : DataW Unit) : (datF M).atKey (.string k.data.toList) z = match getF M k with | some v => .lit (.string v.data.toList) | none => z := by
  induction M with
  | nil => rfl
  | cons y M ih =>
    rw [getF_cons]
    unfold datF DataW.atKey at ih ⊢
    rw [List.map_cons]
    simp only [List.find?_cons] at ih ⊢
    rw [show (entF y).1 = .string y.1.data.toList from rfl, same_iff]
    by_cases h : y.1 = k
    · rw [if_pos h, decide_eq_true h]; rfl
    · rw [if_neg h, decide_eq_false h]
      exact ih
theorem datF_has (M : Fm) (k : ByteArray) : Maps.has (datF M) (.string k.data.toList) = (getF M k).isSome := by
  show (M.map entF).any (fun p => p.1.sameKey (.string k.data.toList)) = _
  induction M with
  | nil => rfl
  | cons y M ih =>
    rw [getF_cons, List.map_cons, List.any_cons, show (entF y).1 = .string y.1.data.toList from rfl, same_iff, ih]
    by_cases h : y.1 = k
    · rw [if_pos h, decide_eq_true h]; rfl
    · rw [if_neg h, decide_eq_false h, Bool.false_or]
theorem datF_size (M : Fm) : Maps.size (datF M) = M.length := by
  show (M.map entF).length = _
  rw [List.length_map]

end Go.Proofs.YtpbbhjifgaeklaaGreatDoor

namespace Go.Proofs.YtpbbhjifgaeklaaGreatDoor
open Go Go.RowKit Go.Maps Go.ChangeMaps Go.WideShapes Go.WideMaps

/-- a map of texts in memory -/
def MapAt (W : World) (b : Nat) (M : Fm) : Prop := W.ownsMap Tryz.prog 9 (plainElem Tryz.prog 9) b M.length (datF M) ∧ RisF M

theorem str_key : Keyed Tryz.prog 9 := string_keyed Tryz.underlying9
theorem zero_str (w : World) : (zeroValue 9).run Tryz.prog w = .ok (.string ⟨#[]⟩) w := by kernel_rfl
theorem keyOf_str1 (s : ByteArray) (h : s.size ≤ maxLen) : keyOf Tryz.prog 9 (.string s) = some (.string s.data.toList) := by
  have := keyOf_string_mk (P := Tryz.prog) (k := 9) (s := s) Tryz.underlying9 h
  exact this
theorem owns_tight {W : World} {b n : Nat} {M : Fm} (h : W.ownsMap Tryz.prog 9 (plainElem Tryz.prog 9) b n (datF M)) : W.ownsMap Tryz.prog 9 (plainElem Tryz.prog 9) b M.length (datF M) := by
  obtain ⟨es, clock, hb, F, hn, hD⟩ := h
  refine ⟨es, clock, hb, F, ?_, hD⟩
  have := congrArg Maps.size hD
  rw [datF_size] at this
  have e : Maps.size (DataW.map ((es.toList.map (WideElems.rg Tryz.prog 9 (plainElem Tryz.prog 9))).foldr DataW.insert []) : DataW Unit) = es.size := by simp [Maps.size, length_sorted]
  rw [e] at this
  omega

theorem MapAt.lt {W : World} {b : Nat} {M : Fm} (h : MapAt W b M) : b < W.heap.size := h.1.lt
theorem MapAt.keep {W W' : World} {b : Nat} {M : Fm} (h : MapAt W b M) (hb : W'.heap[b]? = W.heap[b]?) : MapAt W' b M := by
  obtain ⟨⟨es, clock, hm, r⟩, hr⟩ := h
  exact ⟨⟨es, clock, hb.trans hm, r⟩, hr⟩
theorem lit_str {a b : List UInt8} (h : (DataW.lit (.string a) : DataW Unit) = .lit (.string b)) : a = b := by
  cases h; rfl
/-- 'v, ok := m[k]' -/
theorem MapAt.look {W : World} {b : Nat} {M : Fm} (h : MapAt W b M) (k : ByteArray) (hk : k.size ≤ maxLen) : (Instr.lookup 56 (.map (some b)) (.string k) true).run Tryz.prog W = .ok (.tuple #[.string ((getF M k).getD ⟨#[]⟩), .bool (getF M k).isSome]) W ∧ ((getF M k).getD ⟨#[]⟩).size ≤ maxLen := by
  obtain ⟨v, ps, hrun, hR⟩ := h.1.look_ok str_key Tryz.underlying56 (zero_str W) (plainElem_string Tryz.underlying9 (s := ⟨#[]⟩) (by unfold maxLen; decide)) (keyOf_str1 k hk)
  rw [datF_has] at hrun
  rw [datF_at] at hR
  obtain ⟨s, rfl, hz, hs⟩ := plainElem_string_inv Tryz.underlying9 hR
  have e : s = (getF M k).getD ⟨#[]⟩ := by
    cases hg : getF M k with
    | none =>
      rw [hg] at hz
      exact data_inj (lit_str (congrArg Prod.fst hz)).symm
    | some v =>
      rw [hg] at hz
      exact data_inj (lit_str (congrArg Prod.fst hz)).symm
  rw [← e]
  exact ⟨hrun, hs⟩
/-- w' is w but for the map in block b (and so is what is kept) -/
theorem turned_block {w w' : World} {b i : Nat} (h : w.mapTurned w' b) (hi : i ≠ b) : w'.heap[i]? = w.heap[i]? := by
  have := h.grown
  rcases Nat.lt_or_ge i w.heap.size with hl | hl
  · exact this.block i hl (fun e => hi (by injection e))
  · obtain ⟨es, clock, es', clock', hb, rfl⟩ := h
    exact heap_setBlock_other hb _ hi
theorem turned_size {w w' : World} {b : Nat} (h : w.mapTurned w' b) : w'.heap.size = w.heap.size := by
  obtain ⟨es, clock, es', clock', hb, rfl⟩ := h
  simp [setBlock]
theorem turned_os {w w' : World} {b : Nat} (h : w.mapTurned w' b) : w'.os = w.os ∧ w'.tape = w.tape ∧ w'.output = w.output := ⟨h.grown.os, h.grown.tape, h.grown.output⟩
/-- 'm[k] = v' -/
theorem MapAt.store {W : World} {b : Nat} {M : Fm} (h : MapAt W b M) (k v : ByteArray) (hk : k.size ≤ maxLen) (hv : v.size ≤ maxLen) (hn : M.length < maxLen) : ∃ W', (Instr.mapUpdate 56 (.map (some b)) (.string k) (.string v)).run Tryz.prog W = .ok () W' ∧ MapAt W' b (putF M k v) ∧ W.mapTurned W' b := by
  obtain ⟨W', hrun, ho, ht⟩ := h.1.store str_key Tryz.underlying56 hn (keyOf_str1 k hk) (plainElem_string Tryz.underlying9 hv)
  rw [datF_put] at ho
  exact ⟨W', hrun, ⟨owns_tight ho, ris_put h.2 k v⟩, ht⟩
/-- 'delete(m, k)' -/
theorem MapAt.drop {W : World} {b : Nat} {M : Fm} (h : MapAt W b M) (k : ByteArray) (hk : k.size ≤ maxLen) (ty : TypeId) : ∃ W', (Builtin.delete_ #[56, 9] ty #[.map (some b), .string k]).run Tryz.prog W = .ok (.tuple #[]) W' ∧ MapAt W' b (delF M k) ∧ W.mapTurned W' b := by
  obtain ⟨W', hrun, ho, ht⟩ := h.1.drop str_key Tryz.underlying56 (keyOf_str1 k hk) ty
  rw [datF_del] at ho
  exact ⟨W', hrun, ⟨owns_tight ho, ris_del h.2 k⟩, ht⟩

/-! a disk -/
structure Dk where
  now : Fm
  safe : Fm
  left : Int
  cut : Bool
  most : Int
/-- the disk's own block, and the blocks of its two maps -/
def foot (W : World) (d i : Nat) : Prop := i = d ∨ W.cell? ⟨d, 0, none⟩ = some (.map (some i)) ∨ W.cell? ⟨d, 1, none⟩ = some (.map (some i))
def MapsAt (W : World) (m0 m1 : Value) (D : Dk) : Prop := (m0 = .map none ∧ m1 = .map none ∧ D.now = [] ∧ D.safe = []) ∨ ∃ b0 b1, m0 = .map (some b0) ∧ m1 = .map (some b1) ∧ b0 ≠ b1 ∧ MapAt W b0 D.now ∧ MapAt W b1 D.safe
def DiskAt (W : World) (d : Nat) (D : Dk) : Prop := ∃ m0 m1, Blk 58 W d #[m0, m1, .int .i64 D.left, .bool D.cut, .int .i64 D.most, .bool false] ∧ MapsAt W m0 m1 D

/-- what a call on a disk leaves: all but the disk's own blocks is as it was, and what it takes besides is new -/
structure Off (d : Nat) (w w' : World) : Prop where
  os : w'.os = w.os
  tape : w'.tape = w.tape
  output : w'.output = w.output
  size : w.heap.size ≤ w'.heap.size
  block : ∀ i, i < w.heap.size → ¬ foot w d i → w'.heap[i]? = w.heap[i]?
  foot : ∀ i, foot w' d i → foot w d i ∨ w.heap.size ≤ i
theorem Off.refl (d : Nat) (w : World) : Off d w w := ⟨rfl, rfl, rfl, Nat.le_refl _, fun _ _ _ => rfl, fun _ h => .inl h⟩
theorem Off.trans {d : Nat} {a b c : World} (h : Off d a b) (k : Off d b c) : Off d a c := by
  refine ⟨k.os.trans h.os, k.tape.trans h.tape, k.output.trans h.output, Nat.le_trans h.size k.size, fun i hi hf => ?_, fun i hi => ?_⟩
  · refine (k.block i (Nat.lt_of_lt_of_le hi h.size) fun hb => ?_).trans (h.block i hi hf)
    rcases h.foot i hb with h' | h'
    · exact hf h'
    · omega
  · rcases k.foot i hi with h' | h'
    · exact h.foot i h'
    · exact .inr (Nat.le_trans h.size h')
theorem foot_kept {w w' : World} {d i : Nat} (hb : Below w.heap.size w w') (hd : d < w.heap.size) : foot w' d i ↔ foot w d i := by
  have e : ∀ j, w'.cell? ⟨d, j, none⟩ = w.cell? ⟨d, j, none⟩ := fun j => by
    unfold World.cell?
    rw [show w'.heap[(⟨d, j, none⟩ : Addr).block]? = w.heap[(⟨d, j, none⟩ : Addr).block]? from hb.block d hd]
  unfold foot
  rw [e, e]
theorem Off.of_below {d : Nat} {w w' : World} (hb : Below w.heap.size w w') (hd : d < w.heap.size) : Off d w w' :=
  ⟨hb.os, hb.tape, hb.output, hb.size, fun i hi _ => hb.block i hi, fun _ hi => .inl ((foot_kept hb hd).1 hi)⟩
theorem not_foot {d i : Nat} {w w' : World} (h : Off d w w') (hi : i < w.heap.size) (hf : ¬ foot w d i) : ¬ foot w' d i := fun h' => by
  rcases h.foot i h' with h' | h'
  · exact hf h'
  · omega
theorem keptO {d : Nat} {w w' : World} {p : Addr} {v : Value} (h : Off d w w') (hf : ¬ foot w d p.block) (hc : w.cell? p = some v) : w'.cell? p = some v := by
  have := h.block p.block (cell_lt hc) hf
  unfold World.cell? at hc ⊢
  rw [this]; exact hc
/-- all of a disk's blocks lie from n on -/
def Low (n : Nat) (w : World) (d : Nat) : Prop := ∀ i, foot w d i → n ≤ i
theorem Low.go {n d : Nat} {w w' : World} (h : Low n w d) (k : Off d w w') (hn : n ≤ w.heap.size) : Low n w' d := fun i hi => by
  rcases k.foot i hi with h' | h'
  · exact h i h'
  · omega
theorem Off.below {n d : Nat} {w w' : World} (h : Off d w w') (hl : Low n w d) (hn : n ≤ w.heap.size) : Below n w w' :=
  ⟨h.os, h.tape, h.output, h.size, fun i hi => h.block i (by omega) fun hf => by have := hl i hf; omega⟩

theorem DiskAt.lt {W : World} {d : Nat} {D : Dk} (h : DiskAt W d D) : d < W.heap.size := by
  obtain ⟨m0, m1, hb, _⟩ := h
  exact hb.lt
theorem MapsAt.keep {W W' : World} {m0 m1 : Value} {D : Dk} (h : MapsAt W m0 m1 D) (hb : ∀ i, m0 = .map (some i) ∨ m1 = .map (some i) → W'.heap[i]? = W.heap[i]?) : MapsAt W' m0 m1 D := by
  rcases h with h | ⟨b0, b1, rfl, rfl, hne, h0, h1⟩
  · exact .inl h
  · exact .inr ⟨b0, b1, rfl, rfl, hne, h0.keep (hb b0 (.inl rfl)), h1.keep (hb b1 (.inr rfl))⟩
theorem MapsAt.lt {W : World} {m0 m1 : Value} {D : Dk} (h : MapsAt W m0 m1 D) : ∀ i, m0 = .map (some i) ∨ m1 = .map (some i) → i < W.heap.size := by
  rcases h with ⟨rfl, rfl, _⟩ | ⟨b0, b1, rfl, rfl, _, h0, h1⟩
  · rintro i (h | h) <;> cases h
  · rintro i (h | h)
    · injection h with h; injection h with h; subst h; exact h0.lt
    · injection h with h; injection h with h; subst h; exact h1.lt
theorem DiskAt.keep {W W' : World} {d : Nat} {D : Dk} (h : DiskAt W d D) (hb : Below W.heap.size W W') : DiskAt W' d D := by
  obtain ⟨m0, m1, hk, hm⟩ := h
  exact ⟨m0, m1, hk.keep hb, hm.keep fun i hi => hb.block i (hm.lt i hi)⟩
theorem DiskAt.foot_lt {W : World} {d : Nat} {D : Dk} (h : DiskAt W d D) {i : Nat} (hf : foot W d i) : i < W.heap.size := by
  obtain ⟨m0, m1, hk, hm⟩ := h
  rcases hf with rfl | hf | hf
  · exact hk.lt
  · have := (hk.cell (i := 0) rfl).symm.trans hf
    injection this with this
    exact hm.lt i (.inl this)
  · have := (hk.cell (i := 1) rfl).symm.trans hf
    injection this with this
    exact hm.lt i (.inr this)
end Go.Proofs.YtpbbhjifgaeklaaGreatDoor

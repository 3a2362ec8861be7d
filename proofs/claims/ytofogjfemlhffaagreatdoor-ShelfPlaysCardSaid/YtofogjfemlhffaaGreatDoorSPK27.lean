/- version.part: two parts of versions, by turns what is no digit and numbers: its order is partC. · A new shelf; one package of one file on it; the statements' fact on it. · stevedorekeep.laid: a package's files lie there: walked. · A set of texts in memory (a map that counts them): a look, one more, ranging over it. · Contracts of the library laid at this seat's translation (by the kit's shelf tools), besides those of the Shelf text. · depend.Meets and depend.Met. -/
import Derived.Test.YtofogjfemlhffaaGreatDoorSPK1
import Derived.Test.YtofogjfemlhffaaGreatDoorSPK26
import Derived.Test.YtofogjfemlhffaaGreatDoorSPK22
import Derived.Test.YtofogjfemlhffaaGreatDoorSPK2
import Derived.Deep.RegionHeld3
import Derived.Maps.OwnOps
import Derived.Maps.Views
import Derived.Test.YtofogjfemlhffaaGreatDoorSPK8
import Derived.Shelf.Strings.Builder1
import Derived.Shelf.Strings.Builder2
import Derived.Shelf.Strings.OnBuilder
import Derived.Shelf.Strings.Trim
import Derived.Shelf.Small.Utf8
import Derived.Shelf.Small.Bits
import Derived.Shelf.Small.Strs
import Derived.Shelf.Small.Wraps
import Derived.Shelf.Strings.BuilderF
import Derived.Shelf.Strings.BuilderK
import Derived.Shelf.Strconv.Itoa0
import Derived.Shelf.Strconv.Itoa1
import Derived.Shelf.LaysM
import Derived.Shelf.Strconv.Itoa2
import Derived.Shelf.Strconv.Itoa3
import Derived.Shelf.Strings.Search1
import Derived.Shelf.Strings.Search2
import Derived.Shelf.Strings.Search3
import Derived.Shelf.Strings.Count
import Derived.Shelf.Strings.Shaped
import Derived.Shelf.Sort.Plain
import Derived.Shelf.Strings.Prefix
import Derived.Shelf.Strings.Split
import Derived.Shelf.Strings.SplitShaped
import Derived.Shelf.Strings.Runes
import Derived.Shelf.Strings.AsciiSet
import Derived.Shelf.Unicode.DecodeSlow
import Derived.Shelf.Unicode.DecodeAny
import Derived.Shelf.Slices.Turned
import Derived.Shelf.Slices.In.SortNone
import Derived.Shelf.Slices.In.SortNone2
import Derived.Test.YtofogjfemlhffaaGreatDoorProg
import Derived.Test.YtofogjfemlhffaaGreatDoorShelf
import Derived.Test.YtofogjfemlhffaaGreatDoorSPK5
namespace Go.Proofs.YtofogjfemlhffaaGreatDoor
open Go.RowKit

/-- what is known at the head of either loop -/
structure PartIn (A B : ByteArray) (w0 : World) (n : Nat) (a b : ByteArray) (w : World) : Prop where
  same : VP.partC a.data.toList b.data.toList = VP.partC A.data.toList B.data.toList
  size : a.size + b.size ≤ n
  below : Below w0.heap.size w0 w

end Go.Proofs.YtofogjfemlhffaaGreatDoor

namespace Go.Proofs.YtofogjfemlhffaaGreatDoor
open Go Go.RowKit Go.Maps

/-! a new shelf -/
def D0 : Dk := ⟨[], [], 0, false, 0⟩
theorem calm0 : Calm D0 := ⟨⟨by decide, by decide, by decide, ris_nil, ris_nil, fun _ h => h⟩, rfl, fun _ => rfl, rfl⟩
theorem fit0 (X : Nat) : FitD X D0 := fun _ _ h => by cases h
/-- from world w on: what lay below n is as it was, and the disk lies above -/
structure Trk (w : World) (n d : Nat) (W : World) : Prop where
  below : Below n w W
  low : Low n W d
theorem Trk.env {w : World} {d : Nat} {W : World} (h : Trk w w.heap.size d W) (hE : Env w) : EnvD w.heap.size d W := ⟨w, hE, Nat.le_refl _, h.below, h.low⟩
theorem Trk.go {w : World} {n m d : Nat} {W W' : World} (h : Trk w n d W) (ho : OffN m d W W') (hm : n ≤ m) : Trk w n d W' where
  below := ⟨ho.os.trans h.below.os, ho.tape.trans h.below.tape, ho.output.trans h.below.output, Nat.le_trans h.below.size ho.size, fun i hi => (ho.block i (by omega) fun hf => by have := h.low i hf; omega).trans (h.below.block i hi)⟩
  low := fun i hi => by
    rcases ho.foot i hi with h' | h'
    · exact h.low i h'
    · omega
theorem Trk.step {w : World} {n d : Nat} {W W' : World} (h : Trk w n d W) (hb : Below W.heap.size W W') (hd : d < W.heap.size) (hn : n ≤ W.heap.size) : Trk w n d W' :=
  h.go (OffN.of (n := W.heap.size) (Off.of_below hb hd) (Nat.le_refl _)) hn
theorem newShelf (w : World) : ShAt ((w.alloc (.cells #[.map none, .map none, .int .i64 0, .bool false, .int .i64 0, .bool false] 31)).alloc (.cells #[.pointer (some ⟨w.heap.size, 0, none⟩)] 63)) (w.heap.size + 1) w.heap.size D0 ∧
    Trk w w.heap.size w.heap.size ((w.alloc (.cells #[.map none, .map none, .int .i64 0, .bool false, .int .i64 0, .bool false] 31)).alloc (.cells #[.pointer (some ⟨w.heap.size, 0, none⟩)] 63)) ∧
    Below w.heap.size w ((w.alloc (.cells #[.map none, .map none, .int .i64 0, .bool false, .int .i64 0, .bool false] 31)).alloc (.cells #[.pointer (some ⟨w.heap.size, 0, none⟩)] 63)) := by
  have hb1 := below_alloc w (.cells #[.map none, .map none, .int .i64 0, .bool false, .int .i64 0, .bool false] 31)
  have hb2 := below_alloc (w.alloc (.cells #[.map none, .map none, .int .i64 0, .bool false, .int .i64 0, .bool false] 31)) (.cells #[.pointer (some ⟨w.heap.size, 0, none⟩)] 63)
  have hbb := step_below hb1 hb2
  have k0 := blk_new 31 w #[.map none, .map none, .int .i64 0, .bool false, .int .i64 0, .bool false]
  have k1 := k0.keep hb2
  have hs : (w.alloc (.cells #[.map none, .map none, .int .i64 0, .bool false, .int .i64 0, .bool false] 31)).heap.size = w.heap.size + 1 := World.size_alloc _ _
  have k2 := blk_new 63 (w.alloc (.cells #[.map none, .map none, .int .i64 0, .bool false, .int .i64 0, .bool false] 31)) #[.pointer (some ⟨w.heap.size, 0, none⟩)]
  rw [hs] at k2
  have hf : ∀ i, foot ((w.alloc (.cells #[.map none, .map none, .int .i64 0, .bool false, .int .i64 0, .bool false] 31)).alloc (.cells #[.pointer (some ⟨w.heap.size, 0, none⟩)] 63)) w.heap.size i → i = w.heap.size := fun i hi => by
    rcases hi with h | h | h
    · exact h
    · have := (k1.cell (i := 0) rfl).symm.trans h
      injection this with this
      injection this with this
      cases this
    · have := (k1.cell (i := 1) rfl).symm.trans h
      injection this with this
      injection this with this
      cases this
  refine ⟨⟨k2.cell (i := 0) rfl, fun h => by have := hf _ h; omega, ⟨_, _, k1, .inl ⟨rfl, rfl, rfl, rfl⟩⟩⟩, ⟨hbb, fun i hi => by rw [hf i hi]; exact Nat.le_refl _⟩, hbb⟩
theorem EnvD.mono {n m d : Nat} {W : World} (h : EnvD n d W) (hn : n ≤ m) : EnvD m d W := by
  obtain ⟨w0, a, b, c, e⟩ := h
  exact ⟨w0, a, Nat.le_trans b hn, c, e⟩
theorem Blk.offN {T : TypeId} {W W' : World} {n d g : Nat} {cs : Array Value} (h : Blk T W g cs) (ho : OffN n d W W') (hg : g < n) (hf : ¬ foot W d g) : Blk T W' g cs := (ho.block g hg hf).trans h

end Go.Proofs.YtofogjfemlhffaaGreatDoor

namespace Go.Proofs.YtofogjfemlhffaaGreatDoor
open Go Go.RowKit Go.Maps

/-- a map that counts the texts of a list -/
structure CntIs (E : DataW Unit) (L : List ByteArray) : Prop where
  m : IsMap E
  c : ∀ s : ByteArray, ∃ c : Int, E.atKey (.string s.data.toList) (.lit (.int .i64 0)) = .lit (.int .i64 c) ∧ 0 ≤ c ∧ c ≤ L.length ∧ (c = 0 ↔ s ∉ L)
theorem cnt_nil : CntIs (.map []) [] := ⟨⟨[], rfl⟩, fun s => ⟨0, rfl, Int.le_refl _, Int.le_refl _, ⟨fun _ h => (by cases h), fun _ => rfl⟩⟩⟩
theorem CntIs.step {E : DataW Unit} {L : List ByteArray} (h : CntIs E L) {x : ByteArray} {c : Int} (hc : E.atKey (.string x.data.toList) (.lit (.int .i64 0)) = .lit (.int .i64 c)) : CntIs (E.put (.string x.data.toList) (.lit (.int .i64 (c + 1)))) (L ++ [x]) := by
  refine ⟨h.m.put _ _, fun s => ?_⟩
  obtain ⟨c', h1, h2, h3, h4⟩ := h.c s
  rw [List.length_append, List.length_singleton]
  by_cases e : s = x
  · subst e
    rw [hc] at h1
    injection h1 with h1
    injection h1 with _ h1
    subst h1
    refine ⟨c + 1, atKey_put_same h.m (by trivial) _ _, by omega, by omega, ⟨fun h => by omega, fun h => absurd (List.mem_append_right _ (List.mem_singleton.2 rfl)) h⟩⟩
  · refine ⟨c', ?_, h2, by omega, ?_⟩
    · rw [atKey_put_other (fun e' => e (data_inj (by injection e')))]
      exact h1
    · rw [h4, List.mem_append, List.mem_singleton]
      exact ⟨fun h h' => h'.elim h e, fun h h' => h (.inl h')⟩
theorem zero_int (w : World) : (zeroValue 3).run Tryz.prog w = .ok (.int .i64 0) w := by kernel_rfl

end Go.Proofs.YtofogjfemlhffaaGreatDoor

namespace Go.Proofs.YtofogjfemlhffaaGreatDoor
open Go Go.RowKit Go.Maps

def SetAt (W : World) (b n : Nat) (L : List ByteArray) : Prop := ∃ E : DataW Unit, W.ownsMap Tryz.prog 9 (plainElem Tryz.prog 3) b n E ∧ CntIs E L ∧ ∀ s : ByteArray, Maps.has E (.string s.data.toList) = true ↔ s ∈ L
theorem SetAt.lt {W : World} {b n : Nat} {L : List ByteArray} (h : SetAt W b n L) : b < W.heap.size := by
  obtain ⟨E, h, _⟩ := h
  exact h.lt
theorem SetAt.keep {W W' : World} {b n : Nat} {L : List ByteArray} (h : SetAt W b n L) (hb : W'.heap[b]? = W.heap[b]?) : SetAt W' b n L := by
  obtain ⟨E, ⟨es, clock, hm, r⟩, hr⟩ := h
  exact ⟨E, ⟨es, clock, hb.trans hm, r⟩, hr⟩
theorem setAt_new (w : World) : SetAt (w.alloc (.map #[] 0)) w.heap.size 0 [] := ⟨_, World.ownsMap_made w _ _ _, cnt_nil, fun s => ⟨fun h => (by cases h), fun h => (by cases h)⟩⟩
theorem wf_cnt {c : Int} (h0 : 0 ≤ c) (h1 : c ≤ 4611686018427387904) : (Lit.int .i64 c).wf = true := by
  have h2 : IntKind.i64.min = -9223372036854775808 := by decide
  have h3 : IntKind.i64.max = 9223372036854775807 := by decide
  show (decide (IntKind.i64.min ≤ c) && decide (c ≤ IntKind.i64.max)) = true
  rw [h2, h3, decide_eq_true (by omega), decide_eq_true (by omega)]
  rfl
set_option maxRecDepth 100000 in
/-- 'm[s]', with what the map says of s -/
theorem SetAt.look' {W : World} {b n : Nat} {E : DataW Unit} (h : W.ownsMap Tryz.prog 9 (plainElem Tryz.prog 3) b n E) {s : ByteArray} (hs : s.size ≤ maxLen) {c : Int} (hc : E.atKey (.string s.data.toList) (.lit (.int .i64 0)) = .lit (.int .i64 c)) :
    (Instr.lookup 87 (.map (some b)) (.string s) false).run Tryz.prog W = .ok (.int .i64 c) W := by
  obtain ⟨es, clock, hb, F, hn, rfl⟩ := h
  rcases Maps.fit_look false str_key Tryz.underlying87 (zero_int W) hb F (keyOf_str1 s hs) with ⟨hrun, _, hat⟩ | ⟨e0, y, _, _, hrun, hRv, hat, _⟩
  · rw [hat] at hc
    injection hc with hc
    injection hc with _ hc
    rw [← hc]
    exact hrun
  · rw [hat] at hc
    obtain ⟨a, hv, hy, _⟩ := plainElem_int_inv Tryz.underlying3 hRv
    rw [hy] at hc
    injection hc with hc
    injection hc with _ hc
    rw [← hc, ← hv]
    exact hrun
set_option maxRecDepth 100000 in
theorem SetAt.look {W : World} {b n : Nat} {L : List ByteArray} (h : SetAt W b n L) (s : ByteArray) (hs : s.size ≤ maxLen) : ∃ c : Nat, (Instr.lookup 87 (.map (some b)) (.string s) false).run Tryz.prog W = .ok (.int .i64 (c : Int)) W ∧ c ≤ L.length ∧ (c = 0 ↔ s ∉ L) := by
  obtain ⟨E, ho, hcnt, _⟩ := h
  obtain ⟨c, hc, h0, h1, h2⟩ := hcnt.c s
  refine ⟨c.toNat, ?_, by omega, ⟨fun e => h2.1 (by omega), fun e => by have := h2.2 e; omega⟩⟩
  rw [Int.toNat_of_nonneg h0]
  exact SetAt.look' ho hs hc
set_option maxRecDepth 100000 in
/-- 'm[s]++' -/
theorem SetAt.add {W : World} {b n : Nat} {L : List ByteArray} (h : SetAt W b n L) (s : ByteArray) (hs : s.size ≤ maxLen) (hn : n < maxLen) (hL : L.length ≤ 4611686018427387) : ∃ (c : Nat) (W' : World), c ≤ L.length ∧ (Instr.lookup 87 (.map (some b)) (.string s) false).run Tryz.prog W = .ok (.int .i64 (c : Int)) W ∧
    (Instr.mapUpdate 87 (.map (some b)) (.string s) (.int .i64 ((c : Int) + 1))).run Tryz.prog W = .ok () W' ∧ SetAt W' b (n + 1) (L ++ [s]) ∧ W.mapTurned W' b := by
  obtain ⟨E, ho, hcnt, hhas⟩ := h
  obtain ⟨c, hc, h0, h1, h2⟩ := hcnt.c s
  obtain ⟨W', hrun, ho', ht⟩ := ho.store str_key Tryz.underlying87 hn (keyOf_str1 s hs) (plainElem_int Tryz.underlying3 (wf_cnt (c := c + 1) (by omega) (by omega)))
  refine ⟨c.toNat, W', by omega, ?_, ?_, ⟨_, ho', hcnt.step hc, fun q => ?_⟩, ht⟩
  · rw [Int.toNat_of_nonneg h0]
    exact SetAt.look' ho hs hc
  · rw [Int.toNat_of_nonneg h0]
    exact hrun
  · rw [List.mem_append, List.mem_singleton, ← hhas]
    by_cases e : q = s
    · subst e
      rw [has_put_same hcnt.m (by trivial)]
      exact ⟨fun _ => .inr rfl, fun _ => rfl⟩
    · rw [has_put_other (fun e' => e (data_inj (by injection e')))]
      exact ⟨.inl, fun h => h.elim id fun h => absurd h e⟩

/-- ranging over it under way -/
def RangesS (W : World) (b r : Nat) (L : List ByteArray) (left : Lit → Bool) (cnt : Nat) : Prop := ∃ n E, W.ranges Tryz.prog 9 (plainElem Tryz.prog 3) b r n E left cnt ∧ CntIs E L ∧ ∀ s : ByteArray, Maps.has E (.string s.data.toList) = true ↔ s ∈ L
theorem RangesS.kept {W W' : World} {b r : Nat} {L : List ByteArray} {left : Lit → Bool} {cnt : Nat} {row : Option Nat} (h : RangesS W b r L left cnt) (hg : W.grownBy W' row) (hb : some b ≠ row) (hr : some r ≠ row) : RangesS W' b r L left cnt := by
  obtain ⟨n, E, h1, h2⟩ := h
  exact ⟨n, E, h1.kept hg hb hr, h2⟩
theorem RangesS.left_eq {W : World} {b r : Nat} {L : List ByteArray} {left : Lit → Bool} {cnt : Nat} (h : RangesS W b r L left cnt) : W.rangeLeft b r = cnt := by
  obtain ⟨n, E, h1, h2⟩ := h
  exact h1.left_eq
theorem RangesS.set {W : World} {b r : Nat} {L : List ByteArray} {left : Lit → Bool} {cnt : Nat} (h : RangesS W b r L left cnt) : ∃ n, SetAt W b n L := by
  obtain ⟨n, E, h1, h2⟩ := h
  exact ⟨n, E, h1.owns, h2⟩
section
variable {ops : Array Oper} {rest : List Oper} {o : Oper} {a : Act} {Q : Exit → Act → World → Prop}
theorem wpList_rangeS (w : World) (hg : o.guard = none) (m : Operand) (hop : o.op = Op.range 87 m) (b n : Nat) (L : List ByteArray) (hm : a.eval m = .map (some b)) (h : SetAt w b n L)
    (hK : ∀ w' (left : Lit → Bool) (cnt : Nat), RangesS w' b w.heap.size L left cnt → (∀ s : ByteArray, left (.string s.data.toList) = true ↔ s ∈ L) → cnt ≤ n → w.grownBy w' none → w'.heap.size = w.heap.size + 1 → wpList Tryz.prog ops Q rest (a.put o.dst (.pointer (some ⟨w.heap.size, 0, none⟩))) w') :
    wpList Tryz.prog ops Q (o :: rest) a w := by
  obtain ⟨E, ho, hc, hh⟩ := h
  have hsz : Maps.size E ≤ n := by
    obtain ⟨es, clock, hb, F, hn, hD⟩ := id ho
    have := congrArg Maps.size hD
    have e : Maps.size (DataW.map ((es.toList.map (WideElems.rg Tryz.prog 9 (plainElem Tryz.prog 3))).foldr DataW.insert []) : DataW Unit) = es.size := by simp [Maps.size, length_sorted]
    rw [e] at this
    omega
  exact wpList_range_own w hg m 87 hop 9 3 str_key Tryz.underlying87 _ b n E hm ho fun w' h1 h2 h3 => hK w' _ _ ⟨n, E, h1, hc, hh⟩ hh hsz h2 h3
theorem wpList_nextS (w : World) (hg : o.guard = none) (it : Operand) (hop : o.op = Op.next it false) (b r : Nat) (L : List ByteArray) (left : Lit → Bool) (cnt : Nat) (hit : a.eval it = .pointer (some ⟨r, 0, none⟩)) (h : RangesS w b r L left cnt)
    (hDone : cnt = 0 → (∀ kl, left kl = false) → wpList Tryz.prog ops Q rest (a.put o.dst (.tuple #[.bool false])) w)
    (hMore : ∀ (x : ByteArray) (c : Int) (w' : World) (cnt' : Nat), x ∈ L → x.size ≤ maxLen → left (.string x.data.toList) = true → RangesS w' b r L (fun z => left z && !z.sameKey (.string x.data.toList)) cnt' → cnt' < cnt →
      w.grownBy w' (some r) → w'.heap.size = w.heap.size → (Instr.entry (.pointer (some ⟨r, 0, none⟩))).run Tryz.prog w' = .ok (.tuple #[.string x, .int .i64 c]) w' → wpList Tryz.prog ops Q rest (a.put o.dst (.tuple #[.bool true, .string x, .int .i64 c])) w') :
    wpList Tryz.prog ops Q (o :: rest) a w := by
  obtain ⟨n, E, hr0, hc, hh⟩ := h
  refine wpList_next_ranges w hg it hop 9 str_key (plainElem Tryz.prog 3) (fun s : ByteArray => Value.string s) (fun c : Int => Value.int .i64 c) (fun key kl hk => ?_) (fun v y hv => ?_) b r n E left cnt hit hr0 hDone fun x c kl y w' cnt' hkey hl hv hat hr hlt hg2 hs hen => ?_
  · obtain ⟨x, hx, _⟩ := Maps.keyOf_str Tryz.underlying9 hk
    exact ⟨_, hx⟩
  · obtain ⟨s, rfl, _⟩ := plainElem_int_inv Tryz.underlying3 hv
    exact ⟨s, rfl⟩
  · obtain ⟨x', hx, rfl, hxm⟩ := Maps.keyOf_str Tryz.underlying9 hkey
    have ex : x.data.toList = x' := by rw [Value.string.inj hx]
    subst ex
    exact hMore x c w' cnt' ((hh x).1 (has_true_of_atKey hat)) (by rw [size_eq_length]; exact hxm) hl ⟨n, E, hr, hc, hh⟩ hlt hg2 hs hen
end
/-- what is gathered of a map of texts while ranging -/
theorem gath_no {M : Fm} {left : Lit → Bool} {x cc nm : ByteArray} {L : List ByteArray} (h : L.Nodup ∧ ∀ q : ByteArray, q ∈ L ↔ getF M q = some nm ∧ left (.string q.data.toList) = false) (hg : getF M x = some cc) (hne : cc ≠ nm) :
    L.Nodup ∧ ∀ q : ByteArray, q ∈ L ↔ getF M q = some nm ∧ (left (.string q.data.toList) && !(Lit.string q.data.toList).sameKey (.string x.data.toList)) = false := by
  refine ⟨h.1, fun q => ?_⟩
  rw [h.2, same_iff]
  by_cases e : q = x
  · subst e
    rw [hg]
    exact ⟨fun h => absurd (Option.some.inj h.1) hne, fun h => absurd (Option.some.inj h.1) hne⟩
  · rw [decide_eq_false e]
    simp
theorem gath_yes {M : Fm} {left : Lit → Bool} {x cc nm : ByteArray} {L : List ByteArray} (h : L.Nodup ∧ ∀ q : ByteArray, q ∈ L ↔ getF M q = some nm ∧ left (.string q.data.toList) = false) (hg : getF M x = some cc) (he : cc = nm) (hl : left (.string x.data.toList) = true) :
    (L ++ [x]).Nodup ∧ ∀ q : ByteArray, q ∈ L ++ [x] ↔ getF M q = some nm ∧ (left (.string q.data.toList) && !(Lit.string q.data.toList).sameKey (.string x.data.toList)) = false := by
  refine ⟨List.nodup_append.2 ⟨h.1, by simp, fun a ha b hb e => ?_⟩, fun q => ?_⟩
  · rw [List.mem_singleton] at hb
    rw [e, hb] at ha
    have := ((h.2 x).1 ha).2
    rw [hl] at this
    cases this
  · rw [List.mem_append, List.mem_singleton, h.2, same_iff]
    by_cases e : q = x
    · subst e
      rw [hg, he]
      simp
    · rw [decide_eq_false e]
      simp [e]
/-- .. and of a set -/
theorem gaths_step {left : Lit → Bool} {x : ByteArray} {L S : List ByteArray} (h : L.Nodup ∧ ∀ q : ByteArray, q ∈ L ↔ q ∈ S ∧ left (.string q.data.toList) = false) (hx : x ∈ S) (hl : left (.string x.data.toList) = true) :
    (L ++ [x]).Nodup ∧ ∀ q : ByteArray, q ∈ L ++ [x] ↔ q ∈ S ∧ (left (.string q.data.toList) && !(Lit.string q.data.toList).sameKey (.string x.data.toList)) = false := by
  refine ⟨List.nodup_append.2 ⟨h.1, by simp, fun a ha b hb e => ?_⟩, fun q => ?_⟩
  · rw [List.mem_singleton] at hb
    rw [e, hb] at ha
    have := ((h.2 x).1 ha).2
    rw [hl] at this
    cases this
  · rw [List.mem_append, List.mem_singleton, h.2, same_iff]
    by_cases e : q = x
    · subst e
      simp [hx]
    · rw [decide_eq_false e]
      simp [e]
end Go.Proofs.YtofogjfemlhffaaGreatDoor

namespace Go.Proofs
open Go.Shelf
def Tryz.lays192_ren : Go.Shelf.Ren := ⟨fun | 192 => 48 | 190 => 67 | 125 => 89 | 258 => 88 | 128 => 129 | 129 => 130 | 302 => 120 | 303 => 121 | 304 => 122 | 305 => 123 | 306 => 124 | 307 => 125 | 308 => 126 | 309 => 127 | 310 => 128 | 333 => 154 | 329 => 155 | 330 => 156 | 334 => 157 | 335 => 158 | 336 => 159 | 344 => 172 | n => n, fun | 31 => 40 | 0 => 0 | 9 => 9 | 3 => 3 | 46 => 120 | 51 => 165 | 53 => 167 | 4 => 4 | 183 => 158 | 182 => 157 | 131 => 162 | 5 => 5 | 218 => 193 | 222 => 197 | 228 => 204 | 229 => 205 | n => n, fun | n => n⟩
theorem Tryz.lays192 : Go.Proofs.Lays.n192 Tryz.prog Tryz.lays192_ren := {
  mixed := by kernel_rfl
  f125 := Tryz.func89.trans (congrArg some (by kernel_rfl))
  f128 := Tryz.func129.trans (congrArg some (by kernel_rfl))
  f129 := Tryz.func130.trans (congrArg some (by kernel_rfl))
  f190 := Tryz.func67.trans (congrArg some (by kernel_rfl))
  f192 := Tryz.func48.trans (congrArg some (by kernel_rfl))
  f258 := Tryz.func88.trans (congrArg some (by kernel_rfl))
  f302 := Tryz.func120.trans (congrArg some (by kernel_rfl))
  f303 := Tryz.func121.trans (congrArg some (by kernel_rfl))
  f304 := Tryz.func122.trans (congrArg some (by kernel_rfl))
  f305 := Tryz.func123.trans (congrArg some (by kernel_rfl))
  f306 := Tryz.func124.trans (congrArg some (by kernel_rfl))
  f307 := Tryz.func125.trans (congrArg some (by kernel_rfl))
  f308 := Tryz.func126.trans (congrArg some (by kernel_rfl))
  f309 := Tryz.func127.trans (congrArg some (by kernel_rfl))
  f310 := Tryz.func128.trans (congrArg some (by kernel_rfl))
  f329 := Tryz.func155.trans (congrArg some (by kernel_rfl))
  f330 := Tryz.func156.trans (congrArg some (by kernel_rfl))
  f333 := Tryz.func154.trans (congrArg some (by kernel_rfl))
  f334 := Tryz.func157.trans (congrArg some (by kernel_rfl))
  f335 := Tryz.func158.trans (congrArg some (by kernel_rfl))
  f336 := Tryz.func159.trans (congrArg some (by kernel_rfl))
  f344 := Tryz.func172.trans (congrArg some (by kernel_rfl))
  t0 := Tryz.underlying0
  a0 := Tryz.isAgg0
  z0 := Tryz.sizeOf0
  v0 := Tryz.zeroValue0
  t3 := Tryz.underlying3
  a3 := Tryz.isAgg3
  z3 := Tryz.sizeOf3
  v3 := Tryz.zeroValue3
  t4 := Tryz.underlying4
  a4 := Tryz.isAgg4
  z4 := Tryz.sizeOf4
  v4 := Tryz.zeroValue4
  t5 := Tryz.underlying5
  a5 := Tryz.isAgg5
  z5 := Tryz.sizeOf5
  v5 := Tryz.zeroValue5
  t9 := Tryz.underlying9
  a9 := Tryz.isAgg9
  z9 := Tryz.sizeOf9
  v9 := Tryz.zeroValue9
  t31 := Tryz.underlying40
  a31 := Tryz.isAgg40
  z31 := Tryz.sizeOf40
  v31 := Tryz.zeroValue40
  t46 := Tryz.underlying120
  a46 := Tryz.isAgg120
  z46 := Tryz.sizeOf120
  v46 := Tryz.zeroValue120
  t51 := Tryz.underlying165
  a51 := Tryz.isAgg165
  z51 := Tryz.sizeOf165
  v51 := Tryz.zeroValue165
  t53 := Tryz.underlying167
  a53 := Tryz.isAgg167
  z53 := Tryz.sizeOf167
  v53 := Tryz.zeroValue167
  t131 := Tryz.underlying162
  a131 := Tryz.isAgg162
  z131 := Tryz.sizeOf162
  v131 := Tryz.zeroValue162
  t182 := Tryz.underlying157
  a182 := Tryz.isAgg157
  z182 := Tryz.sizeOf157
  v182 := Tryz.zeroValue157
  t183 := Tryz.underlying158
  a183 := Tryz.isAgg158
  z183 := Tryz.sizeOf158
  v183 := Tryz.zeroValue158
  t218 := Tryz.underlying193
  a218 := Tryz.isAgg193
  z218 := Tryz.sizeOf193
  v218 := Tryz.zeroValue193
  t222 := Tryz.underlying197
  a222 := Tryz.isAgg197
  z222 := Tryz.sizeOf197
  v222 := Tryz.zeroValue197
  t228 := Tryz.underlying204
  a228 := Tryz.isAgg204
  z228 := Tryz.sizeOf204
  v228 := Tryz.zeroValue204
  t229 := Tryz.underlying205
  a229 := Tryz.isAgg205
  z229 := Tryz.sizeOf205
  v229 := Tryz.zeroValue205 }
open Go.Sort Go.RowKit in
theorem Tryz.sort_Strings (blk off cap : Nat) (ss : List (List UInt8)) (w : World) (hH : Holds encStr w blk off ss.toArray) (hblk : blk < w.heap.size) (hsz : ss.length < 4611686018427387904) :
    Calls Tryz.prog 48 #[.slice (some ⟨blk, off, none⟩) ss.length cap] w fun e w' =>
      e = .returned (.tuple #[]) ∧ ∃ n os, w' = grow (putRow encStr (Sort.ahead w n) blk off (ss.mergeSort fun x y => decide (x ≤ y)).toArray) os := Any.sort_Strings Tryz.lays192 blk off cap ss w hH hblk hsz
end Go.Proofs

namespace Go.Proofs.YtofogjfemlhffaaGreatDoor
open Go.RowKit

/-- a version short enough to be read -/
structure Tv.vs (t : Tv) : Prop where
  u : t.u.size ≤ 1000
  r : t.r.size ≤ 1000
theorem Tv.small.vs {t : Tv} (h : t.small) : t.vs := ⟨h.u, h.r⟩

/-! a package that is there -/
structure Ov where
  n : ByteArray
  e : Int
  u : ByteArray
  r : ByteArray
  ps : List Tv
def Ov.val (o : Ov) (vp : Value) : Value := .agg #[.string o.n, .int .i64 o.e, .string o.u, .string o.r, vp]
structure Ov.small (o : Ov) : Prop where
  u : o.u.size ≤ 1000
  r : o.r.size ≤ 1000
  ps : ∀ t ∈ o.ps, t.small
/-- at this address lies this package -/
def OfferAt (w : World) (b off : Nat) (o : Ov) : Prop :=
  ∃ vp, w.cell? ⟨b, off, none⟩ = some (.string o.n) ∧ w.cell? ⟨b, off + 1, none⟩ = some (.int .i64 o.e) ∧ w.cell? ⟨b, off + 2, none⟩ = some (.string o.u) ∧ w.cell? ⟨b, off + 3, none⟩ = some (.string o.r) ∧ w.cell? ⟨b, off + 4, none⟩ = some vp ∧ TermsAt w vp o.ps
theorem OfferAt.below {w w' : World} {b off : Nat} {o : Ov} (h : OfferAt w b off o) (hb : Below w.heap.size w w') : OfferAt w' b off o := by
  obtain ⟨vp, h0, h1, h2, h3, h4, h5⟩ := h
  exact ⟨vp, kept hb h0, kept hb h1, kept hb h2, kept hb h3, kept hb h4, h5.below hb⟩
/-- this value is a slice that reads as these packages -/
def OffersAt (w : World) (v : Value) (os : List Ov) : Prop :=
  ∃ A c, v = .slice A os.length c ∧ os.length ≤ c ∧ os.length ≤ 9223372036854775807 ∧ (os ≠ [] → ∃ b off, A = some ⟨b, off, none⟩ ∧ ∀ i o, os[i]? = some o → OfferAt w b (off + i * 5) o)
theorem OffersAt.below {w w' : World} {v : Value} {os : List Ov} (h : OffersAt w v os) (hb : Below w.heap.size w w') : OffersAt w' v os := by
  obtain ⟨A, c, hv, hc, hm, h⟩ := h
  refine ⟨A, c, hv, hc, hm, fun hn => ?_⟩
  obtain ⟨b, off, hA, hi⟩ := h hn
  exact ⟨b, off, hA, fun i o ho => (hi i o ho).below hb⟩

end Go.Proofs.YtofogjfemlhffaaGreatDoor

/- What depend.Terms makes: slices of terms in blocks of their own; what keeps them. · depend.Terms: the walk. -/
import Derived.Test.YtodbbfgkclkpgaaGreatDoorABK16
import Derived.Test.YtodbbfgkclkpgaaGreatDoorABK12
import Derived.Test.YtodbbfgkclkpgaaGreatDoorABK7
import Derived.Test.YtodbbfgkclkpgaaGreatDoorABK2
import Derived.RangeFuncBox
namespace Go.Proofs.YtodbbfgkclkpgaaGreatDoor
open Go Go.RowKit

/-- a slice that reads as these terms, in a block of terms from B on -/
def TermsIn (W : World) (B : Nat) (vx : Value) (x : List Tv) : Prop := TermsAt W vx x ∧ ∀ a n c, vx = .slice (some a) n c → B ≤ a.block ∧ ∃ cur fz, W.heap[a.block]? = some (.cells cur 99 fz)
theorem TermsIn.keep {W W' : World} {B : Nat} {vx : Value} {x : List Tv} (h : TermsIn W B vx x) (hk : ∀ (k : Nat) cur fz, B ≤ k → W.heap[k]? = some (.cells cur 99 fz) → W'.heap[k]? = W.heap[k]?) : TermsIn W' B vx x := by
  obtain ⟨⟨A, c, hv, hc, hm, hr⟩, ht⟩ := h
  refine ⟨⟨A, c, hv, hc, hm, fun hn => ?_⟩, fun a n c' hv' => ?_⟩
  · obtain ⟨b, off, rfl, hi⟩ := hr hn
    obtain ⟨hb, cur, fz, hcur⟩ := ht ⟨b, off, none⟩ _ _ hv
    have hbl := hk b cur fz hb hcur
    refine ⟨b, off, rfl, fun i t hti => ⟨?_, (hi i t hti).2⟩⟩
    obtain ⟨h0, h1, h2, h3, h4⟩ := (hi i t hti).1
    exact ⟨(World.cell?_of_block hbl).trans h0, (World.cell?_of_block hbl).trans h1, (World.cell?_of_block hbl).trans h2, (World.cell?_of_block hbl).trans h3, (World.cell?_of_block hbl).trans h4⟩
  · obtain ⟨hb, cur, fz, hcur⟩ := ht a n c' hv'
    exact ⟨hb, cur, fz, (hk _ cur fz hb hcur).trans hcur⟩
def RowsIn (W : World) (B : Nat) (L : List (List Tv)) (vs : List Value) : Prop := vs.length = L.length ∧ ∀ (i : Nat) (x : List Tv), L[i]? = some x → ∃ vx : Value, vs[i]? = some vx ∧ TermsIn W B vx x
theorem RowsIn.nil {W : World} {B : Nat} : RowsIn W B [] [] := ⟨rfl, fun _ _ h => by cases h⟩
theorem RowsIn.keep {W W' : World} {B : Nat} {L : List (List Tv)} {vs : List Value} (h : RowsIn W B L vs) (hk : ∀ (k : Nat) cur fz, B ≤ k → W.heap[k]? = some (.cells cur 99 fz) → W'.heap[k]? = W.heap[k]?) : RowsIn W' B L vs :=
  ⟨h.1, fun i x hx => by
    obtain ⟨vx, h1, h2⟩ := h.2 i x hx
    exact ⟨vx, h1, h2.keep hk⟩⟩
theorem RowsIn.snoc {W : World} {B : Nat} {L : List (List Tv)} {vs : List Value} {x : List Tv} {v : Value} (h : RowsIn W B L vs) (hv : TermsIn W B v x) : RowsIn W B (L ++ [x]) (vs ++ [v]) := by
  refine ⟨by rw [List.length_append, List.length_append, h.1]; rfl, fun i y hy => ?_⟩
  rcases Nat.lt_trichotomy i L.length with hi | hi | hi
  · rw [List.getElem?_append_left hi] at hy
    obtain ⟨vx, h1, h2⟩ := h.2 i y hy
    exact ⟨vx, by rw [List.getElem?_append_left (by rw [h.1]; exact hi)]; exact h1, h2⟩
  · subst hi
    rw [List.getElem?_append_right (Nat.le_refl _), Nat.sub_self] at hy
    obtain rfl := Option.some.inj hy
    exact ⟨v, by rw [List.getElem?_append_right (by rw [h.1]; exact Nat.le_refl _), h.1, Nat.sub_self]; rfl, hv⟩
  · rw [List.getElem?_eq_none (by rw [List.length_append, List.length_singleton]; omega)] at hy
    cases hy

/-! rows of the call's own: terms -/
theorem info_term : (Tryz.prog.info? 99).map (fun i => (i.zero, i.size, i.bytes)) = some (some (.agg #[.string ⟨#[]⟩, .int .i64 0, .int .i64 0, .string ⟨#[]⟩, .string ⟨#[]⟩]), 5, 64) := by kernel_rfl
def Tv.cells (t : Tv) : List Value := [.string t.n, .int .i64 t.op, .int .i64 t.e, .string t.u, .string t.r]
theorem cells_at {ts : List Tv} {i : Nat} {t : Tv} (h : ts[i]? = some t) (j : Nat) (hj : j < 5) : (ts.flatMap Tv.cells)[i * 5 + j]? = t.cells[j]? := by
  induction ts generalizing i with
  | nil => cases h
  | cons a ts ih =>
    rw [List.flatMap_cons]
    have hl : a.cells.length = 5 := rfl
    cases i with
    | zero =>
      obtain rfl := Option.some.inj h
      rw [List.getElem?_append_left (by rw [hl]; omega)]
      congr 1
      omega
    | succ i =>
      rw [List.getElem?_append_right (by rw [hl]; omega), hl, show (i + 1) * 5 + j - 5 = i * 5 + j by omega]
      exact ih h

theorem termsIn_own {W : World} {base B : Nat} {v : Value} {ts : List Tv} (h : W.ownsRow base 99 5 v ts.length (ts.flatMap Tv.cells)) (hB : B ≤ base) (hm : ts.length ≤ 9223372036854775807) (hok : ∀ t ∈ ts, t.ok) : TermsIn W B v ts := by
  rcases h.2 with ⟨rfl, h0⟩ | ⟨g, cap, cur, rfl, hg, hk, hc, _, _, _⟩
  · have : ts = [] := List.eq_nil_of_length_eq_zero h0
    subst this
    exact ⟨⟨none, 0, rfl, Nat.le_refl _, by simp, fun h => absurd rfl h⟩, fun a n c e => by cases e⟩
  · refine ⟨⟨some ⟨g, 0, none⟩, cap, rfl, hc, hm, fun _ => ⟨g, 0, rfl, fun i t ht => ⟨?_, hok t (List.mem_of_getElem? ht)⟩⟩⟩, fun a n c e => ?_⟩
    · have key : ∀ j, j < 5 → ∀ u, t.cells[j]? = some u → W.cell? ⟨g, 0 + i * 5 + j, none⟩ = some u := fun j hj u hu => by
        have := h.cells (g := g) rfl (i * 5 + j) u (by rw [cells_at ht j hj]; exact hu)
        rw [Go.WideShapes.add_plain] at this
        rw [show 0 + i * 5 + j = 0 + (i * 5 + j) by omega]
        exact this
      exact ⟨key 0 (by omega) _ rfl, key 1 (by omega) _ rfl, key 2 (by omega) _ rfl, key 3 (by omega) _ rfl, key 4 (by omega) _ rfl⟩
    · injection e with e1 _ _
      injection e1 with e1
      subst e1
      exact ⟨by show B ≤ g; omega, cur, (0, 0), hk⟩

/-! what abides the iterator's steps -/
theorem ownBox_boxed {β : Type} {B Bs b : Nat} {t : TypeId} {f : β → Value} (hne : b ≠ Bs) : OwnBox B Bs (fun s W => Boxed W b t (f s)) := fun s X Y row hs hg hr =>
  hs.kept hg (fun e => by
    rcases hr b e.symm with h | ⟨_, o, ho, hc⟩
    · exact hne h
    · rw [show X.heap[b]? = _ from hs] at ho; cases ho; cases hc)
theorem ownBox_row {β : Type} {B Bs base : Nat} {e : TypeId} {size : Nat} {v : β → Value} {n : β → Nat} {xs : β → List Value} (hb : Bs < base) : OwnBox B Bs (fun s W => W.ownsRow base e size (v s) (n s) (xs s)) := fun s X Y row hs hg hr => by
  refine hs.kept hg ?_
  rcases hs.2 with ⟨h, _⟩ | ⟨g, cap, cur, h, hgb, hk, _⟩
  · left
    show (v s).ownBlock = none
    rw [h]; rfl
  · right
    intro e'
    have h2 : (v s).ownBlock = some g := by rw [h]; rfl
    rw [h2] at e'
    rcases hr g e'.symm with h3 | ⟨_, o, ho, hc⟩
    · omega
    · rw [hk] at ho; cases ho; cases hc
theorem ownBox_rows {β : Type} {B Bs Bt : Nat} {L : β → List (List Tv)} {vs : β → List Value} (hb : Bs < Bt) : OwnBox B Bs (fun s W => RowsIn W Bt (L s) (vs s)) := fun s X Y row hs hg hr =>
  hs.keep fun k cur fz hk hc => hg.block k (Array.getElem?_eq_some_iff.1 hc).1 (fun e => by
    rcases hr k e.symm with h3 | ⟨_, o, ho, hcc⟩
    · omega
    · rw [hc] at ho; cases ho; cases hcc)
theorem ownBox_below {β : Type} {B Bs n₀ : Nat} {w₀ : World} (hn : n₀ ≤ B) (hb : n₀ ≤ Bs) (hz : n₀ ≤ w₀.heap.size) : OwnBox B Bs (fun (_ : β) W => Below n₀ w₀ W) := fun _ X Y row hs hg hr => by
  refine hs.grown hg ?_ (fun k e => ?_)
  · have := hs.size; omega
  · rcases hr k e with h | ⟨h, _⟩ <;> omega

/-- all that lay is as it lay, but three boxes -/
def Same3 (W0 : World) (p q r : Nat) (W : World) : Prop := W0.heap.size ≤ W.heap.size ∧ ∀ k, k < W0.heap.size → k ≠ p → k ≠ q → k ≠ r → W.heap[k]? = W0.heap[k]?
theorem Same3.refl (W : World) (p q r : Nat) : Same3 W p q r W := ⟨Nat.le_refl _, fun _ _ _ _ _ => rfl⟩
theorem Same3.below {W0 W W' : World} {p q r : Nat} (h : Same3 W0 p q r W) (hb : Below W0.heap.size W W') : Same3 W0 p q r W' := ⟨Nat.le_trans h.1 hb.size, fun k hk h1 h2 h3 => (hb.block k hk).trans (h.2 k hk h1 h2 h3)⟩
theorem Same3.set {W0 W : World} {p q r b : Nat} (h : Same3 W0 p q r W) (hb : b = p ∨ b = q ∨ b = r ∨ W0.heap.size ≤ b) (v : Value) : Same3 W0 p q r (W.setCell ⟨b, 0, none⟩ v) :=
  ⟨by have := (grownBy_setCell' W b v).size; exact Nat.le_trans h.1 this, fun k hk h1 h2 h3 => ((grownBy_setCell' W b v).block k (Nat.lt_of_lt_of_le hk h.1) (fun e => by injection e; omega)).trans (h.2 k hk h1 h2 h3)⟩
theorem Same3.grown {W0 W W' : World} {p q r : Nat} {row : Option Nat} (h : Same3 W0 p q r W) (hg : W.grownBy W' row) (hr : ∀ g, row = some g → W0.heap.size ≤ g) : Same3 W0 p q r W' :=
  ⟨Nat.le_trans h.1 hg.size, fun k hk h1 h2 h3 => (hg.block k (Nat.lt_of_lt_of_le hk h.1) (fun e => by have := hr k e.symm; omega)).trans (h.2 k hk h1 h2 h3)⟩
theorem ownBox_same {β : Type} {B Bs p q r : Nat} {W0 : World} (hB : W0.heap.size ≤ B) (hb : W0.heap.size ≤ Bs) : OwnBox B Bs (fun (_ : β) W => Same3 W0 p q r W) := fun _ X Y row hs hg hr =>
  hs.grown hg (fun g e => by rcases hr g e with h | ⟨h, _⟩ <;> omega)
theorem Same3.boxed {W0 W : World} {p q r b : Nat} {t : TypeId} {v : Value} (h : Same3 W0 p q r W) (hb : Boxed W0 b t v) (h1 : b ≠ p) (h2 : b ≠ q) (h3 : b ≠ r) : Boxed W b t v := (h.2 b hb.lt h1 h2 h3).trans hb
theorem Same3.keepsFrom {W0 W : World} {p q r B : Nat} {tp tq tr : TypeId} {vp vq vr : Value} (h : Same3 W0 p q r W) (hp : Boxed W0 p tp vp) (hq : Boxed W0 q tq vq) (hr : Boxed W0 r tr vr) : KeepsFrom B W0 W :=
  ⟨h.1, fun k o _ hk ho => (h.2 k (Array.getElem?_eq_some_iff.1 hk).1 (fun e => by subst e; rw [show W0.heap[k]? = _ from hp] at hk; cases hk; cases ho) (fun e => by subst e; rw [show W0.heap[k]? = _ from hq] at hk; cases hk; cases ho) (fun e => by subst e; rw [show W0.heap[k]? = _ from hr] at hk; cases hk; cases ho)).trans hk⟩
theorem Same3.rows {W0 W : World} {p q r B : Nat} {tp tq tr : TypeId} {vp vq vr : Value} {L : List (List Tv)} {vs : List Value} (h : Same3 W0 p q r W) (hp : Boxed W0 p tp vp) (hq : Boxed W0 q tq vq) (hr : Boxed W0 r tr vr) (h1 : tp ≠ 99) (h2 : tq ≠ 99) (h3 : tr ≠ 99) (hR : RowsIn W0 B L vs) : RowsIn W B L vs :=
  hR.keep fun k cur fz _ hk => h.2 k (Array.getElem?_eq_some_iff.1 hk).1 (fun e => by subst e; rw [show W0.heap[k]? = _ from hp] at hk; cases hk; exact h1 rfl) (fun e => by subst e; rw [show W0.heap[k]? = _ from hq] at hk; cases hk; exact h2 rfl) (fun e => by subst e; rw [show W0.heap[k]? = _ from hr] at hk; cases hk; exact h3 rfl)
theorem Same3.row {W0 W : World} {p q r base : Nat} {e tp tq tr : TypeId} {vp vq vr v : Value} {size n : Nat} {xs : List Value} (h : Same3 W0 p q r W) (hp : Boxed W0 p tp vp) (hq : Boxed W0 q tq vq) (hr : Boxed W0 r tr vr) (h1 : tp ≠ e) (h2 : tq ≠ e) (h3 : tr ≠ e) (hR : W0.ownsRow base e size v n xs) : W.ownsRow base e size v n xs := by
  obtain ⟨hl, h0 | ⟨g, cap, cur, hv, hg, hk, h4⟩⟩ := hR
  · exact ⟨hl, .inl h0⟩
  · exact ⟨hl, .inr ⟨g, cap, cur, hv, hg, (h.2 g (Array.getElem?_eq_some_iff.1 hk).1 (fun e => by subst e; rw [show W0.heap[g]? = _ from hp] at hk; cases hk; exact h1 rfl) (fun e => by subst e; rw [show W0.heap[g]? = _ from hq] at hk; cases hk; exact h2 rfl) (fun e => by subst e; rw [show W0.heap[g]? = _ from hr] at hk; cases hk; exact h3 rfl)).trans hk, h4⟩⟩
end Go.Proofs.YtodbbfgkclkpgaaGreatDoor

namespace Go.Proofs.YtodbbfgkclkpgaaGreatDoor
open Go Go.RowKit Go.Shelf

attribute [local go_sem] Oper.semAt_some

theorem OwnBox.exists {β ι : Type} {B Bs : Nat} {f : ι → β → World → Prop} (h : ∀ i, OwnBox B Bs (f i)) : OwnBox B Bs (fun s W => ∃ i, f i s W) := fun s X Y row hs hg hr => by
  obtain ⟨i, hi⟩ := hs
  exact ⟨i, h i s X Y row hi hg hr⟩

theorem appended_far {W w1 : World} {base B : Nat} {t e : TypeId} {size : Nat} {v v' : Value} {k m : Nat} {xs ys : List Value} {tmp : Obj}
    (hv : Boxed W B t v) (hte : t ≠ e) (hrow : W.ownsRow base e size v k xs) (hown' : w1.ownsRow base e size v' m ys) (hgrow : (W.alloc tmp).grownBy w1 v.ownBlock) :
    Boxed w1 B t v ∧ Boxed (w1.setCell ⟨B, 0, none⟩ v') B t v' ∧ (w1.setCell ⟨B, 0, none⟩ v').ownsRow base e size v' m ys ∧ KeepsOthers W (w1.setCell ⟨B, 0, none⟩ v') ∧
    W.heap.size ≤ (w1.setCell ⟨B, 0, none⟩ v').heap.size ∧ (∀ j, j < W.heap.size → j ≠ B → some j ≠ v.ownBlock → (w1.setCell ⟨B, 0, none⟩ v').heap[j]? = W.heap[j]?) ∧
    (∀ n₀, n₀ ≤ W.heap.size → n₀ ≤ base → n₀ ≤ B → Below n₀ W (w1.setCell ⟨B, 0, none⟩ v')) := by
  have hv1 : Boxed w1 B t v := (hv.alloc tmp).kept hgrow (hv.not_row hte hrow)
  refine ⟨hv1, hv1.set v', hown'.kept (grownBy_setCell' w1 B v') (.inr (hv1.not_row hte hown').symm), ?_, ?_, ?_, ?_⟩
  · refine ((KeepsOthers.alloc W tmp).trans (KeepsOthers.of_grownBy hgrow fun j o ej hj => ?_)).trans (KeepsOthers.setCell _ _ _)
    rcases (hrow.alloc tmp).2 with ⟨rfl, _⟩ | ⟨g, cap, cur, rfl, _, hgb, _⟩
    · simp [Value.ownBlock] at ej
    · obtain rfl : g = j := by simpa [Value.ownBlock] using ej
      rw [hgb] at hj; cases hj; rfl
  · have h1 := (grownBy_setCell' w1 B v').size
    have h2 := hgrow.size
    have h3 : (W.alloc tmp).heap.size = W.heap.size + 1 := World.size_alloc ..
    omega
  · intro j hj hjB hjo
    have h2 := hgrow.size
    have h3 : (W.alloc tmp).heap.size = W.heap.size + 1 := World.size_alloc ..
    refine ((grownBy_setCell' w1 B v').block j (by omega) (fun e => by injection e; omega)).trans ?_
    exact (hgrow.block j (by omega) hjo).trans (Below.heap_alloc _ _ _ hj)
  · intro n₀ hn hb hB
    refine (((Below.refl n₀ W).alloc hn tmp).grown hgrow (by simp; omega) fun j ej => ?_).setCell (p := ⟨B, 0, none⟩) hB v'
    rcases hrow.2 with ⟨rfl, _⟩ | ⟨g, cap, cur, rfl, hb2, _, _⟩
    · simp [Value.ownBlock] at ej
    · obtain rfl : g = j := by simpa [Value.ownBlock] using ej
      omega

theorem boxed_below {W W' : World} {b : Nat} {t : TypeId} {v : Value} (h : Boxed W b t v) (hb : Below W.heap.size W W') : Boxed W' b t v := (hb.block b h.lt).trans h

/-- the block of a row is none of what lies below its base, and holds no other type -/
theorem ownBlock_ge {W : World} {base : Nat} {e : TypeId} {size : Nat} {v : Value} {k : Nat} {xs : List Value} (h : W.ownsRow base e size v k xs) {j : Nat} (hj : j < base) : some j ≠ v.ownBlock := by
  intro e'
  rcases h.2 with ⟨rfl, _⟩ | ⟨g, cap, cur, rfl, hg, _⟩
  · simp [Value.ownBlock] at e'
  · obtain rfl : g = j := by simpa [Value.ownBlock] using e'.symm
    omega
theorem ownBlock_type {W : World} {base : Nat} {e t : TypeId} {size : Nat} {v : Value} {k : Nat} {xs : List Value} (h : W.ownsRow base e size v k xs) (hte : t ≠ e) {j : Nat} {cur : Array Value} {fz : Nat × Nat} (hj : W.heap[j]? = some (.cells cur t fz)) : some j ≠ v.ownBlock := by
  intro e'
  rcases h.2 with ⟨rfl, _⟩ | ⟨g, cap, cur', rfl, hg, hc, _⟩
  · simp [Value.ownBlock] at e'
  · obtain rfl : g = j := by simpa [Value.ownBlock] using e'.symm
    rw [hc] at hj
    cases hj
    exact hte rfl

theorem askedAt_own {W : World} {base : Nat} {v : Value} {L : List (List Tv)} {vs : List Value} (h : W.ownsRow base 25 1 v L.length vs) (hR : RowsIn W base L vs) (hm : L.length ≤ 9223372036854775807) : AskedAt W v L := by
  rcases h.2 with ⟨rfl, h0⟩ | ⟨g, cap, cur, rfl, hg, hk, hc, _⟩
  · have : L = [] := List.eq_nil_of_length_eq_zero h0
    subst this
    exact ⟨none, 0, rfl, Nat.le_refl _, by simp, fun h => absurd rfl h⟩
  · refine ⟨some ⟨g, 0, none⟩, cap, rfl, hc, hm, fun _ => ⟨g, 0, rfl, fun i x hx => ?_⟩⟩
    obtain ⟨vx, h1, h2⟩ := hR.2 i x hx
    refine ⟨vx, ?_, h2.1⟩
    have := h.cells (g := g) rfl i vx h1
    rwa [Go.WideShapes.add_plain] at this

/-- a slice's block is from B on -/
def SlFr (B : Nat) (v : Value) : Prop := ∀ b off n c, v = .slice (some ⟨b, off, none⟩) n c → B ≤ b
theorem slFr_nil (B n c : Nat) : SlFr B (.slice none n c) := fun _ _ _ _ h => by cases h
theorem slFr_own {W : World} {base B : Nat} {e : TypeId} {size n : Nat} {v : Value} {xs : List Value} (h : W.ownsRow base e size v n xs) (hB : B ≤ base) : SlFr B v := by
  intro b off n' c hv
  rcases id h.2 with ⟨rfl, _⟩ | ⟨g, cap, cur, rfl, hg, _⟩
  · cases hv
  · cases hv; omega
/-- the blocks of lists of terms are from B on -/
def AskedFr (B : Nat) (W : World) (v : Value) (L : List (List Tv)) : Prop := ∀ b off n c, v = .slice (some ⟨b, off, none⟩) n c → L ≠ [] → B ≤ b ∧ ∀ (i : Nat) (x : List Tv), L[i]? = some x → ∀ b' off' n' c', W.cell? ⟨b, off + i, none⟩ = some (.slice (some ⟨b', off', none⟩) n' c') → x ≠ [] → B ≤ b'
theorem askedFr_nil (B : Nat) (W : World) (L : List (List Tv)) (n c : Nat) : AskedFr B W (.slice none n c) L := fun _ _ _ _ h => by cases h
theorem askedFr_own {W : World} {base B : Nat} {v : Value} {L : List (List Tv)} {vs : List Value} (h : W.ownsRow base 25 1 v L.length vs) (hR : RowsIn W base L vs) (hB : B ≤ base) : AskedFr B W v L := by
  intro b off n c hv hn
  rcases id h.2 with ⟨rfl, h0⟩ | ⟨g, cap, cur, rfl, hg, hk, hc, _⟩
  · cases hv
  · cases hv
    refine ⟨by omega, fun i x hx b' off' n' c' hcell hnx => ?_⟩
    obtain ⟨vx, h1, h2⟩ := hR.2 i x hx
    have hcv := h.cells (g := b) rfl i vx h1
    rw [Go.WideShapes.add_plain] at hcv
    rw [hcell] at hcv
    have hvx := Option.some.inj hcv
    have := (h2.2 ⟨b', off', none⟩ n' c' hvx.symm).1
    exact Nat.le_trans hB this

def TermsIs (s : ByteArray) (w : World) (E : Ending) (w' : World) : Prop :=
  Below w.heap.size w w' ∧ ((∃ L v, E = .returned (.tuple #[v, .nilIface]) ∧ VP.termsP s.data.toList = .ok (tmL L) ∧ AskedAt w' v L ∧ ∀ x ∈ L, ∀ t ∈ x, Tv.small t) ∨
    (∃ e, E = .returned (.tuple #[.slice none 0 0, .iface 32 (.int .i64 e)]) ∧ VP.termsP s.data.toList = .error e ∧ (e = 3 ∨ e = 4)))

def TermsFIs (s : ByteArray) (w : World) (E : Ending) (w' : World) : Prop :=
  Below w.heap.size w w' ∧ ((∃ L v, E = .returned (.tuple #[v, .nilIface]) ∧ VP.termsP s.data.toList = .ok (tmL L) ∧ AskedAt w' v L ∧ (∀ x ∈ L, ∀ t ∈ x, Tv.small t) ∧ AskedFr w.heap.size w' v L) ∨
    (∃ e, E = .returned (.tuple #[.slice none 0 0, .iface 32 (.int .i64 e)]) ∧ VP.termsP s.data.toList = .error e ∧ (e = 3 ∨ e = 4)))

theorem pieces_len (c : UInt8) (l : List UInt8) : (VP.pieces c l).length ≤ l.length + 1 := by
  induction l with
  | nil => simp [VP.pieces]
  | cons x l ih =>
    rw [VP.pieces]
    split
    · simp only [List.length_cons]; omega
    · split
      · simp
      · rename_i h
        rw [h] at ih
        simp only [List.length_cons] at ih ⊢
        omega
theorem pieces_size (c : UInt8) (l : List UInt8) : ∀ x ∈ VP.pieces c l, x.length ≤ l.length := by
  induction l with
  | nil => simp [VP.pieces]
  | cons y l ih =>
    rw [VP.pieces]
    split
    · intro x hx
      rcases List.mem_cons.1 hx with rfl | hx
      · simp
      · have := ih x hx
        simp only [List.length_cons]; omega
    · split
      · intro x hx
        rcases List.mem_cons.1 hx with rfl | hx
        · simp
        · cases hx
      · rename_i p ps h
        rw [h] at ih
        intro x hx
        rcases List.mem_cons.1 hx with rfl | hx
        · have := ih p List.mem_cons_self
          simp only [List.length_cons]; omega
        · have := ih x (List.mem_cons_of_mem _ hx)
          simp only [List.length_cons]; omega
theorem piecesB_data (c : UInt8) (s : ByteArray) : (piecesB c s).map (fun x => x.data.toList) = VP.pieces c s.data.toList := by
  unfold piecesB
  rw [List.map_map]
  exact List.map_id _
theorem piecesB_size {c : UInt8} {s x : ByteArray} {a b : List ByteArray} (h : piecesB c s = a ++ x :: b) : x.size ≤ s.size := by
  have h1 : x.data.toList ∈ VP.pieces c s.data.toList := by
    rw [← piecesB_data, h]
    exact List.mem_map.2 ⟨x, by simp, rfl⟩
  have := pieces_size c _ _ h1
  rwa [← size_eq_length, ← size_eq_length] at this
theorem piecesB_pre {c : UInt8} {s : ByteArray} {a b : List ByteArray} (h : piecesB c s = a ++ b) : a.length ≤ s.size + 1 := by
  have h1 := pieces_len c s.data.toList
  rw [← piecesB_data, h, List.length_map, List.length_append, ← size_eq_length] at h1
  omega
theorem eachC_len {n k : Nat} {xs : List (List UInt8)} {r : List (List VP.Tm)} (h : VP.eachC n xs = .ok (r, k)) : r.length = xs.length := by
  induction xs generalizing n r k with
  | nil =>
    simp [VP.eachC] at h
    rw [h.1]; rfl
  | cons x xs ih =>
    simp only [VP.eachC] at h
    cases hs : VP.someP n (VP.pieces 124 x) with
    | error e => rw [hs] at h; cases h
    | ok p =>
      obtain ⟨ts, m⟩ := p
      rw [hs] at h
      simp only at h
      cases he : VP.eachC m xs with
      | error e => rw [he] at h; cases h
      | ok q =>
        obtain ⟨r', m'⟩ := q
        rw [he] at h
        simp only [Except.ok.injEq, Prod.mk.injEq] at h
        rw [← h.1, List.length_cons, List.length_cons, ih he]

/-! what holds as the rounds go -/
def dat (x : ByteArray) : List UInt8 := x.data.toList
def OutI (w : World) (O N R base : Nat) (pre : List ByteArray) (W : World) : Prop := ∃ i : List (List Tv) × List Value × Value × Nat,
  Boxed W O 24 i.2.2.1 ∧ W.ownsRow base 25 1 i.2.2.1 i.1.length i.2.1 ∧ RowsIn W base i.1 i.2.1 ∧ Boxed W N 3 (.int .i64 (i.2.2.2 : Int)) ∧ Boxed W R 24 (.slice none 0 0) ∧ Boxed W (R + 1) 36 .nilIface ∧
  (VP.eachC 0 (pre.map dat) = .ok (tmL i.1, i.2.2.2) ∧ ∀ x ∈ i.1, ∀ t ∈ x, Tv.small t) ∧ Below w.heap.size w W
def OutX (w : World) (R : Nat) (cs : List (List UInt8)) (_ : List ByteArray) (W : World) : Prop :=
  Boxed W R 24 (.slice none 0 0) ∧ (∃ e : Int, Boxed W (R + 1) 36 (.iface 32 (.int .i64 e)) ∧ (VP.eachP 0 cs = .error e ∧ (e = 3 ∨ e = 4))) ∧ Below w.heap.size w W
def InI (w W : World) (N R Lb base n0 : Nat) (pre : List ByteArray) (W' : World) : Prop := ∃ i : List Tv × Value × Nat,
  Boxed W' Lb 25 i.2.1 ∧ W'.ownsRow base 99 5 i.2.1 i.1.length (i.1.flatMap Tv.cells) ∧ Boxed W' N 3 (.int .i64 (i.2.2 : Int)) ∧ Boxed W' R 24 (.slice none 0 0) ∧ Boxed W' (R + 1) 36 .nilIface ∧
  (VP.someP n0 (pre.map dat) = .ok (i.1.map Tv.tm, i.2.2) ∧ ∀ t ∈ i.1, Tv.small t) ∧ Same3 W N R (R + 1) W' ∧ Below w.heap.size w W'
def InX (w W : World) (N R n0 : Nat) (ys : List (List UInt8)) (_ : List ByteArray) (W' : World) : Prop :=
  Boxed W' R 24 (.slice none 0 0) ∧ (∃ e : Int, Boxed W' (R + 1) 36 (.iface 32 (.int .i64 e)) ∧ (VP.someP n0 ys = .error e ∧ (e = 3 ∨ e = 4))) ∧ Same3 W N R (R + 1) W' ∧ Below w.heap.size w W'

theorem outI_box {w : World} {O N R base B Bs : Nat} (h1 : O ≠ Bs) (h2 : N ≠ Bs) (h3 : R ≠ Bs) (h4 : R + 1 ≠ Bs) (h5 : Bs < base) (h6 : w.heap.size ≤ B) (h7 : w.heap.size ≤ Bs) : OwnBox B Bs (OutI w O N R base) :=
  OwnBox.exists fun _ => (ownBox_boxed h1).and ((ownBox_row h5).and ((ownBox_rows h5).and ((ownBox_boxed h2).and ((ownBox_boxed h3).and ((ownBox_boxed h4).and ((ownBox_pure _ _ _).and (ownBox_below h6 h7 (Nat.le_refl _))))))))
theorem outX_box {w : World} {R B Bs : Nat} {cs : List (List UInt8)} (h3 : R ≠ Bs) (h4 : R + 1 ≠ Bs) (h6 : w.heap.size ≤ B) (h7 : w.heap.size ≤ Bs) : OwnBox B Bs (OutX w R cs) :=
  (ownBox_boxed h3).and ((OwnBox.exists fun _ => (ownBox_boxed h4).and (ownBox_pure _ _ _)).and (ownBox_below h6 h7 (Nat.le_refl _)))
theorem inI_box {w W : World} {N R Lb base n0 B Bs : Nat} (h1 : Lb ≠ Bs) (h2 : N ≠ Bs) (h3 : R ≠ Bs) (h4 : R + 1 ≠ Bs) (h5 : Bs < base) (h6 : w.heap.size ≤ B) (h7 : w.heap.size ≤ Bs) (h8 : W.heap.size ≤ B) (h9 : W.heap.size ≤ Bs) : OwnBox B Bs (InI w W N R Lb base n0) :=
  OwnBox.exists fun _ => (ownBox_boxed h1).and ((ownBox_row h5).and ((ownBox_boxed h2).and ((ownBox_boxed h3).and ((ownBox_boxed h4).and ((ownBox_pure _ _ _).and ((ownBox_same h8 h9).and (ownBox_below h6 h7 (Nat.le_refl _))))))))
theorem inX_box {w W : World} {N R n0 B Bs : Nat} {ys : List (List UInt8)} (h3 : R ≠ Bs) (h4 : R + 1 ≠ Bs) (h6 : w.heap.size ≤ B) (h7 : w.heap.size ≤ Bs) (h8 : W.heap.size ≤ B) (h9 : W.heap.size ≤ Bs) : OwnBox B Bs (InX w W N R n0 ys) :=
  (ownBox_boxed h3).and ((OwnBox.exists fun _ => (ownBox_boxed h4).and (ownBox_pure _ _ _)).and ((ownBox_same h8 h9).and (ownBox_below h6 h7 (Nat.le_refl _))))

theorem term_set {a : Nat} (w : World) (v : Value) (ha : a ≠ w.heap.size) (n : ByteArray) (op e : Int) (u r : ByteArray) :
    ((w.alloc (.cells #[.string n, .int .i64 op, .int .i64 e, .string u, .string r] 99)).setCell ⟨a, 0, none⟩ v).cell? ⟨w.heap.size, 0, none⟩ = some (.string n) ∧
    ((w.alloc (.cells #[.string n, .int .i64 op, .int .i64 e, .string u, .string r] 99)).setCell ⟨a, 0, none⟩ v).cell? ⟨w.heap.size, 1, none⟩ = some (.int .i64 op) ∧
    ((w.alloc (.cells #[.string n, .int .i64 op, .int .i64 e, .string u, .string r] 99)).setCell ⟨a, 0, none⟩ v).cell? ⟨w.heap.size, 2, none⟩ = some (.int .i64 e) ∧
    ((w.alloc (.cells #[.string n, .int .i64 op, .int .i64 e, .string u, .string r] 99)).setCell ⟨a, 0, none⟩ v).cell? ⟨w.heap.size, 3, none⟩ = some (.string u) ∧
    ((w.alloc (.cells #[.string n, .int .i64 op, .int .i64 e, .string u, .string r] 99)).setCell ⟨a, 0, none⟩ v).cell? ⟨w.heap.size, 4, none⟩ = some (.string r) := by
  obtain ⟨h0, h1, h2, h3, h4, _⟩ := (Box5.new w n op e u r 99).other (j := 0) (v := v) (Ne.symm ha)
  exact ⟨h0, h1, h2, h3, h4⟩

theorem cells_new (W : World) (n : ByteArray) (op e : Int) (u r : ByteArray) (b : Nat) (hb : W.heap.size = b) : ∀ j v, (Tv.cells ⟨n, op, e, u, r⟩)[j]? = some v → (W.alloc (.cells #[.string n, .int .i64 op, .int .i64 e, .string u, .string r] 99)).cell? ((⟨b, 0, none⟩ : Addr).add j) = some v := by
  intro j v hj
  rw [Go.WideShapes.add_plain, Nat.zero_add]
  subst hb
  obtain ⟨h0, h1, h2, h3, h4, _⟩ := Box5.new W n op e u r 99
  rcases j with _ | _ | _ | _ | _ | j
  · cases hj; exact h0
  · cases hj; exact h1
  · cases hj; exact h2
  · cases hj; exact h3
  · cases hj; exact h4
  · cases hj
theorem cells_snoc (ts : List Tv) (t : Tv) : (ts ++ [t]).flatMap Tv.cells = ts.flatMap Tv.cells ++ t.cells := by simp
theorem row_shape {W : World} {base : Nat} {e : TypeId} {size : Nat} {v : Value} {k : Nat} {xs : List Value} (h : W.ownsRow base e size v k xs) : ∃ A n c, v = .slice A n c := by
  rcases h.2 with ⟨rfl, _⟩ | ⟨g, cap, _, rfl, _⟩
  · exact ⟨_, _, _, rfl⟩
  · exact ⟨_, _, _, rfl⟩

theorem keepsFrom_below {B : Nat} {W W' : World} (hb : Below W.heap.size W W') : KeepsFrom B W W' := ⟨hb.size, fun k _ _ hk _ => (hb.block k (Array.getElem?_eq_some_iff.1 hk).1).trans hk⟩

theorem term_no (y : ByteArray) (w : World) (hE : Env w) (hS : EnvS w) (hs : y.size ≤ 200000) (h : VP.termP y.data.toList = none) : Calls Tryz.prog 155 #[.string y] w fun E w' =>
    ∃ n op e u r, E = .returned (.tuple #[.agg #[.string n, .int .i64 op, .int .i64 e, .string u, .string r], .bool false]) ∧ Below w.heap.size w w' :=
  (term_calls y w hE hS hs).mono fun E w' ⟨t, hE, _, _, hb⟩ => ⟨t.n, t.op, t.e, t.u, t.r, by rw [hE, h]; rfl, hb⟩
theorem term_yes (y : ByteArray) (w : World) (hE : Env w) (hS : EnvS w) (hs : y.size ≤ 200000) {x : VP.Tm} (h : VP.termP y.data.toList = some x) : Calls Tryz.prog 155 #[.string y] w fun E w' =>
    ∃ n op e u r, E = .returned (.tuple #[.agg #[.string n, .int .i64 op, .int .i64 e, .string u, .string r], .bool true]) ∧ (Tv.mk n op e u r).tm = x ∧ (Tv.mk n op e u r).small ∧ Below w.heap.size w w' :=
  (term_calls y w hE hS hs).mono fun E w' ⟨t, hE, ht, _, hb⟩ => ⟨t.n, t.op, t.e, t.u, t.r, by rw [hE, h]; rfl, ht x h, small_right (ht x h) (VP.termP_right h), hb⟩

theorem keepsSplit_putObj {b B : Nat} (hb : b + 2 < B) (W : World) (l : Nat) (o o' : Obj) (hl : B ≤ l) (_ : W.heap[l]? = some o) (_ : o.isCells = false) : KeepsSplit b W (W.putObj l o') := fun k _ h2 => World.putObj_heap_other (by omega)

set_option maxHeartbeats 4000000 in
set_option maxRecDepth 100000 in
theorem terms_walkF (s : ByteArray) (w : World) (hE : Env w) (hS : EnvS w) (hs : s.size ≤ 200000) : Calls Tryz.prog 97 #[.string s] w (TermsFIs s w) := by
  refine (callsIn_wide (n := 8)).1 ?_
  refine callsIn_of_wp_marks Tryz.func97 rfl trivial ?_ rfl
  simp only [Tryz.ntmps97, List.size_toArray, List.length_cons, List.length_nil, Nat.reduceAdd, Nat.reduceSub, Array.replicate_succ, Array.replicate_zero, List.push_toArray, List.append_toArray, List.nil_append, List.cons_append]
  have bR0 := (Boxed.new w 24 (.slice none 0 0)).alloc (.cells #[.nilIface] 36)
  have bR1 := Boxed.new (w.alloc (.cells #[.slice none 0 0] 24)) 36 .nilIface
  have hBa : Below w.heap.size w ((w.alloc (.cells #[.slice none 0 0] 24)).alloc (.cells #[.nilIface] 36)) := ((Below.refl _ w).alloc (Nat.le_refl _) _).alloc (by simp) _
  have hza : ((w.alloc (.cells #[.slice none 0 0] 24)).alloc (.cells #[.nilIface] 36)).heap.size = w.heap.size + 2 := by simp
  rw [World.size_alloc] at bR1
  by_cases h0 : VP.trimP s.data.toList = []
  · gi_wp2_with (refine ⟨trivial, ?_⟩; gi_at_call 137; refine (callsIn_wide.2 (call_trim3 s _ (by omega))).mono ?_; rintro E w1 ⟨t, rfl, ht, hb1⟩; have he := isEmpty_true t (by rw [size_eq_length, ht, h0]; rfl); have r0 := boxed_below bR0 hb1; have r1 := boxed_below bR1 hb1; have c0 := r0.cell; have c1 := r1.cell; have f0 := r0.frozen; have f1 := r1.frozen)
    have hBf := ((step_below hBa hb1).setCell (p := ⟨w.heap.size, 0, none⟩) (Nat.le_refl _) (.slice none 0 0)).setCell (p := ⟨w.heap.size + 1, 0, none⟩) (by simp) .nilIface
    exact ⟨.tuple #[.slice none 0 0, .nilIface], by simp [results, Tryz.results97, go_sem, c0, c1], hBf, .inl ⟨[], _, rfl, by unfold VP.termsP; rw [if_pos h0]; rfl, ⟨none, 0, rfl, Nat.le_refl _, by simp, fun h => absurd rfl h⟩, (fun _ h => by cases h), askedFr_nil _ _ _ _ _⟩⟩
  · gi_wp2_with (first | (refine ⟨trivial, ?_⟩; gi_at_call 137; refine (callsIn_wide.2 (call_trim3 s _ (by omega))).mono ?_; rintro E w1 ⟨t, rfl, ht, hb1⟩; have hne := isEmpty_false t (Nat.pos_of_ne_zero fun e => h0 (by rw [← ht]; exact List.eq_nil_of_length_eq_zero (by rw [← size_eq_length]; exact e)))) | (refine ⟨trivial, ?_⟩; gi_at_call 154; refine (callsIn_wide.2 (splitSeq_calls s 44 _)).mono ?_; rintro E w3 ⟨rfl, hB, hb3, hz3⟩))
    have r0 := boxed_below (((boxed_below bR0 hb1).alloc (.cells #[.slice none 0 0] 24)).alloc (.cells #[.int .i64 0] 3)) hb3
    have r1 := boxed_below (((boxed_below bR1 hb1).alloc (.cells #[.slice none 0 0] 24)).alloc (.cells #[.int .i64 0] 3)) hb3
    have rO := boxed_below ((Boxed.new w1 24 (.slice none 0 0)).alloc (.cells #[.int .i64 0] 3)) hb3
    have rN := boxed_below (Boxed.new (w1.alloc (.cells #[.slice none 0 0] 24)) 3 (.int .i64 0)) hb3
    have hB3 : Below w.heap.size w w3 := step_below (step_below hBa hb1 |>.alloc (by have := hb1.size; omega) _ |>.alloc (by have := hb1.size; simp; omega) _) hb3
    have hz1 := hb1.size
    simp only [World.size_alloc] at hz3 hz1 rN hB
    have HT := Lib.hid (show VP.termsP s.data.toList = VP.eachP 0 (VP.pieces 44 s.data.toList) by unfold VP.termsP; rw [if_neg h0])
    clear hb1 hb3 hBa hza bR0 bR1 ht h0
    refine wpIn_seq_outer rfl (by omega) (gf := 213) (lb := #[.pointer (some ⟨w1.heap.size + 1 + 1 + 1, 0, none⟩), .pointer (some ⟨w1.heap.size + 1 + 1, 0, none⟩), .pointer (some ⟨w1.heap.size + 1 + 1 + 2, 0, none⟩)]) rfl trivial (enters_of Tryz.func213 (by kernel_rfl) rfl)
      (split_seqBox 7 (by omega) (w1.heap.size + 1 + 1) 44 s (by omega) w3 (by omega) hB) (fun _ _ => rfl) (Nat.le_refl _) (by omega) (fun h k => h.trans k) (keepsSplit_putObj (by omega)) (fun _ => rfl)
      (OutI w w1.heap.size (w1.heap.size + 1) w.heap.size w3.heap.size) (OutX w w.heap.size (VP.pieces 44 s.data.toList))
      (outI_box (by omega) (by omega) (by omega) (by omega) (by omega) (by omega) (by omega)) (outX_box (by omega) (by omega) (by omega) (by omega))
      ⟨⟨[], [], .slice none 0 0, 0⟩, rO, World.ownsRow_nil _ _ _ _, RowsIn.nil, rN, r0, r1, ⟨rfl, fun _ h => by cases h⟩, hB3⟩
      (fun x a' _ => a' = { tmps := #[.string s, undef, .pointer (some ⟨w.heap.size, 0, none⟩), .pointer (some ⟨w.heap.size + 1, 0, none⟩), .pointer (some ⟨w1.heap.size, 0, none⟩), .pointer (some ⟨w1.heap.size + 1, 0, none⟩), .string x, undef, undef, undef, undef, .string s, .string t, .bool false, .string s,
        .func (.func 213) #[] #[.pointer (some ⟨w1.heap.size + 1 + 1 + 1, 0, none⟩), .pointer (some ⟨w1.heap.size + 1 + 1, 0, none⟩), .pointer (some ⟨w1.heap.size + 1 + 1 + 2, 0, none⟩)], .string x,
        undef, undef, undef, undef, undef, undef, undef, undef, undef, undef, undef, undef, undef, undef, undef, undef, undef, undef, undef, undef, undef, undef, undef, undef, undef], defers := [] })
      (fun _ _ _ _ _ _ hs _ _ => hs)
      ?assign ?body ?done ?stop
    case assign =>
      intro l pre x W K hi hK
      gi_wp2
      exact hK _ _ (KeepsFrom.refl _ _) (KeepsSplit.refl _ _) hi rfl
    case body =>
      rintro l pre x a' W hl ⟨rl, hrl⟩ hx hI rfl
      obtain ⟨⟨L, vs, vo, n0⟩, bO, ow, rw0, bN, bR0, bR1, ⟨hec, hsm⟩, hBW⟩ := hI
      dsimp only at bO ow rw0 bN hec hsm
      gi_wp2_with (refine ⟨trivial, ?_⟩; gi_at_call 154; refine (CallsIn.inRound l (callsIn_wide.2 (splitSeq_calls x 124 _))).mono ?_; rintro E w4 ⟨rfl, hB4, hb4, hz4⟩)
      have hzW := hBW.size
      have hll : l < W.heap.size := (Array.getElem?_eq_some_iff.1 hrl).1
      have hrl4 : w4.heap[l]? = some (.loop rl) := (hb4.block l (by rw [World.size_alloc]; omega)).trans ((Below.heap_alloc W _ l hll).trans hrl)
      have q0 := boxed_below (bR0.alloc (.cells #[.slice none 0 0] 25)) hb4
      have q1 := boxed_below (bR1.alloc (.cells #[.slice none 0 0] 25)) hb4
      have qN := boxed_below (bN.alloc (.cells #[.slice none 0 0] 25)) hb4
      have qL := boxed_below (Boxed.new W 25 (.slice none 0 0)) hb4
      have hBa := step_below (below_alloc W (.cells #[.slice none 0 0] 25)) hb4
      have hB4w := step_below hBW hBa
      have hK4 : KeepsFrom w3.heap.size W w4 := ⟨hBa.size, fun k o _ hk _ => (hBa.block k (Array.getElem?_eq_some_iff.1 hk).1).trans hk⟩
      have hS4 : Same3 W (w1.heap.size + 1) w.heap.size (w.heap.size + 1) w4 := (Same3.refl _ _ _ _).below hBa
      obtain ⟨xr, hxr⟩ := hx
      have hxz := piecesB_size hxr
      have hpz := piecesB_pre hxr
      have hLz := eachC_len hec
      have hn0 := VP.eachC_le hec (by omega)
      have HXC := Lib.hid hxr
      simp only [World.size_alloc] at hz4 hB4
      clear hb4 hxr
      refine wpIn_seq_inner (l₀ := l) (r₀ := rl) rfl hrl4 (by omega) (gf := 213) (lb := #[.pointer (some ⟨W.heap.size + 1 + 1, 0, none⟩), .pointer (some ⟨W.heap.size + 1, 0, none⟩), .pointer (some ⟨W.heap.size + 1 + 2, 0, none⟩)]) rfl trivial (enters_of Tryz.func213 (by kernel_rfl) rfl)
        ((split_seqBox 5 (by omega) (W.heap.size + 1) 124 x (by omega) w4 (by omega) hB4).inRound l) (fun _ _ => rfl) (Nat.le_refl _) (by omega) (fun h k => h.trans k) (keepsSplit_putObj (by omega)) (fun _ => rfl)
        (InI w W (w1.heap.size + 1) w.heap.size W.heap.size w4.heap.size n0) (InX w W (w1.heap.size + 1) w.heap.size n0 (VP.pieces 124 x.data.toList))
        (inI_box (by omega) (by omega) (by omega) (by omega) (by omega) (by omega) (by omega) (by omega) (by omega)) (inX_box (by omega) (by omega) (by omega) (by omega) (by omega) (by omega))
        ⟨⟨[], .slice none 0 0, n0⟩, qL, World.ownsRow_nil _ _ _ _, qN, q0, q1, ⟨rfl, fun _ h => by cases h⟩, hS4, hB4w⟩
        (fun y a' _ => a' = { tmps := #[.string s, undef, .pointer (some ⟨w.heap.size, 0, none⟩), .pointer (some ⟨w.heap.size + 1, 0, none⟩), .pointer (some ⟨w1.heap.size, 0, none⟩), .pointer (some ⟨w1.heap.size + 1, 0, none⟩), .string x, .pointer (some ⟨W.heap.size, 0, none⟩), .string y, undef, undef, .string s, .string t, .bool false, .string s,
          .func (.func 213) #[] #[.pointer (some ⟨w1.heap.size + 1 + 1 + 1, 0, none⟩), .pointer (some ⟨w1.heap.size + 1 + 1, 0, none⟩), .pointer (some ⟨w1.heap.size + 1 + 1 + 2, 0, none⟩)], .string x, .string x,
          .func (.func 213) #[] #[.pointer (some ⟨W.heap.size + 1 + 1, 0, none⟩), .pointer (some ⟨W.heap.size + 1, 0, none⟩), .pointer (some ⟨W.heap.size + 1 + 2, 0, none⟩)], .string y,
          undef, undef, undef, undef, undef, undef, undef, undef, undef, undef, undef, undef, undef, undef, undef, undef, undef, undef, undef, undef, undef, undef], defers := [] })
        (fun _ _ _ _ _ _ hs _ _ => hs)
        ?assign2 ?body2 ?done2 ?stop2
      case assign2 =>
        intro l2 pre2 y W' K hi hK
        gi_wp2
        exact hK _ _ (KeepsFrom.refl _ _) (KeepsSplit.refl _ _) hi rfl
      case body2 =>
        rintro l2 pre2 y a'' W' hl2 hr2 hy hI2 rfl
        obtain ⟨⟨ts, vl, n1⟩, bL, ow2, cN, d0, d1, ⟨hso, hsm2⟩, hSm, hBW'⟩ := hI2
        dsimp only at bL ow2 cN hso hsm2
        obtain ⟨yr, hyr⟩ := hy
        have hyz := piecesB_size hyr
        have HYC := Lib.hid hyr
        have hn1 := VP.someP_le hso hn0
        clear hyr
        cases htp : VP.termP y.data.toList with
        | none =>
          have C := Lib.hid (term_no y W' (hE.below hBW') (hS.below hBW') (by omega) htp)
          have HSO := Lib.hid (show VP.someP n0 (VP.pieces 124 x.data.toList) = .error 3 from by
            have h1 : VP.someP n0 ((pre2 ++ [y]).map dat) = .error 3 := by
              rw [List.map_append, List.map_cons, List.map_nil, VP.someP_snoc, hso]
              show (match VP.termP y.data.toList with | none => _ | some t => _) = _
              rw [htp]
            rw [← piecesB_data, HYC.out, show pre2 ++ y :: yr = (pre2 ++ [y]) ++ yr by simp, List.map_append]
            exact VP.someP_error h1)
          gi_wp2_with (refine ⟨trivial, ?_⟩; gi_at_call 155; refine (CallsIn.inRound l2 (CallsIn.inRound l (callsIn_wide.2 C.out))).mono ?_; rintro E w5 ⟨tn, top, te, tu, tr, rfl, hb5⟩; have g0 := (boxed_below d0 hb5).alloc (.cells #[.string tn, .int .i64 top, .int .i64 te, .string tu, .string tr] 99); have g1 := (boxed_below d1 hb5).alloc (.cells #[.string tn, .int .i64 top, .int .i64 te, .string tu, .string tr] 99); have x0 := g0.cell; have x1 := g1.cell; have y0 := g0.frozen; have y1 := g1.frozen)
          have hz5 := hb5.size
          have hw5 := step_below hBW' hb5
          have hzW' := hSm.1
          refine ⟨(((keepsFrom_below hb5).trans ((KeepsOthers.alloc _ _).from _)).trans ((KeepsOthers.setCell _ _ _).from _)).trans ((KeepsOthers.setCell _ _ _).from _), (g0.set _).other (by omega) _, ⟨3, (g1.other (by omega) _).set _, HSO.out, .inl rfl⟩, ?_, ?_⟩
          · exact ((hSm.below ((hb5.mono hzW').alloc (by omega) _)).set (.inr (.inl rfl)) _).set (.inr (.inr (.inl rfl))) _
          · exact ((hw5.alloc (by omega) _).setCell (p := ⟨w.heap.size, 0, none⟩) (Nat.le_refl _) _).setCell (p := ⟨w.heap.size + 1, 0, none⟩) (by simp) _
        | some tm =>
          have C := Lib.hid (term_yes y W' (hE.below hBW') (hS.below hBW') (by omega) htp)
          by_cases hk : 30 < n1 + 1
          · gi_wp2_with (refine ⟨trivial, ?_⟩; gi_at_call 155; refine (CallsIn.inRound l2 (CallsIn.inRound l (callsIn_wide.2 C.out))).mono ?_; rintro E w5 ⟨tn, top, te, tu, tr, rfl, htm, hsmt, hb5⟩; have g0 := (boxed_below d0 hb5).alloc (.cells #[.string tn, .int .i64 top, .int .i64 te, .string tu, .string tr] 99); have g1 := (boxed_below d1 hb5).alloc (.cells #[.string tn, .int .i64 top, .int .i64 te, .string tu, .string tr] 99); have gN := (boxed_below cN hb5).alloc (.cells #[.string tn, .int .i64 top, .int .i64 te, .string tu, .string tr] 99); have x0 := g0.cell; have x1 := g1.cell; have y0 := g0.frozen; have y1 := g1.frozen; have xN := gN.cell; have yN := gN.frozen)
            have hz5 := hb5.size
            have hw5 := step_below hBW' hb5
            have hzW' := hSm.1
            have HSO := Lib.hid (show VP.someP n0 (VP.pieces 124 x.data.toList) = .error 4 from by
              have h1 : VP.someP n0 ((pre2 ++ [y]).map dat) = .error 4 := by
                rw [List.map_append, List.map_cons, List.map_nil, VP.someP_snoc, hso]
                show (match VP.termP y.data.toList with | none => _ | some t => _) = _
                rw [htp]
                show (if 30 < n1 + 1 then _ else _) = _
                rw [if_pos hk]
              rw [← piecesB_data, HYC.out, show pre2 ++ y :: yr = (pre2 ++ [y]) ++ yr by simp, List.map_append]
              exact VP.someP_error h1)
            refine ⟨((((keepsFrom_below hb5).trans ((KeepsOthers.alloc _ _).from _)).trans ((KeepsOthers.setCell _ _ _).from _)).trans ((KeepsOthers.setCell _ _ _).from _)).trans ((KeepsOthers.setCell _ _ _).from _), ((g0.other (by omega) _).set _).other (by omega) _, ⟨4, ((g1.other (by omega) _).other (by omega) _).set _, HSO.out, .inr rfl⟩, ?_, ?_⟩
            · exact (((hSm.below ((hb5.mono hzW').alloc (by omega) _)).set (.inl rfl) _).set (.inr (.inl rfl)) _).set (.inr (.inr (.inl rfl))) _
            · exact (((hw5.alloc (by omega) _).setCell (p := ⟨w1.heap.size + 1, 0, none⟩) (by simp; omega) _).setCell (p := ⟨w.heap.size, 0, none⟩) (Nat.le_refl _) _).setCell (p := ⟨w.heap.size + 1, 0, none⟩) (by simp) _
          · obtain ⟨i0, hi, hz0, hz1, hz2⟩ := info_parts info_term
            have hlen := VP.someP_len hso
            have hsn : (ts.map Tv.tm).length = ts.length := List.length_map _
            obtain ⟨rl2, hrl2⟩ := hr2
            have hll2 : l2 < W'.heap.size := (Array.getElem?_eq_some_iff.1 hrl2).1
            rw [hz4] at ow2
            gi_wp2_with (first | (refine ⟨trivial, ?_⟩; gi_at_call 155; refine (CallsIn.inRound l2 (CallsIn.inRound l (callsIn_wide.2 C.out))).mono ?_; rintro E w5 ⟨tn, top, te, tu, tr, rfl, htm, hsmt, hb5⟩; have gN := (boxed_below cN hb5).alloc (.cells #[.string tn, .int .i64 top, .int .i64 te, .string tu, .string tr] 99); have gL := (boxed_below bL hb5).alloc (.cells #[.string tn, .int .i64 top, .int .i64 te, .string tu, .string tr] 99); have xN := gN.cell; have yN := gN.frozen; have xL := gL.cell; have yL := gL.frozen; obtain ⟨e0, e1, e2, e3, e4⟩ := term_set w5 (.int .i64 ((n1 : Int) + 1)) (show w1.heap.size + 1 ≠ w5.heap.size from Nat.ne_of_lt (boxed_below cN hb5).lt) tn top te tu tr; have own6 := ((own_below ow2 hb5).alloc (.cells #[.string tn, .int .i64 top, .int .i64 te, .string tu, .string tr] 99)).kept (grownBy_setCell' _ (w1.heap.size + 1) (.int .i64 ((n1 : Int) + 1))) (.inr (gN.not_row (by decide) ((own_below ow2 hb5).alloc _)).symm)) | (gi_at_builtin; refine wpListIn_append_own _ rfl _ _ 25 rfl (W.heap.size + 1 + 3) 99 i0 (.agg #[.string ⟨#[]⟩, .int .i64 0, .int .i64 0, .string ⟨#[]⟩, .string ⟨#[]⟩]) 5 64 Tryz.underlying25 hi hz0 hz1 hz2 rfl (by decide) _ _ _ rfl (own6.alloc _) ⟨w5.heap.size + 1, 0, none⟩ 1 1 (Tv.cells ⟨tn, top, te, tu, tr⟩) rfl rfl (cells_new _ _ _ _ _ _ _ (by simp)) (by simp [Value.oneCell', Tv.cells]) (by simp only [maxLen]; omega) (by omega) (by have := hb5.size; simp; omega) ?_; intro v' w7 hown' hgrow _; obtain ⟨g', cap', rfl⟩ := ownsRow_succ hown'; have g6 := gL.other (show W.heap.size ≠ w1.heap.size + 1 by omega) (.int .i64 ((n1 : Int) + 1)); obtain ⟨hv1, hv2, hr7, hk7, hzz, hfar, hbel⟩ := appended_far g6 (by decide) own6 hown' hgrow; have hc1 := hv1.cell; have hf1 := hv1.frozen))
            have hz5 := hb5.size
            have hw5 := step_below hBW' hb5
            have hzW' := hSm.1
            have hz6 : ((w5.alloc (.cells #[.string tn, .int .i64 top, .int .i64 te, .string tu, .string tr] 99)).setCell ⟨w1.heap.size + 1, 0, none⟩ (.int .i64 ((n1 : Int) + 1))).heap.size = w5.heap.size + 1 := by simp
            rw [hz6] at hfar hbel
            have k0 := (boxed_below d0 hb5).alloc (.cells #[.string tn, .int .i64 top, .int .i64 te, .string tu, .string tr] 99) |>.other (show w.heap.size ≠ w1.heap.size + 1 by omega) (.int .i64 ((n1 : Int) + 1))
            have k1 := (boxed_below d1 hb5).alloc (.cells #[.string tn, .int .i64 top, .int .i64 te, .string tu, .string tr] 99) |>.other (show w.heap.size + 1 ≠ w1.heap.size + 1 by omega) (.int .i64 ((n1 : Int) + 1))
            have kN := gN.set (.int .i64 ((n1 : Int) + 1))
            have HF : ∀ {b : Nat} {t : TypeId} {v : Value}, Boxed _ b t v → b < W.heap.size → Boxed _ b t v := fun {b} {t} {v} h hb => (hfar b (by omega) (by omega) (ownBlock_ge own6 (by omega))).trans h
            refine ⟨(((keepsFrom_below hb5).trans ((KeepsOthers.alloc _ _).from _)).trans ((KeepsOthers.setCell _ _ _).from _)).trans (hk7.from _), ?_, ⟨⟨ts ++ [⟨tn, top, te, tu, tr⟩], _, n1 + 1⟩, hv2, ?_, HF kN (by omega), HF k0 (by omega), HF k1 (by omega), ⟨?_, ?_⟩, ?_, ?_⟩⟩
            · intro k hk1 hk2
              refine (hfar k (by omega) (by omega) (ownBlock_ge own6 (by omega))).trans ?_
              refine ((grownBy_setCell' _ (w1.heap.size + 1) _).block k (by simp; omega) (fun e => by injection e; omega)).trans ?_
              exact (Below.heap_alloc _ _ _ (by omega)).trans (hb5.block k (by omega))
            · rw [cells_snoc, List.length_append, hz4]
              exact hr7
            · show VP.someP n0 ((pre2 ++ [y]).map dat) = .ok ((ts ++ [(⟨tn, top, te, tu, tr⟩ : Tv)]).map Tv.tm, n1 + 1)
              rw [List.map_append, List.map_cons, List.map_nil, VP.someP_snoc, hso]
              show (match VP.termP y.data.toList with | none => _ | some t => _) = _
              rw [htp]
              show (if 30 < n1 + 1 then _ else _) = _
              rw [if_neg hk, List.map_append, List.map_cons, List.map_nil, htm]
            · intro t ht
              rcases List.mem_append.1 ht with h | h
              · exact hsm2 t h
              · rw [List.mem_singleton.1 h]; exact hsmt
            · have h6 := (hSm.below ((hb5.mono hzW').alloc (by omega) (.cells #[.string tn, .int .i64 top, .int .i64 te, .string tu, .string tr] 99))).set (b := w1.heap.size + 1) (.inl rfl) (.int .i64 ((n1 : Int) + 1))
              exact h6.below (hbel _ (by omega) (by omega) (Nat.le_refl _))
            · exact ((hw5.alloc (by omega) _).setCell (p := ⟨w1.heap.size + 1, 0, none⟩) (by simp; omega) _).trans (hbel _ (by omega) (by omega) (by omega))
      case done2 =>
        rintro W' hI2
        obtain ⟨⟨ts, vl, n1⟩, bL, ow2, cN, d0, d1, ⟨hso, hsm2⟩, hSm, hBW'⟩ := hI2
        dsimp only at bL ow2 cN hso hsm2
        obtain ⟨A, kk, cc, rfl⟩ := row_shape ow2
        have aO := hSm.boxed bO (by omega) (by omega) (by omega)
        have aw := hSm.row bN bR0 bR1 (by decide) (by decide) (by decide) ow
        have ar := hSm.rows bN bR0 bR1 (by decide) (by decide) (by decide) rw0
        have cO := aO.cell
        have fO := aO.frozen
        have cL := bL.cell
        have hlen := VP.someP_len hso
        have hn1 := VP.someP_le hso hn0
        rw [List.length_map] at hlen
        obtain ⟨i0, hi, hz0, hz1', hz2⟩ := info_parts info_terms
        have hzW' := hSm.1
        have hLz' : L.length ≤ 200001 := by
          rw [← List.length_map (f := fun x => x.map Tv.tm)]
          show (tmL L).length ≤ 200001
          rw [hLz, List.length_map]
          omega
        gi_wp2_with (gi_at_builtin; refine wpListIn_append_own _ rfl _ _ 24 rfl w3.heap.size 25 i0 (.slice none 0 0) 1 24 Tryz.underlying24 hi hz0 hz1' hz2 rfl (by decide) _ _ _ rfl (aw.alloc _) ⟨W'.heap.size, 0, none⟩ 1 1 [.slice A kk cc] rfl rfl (cell_one_new _ _ _) (by simp [Value.oneCell']) (by simp only [maxLen]; omega) (by omega) (by simp; omega) ?_; intro v' w7 hown' hgrow _; obtain ⟨g', cap', rfl⟩ := ownsRow_succ hown'; obtain ⟨hv1, hv2, hr7, hk7, hzz, hfar, hbel⟩ := appended_far aO (by decide) aw hown' hgrow; have hc1 := hv1.cell; have hf1 := hv1.frozen)
        have hK2 : KeepsFrom w3.heap.size W W' := hSm.keepsFrom bN bR0 bR1
        have hTI : TermsIn W' w3.heap.size (.slice A kk cc) ts := termsIn_own ow2 (by omega) (by omega) (fun t ht => (hsm2 t ht).ok)
        have hRI := ar.snoc hTI
        have HF : ∀ {b : Nat} {t : TypeId} {v : Value}, Boxed W' b t v → b < W.heap.size → b ≠ w1.heap.size → b < w3.heap.size → Boxed _ b t v := fun {b} {t} {v} h hb h1 h2 => (hfar b (by omega) h1 (ownBlock_ge aw h2)).trans h
        refine ⟨hK2.trans (hk7.from _), ?_, ⟨⟨L ++ [ts], vs ++ [.slice A kk cc], _, n1⟩, hv2, ?_, ?_, HF cN (by omega) (by omega) (by omega), HF d0 (by omega) (by omega) (by omega), HF d1 (by omega) (by omega) (by omega), ⟨?_, ?_⟩, ?_⟩⟩
        · intro k hk1 hk2
          exact (hfar k (by omega) (by omega) (ownBlock_ge aw (by omega))).trans (hSm.2 k (by omega) (by omega) (by omega) (by omega))
        · rw [List.length_append]
          exact hr7
        · refine hRI.keep fun k cur fz hk hc => hfar k (Array.getElem?_eq_some_iff.1 hc).1 (by omega) (ownBlock_type aw (by decide) hc)
        · show VP.eachC 0 ((pre ++ [x]).map dat) = .ok ((L ++ [ts]).map (fun x => x.map Tv.tm), n1)
          rw [List.map_append, List.map_cons, List.map_nil, VP.eachC_snoc, hec]
          show (match VP.someP n0 (VP.pieces 124 x.data.toList) with | .error e => _ | .ok (ts, m) => _) = _
          rw [← piecesB_data]
          rw [show (piecesB 124 x).map (fun x => x.data.toList) = (piecesB 124 x).map dat from rfl, hso, List.map_append, List.map_cons, List.map_nil]
          rfl
        · intro z hz
          rcases List.mem_append.1 hz with h | h
          · exact hsm z h
          · rw [List.mem_singleton.1 h]; exact hsm2
        · exact hBW'.trans (hbel _ (by omega) (by omega) (by omega))
      case stop2 =>
        rintro pre2 W' hpre ⟨d0, ⟨e, d1, hso, he⟩, hSm, hBW'⟩
        gi_wp2
        have hK2 : KeepsFrom w3.heap.size W W' := hSm.keepsFrom bN bR0 bR1
        refine ⟨hK2, d0, ⟨e, d1, ?_, he⟩, hBW'⟩
        rw [← piecesB_data, HXC.out, List.map_append, List.map_cons]
        exact VP.eachC_some_error hec hso
    case done =>
      rintro D W hD hI hK
      obtain ⟨⟨L, vs, vo, n0⟩, bO, ow, rw0, bN, bR0, bR1, ⟨hec, hsm⟩, hBW⟩ := hI
      dsimp only at bO ow rw0 bN hec hsm
      obtain ⟨A, kk, cc, rfl⟩ := row_shape ow
      have cO := bO.cell
      have c0 := bR0.cell
      have c1 := bR1.cell
      have f0 := bR0.frozen
      have f1 := bR1.frozen
      gi_wp2
      have hzW := hBW.size
      have hNl : w1.heap.size + 1 < W.heap.size := bN.lt
      have hLz : (tmL L).length = _ := eachC_len hec
      have hpl := pieces_len 44 s.data.toList
      rw [List.length_map, ← List.length_map (f := fun x : ByteArray => x.data.toList), piecesB_data] at hLz
      rw [← size_eq_length] at hpl
      have hLz' : L.length ≤ 200001 := by
        rw [← List.length_map (f := fun x => x.map Tv.tm)]
        show (tmL L).length ≤ 200001
        omega
      have g0 := (bR0.set (.slice A kk cc)).other (show w.heap.size ≠ w.heap.size + 1 by omega) .nilIface
      have g1 := (bR1.other (show w.heap.size + 1 ≠ w.heap.size by omega) (.slice A kk cc)).set .nilIface
      have hKD := ((KeepsOthers.setCell W ⟨w.heap.size, 0, none⟩ (.slice A kk cc)).trans (KeepsOthers.setCell _ ⟨w.heap.size + 1, 0, none⟩ .nilIface)).same D _ hK rfl
      have ow1 := ow.kept (grownBy_setCell' W w.heap.size (.slice A kk cc)) (.inr (bR0.not_row (by decide) ow).symm)
      have ow2 := ow1.kept (grownBy_setCell' _ (w.heap.size + 1) .nilIface) (.inr ((bR1.other (show w.heap.size + 1 ≠ w.heap.size by omega) (.slice A kk cc)).not_row (by decide) ow1).symm)
      have ow3 := ownsRow_putObj ow2 (.deferred none) hKD rfl
      have hc0 := cell_kept g0.cell (grownBy_putObj' _ D (.deferred none)) (fun r e => by cases e; exact ⟨_, hKD, rfl⟩)
      have hc1 := cell_kept g1.cell (grownBy_putObj' _ D (.deferred none)) (fun r e => by cases e; exact ⟨_, hKD, rfl⟩)
      have rw3 : RowsIn (((W.setCell ⟨w.heap.size, 0, none⟩ (.slice A kk cc)).setCell ⟨w.heap.size + 1, 0, none⟩ .nilIface).putObj D (.deferred none)) w3.heap.size L vs := rw0.keep fun k cur fz hk hc => by
        have hlt := (Array.getElem?_eq_some_iff.1 hc).1
        refine (World.putObj_heap_other (fun e => ?_)).trans (((grownBy_setCell' _ (w.heap.size + 1) _).block k (by simpa using hlt) (fun e => ?_)).trans ((grownBy_setCell' W w.heap.size _).block k hlt (fun e => ?_)))
        · subst e; rw [hK] at hc; cases hc
        · injection e; omega
        · injection e; omega
      refine ⟨by simp, .inl ⟨_, _, rfl, run_takeDeferred hKD, ?_⟩⟩
      refine ⟨.tuple #[.slice A kk cc, .nilIface], by simp [results, Tryz.results97, go_sem, hc0, hc1], ?_, .inl ⟨L, _, rfl, ?_, askedAt_own ow3 rw3 (by omega), hsm, askedFr_own ow3 rw3 (by omega)⟩⟩
      · exact ((hBW.setCell (p := ⟨w.heap.size, 0, none⟩) (Nat.le_refl _) _).setCell (p := ⟨w.heap.size + 1, 0, none⟩) (by simp) _).trans (belowK_b (w := w) (Nat.le_refl _) _ D _ _ (by omega) hKD rfl rfl)
      · rw [HT.out, VP.eachP_eq, ← piecesB_data]
        rw [show (piecesB 44 s).map (fun x => x.data.toList) = (piecesB 44 s).map dat from rfl, hec]
    case stop =>
      rintro D pre W hD hpre ⟨d0, ⟨e, d1, hso, he⟩, hBW'⟩ hK
      gi_wp2
      have hc0 := cell_kept d0.cell (grownBy_putObj' _ D (.deferred none)) (fun r e => by cases e; exact ⟨_, hK, rfl⟩)
      have hc1 := cell_kept d1.cell (grownBy_putObj' _ D (.deferred none)) (fun r e => by cases e; exact ⟨_, hK, rfl⟩)
      refine ⟨by simp, .inl ⟨_, _, rfl, run_takeDeferred hK, ?_⟩⟩
      refine ⟨.tuple #[.slice none 0 0, .iface 32 (.int .i64 e)], by simp [results, Tryz.results97, go_sem, hc0, hc1], ?_, .inr ⟨e, rfl, ?_, he⟩⟩
      · exact hBW'.trans (belowK_b (w := w) (Nat.le_refl _) W D _ _ (by omega) hK rfl rfl)
      · rw [HT.out, hso]
theorem terms_walk (s : ByteArray) (w : World) (hE : Env w) (hS : EnvS w) (hs : s.size ≤ 200000) : Calls Tryz.prog 97 #[.string s] w (TermsIs s w) :=
  (terms_walkF s w hE hS hs).mono fun _ _ ⟨hb, h⟩ => ⟨hb, h.elim (fun ⟨L, v, h1, h2, h3, h4, _⟩ => .inl ⟨L, v, h1, h2, h3, h4⟩) .inr⟩
end Go.Proofs.YtodbbfgkclkpgaaGreatDoor

/- A range over an iterator that keeps its place in a cell of its own (strings.SplitSeq): the law for the loop, outside and within another such loop; every way out of the body is its end or a return. · strings.SplitSeq at a separator of one byte: its contract as an iterator. -/
import Derived.Test.YtodbbfgkclkpgaaGreatDoorABK3
import Derived.RangeFuncNested
import Derived.RangeFuncBound
import Derived.RangeFuncCalls
import Derived.RangeFuncLeaves
import Derived.Test.YtodbbfgkclkpgaaGreatDoorABK6
import Derived.Test.YtodbbfgkclkpgaaGreatDoorABK2
import Derived.Shelf.Abstract
import Derived.WalkKit
import Derived.OwnWalkIn
import Derived.TacticsInMore
import Derived.LoopNIn
import Derived.LoopIn
namespace Go.Proofs.YtodbbfgkclkpgaaGreatDoor
open Go Go.RowKit

section
variable {F : Fence} {n : Nat} {P : Program} {w : World}

/-- what the caller says abides the turn of the iterator's own cell, and of what is no cells from B on -/
def OwnBox {β : Type} (B Bs : Nat) (I : β → World → Prop) : Prop :=
  ∀ s W W' row, I s W → W.grownBy W' row → (∀ r, row = some r → r = Bs ∨ (B ≤ r ∧ ∃ o : Obj, W.heap[r]? = some o ∧ o.isCells = false)) → I s W'
theorem OwnBox.putObj {β : Type} {B Bs : Nat} {I : β → World → Prop} (h : OwnBox B Bs I) {s : β} {W : World} {l : Nat} {o : Obj} (o' : Obj) (hs : I s W) (hB : B ≤ l) (hl : W.heap[l]? = some o) (ho : o.isCells = false) : I s (W.putObj l o') :=
  h s W _ (some l) hs (grownBy_putObj' W l o') (fun r e => by cases e; exact .inr ⟨hB, o, hl, ho⟩)
theorem OwnBox.alloc {β : Type} {B Bs : Nat} {I : β → World → Prop} (h : OwnBox B Bs I) {s : β} {W : World} (o : Obj) (hs : I s W) : I s (W.alloc o) :=
  h s W _ none hs (World.grownBy_alloc W o none) (fun r e => by cases e)
theorem OwnBox.and {β : Type} {B Bs : Nat} {I I' : β → World → Prop} (h : OwnBox B Bs I) (h' : OwnBox B Bs I') : OwnBox B Bs (fun s W => I s W ∧ I' s W) := fun s W W' row hs hg hr => ⟨h s W W' row hs.1 hg hr, h' s W W' row hs.2 hg hr⟩
theorem ownBox_pure {β : Type} (B Bs : Nat) (p : β → Prop) : OwnBox B Bs (fun s (_ : World) => p s) := fun _ _ _ _ hs _ _ => hs

/-- what an iterator's caller says abides new blocks and a store into the iterator's cell -/
def AbidesBox {β : Type} (Bs : Nat) (J : β → World → Prop) : Prop := ∀ s W W' row, J s W → W.grownBy W' row → (∀ r, row = some r → r = Bs) → J s W'

/-- THE ITERATOR's CONTRACT: all of xs come, in their order; or a part of them, a round having said 'no more'. -/
def SeqBox {α : Type} (F : Fence) (n : Nat) (P : Program) (g : Nat) (lb : Array Value) (encs : α → Array Value) (Kp : World → World → Prop) (Bs : Nat) (xs : List α) (w : World) : Prop :=
  ∀ (l : Nat) (J Jx : List α → World → Prop) (W : World), (∀ k, k < w.heap.size → W.heap[k]? = w.heap[k]?) → AbidesBox Bs J → AbidesBox Bs Jx →
    (∀ pre x W1, J pre W1 → (∃ r, xs = pre ++ x :: r) → YieldAt F (n - 1) P l (encs x) W1 fun e W' =>
      (e = .returned (.bool true) ∧ J (pre ++ [x]) W' ∧ Kp W1 W') ∨ (e = .returned (.bool false) ∧ Jx (pre ++ [x]) W')) →
    J [] W →
    CallsIn F n P g (#[.func (.yield l) #[] #[]] ++ lb) W fun e W' => (∃ v, e = .returned v) ∧ (J xs W' ∨ ∃ pre, pre <+: xs ∧ Jx pre W')

/-- how the body of a round may be left -/
def bodyEnds {α : Type} (B : Nat) (Kp : World → World → Prop) (I Ix : List α → World → Prop) (xs : List α) (W : World) : Exit → Act → World → Prop
  | .normal, _, W' => KeepsFrom B W W' ∧ Kp W W' ∧ I xs W'
  | .ret, _, W' => KeepsFrom B W W' ∧ Ix xs W'
  | _, _, _ => False

/-- one round: the record (at l) is ready; what is kept besides (at D) -/
theorem seq_round {α : Type} {ps : Array Tmp} {assign body : Code} {fn : FuncId} {tmps : Array Value} {dfr : Nat} {B Bs l : Nat} (hfn : F.fn fn)
    {encs : α → Array Value} {Kp : World → World → Prop} (hKt : ∀ {A B C : World}, Kp A B → Kp B C → Kp A C) (hKb : ∀ (W : World) (l : Nat) (o o' : Obj), B ≤ l → W.heap[l]? = some o → o.isCells = false → Kp W (W.putObj l o')) (hps : ∀ x, (encs x).size = ps.size)
    (I Ix : List α → World → Prop) (hI : OwnBox B Bs I) (hIx : OwnBox B Bs Ix) (Ax : α → Act → World → Prop) (hAx : ∀ x a', OwnBox B Bs (fun (_ : Unit) W => Ax x a' W))
    (hBl : B ≤ l) (D : Option Nat) (hD : ∀ d, D = some d → B ≤ d ∧ d ≠ l) (pre : List α) (x : α)
    (hassign : ∀ (W : World) (K : Act → World → Prop), I pre W → (∀ a' W', KeepsFrom B W W' → Kp W W' → I pre W' → Ax x a' W' → K a' W') →
      assign.wpIn (F.inRound l) (n - 1 - 1) P (Exit.then K (fun _ _ _ => False)) { tmps := (ps.zip (encs x)).foldl (fun t (p, v) => t.setIfInBounds p v) tmps, defers := [] } W)
    (hbody : ∀ (a' : Act) (W : World), (∃ r, W.heap[l]? = some (.loop r)) → I pre W → Ax x a' W → body.wpIn (F.inRound l) (n - 1 - 1) P (bodyEnds B Kp I Ix (pre ++ [x]) W) a' W)
    (W : World) (hi : I pre W) (hl : W.heap[l]? = some (.loop { state := .ready, pending := none, fn := fn, tmps := tmps, params := ps, assign := assign, body := body, defers := dfr })) (hk : ∀ d, D = some d → W.heap[d]? = some (.deferred (some []))) :
    YieldAt F (n - 1 - 1) P l (encs x) W fun e W' =>
      (e = .returned (.bool true) ∧ (I (pre ++ [x]) W' ∧ W'.heap[l]? = some (.loop { state := .ready, pending := none, fn := fn, tmps := tmps, params := ps, assign := assign, body := body, defers := dfr }) ∧ (∀ d, D = some d → W'.heap[d]? = some (.deferred (some [])))) ∧ Kp W W') ∨
      (e = .returned (.bool false) ∧ (Ix (pre ++ [x]) W' ∧ W'.heap[l]? = some (.loop { state := .done, pending := some .ret, fn := fn, tmps := tmps, params := ps, assign := assign, body := body, defers := dfr }) ∧ (∀ d, D = some d → W'.heap[d]? = some (.deferred (some []))))) := by
  have hy := run_yield (P := P) (args := encs x) hl (hps x)
  refine ⟨fn, _, assign, body, hy, roundIn_of_wpIn hfn (hassign W _ hi ?_)⟩
  clear hy
  intro a' Wa hkfa hkpa hia hax
  have hla := hkfa.same _ _ hBl hl rfl
  have hka : ∀ d, D = some d → Wa.heap[d]? = some (.deferred (some [])) := fun d e => hkfa.same _ _ (hD d e).1 (hk d e) rfl
  refine ⟨_, run_beginRound hla rfl, ?_⟩
  have hlt : l < Wa.heap.size := (Array.getElem?_eq_some_iff.1 hla).1
  have hl2 := World.putObj_heap_same (w := Wa) (r := l) (o := .loop { state := .busy, pending := none, fn := fn, tmps := tmps, params := ps, assign := assign, body := body, defers := dfr }) hlt
  have hk2 : ∀ d, D = some d → (Wa.putObj l (.loop { state := .busy, pending := none, fn := fn, tmps := tmps, params := ps, assign := assign, body := body, defers := dfr })).heap[d]? = some (.deferred (some [])) := fun d e => (World.putObj_heap_other (hD d e).2).trans (hka d e)
  have hw2 : Kp Wa (Wa.putObj l (.loop { state := .busy, pending := none, fn := fn, tmps := tmps, params := ps, assign := assign, body := body, defers := dfr })) := hKb _ _ _ _ hBl hla rfl
  refine wpIn_mono (hbody a' _ ⟨_, hl2⟩ (hI.putObj _ hia hBl hla rfl) ((hAx x a').putObj (s := ()) _ hax hBl hla rfl)) ?_
  rintro e a3 W3 hp
  cases e with
  | normal =>
    obtain ⟨hk3, hkp3, hi3⟩ := hp
    have hl3 := hk3.same _ _ hBl hl2 rfl
    have hlt3 : l < W3.heap.size := (Array.getElem?_eq_some_iff.1 hl3).1
    refine ⟨_, _, run_endRound (P := P) none hl3, .inl ⟨rfl, ⟨hI.putObj _ hi3 hBl hl3 rfl, World.putObj_heap_same hlt3, fun d e => (World.putObj_heap_other (hD d e).2).trans (hk3.same _ _ (hD d e).1 (hk2 d e) rfl)⟩, hKt hkpa (hKt (hKt hw2 hkp3) (hKb _ _ _ _ hBl hl3 rfl))⟩⟩
  | ret =>
    obtain ⟨hk3, hi3⟩ := hp
    have hl3 := hk3.same _ _ hBl hl2 rfl
    have hlt3 : l < W3.heap.size := (Array.getElem?_eq_some_iff.1 hl3).1
    refine ⟨_, _, run_endRound (P := P) (some .ret) hl3, .inr ⟨rfl, hIx.putObj _ hi3 hBl hl3 rfl, World.putObj_heap_same hlt3, fun d e => (World.putObj_heap_other (hD d e).2).trans (hk3.same _ _ (hD d e).1 (hk2 d e) rfl)⟩⟩
  | exit id => exact hp.elim
  | goto t => exact hp.elim
  | panic ch => exact hp.elim
  | outgrown => exact hp.elim

/-- THE LOOP, in no other such loop. -/
theorem wpIn_seq_outer {α : Type} {g : Operand} {ps : Array Tmp} {assign body : Code} {Q : Exit → Act → World → Prop} {a : Act}
    (hro : F.round = none) (h1 : 1 ≤ n) {gf : Nat} {lb : Array Value} (hg : a.eval g = .func (.func gf) #[] lb) (hFg : F.fn gf) (eg : ∀ args w, (callFunc gf args).run P w = .ok (.enter gf args) w)
    {encs : α → Array Value} {Kp : World → World → Prop} {Bs : Nat} {xs : List α} {w0 : World} (hseq : SeqBox F (n - 1) P gf lb encs Kp Bs xs w0) (hw0 : ∀ k, k < w0.heap.size → w.heap[k]? = w0.heap[k]?) (hz0 : w0.heap.size ≤ w.heap.size) (hBs : Bs < w.heap.size)
    (hKt : ∀ {A B C : World}, Kp A B → Kp B C → Kp A C) (hKb : ∀ (W : World) (l : Nat) (o o' : Obj), w.heap.size ≤ l → W.heap[l]? = some o → o.isCells = false → Kp W (W.putObj l o')) (hps : ∀ x, (encs x).size = ps.size)
    (I Ix : List α → World → Prop) (hI : OwnBox w.heap.size Bs I) (hIx : OwnBox w.heap.size Bs Ix) (h0 : I [] w) (Ax : α → Act → World → Prop) (hAx : ∀ x a', OwnBox w.heap.size Bs (fun (_ : Unit) W => Ax x a' W))
    (hassign : ∀ (l : Nat) (pre : List α) (x : α) (W : World) (K : Act → World → Prop), I pre W → (∀ a' W', KeepsFrom w.heap.size W W' → Kp W W' → I pre W' → Ax x a' W' → K a' W') →
      assign.wpIn (F.inRound l) (n - 1 - 1) P (Exit.then K (fun _ _ _ => False)) { tmps := (ps.zip (encs x)).foldl (fun t (p, v) => t.setIfInBounds p v) a.tmps, defers := [] } W)
    (hbody : ∀ (l : Nat) (pre : List α) (x : α) (a' : Act) (W : World), w.heap.size ≤ l → (∃ r, W.heap[l]? = some (.loop r)) → (∃ r, xs = pre ++ x :: r) → I pre W → Ax x a' W → body.wpIn (F.inRound l) (n - 1 - 1) P (bodyEnds w.heap.size Kp I Ix (pre ++ [x]) W) a' W)
    (hdone : ∀ (D : Nat) (W : World), w.heap.size ≤ D → I xs W → W.heap[D]? = some (.deferred (some [])) → Q .normal { a with defers := { target := .collected D, args := #[] } :: a.defers } W)
    (hstop : ∀ (D : Nat) (pre : List α) (W : World), w.heap.size ≤ D → pre <+: xs → Ix pre W → W.heap[D]? = some (.deferred (some [])) → Code.ret.wpIn F n P Q { a with defers := { target := .collected D, args := #[] } :: a.defers } W) :
    (Code.rangeFunc g ps assign body).wpIn F n P Q a w := by
  refine wpIn_rangeFunc ?_
  intro fn hfn
  rw [hro]
  obtain ⟨W1, hW1⟩ : ∃ W1, (w.alloc (.deferred (some []))).alloc (.loop { state := .ready, pending := none, fn := fn, tmps := a.tmps, params := ps, assign := assign, body := body, defers := w.heap.size }) = W1 := ⟨_, rfl⟩
  have hL1 : W1.heap[w.heap.size + 1]? = some (.loop { state := .ready, pending := none, fn := fn, tmps := a.tmps, params := ps, assign := assign, body := body, defers := w.heap.size }) := by
    rw [← hW1]
    have := World.alloc_heap_new (w.alloc (.deferred (some []))) (.loop { state := .ready, pending := none, fn := fn, tmps := a.tmps, params := ps, assign := assign, body := body, defers := w.heap.size })
    rwa [World.size_alloc] at this
  have hK1 : W1.heap[w.heap.size]? = some (.deferred (some [])) := by
    rw [← hW1]; exact (Below.heap_alloc _ _ _ (by simp)).trans (World.alloc_heap_new w _)
  have hI1 : I [] W1 := by rw [← hW1]; exact hI.alloc _ (hI.alloc _ h0)
  have hb1 : ∀ k, k < w0.heap.size → W1.heap[k]? = w0.heap[k]? := fun k hk => by
    rw [← hW1]
    exact (Below.heap_alloc _ _ _ (by simp; omega)).trans ((Below.heap_alloc _ _ _ (by omega)).trans (hw0 k hk))
  refine ⟨w.heap.size + 1, [{ target := .collected w.heap.size, args := #[] }], W1, { target := .fn (.func gf) lb, args := #[.func (.yield (w.heap.size + 1)) #[] #[]] }, W1, gf,
    #[.func (.yield (w.heap.size + 1)) #[] #[]] ++ lb, W1, ?_, ?_, ?_, ?_, fun _ => h1, ?_⟩
  · rw [← hW1]; exact run_enterLoop_outer _ _ _ _ _
  · simp only [resolve, hg]
    simp [go_sem]
  · intro f' hf'; simp [Target.leads] at hf'; subst hf'; exact hFg
  · simp [invoke, go_sem, eg]
  · have keep : ∀ {A B : World} {row : Option Nat} {k : Nat}, w.heap.size ≤ k → A.grownBy B row → (∀ r, row = some r → r = Bs) → ∀ o, A.heap[k]? = some o → B.heap[k]? = some o := fun hk hg' hr o ho =>
      (hg'.block _ (Array.getElem?_eq_some_iff.1 ho).1 (fun e => by have := hr _ e.symm; omega)).trans ho
    refine (hseq (w.heap.size + 1)
      (fun pre W => I pre W ∧ W.heap[w.heap.size + 1]? = some (.loop { state := .ready, pending := none, fn := fn, tmps := a.tmps, params := ps, assign := assign, body := body, defers := w.heap.size }) ∧ (∀ d, some w.heap.size = some d → W.heap[d]? = some (.deferred (some []))))
      (fun pre W => Ix pre W ∧ W.heap[w.heap.size + 1]? = some (.loop { state := .done, pending := some .ret, fn := fn, tmps := a.tmps, params := ps, assign := assign, body := body, defers := w.heap.size }) ∧ (∀ d, some w.heap.size = some d → W.heap[d]? = some (.deferred (some []))))
      W1 hb1
      (fun s A B row hs hg' hr => ⟨hI s A B row hs.1 hg' (fun r e => .inl (hr r e)), keep (by omega) hg' hr _ hs.2.1, fun d e => keep (by cases e; exact Nat.le_refl _) hg' hr _ (hs.2.2 d e)⟩)
      (fun s A B row hs hg' hr => ⟨hIx s A B row hs.1 hg' (fun r e => .inl (hr r e)), keep (by omega) hg' hr _ hs.2.1, fun d e => keep (by cases e; exact Nat.le_refl _) hg' hr _ (hs.2.2 d e)⟩)
      ?_ ⟨hI1, hL1, fun d e => by cases e; exact hK1⟩).mono ?_
    · rintro pre x W ⟨hi, hl, hk⟩ hx
      exact seq_round (Kp := Kp) hfn (fun h k => hKt h k) hKb hps I Ix hI hIx Ax hAx (Nat.le_succ _) (some w.heap.size) (fun d e => by cases e; exact ⟨Nat.le_refl _, by omega⟩) pre x
        (fun W K hi hK => hassign _ pre x W K hi hK) (fun a' W hr hi hax => hbody _ pre x a' W (Nat.le_succ _) hr hx hi hax) W hi hl hk
    · rintro e W2 ⟨⟨v, rfl⟩, ⟨hi, hl, hk⟩ | ⟨pre, hpre, hi, hl, hk⟩⟩
      · exact ⟨none, _, run_endLoop (P := P) hl (by simp), hdone _ _ (Nat.le_refl _) (hI.putObj _ hi (by omega) hl rfl) ((World.putObj_heap_other (by omega)).trans (hk _ rfl))⟩
      · exact ⟨some .ret, _, run_endLoop (P := P) hl (by simp), hstop _ pre _ (Nat.le_refl _) hpre (hIx.putObj _ hi (by omega) hl rfl) ((World.putObj_heap_other (by omega)).trans (hk _ rfl))⟩

/-- THE LOOP WITHIN A ROUND of loop l₀. -/
theorem wpIn_seq_inner {α : Type} {g : Operand} {ps : Array Tmp} {assign body : Code} {Q : Exit → Act → World → Prop} {a : Act}
    {l₀ : Nat} {r₀ : Loop} (hro : F.round = some l₀) (hl₀ : w.heap[l₀]? = some (.loop r₀)) (h1 : 1 ≤ n) {gf : Nat} {lb : Array Value} (hg : a.eval g = .func (.func gf) #[] lb) (hFg : F.fn gf) (eg : ∀ args w, (callFunc gf args).run P w = .ok (.enter gf args) w)
    {encs : α → Array Value} {Kp : World → World → Prop} {Bs : Nat} {xs : List α} {w0 : World} (hseq : SeqBox F (n - 1) P gf lb encs Kp Bs xs w0) (hw0 : ∀ k, k < w0.heap.size → w.heap[k]? = w0.heap[k]?) (hz0 : w0.heap.size ≤ w.heap.size) (hBs : Bs < w.heap.size)
    (hKt : ∀ {A B C : World}, Kp A B → Kp B C → Kp A C) (hKb : ∀ (W : World) (l : Nat) (o o' : Obj), w.heap.size ≤ l → W.heap[l]? = some o → o.isCells = false → Kp W (W.putObj l o')) (hps : ∀ x, (encs x).size = ps.size)
    (I Ix : List α → World → Prop) (hI : OwnBox w.heap.size Bs I) (hIx : OwnBox w.heap.size Bs Ix) (h0 : I [] w) (Ax : α → Act → World → Prop) (hAx : ∀ x a', OwnBox w.heap.size Bs (fun (_ : Unit) W => Ax x a' W))
    (hassign : ∀ (l : Nat) (pre : List α) (x : α) (W : World) (K : Act → World → Prop), I pre W → (∀ a' W', KeepsFrom w.heap.size W W' → Kp W W' → I pre W' → Ax x a' W' → K a' W') →
      assign.wpIn (F.inRound l) (n - 1 - 1) P (Exit.then K (fun _ _ _ => False)) { tmps := (ps.zip (encs x)).foldl (fun t (p, v) => t.setIfInBounds p v) a.tmps, defers := [] } W)
    (hbody : ∀ (l : Nat) (pre : List α) (x : α) (a' : Act) (W : World), w.heap.size ≤ l → (∃ r, W.heap[l]? = some (.loop r)) → (∃ r, xs = pre ++ x :: r) → I pre W → Ax x a' W → body.wpIn (F.inRound l) (n - 1 - 1) P (bodyEnds w.heap.size Kp I Ix (pre ++ [x]) W) a' W)
    (hdone : ∀ (W : World), I xs W → Q .normal a W)
    (hstop : ∀ (pre : List α) (W : World), pre <+: xs → Ix pre W → Code.ret.wpIn F n P Q a W) :
    (Code.rangeFunc g ps assign body).wpIn F n P Q a w := by
  refine wpIn_rangeFunc ?_
  intro fn hfn
  rw [hro]
  obtain ⟨W1, hW1⟩ : ∃ W1, w.alloc (.loop { state := .ready, pending := none, fn := fn, tmps := a.tmps, params := ps, assign := assign, body := body, defers := r₀.defers }) = W1 := ⟨_, rfl⟩
  have hL1 : W1.heap[w.heap.size]? = some (.loop { state := .ready, pending := none, fn := fn, tmps := a.tmps, params := ps, assign := assign, body := body, defers := r₀.defers }) := by
    rw [← hW1]; exact World.alloc_heap_new w _
  have hI1 : I [] W1 := by rw [← hW1]; exact hI.alloc _ h0
  have hb1 : ∀ k, k < w0.heap.size → W1.heap[k]? = w0.heap[k]? := fun k hk => by
    rw [← hW1]
    exact (Below.heap_alloc _ _ _ (by omega)).trans (hw0 k hk)
  refine ⟨w.heap.size, [], W1, { target := .fn (.func gf) lb, args := #[.func (.yield w.heap.size) #[] #[]] }, W1, gf,
    #[.func (.yield w.heap.size) #[] #[]] ++ lb, W1, ?_, ?_, ?_, ?_, fun _ => h1, ?_⟩
  · rw [← hW1]; exact run_enterLoop_inner hl₀ _ _ _ _ _
  · simp only [resolve, hg]
    simp [go_sem]
  · intro f' hf'; simp [Target.leads] at hf'; subst hf'; exact hFg
  · simp [invoke, go_sem, eg]
  · have keep : ∀ {A B : World} {row : Option Nat} {k : Nat}, w.heap.size ≤ k → A.grownBy B row → (∀ r, row = some r → r = Bs) → ∀ o, A.heap[k]? = some o → B.heap[k]? = some o := fun hk hg' hr o ho =>
      (hg'.block _ (Array.getElem?_eq_some_iff.1 ho).1 (fun e => by have := hr _ e.symm; omega)).trans ho
    refine (hseq w.heap.size
      (fun pre W => I pre W ∧ W.heap[w.heap.size]? = some (.loop { state := .ready, pending := none, fn := fn, tmps := a.tmps, params := ps, assign := assign, body := body, defers := r₀.defers }) ∧ (∀ d, (none : Option Nat) = some d → W.heap[d]? = some (.deferred (some []))))
      (fun pre W => Ix pre W ∧ W.heap[w.heap.size]? = some (.loop { state := .done, pending := some .ret, fn := fn, tmps := a.tmps, params := ps, assign := assign, body := body, defers := r₀.defers }) ∧ (∀ d, (none : Option Nat) = some d → W.heap[d]? = some (.deferred (some []))))
      W1 hb1
      (fun s A B row hs hg' hr => ⟨hI s A B row hs.1 hg' (fun r e => .inl (hr r e)), keep (Nat.le_refl _) hg' hr _ hs.2.1, fun d e => by cases e⟩)
      (fun s A B row hs hg' hr => ⟨hIx s A B row hs.1 hg' (fun r e => .inl (hr r e)), keep (Nat.le_refl _) hg' hr _ hs.2.1, fun d e => by cases e⟩)
      ?_ ⟨hI1, hL1, fun d e => by cases e⟩).mono ?_
    · rintro pre x W ⟨hi, hl, hk⟩ hx
      exact seq_round (Kp := Kp) hfn (fun h k => hKt h k) hKb hps I Ix hI hIx Ax hAx (Nat.le_refl _) none (fun d e => by cases e) pre x
        (fun W K hi hK => hassign _ pre x W K hi hK) (fun a' W hr hi hax => hbody _ pre x a' W (Nat.le_refl _) hr hx hi hax) W hi hl hk
    · rintro e W2 ⟨⟨v, rfl⟩, ⟨hi, hl, hk⟩ | ⟨pre, hpre, hi, hl, hk⟩⟩
      · exact ⟨none, _, run_endLoop (P := P) hl (by simp), hdone _ (hI.putObj _ hi (Nat.le_refl _) hl rfl)⟩
      · exact ⟨some .ret, _, run_endLoop (P := P) hl (by simp), hstop pre _ hpre (hIx.putObj _ hi (Nat.le_refl _) hl rfl)⟩

/-- an iterator's contract goes into a round as it is -/
theorem SeqBox.inRound {α : Type} {g : Nat} {lb : Array Value} {encs : α → Array Value} {Kp : World → World → Prop} {Bs : Nat} {xs : List α} {w₀ : World} (l : Nat)
    (h : SeqBox F n P g lb encs Kp Bs xs w₀) : SeqBox (F.inRound l) n P g lb encs Kp Bs xs w₀ := h
end
end Go.Proofs.YtodbbfgkclkpgaaGreatDoor

namespace Go.Proofs.YtodbbfgkclkpgaaGreatDoor
open Go Go.RowKit Go.Shelf

attribute [local go_sem] Oper.semAt_some

/-- the pieces of a text, apart at a byte -/
def piecesB (c : UInt8) (s : ByteArray) : List ByteArray := (VP.pieces c s.data.toList).map fun l => ⟨l.toArray⟩

theorem cut_sizes {c : UInt8} {s : ByteArray} {a b : List UInt8} (h : VP.cutAt c s.data.toList = some (a, b)) :
    (s.extract 0 a.length).data.toList = a ∧ (s.extract (a.length + 1) s.size).data.toList = b ∧ a.length + 1 ≤ s.size := by
  obtain ⟨e, _⟩ := VP.cutAt_some h
  have hl := size_eq_length s
  rw [e] at hl
  refine ⟨?_, ?_, by rw [hl]; simp⟩
  · rw [Lib.extract_data, e]; simp
  · rw [Lib.extract_to_end, e]; simp

theorem piecesB_none {c : UInt8} {s : ByteArray} (h : VP.cutAt c s.data.toList = none) : piecesB c s = [s] := by
  unfold piecesB
  rw [VP.pieces_none h]
  simp only [List.map_cons, List.map_nil, mk_data]
theorem piecesB_some {c : UInt8} {s : ByteArray} {a b : List UInt8} (h : VP.cutAt c s.data.toList = some (a, b)) : piecesB c s = s.extract 0 a.length :: piecesB c (s.extract (a.length + 1) s.size) := by
  obtain ⟨h1, h2, _⟩ := cut_sizes h
  unfold piecesB
  rw [VP.pieces_some h, h2, List.map_cons]
  congr 1
  exact (data_inj h1).symm

theorem call_at (s : ByteArray) (c : UInt8) (w : World) (x : Int) (h : Lib.indexByte s.data.toList c = x) : Calls Tryz.prog 119 #[.string s, .string ⟨#[c]⟩] w fun e w' => e = .returned (.int .i64 x) ∧ w = w' :=
  (Tryz.strings_Index_one s c w).mono fun e w' ⟨he, hw⟩ => ⟨by rw [he, h], hw.symm⟩

/-- the three boxes of the function value: the text, the separator, a nought -/
def SplitBoxes (W : World) (b : Nat) (s : ByteArray) (c : UInt8) : Prop :=
  Boxed W b 9 (.string s) ∧ Boxed W (b + 1) 9 (.string ⟨#[c]⟩) ∧ Boxed W (b + 2) 3 (.int .i64 0)
/-- what a round keeps for the iterator -/
def KeepsSplit (b : Nat) (W W' : World) : Prop := ∀ k, b ≤ k → k ≤ b + 2 → W'.heap[k]? = W.heap[k]?
theorem KeepsSplit.refl (b : Nat) (W : World) : KeepsSplit b W W := fun _ _ _ => rfl
theorem KeepsSplit.trans {b : Nat} {A B C : World} (h : KeepsSplit b A B) (k : KeepsSplit b B C) : KeepsSplit b A C := fun i h1 h2 => (k i h1 h2).trans (h i h1 h2)
theorem SplitBoxes.keep {W W' : World} {b : Nat} {s : ByteArray} {c : UInt8} (h : SplitBoxes W b s c) (hk : KeepsSplit b W W') : SplitBoxes W' b s c :=
  ⟨(hk b (Nat.le_refl _) (by omega)).trans h.1, (hk (b + 1) (by omega) (by omega)).trans h.2.1, (hk (b + 2) (by omega) (Nat.le_refl _)).trans h.2.2⟩

def leftOf (b : Nat) (W : World) : Nat := match W.cell? ⟨b, 0, none⟩ with | some (.string s) => s.size | _ => 0
theorem leftOf_eq {W : World} {b : Nat} {s : ByteArray} (h : W.cell? ⟨b, 0, none⟩ = some (.string s)) : leftOf b W = s.size := by unfold leftOf; rw [h]

set_option maxRecDepth 100000 in
set_option maxHeartbeats 2000000 in
theorem split_in (n : Nat) (hn : 1 ≤ n) (l b : Nat) (c : UInt8) (s : ByteArray) (J Jx : List ByteArray → World → Prop) (hJ : AbidesBox b J)
    (hY : ∀ pre x W1, J pre W1 → (∃ r, piecesB c s = pre ++ x :: r) → YieldAt Fence.wide (n - 1) Tryz.prog l #[.string x] W1 fun e W' =>
      (e = .returned (.bool true) ∧ J (pre ++ [x]) W' ∧ KeepsSplit b W1 W') ∨ (e = .returned (.bool false) ∧ Jx (pre ++ [x]) W'))
    (W : World) (hs : s.size ≤ 1000000) (hB : SplitBoxes W b s c) (h0 : J [] W) :
    CallsIn Fence.wide n Tryz.prog 213 #[.func (.yield l) #[] #[], .pointer (some ⟨b + 1, 0, none⟩), .pointer (some ⟨b, 0, none⟩), .pointer (some ⟨b + 2, 0, none⟩)] W fun e W' => (∃ v, e = .returned v) ∧
      (J (piecesB c s) W' ∨ ∃ pre, pre <+: piecesB c s ∧ Jx pre W') := by
  refine callsIn_of_wp Tryz.func213 rfl trivial ?_ rfl
  simp only [Tryz.ntmps213, List.size_toArray, List.length_cons, List.length_nil, Nat.reduceAdd, Nat.reduceSub, Array.replicate_succ, Array.replicate_zero, List.push_toArray, List.append_toArray, List.nil_append, List.cons_append]
  have c1 := hB.2.1.cell
  gi_wp2
  gi_loopw [7] (fun _ wr => ∃ (pre : List ByteArray) (r : ByteArray), Hid (piecesB c s = pre ++ piecesB c r) ∧ SplitBoxes wr b r c ∧ r.size ≤ 1000000 ∧ J pre wr) (fun _ wr => leftOf b wr)
  case atStart => exact ⟨[], s, rfl, hB, hs, h0⟩
  case round =>
    obtain ⟨pre, r, hp, hBr, hrz, hJr⟩ := hrel
    have e0 := hBr.1.cell
    have e1 := hBr.2.1.cell
    have e2 := hBr.2.2.cell
    clear c1
    cases hc : VP.cutAt c r.data.toList with
    | none =>
      have C := Lib.hid (fun (w : World) => call_at r c w _ (indexB_none hc))
      obtain ⟨fn, tmps, assign, body, hy, hR⟩ := hY pre r wr hJr ⟨[], by rw [hp.out, piecesB_none hc]⟩
      have HP := Lib.hid (show piecesB c s = pre ++ [r] by rw [hp.out, piecesB_none hc])
      gi_wp2_with (refine ⟨trivial, ?_⟩; gi_at_call 119; refine (callsIn_wide.2 (C.out _)).mono ?_; rintro e w' ⟨rfl, rfl⟩)
      refine hR.mono ?_
      rintro e W3 (⟨rfl, hJ3, _⟩ | ⟨rfl, hJx3⟩)
      · gi_wp2
        go_end0
        exact ⟨⟨_, rfl⟩, .inl (by rw [HP.out]; exact hJ3)⟩
      · gi_wp2
        go_end0
        exact ⟨⟨_, rfl⟩, .inr ⟨_, by rw [HP.out]; exact List.prefix_refl _, hJx3⟩⟩
    | some q =>
      obtain ⟨a, t⟩ := q
      have hz := (cut_sizes hc).2.2
      have hpc := piecesB_some hc
      have hix := indexB_some hc
      obtain ⟨k, hk⟩ : ∃ k, a.length = k := ⟨_, rfl⟩
      rw [hk] at hz hpc hix
      have C := Lib.hid (fun (w : World) => call_at r c w _ hix)
      obtain ⟨fn, tmps, assign, body, hy, hR⟩ := hY pre (r.extract 0 k) wr hJr ⟨piecesB c (r.extract (k + 1) r.size), by rw [hp.out, hpc]⟩
      have HP := Lib.hid (show piecesB c s = (pre ++ [r.extract 0 k]) ++ piecesB c (r.extract (k + 1) r.size) by rw [hp.out, hpc]; simp)
      have hkr : k ≤ r.size := by omega
      have hnz : (r.extract (k + 1) r.size).size = r.size - (k + 1) := by simp
      have HNZ := Lib.hid hnz
      clear hc hk hpc hix hp hnz
      gi_wp2_with (refine ⟨trivial, ?_⟩; gi_at_call 119; refine (callsIn_wide.2 (C.out _)).mono ?_; rintro e w' ⟨rfl, rfl⟩)
      refine hR.mono ?_
      rintro e W3 (⟨rfl, hJ3, hk3⟩ | ⟨rfl, hJx3⟩)
      · have hB3 := hBr.keep hk3
        have e0 := hB3.1.cell
        have f0 := hB3.1.frozen
        have e1 := hB3.2.1.cell
        have e2 := hB3.2.2.cell
        gi_wp2
        go_roundw
        case rel =>
          refine ⟨pre ++ [r.extract 0 k], r.extract (k + 1) r.size, Lib.hid HP.out, ⟨hB3.1.set _, hB3.2.1.other (by omega) _, hB3.2.2.other (by omega) _⟩, by rw [HNZ.out]; omega, ?_⟩
          exact hJ _ _ _ (some b) hJ3 (grownBy_setCell' W3 b _) (fun r e => by cases e; rfl)
        case measure =>
          rw [leftOf_eq hBr.1.cell, leftOf_eq (hB3.1.set _).cell, HNZ.out]
          omega
      · gi_wp2
        refine bodyPost_ret (results_none rfl _ _ _) rfl ?_
        exact ⟨⟨_, rfl⟩, .inr ⟨pre ++ [r.extract 0 k], by rw [HP.out]; exact List.prefix_append _ _, hJx3⟩⟩

/-- strings.SplitSeq's value pays the iterator's contract -/
theorem split_seqBox (n : Nat) (hn : 1 ≤ n) (b : Nat) (c : UInt8) (s : ByteArray) (hs : s.size ≤ 1000000) (w : World) (hb : b + 2 < w.heap.size) (hB : SplitBoxes w b s c) :
    SeqBox Fence.wide n Tryz.prog 213 #[.pointer (some ⟨b + 1, 0, none⟩), .pointer (some ⟨b, 0, none⟩), .pointer (some ⟨b + 2, 0, none⟩)] (fun s : ByteArray => #[Value.string s]) (KeepsSplit b) b (piecesB c s) w := fun l J Jx W hW hJ _ hY h0 =>
  split_in n hn l b c s J Jx hJ hY W hs (hB.keep fun k _ h2 => hW k (by omega)) h0

set_option maxRecDepth 100000 in
/-- strings.SplitSeq: the text, the separator and a nought are boxed; the function value has captured them. -/
theorem splitSeq_calls (s : ByteArray) (c : UInt8) (w : World) : Calls Tryz.prog 154 #[.string s, .string ⟨#[c]⟩] w fun E w' =>
    E = .returned (.func (.func 213) #[] #[.pointer (some ⟨w.heap.size + 1, 0, none⟩), .pointer (some ⟨w.heap.size, 0, none⟩), .pointer (some ⟨w.heap.size + 2, 0, none⟩)]) ∧ SplitBoxes w' w.heap.size s c ∧ Below w.heap.size w w' ∧ w'.heap.size = w.heap.size + 3 := by
  have hmf : ∀ (fn : Fn) (first cap : Array Value) (w : World), (Instr.makeFunc fn first cap).run Tryz.prog w = .ok (.func fn first cap) w := fun _ _ _ _ => rfl
  go_enter Tryz.func154, Tryz.ntmps154
  go_wp2
  go_ret
  have b0 := ((Boxed.new w 9 (.string s)).alloc (.cells #[.string ⟨#[c]⟩] 9)).alloc (.cells #[.int .i64 0] 3)
  have b1 := (Boxed.new (w.alloc (.cells #[.string s] 9)) 9 (.string ⟨#[c]⟩)).alloc (.cells #[.int .i64 0] 3)
  have b2 := Boxed.new ((w.alloc (.cells #[.string s] 9)).alloc (.cells #[.string ⟨#[c]⟩] 9)) 3 (.int .i64 0)
  simp only [World.size_alloc] at b1 b2
  exact ⟨rfl, ⟨b0, b1, b2⟩, by go_grown, by simp⟩
end Go.Proofs.YtodbbfgkclkpgaaGreatDoor

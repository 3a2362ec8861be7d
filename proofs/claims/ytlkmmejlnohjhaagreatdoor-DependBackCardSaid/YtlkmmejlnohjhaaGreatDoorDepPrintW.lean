/- depend.Print: how what is asked for is written. -/
import Derived.Test.YtlkmmejlnohjhaaGreatDoorDepOne
import Derived.Test.YtlkmmejlnohjhaaGreatDoorErrWalk
import Derived.Maps.AppendAt
import Derived.OwnWalk
import Derived.Laws.AppendOwn
namespace Go.Proofs.YtlkmmejlnohjhaaGreatDoor
open Go.RowKit

theorem own_below {w w' : World} {base : Nat} {e : TypeId} {size : Nat} {v : Value} {n : Nat} {xs : List Value} (h : w.ownsRow base e size v n xs) (hb : Below w.heap.size w w') : w'.ownsRow base e size v n xs := by
  obtain ⟨h1, h2 | ⟨g, cap, cur, hv, hg, hk, h3⟩⟩ := h
  · exact ⟨h1, .inl h2⟩
  · have hlt : g < w.heap.size := (Array.getElem?_eq_some_iff.1 hk).1
    exact ⟨h1, .inr ⟨g, cap, cur, hv, hg, (hb.block g hlt).trans hk, h3⟩⟩

theorem info_str : (Tryz.prog.info? 9).map (fun i => (i.zero, i.size, i.bytes)) = some (some (.string ⟨#[]⟩), 1, 16) := by kernel_rfl

/-! what is joined -/
theorem joinP_eq (sep : List UInt8) : ∀ xs : List (List UInt8), Lib.join xs sep = VP.joinP sep xs
  | [] => rfl
  | [x] => by rw [Lib.join_one]; rfl
  | x :: y :: r => by
    have ih := joinP_eq sep (y :: r)
    rw [Lib.join_cons, VP.joinP, ← ih, Lib.join_cons]
    simp [Lib.joinTail]

theorem joinP_len (sep : List UInt8) (B : Nat) : ∀ xs : List (List UInt8), (∀ x ∈ xs, x.length ≤ B) → (VP.joinP sep xs).length ≤ xs.length * (B + sep.length)
  | [], _ => by simp [VP.joinP]
  | [x], h => by
    have := h x (.head _)
    rw [VP.joinP, List.length_singleton, Nat.one_mul]; omega
  | x :: y :: r, h => by
    have ih := joinP_len sep B (y :: r) (fun z hz => h z (.tail _ hz))
    have := h x (.head _)
    rw [VP.joinP, List.length_append, List.length_append]
    rw [List.length_cons (a := x), Nat.add_mul, Nat.one_mul]
    omega

theorem oneP_len {t : VP.Tm} (h : VP.RightT t) : (VP.oneP t).length ≤ 100 := by
  have h1 := h.nm.hi
  rcases h.k with ⟨h0, _⟩ | ⟨hop, hv⟩
  · unfold VP.oneP; rw [if_pos h0]; omega
  · have h2 := hv.len
    have h3 : (VP.signP t.op).length ≤ 2 := by
      unfold VP.signP
      (repeat' split) <;> simp
    unfold VP.oneP
    rw [if_neg (by omega)]
    simp only [List.length_append, List.length_cons, List.length_nil]
    omega

def lineS (x : List Tv) : ByteArray := ⟨(VP.lineP (x.map Tv.tm)).toArray⟩
def wholeS (L : List (List Tv)) : ByteArray := ⟨(VP.printL (tmL L)).toArray⟩

theorem lineS_eq (x : List Tv) : Lib.join ((x.map oneS).map (·.data.toList)) [32, 124, 32] = (lineS x).data.toList := by
  rw [joinP_eq]
  show _ = VP.joinP [32, 124, 32] ((x.map Tv.tm).map VP.oneP)
  rw [List.map_map, List.map_map]
  rfl
theorem wholeS_eq (L : List (List Tv)) : Lib.join ((L.map lineS).map (·.data.toList)) [44, 32] = (wholeS L).data.toList := by
  rw [joinP_eq]
  show _ = VP.joinP [44, 32] ((L.map fun x => x.map Tv.tm).map VP.lineP)
  rw [List.map_map, List.map_map]
  rfl
theorem lineS_len {x : List Tv} (h : ∀ t ∈ x, VP.RightT t.tm) : (lineS x).data.toList.length ≤ x.length * 103 := by
  have := joinP_len [32, 124, 32] 100 ((x.map Tv.tm).map VP.oneP) (fun y hy => by
    obtain ⟨t', ht', rfl⟩ := List.mem_map.1 hy
    obtain ⟨t, ht, rfl⟩ := List.mem_map.1 ht'
    exact oneP_len (h t ht))
  rw [List.length_map, List.length_map] at this
  exact this

/-- a slice of strings of the call's own -/
theorem own_cells {w : World} {base : Nat} {v : Value} {n : Nat} {ss : List ByteArray} (h : w.ownsRow base 9 1 v n (ss.map Value.string)) :
    n = ss.length ∧ ((v = .slice none 0 0 ∧ n = 0) ∨ ∃ g cap, v = .slice (some ⟨g, 0, none⟩) n cap ∧ g < w.heap.size ∧ n ≤ cap ∧ ∀ j s, ss[j]? = some s → w.cell? ⟨g, 0 + j, none⟩ = some (.string s)) := by
  have hl := h.1
  rw [List.length_map, Nat.mul_one] at hl
  refine ⟨hl.symm, ?_⟩
  rcases h.2 with h0 | ⟨g, cap, cur, rfl, hg, hk, hn, hm, hs, ht⟩
  · exact .inl h0
  · refine .inr ⟨g, cap, rfl, (Array.getElem?_eq_some_iff.1 hk).1, hn, fun j s hj => ?_⟩
    have := h.cells (g := g) rfl j (.string s) (by rw [List.getElem?_map, hj]; rfl)
    rw [Go.WideShapes.add_plain] at this
    exact this

theorem call_join (w : World) (base : Nat) (v : Value) (n : Nat) (ss : List ByteArray) (sep : ByteArray) (h : w.ownsRow base 9 1 v n (ss.map Value.string)) (hn : n ≤ 1000000)
    (hlen : (Lib.join (ss.map (·.data.toList)) sep.data.toList).length ≤ 1000000) :
    Calls Tryz.prog 30 #[v, .string sep] w fun e w' => e = .returned (.string ⟨(Lib.join (ss.map (·.data.toList)) sep.data.toList).toArray⟩) ∧ Below w.heap.size w w' := by
  obtain ⟨hl, ⟨rfl, h0⟩ | ⟨g, cap, rfl, hg, hc, hcell⟩⟩ := own_cells h
  · refine (Tryz.strings_Join_none none 0 sep w).mono fun e w' ⟨he, hw⟩ => ⟨?_, hw ▸ Below.refl _ _⟩
    have : ss = [] := List.eq_nil_of_length_eq_zero (by omega)
    rw [he, this]
    rfl
  · rw [hl] at hc ⊢
    exact Tryz.strings_Join g 0 cap ss sep w hcell hg (by omega) hc (by omega)
end Go.Proofs.YtlkmmejlnohjhaaGreatDoor

/- Rows of the call's own: what keeps them; a row of slices of terms. -/
import Derived.Test.YtlkmmejlnohjhaaDoorDepMem
import Derived.Maps.AppendAt
import Derived.OwnWalk
import Derived.Laws.AppendOwn
namespace Go.Proofs.YtlkmmejlnohjhaaDoor
open Go.RowKit

theorem own_below {w w' : World} {base : Nat} {e : TypeId} {size : Nat} {v : Value} {n : Nat} {xs : List Value} (h : w.ownsRow base e size v n xs) (hb : Below w.heap.size w w') : w'.ownsRow base e size v n xs := by
  obtain ⟨h1, h2 | ⟨g, cap, cur, hv, hg, hk, h3⟩⟩ := h
  · exact ⟨h1, .inl h2⟩
  · have hlt : g < w.heap.size := (Array.getElem?_eq_some_iff.1 hk).1
    exact ⟨h1, .inr ⟨g, cap, cur, hv, hg, (hb.block g hlt).trans hk, h3⟩⟩

theorem info_terms : (Tryd.prog.info? 49).map (fun i => (i.zero, i.size, i.bytes)) = some (some (.slice none 0 0), 1, 24) := by kernel_rfl

/-- a slice of slices of the call's own, each of which reads as terms -/
theorem asked_of_own {w : World} {base : Nat} {v : Value} {n : Nat} {vs : List Value} {L : List (List Tv)} (h : w.ownsRow base 49 1 v n vs) (hn : n = L.length) (hb : n ≤ 9223372036854775807)
    (hi : ∀ (i : Nat) (x : List Tv), L[i]? = some x → ∃ vx, vs[i]? = some vx ∧ TermsAt w vx x) : AskedAt w v L := by
  subst hn
  rcases h.2 with ⟨rfl, h0⟩ | ⟨g, cap, cur, rfl, hg, hk, hc, hm, hs, ht⟩
  · refine ⟨none, 0, by rw [h0], by omega, hb, fun hne => ?_⟩
    exact absurd (List.eq_nil_of_length_eq_zero h0) hne
  · refine ⟨some ⟨g, 0, none⟩, cap, rfl, hc, hb, fun _ => ⟨g, 0, rfl, fun i x hx => ?_⟩⟩
    obtain ⟨vx, h1, h2⟩ := hi i x hx
    have := h.cells (g := g) rfl i vx h1
    rw [Go.WideShapes.add_plain] at this
    exact ⟨vx, this, h2⟩
end Go.Proofs.YtlkmmejlnohjhaaDoor

/- What is short enough to be held is short enough to be read. -/
import Derived.Test.YtlkmmejlnohjhaaDoorDepGen
namespace Go.Proofs.YtlkmmejlnohjhaaDoor
open Go.RowKit

theorem small_of {L : List (List Tv)} {w : World} {v : Value} (h : AskedAt w v L) (hb : termsB L = true) : ∀ x ∈ L, ∀ t ∈ x, t.small := by
  unfold termsB at hb
  rw [Bool.and_eq_true, List.all_eq_true] at hb
  intro x hx t ht
  have hf := hb.2 x hx
  unfold flatB at hf
  rw [Bool.and_eq_true, List.all_eq_true] at hf
  have h1 := hf.2 t ht
  unfold flatT shortB at h1
  simp at h1
  obtain ⟨i, hi⟩ := List.getElem?_of_mem hx
  obtain ⟨A, c, rfl, _, _, hr⟩ := h
  obtain ⟨b, off, _, hh⟩ := hr (List.ne_nil_of_mem hx)
  obtain ⟨vx, _, A', c', _, _, _, hr'⟩ := hh i x hi
  obtain ⟨b', off', _, hh'⟩ := hr' (List.ne_nil_of_mem ht)
  obtain ⟨j, hj⟩ := List.getElem?_of_mem ht
  exact ⟨by omega, by omega, by omega, (hh' j t hj).2⟩

theorem few_of {L : List (List Tv)} (hb : termsB L = true) : ∀ x ∈ L, x.length ≤ 1000 := by
  unfold termsB at hb
  rw [Bool.and_eq_true, List.all_eq_true] at hb
  intro x hx
  have hf := hb.2 x hx
  unfold flatB at hf
  rw [Bool.and_eq_true, decide_eq_true_eq] at hf
  have := hf.1
  omega

theorem small_flat {ts : List Tv} {w : World} {v : Value} (h : TermsAt w v ts) (hb : flatB ts = true) : ∀ t ∈ ts, t.small := by
  unfold flatB at hb
  rw [Bool.and_eq_true, List.all_eq_true] at hb
  intro t ht
  have h1 := hb.2 t ht
  unfold flatT shortB at h1
  simp at h1
  obtain ⟨A', c', _, _, _, hr'⟩ := h
  obtain ⟨b', off', _, hh'⟩ := hr' (List.ne_nil_of_mem ht)
  obtain ⟨j, hj⟩ := List.getElem?_of_mem ht
  exact ⟨by omega, by omega, by omega, (hh' j t hj).2⟩
end Go.Proofs.YtlkmmejlnohjhaaDoor

/- order.settle's closure: does a set wait. · Plain: which set each number is of, as the program notes it. -/
import Derived.Test.YtpbbhjifgaeklaaGreatDoorCSK18
import Derived.Deep.QuietTactic
import Derived.BigQuiet
import Derived.Test.YtpbbhjifgaeklaaGreatDoorCSK14
namespace Go.Proofs.YtpbbhjifgaeklaaGreatDoor
open Go Go.RowKit
open TJ (EdgeN hasN g0)

def boolA (l : List Bool) : Array Value := (l.map Value.bool).toArray
theorem boolA_at {l : List Bool} {i : Nat} (h : i < l.length) : (boolA l)[i]? = some (.bool (l.getD i false)) := by
  unfold boolA
  rw [List.getElem?_toArray, List.getElem?_map, List.getD_eq_getElem?_getD, List.getElem?_eq_getElem h]
  rfl
theorem boolA_set (l : List Bool) (i : Nat) (x : Bool) : (boolA l).setIfInBounds i (.bool x) = boolA (l.set i x) := by
  unfold boolA
  rw [List.setIfInBounds_toArray, List.map_set]
def waitB (arr : List Nat) (dn : List Bool) (i : Nat) (e : EdgeN) : Bool := g0 arr e.2 == i && !(g0 arr e.1 == i) && !(dn.getD (g0 arr e.1) false)

set_option maxHeartbeats 2000000 in
set_option maxRecDepth 100000 in
theorem setF_calls (b1 b2 b3 g gd i n m : Nat) (arr : List Nat) (dn : List Bool) (e : EdgeN) (w : World) (h1 : w.cell? ⟨b1, 0, none⟩ = some (.slice (some ⟨g, 0, none⟩) n n)) (h2 : w.cell? ⟨b2, 0, none⟩ = some (.int .i64 i)) (h3 : w.cell? ⟨b3, 0, none⟩ = some (.slice (some ⟨gd, 0, none⟩) m m))
    (ha : Blk 3 w g (natA arr)) (hd : Blk 4 w gd (boolA dn)) (la : arr.length = n) (ld : dn.length = m) (e1 : e.1 < n) (e2 : e.2 < n) (e3 : g0 arr e.1 < m) :
    Calls Tryz.prog 287 #[edgV e, .pointer (some ⟨b1, 0, none⟩), .pointer (some ⟨b2, 0, none⟩), .pointer (some ⟨b3, 0, none⟩)] w (BoolIs (waitB arr dn i e) w) := by
  obtain ⟨p, q⟩ := e
  unfold edgV
  simp only at e1 e2 e3
  have hb := below_alloc w (.cells #[.int .i64 p, .int .i64 q] 153)
  have k1 := kept hb h1
  have k2 := kept hb h2
  have k3 := kept hb h3
  have a1 := kept hb (ha.cell (natA_at (g0_at (l := arr) (i := p) (by omega))))
  have a2 := kept hb (ha.cell (natA_at (g0_at (l := arr) (i := q) (by omega))))
  have a3 := kept hb (hd.cell (boolA_at (l := dn) (i := g0 arr p) (by omega)))
  have x1 : (p : Int) < n := by omega
  have x2 : (q : Int) < n := by omega
  have x3 : (g0 arr p : Int) < m := by omega
  have x4 : (0 : Int) ≤ p := by omega
  have x5 : (0 : Int) ≤ q := by omega
  have x6 : (0 : Int) ≤ g0 arr p := by omega
  obtain ⟨P, hP⟩ : ∃ P, g0 arr p = P := ⟨_, rfl⟩
  obtain ⟨Q, hQ⟩ : ∃ Q, g0 arr q = Q := ⟨_, rfl⟩
  obtain ⟨d, hD⟩ : ∃ d, dn.getD (g0 arr p) false = d := ⟨_, rfl⟩
  have HF := Lib.hid (show waitB arr dn i (p, q) = (Q == i && !(P == i) && !d) from by unfold waitB; rw [hP, hQ, ← hD, hP])
  rw [hD, hP] at a3
  rw [hP] at a1 x3 x6
  rw [hQ] at a2
  have HB := Lib.hid hb
  clear h1 h2 h3 ha hd la ld e1 e2 e3 hb hP hQ hD
  by_cases c1 : Q = i
  · have t1 : ((Q : Int) == (i : Int)) = true := by simp [c1]
    by_cases c2 : P = i
    · have t2 : ((P : Int) != (i : Int)) = false := by simp [c2]
      have F := Lib.hid (HF.out.trans (show _ = false from by simp [c2]))
      have t3 : ((P : Int) == (i : Int)) = true := by simp [c2]
      clear c1 c2 HF
      go_enter Tryz.func287, Tryz.ntmps287
      go_upto_region 1 with fail
      go_quiet (fail)
      go_wp2_with fail
      go_ret
      exact ⟨ret_bool F.out.symm, HB.out.trans ((below_drewN _ _ _).mono (Nat.le_refl _))⟩
    · have t2 : ((P : Int) != (i : Int)) = true := by simp; omega
      have t3 : ((P : Int) == (i : Int)) = false := by simp; omega
      have F := Lib.hid (HF.out.trans (show _ = !d from by simp [c1, c2]))
      clear c1 c2 HF
      go_enter Tryz.func287, Tryz.ntmps287
      go_upto_region 1 with fail
      go_quiet (fail)
      go_wp2_with fail
      go_ret
      exact ⟨ret_bool F.out.symm, HB.out.trans ((below_drewN _ _ _).mono (Nat.le_refl _))⟩
  · have t1 : ((Q : Int) == (i : Int)) = false := by simp; omega
    have F := Lib.hid (HF.out.trans (show _ = false from by simp [c1]))
    clear c1 HF
    go_enter Tryz.func287, Tryz.ntmps287
    go_upto_region 1 with fail
    go_quiet (fail)
    go_wp2_with fail
    go_ret
    exact ⟨ret_bool F.out.symm, HB.out.trans ((below_drewN _ _ _).mono (Nat.le_refl _))⟩
end Go.Proofs.YtpbbhjifgaeklaaGreatDoor

namespace Go.Proofs.YtpbbhjifgaeklaaGreatDoor
namespace TJ
def fillT (i : Nat) (a : List Nat) (x : List Nat) : List Nat := x.foldl (fun a v => a.set v i) a
def arrT : List (List Nat) → Nat → List Nat → List Nat
  | [], _, a => a
  | x :: S, i, a => arrT S (i + 1) (fillT i a x)
theorem fill_len (i : Nat) : ∀ (x a : List Nat), (fillT i a x).length = a.length
  | [], _ => rfl
  | v :: x, a => by
    show (fillT i (a.set v i) x).length = _
    rw [fill_len i x, List.length_set]
theorem fill_other (i : Nat) {v : Nat} : ∀ (x a : List Nat), v ∉ x → g0 (fillT i a x) v = g0 a v
  | [], _, _ => rfl
  | u :: x, a, h => by
    rw [List.mem_cons, not_or] at h
    show g0 (fillT i (a.set u i) x) v = _
    rw [fill_other i x _ h.2, g0_other (Ne.symm h.1)]
theorem fill_in (i : Nat) {v : Nat} : ∀ (x a : List Nat), v ∈ x → v < a.length → g0 (fillT i a x) v = i
  | u :: x, a, h, hl => by
    show g0 (fillT i (a.set u i) x) v = _
    by_cases hx : v ∈ x
    · exact fill_in i x _ hx (by rw [List.length_set]; exact hl)
    · rw [fill_other i x _ hx]
      rcases List.mem_cons.1 h with h | h
      · subst h
        exact g0_same hl
      · exact absurd h hx
theorem arr_other {v : Nat} : ∀ (S : List (List Nat)) (i : Nat) (a : List Nat), v ∉ S.flatten → g0 (arrT S i a) v = g0 a v
  | [], _, _, _ => rfl
  | x :: S, i, a, h => by
    rw [List.flatten_cons, List.mem_append, not_or] at h
    unfold arrT
    rw [arr_other S _ _ h.2, fill_other i x a h.1]
theorem arr_in {v : Nat} : ∀ (S : List (List Nat)) (i : Nat) (a : List Nat), S.flatten.Nodup → v < a.length → ∀ (j : Nat) (x : List Nat), S[j]? = some x → v ∈ x → g0 (arrT S i a) v = i + j
  | [], _, _, _, _, j, x, hx, _ => by simp at hx
  | y :: S, i, a, hn, hl, j, x, hx, hv => by
    rw [List.flatten_cons, List.nodup_append] at hn
    unfold arrT
    cases j with
    | zero =>
      simp only [List.getElem?_cons_zero, Option.some.injEq] at hx
      subst hx
      rw [arr_other S _ _ (fun e => hn.2.2 v hv v e rfl), fill_in i y a hv hl]
      rfl
    | succ j =>
      simp only [List.getElem?_cons_succ] at hx
      rw [arr_in S (i + 1) _ hn.2.1 (by rw [fill_len]; exact hl) j x hx hv]
      omega
theorem arr_of {S : List (List Nat)} {n v : Nat} (hn : S.flatten.Nodup) (hall : ∃ x, x ∈ S ∧ v ∈ x) (hv : v < n) : g0 (arrT S 0 (List.replicate n 0)) v = ofT S v := by
  obtain ⟨x, hx, hvx⟩ := hall
  obtain ⟨i, hi, hi2⟩ := List.getElem_of_mem hx
  have hx2 : S[i]? = some x := by rw [List.getElem?_eq_getElem hi, hi2]
  rw [arr_in S 0 _ hn (by simpa using hv) i x hx2 hvx, of_mem hn hx2 hvx, Nat.zero_add]
theorem told_next {S : List (List Nat)} {dn : List Bool} {out : List (List Nat)} {p : List Nat} {b : Nat} (h : Told S dn out p) (hbl : b < S.length) (hbd : dn.getD b false = false) : Told S (dn.set b true) (out ++ [S.getD b []]) (p ++ [b]) := by
  have hbp : b ∉ p := fun e => by
    have := (h.dn b hbl).2 e
    rw [hbd] at this
    cases this
  refine ⟨?_, fun i hi => ?_, by rw [List.length_set]; exact h.len, fun i hi => ?_, by rw [h.out, List.map_append]; rfl⟩
  · rw [List.nodup_append]
    refine ⟨h.nd, by simp, fun a ha c hc e => ?_⟩
    rw [List.mem_singleton] at hc
    exact hbp (by rw [← hc, ← e]; exact ha)
  · rcases List.mem_append.1 hi with hi | hi
    · exact h.lt i hi
    · rw [List.mem_singleton] at hi
      omega
  · rw [List.getD_eq_getElem?_getD, List.getElem?_set, List.mem_append, List.mem_singleton]
    by_cases e : b = i
    · subst e
      rw [if_pos rfl, if_pos (by rw [h.len]; exact hbl)]
      simp
    · rw [if_neg e, ← List.getD_eq_getElem?_getD, h.dn i hi]
      constructor
      · exact .inl
      · rintro (k | k)
        · exact k
        · exact absurd k.symm e
theorem told_start (S : List (List Nat)) : Told S (List.replicate S.length false) [] [] := by
  refine ⟨List.nodup_nil, fun i hi => (by cases hi), by simp, fun i hi => ?_, rfl⟩
  rw [List.getD_eq_getElem?_getD, List.getElem?_replicate, if_pos hi]
  simp
theorem range_best {S : List (List Nat)} {l : List EdgeN} {dn : List Bool} (i : Nat) : (List.range (i + 1)).foldl (bestStep S l dn) none = bestStep S l dn ((List.range i).foldl (bestStep S l dn) none) i := by
  rw [List.range_succ, List.foldl_append]
  rfl
end TJ
end Go.Proofs.YtpbbhjifgaeklaaGreatDoor

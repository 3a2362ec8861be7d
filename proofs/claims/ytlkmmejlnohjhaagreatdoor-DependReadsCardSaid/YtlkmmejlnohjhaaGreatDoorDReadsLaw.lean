/- DependReads: for every text the call returns true: from the walks. -/
import Derived.Test.YtlkmmejlnohjhaaGreatDoorRefTerms
import Derived.Test.YtlkmmejlnohjhaaGreatDoorLawFlat
import Derived.Test.YtlkmmejlnohjhaaGreatDoorPrintsLaw
namespace Go.Proofs.YtlkmmejlnohjhaaGreatDoor
open Go.RowKit

def ofTm (x : VP.Tm) : Tv := ⟨⟨x.n.toArray⟩, x.op, x.e, ⟨x.u.toArray⟩, ⟨x.r.toArray⟩⟩
theorem ofTm_tm (t : Tv) : ofTm t.tm = t := by
  cases t
  unfold ofTm Tv.tm
  simp only [mk_data]
def ofL (M : List (List VP.Tm)) : List (List Tv) := M.map fun x => x.map ofTm
theorem ofTs_tm (ts : List Tv) : (ts.map Tv.tm).map ofTm = ts := by
  rw [List.map_map]
  conv => rhs; rw [← List.map_id ts]
  exact List.map_congr_left fun t _ => ofTm_tm t
theorem ofL_tmL (L : List (List Tv)) : ofL (tmL L) = L := by
  unfold ofL tmL
  rw [List.map_map]
  conv => rhs; rw [← List.map_id L]
  exact List.map_congr_left fun x _ => ofTs_tm x

theorem asked_nil (w : World) : AskedAt w (.slice none 0 0) [] := ⟨none, 0, rfl, Nat.le_refl _, by simp, fun h => absurd rfl h⟩
theorem terms_nil (w : World) : TermsAt w (.slice none 0 0) [] := ⟨none, 0, rfl, Nat.le_refl _, by simp, fun h => absurd rfl h⟩
theorem errV_of {e : Int} (h : e = 3 ∨ e = 4) : errV e = .iface 26 (.int .i64 e) := by
  unfold errV
  rw [if_neg (by omega)]

/-- the two readers, side by side -/
theorem terms_two (s : ByteArray) (w : World) (hE : Env w) (hS : EnvS w) (hs : s.size ≤ 1000) : ∃ (n : Int) (L : List (List Tv)),
    (∀ W, Below w.heap.size w W → Calls Tryz.prog 20 #[.string s] W fun E W' => ∃ v, E = .returned (.tuple #[v, .int .i64 n]) ∧ AskedAt W' v L ∧ Below W.heap.size W W') ∧
    (∀ W, Below w.heap.size w W → Calls Tryz.prog 18 #[.string s] W fun E W' => ∃ v, E = .returned (.tuple #[v, errV n]) ∧ AskedAt W' v L ∧ Below W.heap.size W W') := by
  cases hT : VP.termsP s.data.toList with
  | ok M =>
    refine ⟨0, ofL M, fun W hb => (refTerms_calls s W (hE.below hb) hs).mono ?_, fun W hb => (terms_walk s W (hE.below hb) (hS.below hb) hs).mono ?_⟩
    · rintro E W' ⟨hb', ⟨L, v, rfl, hL, hA, _⟩ | ⟨e, _, he, _⟩⟩
      · rw [hT] at hL
        injection hL with hL
        rw [hL, ofL_tmL]
        exact ⟨v, rfl, hA, hb'⟩
      · rw [hT] at he; cases he
    · rintro E W' ⟨hb', ⟨L, v, rfl, hL, hA, _⟩ | ⟨e, _, he, _⟩⟩
      · rw [hT] at hL
        injection hL with hL
        rw [hL, ofL_tmL]
        exact ⟨v, rfl, hA, hb'⟩
      · rw [hT] at he; cases he
  | error e =>
    refine ⟨e, [], fun W hb => (refTerms_calls s W (hE.below hb) hs).mono ?_, fun W hb => (terms_walk s W (hE.below hb) (hS.below hb) hs).mono ?_⟩
    · rintro E W' ⟨hb', ⟨L, v, _, hL, _, _⟩ | ⟨e', rfl, he, hc⟩⟩
      · rw [hT] at hL; cases hL
      · rw [hT] at he
        injection he with he
        subst he
        exact ⟨_, rfl, asked_nil _, hb'⟩
    · rintro E W' ⟨hb', ⟨L, v, _, hL, _, _⟩ | ⟨e', rfl, he, hc⟩⟩
      · rw [hT] at hL; cases hL
      · rw [hT] at he
        injection he with he
        subst he
        exact ⟨_, by rw [errV_of hc], asked_nil _, hb'⟩
theorem list_two (s : ByteArray) (w : World) (hE : Env w) (hS : EnvS w) (hs : s.size ≤ 1000) : ∃ (n : Int) (ts : List Tv),
    (∀ W, Below w.heap.size w W → Calls Tryz.prog 21 #[.string s] W fun E W' => ∃ v, E = .returned (.tuple #[v, .int .i64 n]) ∧ TermsAt W' v ts ∧ Below W.heap.size W W') ∧
    (∀ W, Below w.heap.size w W → Calls Tryz.prog 22 #[.string s] W fun E W' => ∃ v, E = .returned (.tuple #[v, errV n]) ∧ TermsAt W' v ts ∧ Below W.heap.size W W') := by
  cases hT : VP.listP s.data.toList with
  | ok M =>
    refine ⟨0, M.map ofTm, fun W hb => (refList_calls s W (hE.below hb) hs).mono ?_, fun W hb => (depList_calls s W (hE.below hb) (hS.below hb) hs).mono ?_⟩
    · rintro E W' ⟨hb', ⟨L, v, rfl, hL, hA⟩ | ⟨e, _, he, _⟩⟩
      · rw [hT] at hL
        injection hL with hL
        rw [hL, ofTs_tm]
        exact ⟨v, rfl, hA, hb'⟩
      · rw [hT] at he; cases he
    · rintro E W' ⟨hb', ⟨L, v, rfl, hL, hA⟩ | ⟨e, _, he, _⟩⟩
      · rw [hT] at hL
        injection hL with hL
        rw [hL, ofTs_tm]
        exact ⟨v, rfl, hA, hb'⟩
      · rw [hT] at he; cases he
  | error e =>
    refine ⟨e, [], fun W hb => (refList_calls s W (hE.below hb) hs).mono ?_, fun W hb => (depList_calls s W (hE.below hb) (hS.below hb) hs).mono ?_⟩
    · rintro E W' ⟨hb', ⟨L, v, _, hL, _⟩ | ⟨e', rfl, he, hc⟩⟩
      · rw [hT] at hL; cases hL
      · rw [hT] at he
        injection he with he
        subst he
        exact ⟨_, rfl, terms_nil _, hb'⟩
    · rintro E W' ⟨hb', ⟨L, v, _, hL, _⟩ | ⟨e', rfl, he, hc⟩⟩
      · rw [hT] at hL; cases hL
      · rw [hT] at he
        injection he with he
        subst he
        exact ⟨_, by rw [errV_of hc], terms_nil _, hb'⟩

set_option maxHeartbeats 1000000 in
set_option maxRecDepth 100000 in
theorem dreads_calls (s : ByteArray) (w : World) (hE : Env w) (hG : EnvE w) (hS : EnvS w) : Calls Tryz.prog 5 #[.string s] w (BoolIs true w) := by
  by_cases hs : 800 < s.size
  · clear hE hG hS
    go_enter Tryz.func5, Tryz.ntmps5
    go_wp2_with fail
    go_ret
    exact ⟨rfl, Below.refl _ _⟩
  · obtain ⟨n1, L, P1, P2⟩ := terms_two s w hE hS (by omega)
    obtain ⟨n2, ts, Q1, Q2⟩ := list_two s w hE hS (by omega)
    have P1 := Lib.hid P1
    have P2 := Lib.hid P2
    have Q1 := Lib.hid Q1
    have Q2 := Lib.hid Q2
    have R : ∀ (n : Int), Hid (∀ W, Below w.heap.size w W → Calls Tryz.prog 10 #[errV n, .int .i64 n] W (BoolIs true W)) := fun n W hb => (bare_calls n n W (hG.below hb)).mono fun E W' h => ⟨by rw [h.1]; exact ret_bool (by simp), h.2⟩
    have R1 := R n1
    have R2 := R n2
    obtain ⟨b, hb⟩ : ∃ b, VP.nameP s.data.toList = b := ⟨_, rfl⟩
    have N1 : Hid (∀ W, Calls Tryz.prog 24 #[.string s] W fun E W' => E = .returned (.bool b) ∧ Below W.heap.size W W') := fun W => by rw [← hb]; exact name_calls s W
    have N2 : Hid (∀ W, Calls Tryz.prog 25 #[.string s] W fun E W' => E = .returned (.bool b) ∧ W = W') := fun W => by rw [← hb]; exact packName_calls s W (by omega)
    clear hE hG hS R hb
    generalize errV n1 = ev1 at P2 R1
    generalize errV n2 = ev2 at Q2 R2
    go_enter Tryz.func5, Tryz.ntmps5
    go_wp2_with fail
    refine (P1.out _ (Below.refl _ _)).mono ?_
    rintro E w1 ⟨v1, rfl, ha1, hB⟩
    have HA1 := Lib.hid ha1
    clear ha1
    go_wp2_with fail
    refine (P2.out _ hB).mono ?_
    rintro E w2 ⟨v2, rfl, ha2, hb⟩
    have HS1 := Lib.hid (fun (W : World) (h : Below w2.heap.size w2 W) => lawSameAsked_calls v2 v1 L W (ha2.below h) ((HA1.out.below hb).below h))
    replace hB := step_below hB hb
    clear hb ha2
    go_wp2_with fail
    refine (R1.out _ hB).mono ?_
    rintro E w3 ⟨rfl, hb⟩
    have HS2 := Lib.hid (HS1.out _ hb)
    replace hB := step_below hB hb
    clear hb
    go_wp2_with fail
    refine HS2.out.mono ?_
    rintro E w4 ⟨rfl, hb⟩
    replace hB := step_below hB hb
    clear hb
    go_wp2_with fail
    refine (Q1.out _ hB).mono ?_
    rintro E w5 ⟨v5, rfl, ha5, hb⟩
    have HA5 := Lib.hid ha5
    replace hB := step_below hB hb
    clear ha5 hb
    go_wp2_with fail
    refine (Q2.out _ hB).mono ?_
    rintro E w6 ⟨v6, rfl, ha6, hb⟩
    have HS5 := Lib.hid (fun (W : World) (h : Below w6.heap.size w6 W) => lawSameTerms_calls v6 v5 ts W (ha6.below h) ((HA5.out.below hb).below h))
    replace hB := step_below hB hb
    clear hb ha6
    go_wp2_with fail
    refine (R2.out _ hB).mono ?_
    rintro E w7 ⟨rfl, hb⟩
    have HS6 := Lib.hid (HS5.out _ hb)
    replace hB := step_below hB hb
    clear hb
    go_wp2_with fail
    refine HS6.out.mono ?_
    rintro E w8 ⟨rfl, hb⟩
    replace hB := step_below hB hb
    clear hb
    go_wp2_with fail
    refine (N1.out _).mono ?_
    rintro E w9 ⟨rfl, hb⟩
    replace hB := step_below hB hb
    clear hb
    go_wp2_with fail
    refine (N2.out _).mono ?_
    rintro E w10 ⟨rfl, rfl⟩
    go_wp2_with fail
    go_ret
    exact ⟨ret_bool (by simp), hB⟩
end Go.Proofs.YtlkmmejlnohjhaaGreatDoor

/- ShelfOwns: the law, for every input. · ShelfOwns: the statement of the seat, ahead of its card. -/
import Derived.Test.YtpbbhjifgaeklaaGreatDoorSOK37
import Derived.Test.YtpbbhjifgaeklaaGreatDoorSOK35
import Derived.Test.YtpbbhjifgaeklaaGreatDoorSOK34
import Derived.Test.YtpbbhjifgaeklaaGreatDoorTie
import Derived.Test.YtpbbhjifgaeklaaGreatDoorCards
namespace Go.Proofs.YtpbbhjifgaeklaaGreatDoor
open Go Go.RowKit Go.Maps

set_option maxHeartbeats 2000000 in
set_option maxRecDepth 100000 in
theorem owns_early (l : List Pv) (dr : List Int) (v vd : Value) (all : Bool) (w : World) (hP : PacksAt w v l) (hD : IntsAt w vd dr) (hno : ¬ (l.length ≤ 15 ∧ dr.length ≤ 15)) :
    Calls Tryz.prog 7 #[v, vd, .bool all] w (BoolIs true w) := by
  obtain ⟨Ap, cp, rfl, hcp, hmp, hip⟩ := hP
  obtain ⟨Ad, cd, rfl, hcd, hmd, hid⟩ := hD.open
  have HB0 := Lib.hid (below_alloc w (.cells #[.bool all] 4))
  clear hip hid hD
  obtain ⟨len, hlen⟩ : ∃ n, l.length = n := ⟨_, rfl⟩
  obtain ⟨dlen, hdlen⟩ : ∃ n, dr.length = n := ⟨_, rfl⟩
  rw [hlen] at hcp hmp hno ⊢
  rw [hdlen] at hcd hmd hno ⊢
  clear hlen hdlen
  by_cases h1 : len ≤ 15
  · have g1 : decide ((15 : Int) < (len : Int)) = false := decide_eq_false (by omega)
    have g2 : decide ((15 : Int) < (dlen : Int)) = true := decide_eq_true (by omega)
    clear hno h1
    go_enter Tryz.func7, Tryz.ntmps7
    go_wp2_with fail
    go_ret
    exact ⟨rfl, HB0.out⟩
  · have g1 : decide ((15 : Int) < (len : Int)) = true := decide_eq_true (by omega)
    clear hno h1
    go_enter Tryz.func7, Tryz.ntmps7
    go_wp2_with fail
    go_ret
    exact ⟨rfl, HB0.out⟩
theorem owns_law (l : List Pv) (dr : List Int) (v vd : Value) (all : Bool) (w : World) (hE : Env w) (hP : PacksAt w v l) (hD : IntsAt w vd dr) :
    Calls Tryz.prog 7 #[v, vd, .bool all] w (BoolIs true w) := by
  by_cases h : l.length ≤ 15 ∧ dr.length ≤ 15
  · exact owns_main l dr v vd all w hE hP hD h.1 h.2
  · exact owns_early l dr v vd all w hP hD h
end Go.Proofs.YtpbbhjifgaeklaaGreatDoor

namespace Go.Proofs.YtpbbhjifgaeklaaGreatDoor
open Go.RowKit Go.ChangeShapes Go.WideShapes Go.ChangeAt Go.Joins

set_option maxRecDepth 100000 in
/-- What the walks read of the library's variables, out of the row's list and the world's shape. -/
theorem env_owns {W : World} {laid : List (String × DataW Unit)} (hL : laidMet Tryz.prog laid W) (hm : ("internal/strconv.uint64pow10", (Rows.laid_internal_strconv_uint64pow10 : DataW Unit)) ∈ laid) (hsh : W.ShapedOpen Tryz.prog) : Env W :=
  ⟨Tryz.laysM145.s1_3 W hsh, tabIs_of_reads (g := 6) (by kernel_rfl) (by kernel_rfl) (by kernel_rfl) Tryz.underlying323 Tryz.underlying277 (by kernel_rfl) (by kernel_rfl) (Lib.laidMet.reads hL hm)⟩

section
open Go.Deep
variable {H : Type} {enc : TypeId × Value → H} {w : World} {base : Nat} {held : Bool}
theorem read_ints {n : Nat} {v : Value} {x : DataW H × List MemPlace} (h : DataW.trod enc Tryz.prog w base (fun _ => true) held n 40 [v] = some x) : ∃ ss : List Int, IntsAt w v ss := by
  rcases Go.Deep.open_slice Tryz.underlying40 h with ⟨hc, _⟩ | ⟨a, len, cap, m, k, D, Pl, hc, _, hl, hm, hmm, _, hi⟩
  · have hv : v = .slice none 0 0 := by simpa using hc
    subst hv
    exact ⟨[], SlC.nil w none 0⟩
  · have hv : v = .slice (some a) len cap := by simpa using hc
    subst hv
    rw [if_pos rfl] at hmm
    unfold maxLen at hm
    rcases Nat.eq_zero_or_pos len with h0 | h0
    · subst h0
      exact ⟨[], SlC.nil w (some a) cap⟩
    · have each : ∀ i, i < len → ∃ s : Int, w.cell? (a.add i) = some (.int .i64 s) := by
        intro i hi'
        obtain ⟨cs', h1, h2⟩ := hi i (by omega)
        rw [cells_int, Nat.mul_one] at h1
        obtain ⟨_, hlen, hcell⟩ := World.cells?_some h1
        match cs', hlen with
        | [u], _ =>
          obtain ⟨s, hs, _, _⟩ := DataW.trod_int Tryz.underlying3 h2
          obtain rfl : u = .int .i64 s := by simpa using hs
          exact ⟨s, by simpa [Addr.add] using hcell 0 (by omega)⟩
      obtain ⟨s0, hs0⟩ := each 0 h0
      obtain ⟨b, off, rfl⟩ := plain_addr (w := w) (a := a) (v := .int .i64 s0) (by simpa [Addr.add] using hs0)
      obtain ⟨ss, hss, hp⟩ := choose_list len each
      subst hss
      refine ⟨ss, some ⟨b, off, none⟩, cap, rfl, hl, by omega, fun _ => ⟨b, off, rfl, fun j u hj => ?_⟩⟩
      rw [flat_ints, List.getElem?_map, Option.map_eq_some_iff] at hj
      obtain ⟨s, hs, rfl⟩ := hj
      have := hp j s hs
      rwa [add_plain] at this
end
set_option maxRecDepth 100000 in
theorem open_ints {H : Type} {enc : TypeId × Value → H} {W : World} {base b0 : Nat} {held : Bool} {r : Reach} {v : Value} {d : DataW H} {p : List MemPlace}
    (hv : Value.okWide Tryz.prog W r b0 40 v) (h : DataW.Trod enc Tryz.prog W base (fun _ => true) held 40 v d p) : ∃ ss, IntsAt W v ss := by
  obtain ⟨a0, len, cap, rfl⟩ := okWide_slice Tryz.underlying40 hv
  obtain ⟨fuel, hf⟩ := h
  exact read_ints hf

set_option maxRecDepth 100000 in
theorem showns_lifted (os : Os) (started : os.Started) (H : Type) (enc : TypeId × Value → H) :
    ReturnsInHanded {} Tryz.checked os 7 .any (fun w args => (Rows.shelfOwnsSpec.pre enc Tryz.prog Tryz.f7 [] false w args ∧ laidMetH Tryz.prog Rows.shelfOwnsRow.laid w) ∧ sizedMet enc Tryz.prog Tryz.f7 (OpenSpec.ofChange Rows.shelfOwnsSpec) false w args)
      (Rows.shelfOwnsSpec.post enc Tryz.prog Tryz.f7 false true false false) := by
  refine returnsInHanded_listed_shaped (C := Tryz.checked) (X := fun w _ => laidMetH Tryz.prog Rows.shelfOwnsRow.laid w) (fun _ _ _ hh h => h.of_heap hh) own started (by kernel_rfl) Tryz.func7
    (ChangeSpec.witness_shaped (enc := enc) (C := Tryz.checked) (os := os) (X := fun w _ => laidMetH Tryz.prog Rows.shelfOwnsRow.laid w) false (World.laidAll Tryz.prog os Rows.shelfOwnsRow.laid) #[.slice none 0 0, .slice none 0 0, .bool false] 8 (World.laidAll_os _ _ _)
      (World.shaped_of_ZipB (by kernel_rfl) (by kernel_rfl)) (by kernel_rfl) (by kernel_rfl) (by kernel_rfl)
      (by rw [MakeChecks.laidMetH_plain _ _ _ (by kernel_rfl)]; exact laidMet_laidAll _ (by kernel_rfl) (by kernel_rfl))) ?_
  intro W base args ds gs before hval0 hW _ _ hL hsh _
  have hval : ∀ (j : Nat) t v, Tryz.f7.params[j]? = some t → args[j]? = some v → Value.okWide Tryz.prog W .any base t v := hval0
  have hW' := hW
  obtain ⟨p, q, hA0, hV, hpq, _, _⟩ := hW
  have hA : DataW.TrodAll enc Tryz.prog W 0 (fun _ => true) true Tryz.f7.params.toList args.toList ds p := hA0
  rw [Tryz.params7] at hA hval
  obtain ⟨v0, vs0, d0, ds0, p0, q0, e0, g0, k0, h0, hA1⟩ := trodAll_cons hA
  obtain ⟨v1, v2, d1, d2, p1, p2, hv01, hd01, hp01, h1, h2⟩ := trodAll_two hA1
  obtain ⟨rfl, rfl⟩ := trodVars_none hV
  obtain rfl : args = #[v0, v1, v2] := by cases args; simp at e0 hv01; rw [e0, hv01]
  obtain ⟨l, hP⟩ := open_packs (hval 0 87 v0 rfl rfl) h0
  obtain ⟨dr, hD⟩ := open_ints (hval 1 40 v1 rfl rfl) h1
  obtain ⟨b, rfl, rfl, rfl⟩ := open_bool Tryz.underlying4 (hval 2 4 v2 rfl rfl) h2
  have hL2 := hL
  rw [MakeChecks.laidMetH_plain _ _ _ (by kernel_rfl)] at hL2
  have hE : Env W := env_owns hL2 (.tail _ (.tail _ (.head _))) hsh
  refine (owns_law l dr v0 v1 b W hE hP hD).mono fun e W' ⟨he, hb⟩ => ?_
  subst he
  have hargs := below_trodAll (enc := enc) laidOut hb (by kernel_rfl) hA (DataW.TrodAll.lt hA)
  subst hd01
  subst g0
  exact ⟨_, rfl, _, _, _, [], p, [], hW', trodAll_mk1 (shut_bool Tryz.underlying4 _), hargs, rfl, hb.frame _, fun h => by cases h⟩

set_option maxHeartbeats 10000000 in
set_option maxRecDepth 100000 in
theorem showns_facts : joinedFacts Tryz.prog 7 Tryz.f7 Rows.shelfOwnsSpec Rows.shelfOwnsRow = true := by
  unfold joinedFacts
  simp only [Bool.and_eq_true]
  (repeat' apply And.intro)
  all_goals (as_aux_lemma => kernel_rfl)

theorem showns_holds : Rows.ShelfOwnsSaid :=
  OpenClaim.holds_of_wide 7 Tryz.f7 rfl rfl rfl rfl rfl rfl rfl ⟨rfl, rfl, rfl, rfl, rfl⟩ rfl rfl rfl rfl rfl (by as_aux_lemma => kernel_rfl) Tryz.func7 showns_facts
    (of_decide_eq_true (by as_aux_lemma => kernel_rfl)) (by unfold Func.isWrapper; first | (rw [if_pos (by decide +kernel)]; kernel_rfl) | (rw [if_neg (by decide +kernel)]; exact ⟨rfl, rfl⟩))
    (fun os started H enc _ => showns_lifted os started H enc)
end Go.Proofs.YtpbbhjifgaeklaaGreatDoor

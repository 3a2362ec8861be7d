/- keep.asked: reading, and what is there, by two examples: it holds. -/
import Derived.Test.YtlkmmejlnohjhaaDoorMeets
import Derived.Test.YtlkmmejlnohjhaaDoorKeepRead
import Derived.Test.YtlkmmejlnohjhaaDoorTermsWalk
import Derived.Deep.RegionHeld3
namespace Go.Proofs.YtlkmmejlnohjhaaDoor
open Go.RowKit

def textA : ByteArray := ⟨#[97, 97, 32, 40, 62, 61, 32, 49, 46, 48, 41, 32, 124, 32, 98, 98, 44, 32, 99, 99]⟩
def cc0 : Tv := ⟨⟨#[99, 99]⟩, 0, 0, ⟨#[]⟩, ⟨#[]⟩⟩
def cc3 : Tv := ⟨⟨#[99, 99]⟩, 3, 0, ⟨#[49]⟩, ⟨#[]⟩⟩
def aa0 : Tv := ⟨⟨#[97, 97]⟩, 4, 0, ⟨#[49, 46, 48]⟩, ⟨#[]⟩⟩
def bb0 : Tv := ⟨⟨#[98, 98]⟩, 0, 0, ⟨#[]⟩, ⟨#[]⟩⟩
def listA : List (List Tv) := [[aa0, bb0], [cc0]]
def offerA : Ov := ⟨⟨#[98, 98]⟩, 0, ⟨#[49]⟩, ⟨#[]⟩, [cc0]⟩
theorem terms_A : VP.termsP textA.data.toList = .ok (tmL listA) := by kernel_rfl
theorem met_A : metB listA [offerA] = true := by kernel_rfl
theorem meets_A : meetsB offerA cc3 = false := by kernel_rfl
theorem read_1 : readP [49] = (0, [49], []) := read_0 [49] [] (by decide) (by decide) (by decide) (by decide) (by decide)

theorem tmL_inj {L M : List (List Tv)} (h : tmL L = tmL M) : L = M := by
  have key : ∀ {l m : List Tv}, l.map Tv.tm = m.map Tv.tm → l = m := by
    intro l
    induction l with
    | nil => intro m h; cases m with
      | nil => rfl
      | cons _ _ => cases h
    | cons a l ih => intro m h; cases m with
      | nil => cases h
      | cons b m =>
        simp only [List.map_cons, List.cons.injEq] at h
        obtain ⟨h1, h2⟩ := h
        obtain ⟨n, op, e, u, r⟩ := a
        obtain ⟨n', op', e', u', r'⟩ := b
        unfold Tv.tm at h1
        simp only [VP.Tm.mk.injEq] at h1
        obtain ⟨q1, q2, q3, q4, q5⟩ := h1
        rw [data_inj q1, q2, q3, data_inj q4, data_inj q5, ih h2]
  induction L generalizing M with
  | nil => cases M with
    | nil => rfl
    | cons _ _ => cases h
  | cons a L ih => cases M with
    | nil => cases h
    | cons b M =>
      unfold tmL at h
      simp only [List.map_cons, List.cons.injEq] at h
      rw [key h.1, ih h.2]

theorem small_cc0 : cc0.small := ⟨by decide, by decide, by decide, by unfold Tv.ok cc0; dsimp only; omega⟩
theorem small_cc3 : cc3.small := ⟨by decide, by decide, by decide, by unfold Tv.ok cc3; dsimp only; omega⟩
theorem small_offerA : offerA.small := ⟨by decide, by decide, fun t ht => by rw [show t = cc0 from List.mem_singleton.1 ht]; exact small_cc0⟩

theorem offersAt_one (W : World) (A : Option Addr) (n c : Nat) (o : Ov) (h : TermsAt W (.slice A n c) o.ps) :
    OffersAt (W.alloc (.cells #[.string o.n, .int .i64 o.e, .string o.u, .string o.r, .slice A n c] 51)) (.slice (some ⟨W.heap.size, 0, none⟩) 1 1) [o] := by
  refine ⟨_, 1, rfl, Nat.le_refl _, by show 1 ≤ _; omega, fun _ => ⟨W.heap.size, 0, rfl, fun i o' ho => ?_⟩⟩
  obtain ⟨rfl, rfl⟩ : i = 0 ∧ o' = o := by
    rcases i with _ | i
    · exact ⟨rfl, (Option.some.inj ho).symm⟩
    · cases ho
  exact ⟨.slice A n c, by go_cell, by go_cell, by go_cell, by go_cell, by go_cell, h.below (below_alloc _ _)⟩

def Five (g : Nat) (w0 W : World) : Prop := W.cell? ⟨g + 1, 0, none⟩ = some (.string ⟨#[98, 98]⟩) ∧ W.cell? ⟨g + 1, 1, none⟩ = some (.int .i64 0) ∧ W.cell? ⟨g + 1, 2, none⟩ = some (.string ⟨#[49]⟩) ∧ W.cell? ⟨g + 1, 3, none⟩ = some (.string ⟨#[]⟩) ∧ W.cell? ⟨g + 1, 4, none⟩ = some (.slice (some ⟨g, 0, none⟩) 1 1) ∧ Below w0.heap.size w0 W
theorem five_go {g : Nat} {w0 W W' : World} (h : Five g w0 W) (hb : Below W.heap.size W W') : Five g w0 W' := by
  obtain ⟨h0, h1, h2, h3, h4, h5⟩ := h
  exact ⟨kept hb h0, kept hb h1, kept hb h2, kept hb h3, kept hb h4, step_below h5 hb⟩
theorem five_below {g : Nat} {w0 W : World} (h : Five g w0 W) : Below w0.heap.size w0 W := h.2.2.2.2.2

set_option maxHeartbeats 4000000 in
set_option maxRecDepth 100000 in
theorem asked_holds (w : World) (hE : Env w) (hS : EnvS w) : Calls Tryd.prog 26 #[] w (BoolIs true w) := by
  have HT := Lib.hid (terms_walk textA w hE hS (by decide))
  have HE := Lib.hid hE
  unfold textA at HT
  clear hE hS
  go_enter Tryd.func26, Tryd.ntmps26
  go_wp2_with fail
  refine HT.out.mono ?_
  rintro E w1 ⟨hB1, ⟨L, v, rfl, hL, hA, hsm⟩ | ⟨e, _, he, _⟩⟩
  case inr => exact absurd (terms_A.symm.trans he) (fun h => by cases h)
  replace hL := terms_A.symm.trans hL
  injection hL with hL
  obtain rfl : listA = L := tmL_inj hL
  have HA := Lib.hid hA
  have HSM := Lib.hid hsm
  obtain ⟨A, c, rfl, hc, _, hr⟩ := hA
  obtain ⟨b, off, rfl, hi⟩ := hr (by simp [listA])
  obtain ⟨vx, c0, hT⟩ := hi 0 _ rfl
  obtain ⟨A', c', rfl, hc', _, hr'⟩ := hT
  obtain ⟨b', off', rfl, hi'⟩ := hr' (by simp)
  have hop := (hi' 0 _ rfl).1.c1
  rw [Nat.zero_mul, Nat.add_zero] at hop
  rw [Nat.add_zero] at c0
  have hl2 : listA.length = 2 := rfl
  have hl3 : ([aa0, bb0] : List Tv).length = 2 := rfl
  have hop4 : aa0.op = 4 := rfl
  rw [hl2] at hc ⊢
  rw [hl3] at hc' c0
  rw [hop4] at hop
  clear hi hi' hr hr' hL hsm
  have HRD := Lib.hid (fun (W : World) (hb : Below w.heap.size w W) => read_const ⟨#[49]⟩ 0 ⟨#[49]⟩ ⟨#[]⟩ read_1 W (HE.out.below hb))
  go_wp2_with fail
  refine (HRD.out _ hB1).mono ?_
  rintro E w2 ⟨rfl, hb2⟩
  have hB2 := step_below hB1 hb2
  have hA2 := HA.out.below hb2
  clear hb2 hop c0 HT
  have hb3 := below_alloc w2 (.cells #[.string ⟨#[99, 99]⟩, .int .i64 0, .int .i64 0, .string ⟨#[]⟩, .string ⟨#[]⟩] 57)
  have hT3 : TermsAt (w2.alloc (.cells #[.string ⟨#[99, 99]⟩, .int .i64 0, .int .i64 0, .string ⟨#[]⟩, .string ⟨#[]⟩] 57)) (.slice (some ⟨w2.heap.size, 0, none⟩) 1 1) [cc0] :=
    ⟨_, 1, rfl, Nat.le_refl _, by show 1 ≤ _; omega, fun _ => ⟨w2.heap.size, 0, rfl, fun i t ht => by
      obtain ⟨rfl, rfl⟩ : i = 0 ∧ t = cc0 := by
        rcases i with _ | i
        · exact ⟨rfl, (Option.some.inj ht).symm⟩
        · cases ht
      exact ⟨termAt_new w2 cc0, small_cc0.ok⟩⟩⟩
  have hb4 := below_alloc (w2.alloc (.cells #[.string ⟨#[99, 99]⟩, .int .i64 0, .int .i64 0, .string ⟨#[]⟩, .string ⟨#[]⟩] 57)) (.cells #[.string ⟨#[98, 98]⟩, .int .i64 0, .string ⟨#[49]⟩, .string ⟨#[]⟩, .slice (some ⟨w2.heap.size, 0, none⟩) 1 1] 51)
  have hT4 := hT3.below hb4
  have hA4 := (hA2.below hb3).below hb4
  have hB4 := step_below (step_below hB2 hb3) hb4
  have o0 : ((w2.alloc (.cells #[.string ⟨#[99, 99]⟩, .int .i64 0, .int .i64 0, .string ⟨#[]⟩, .string ⟨#[]⟩] 57)).alloc (.cells #[.string ⟨#[98, 98]⟩, .int .i64 0, .string ⟨#[49]⟩, .string ⟨#[]⟩, .slice (some ⟨w2.heap.size, 0, none⟩) 1 1] 51)).cell? ⟨w2.heap.size + 1, 0, none⟩ = some (.string ⟨#[98, 98]⟩) := by go_cell
  have o1 : ((w2.alloc (.cells #[.string ⟨#[99, 99]⟩, .int .i64 0, .int .i64 0, .string ⟨#[]⟩, .string ⟨#[]⟩] 57)).alloc (.cells #[.string ⟨#[98, 98]⟩, .int .i64 0, .string ⟨#[49]⟩, .string ⟨#[]⟩, .slice (some ⟨w2.heap.size, 0, none⟩) 1 1] 51)).cell? ⟨w2.heap.size + 1, 1, none⟩ = some (.int .i64 0) := by go_cell
  have o2 : ((w2.alloc (.cells #[.string ⟨#[99, 99]⟩, .int .i64 0, .int .i64 0, .string ⟨#[]⟩, .string ⟨#[]⟩] 57)).alloc (.cells #[.string ⟨#[98, 98]⟩, .int .i64 0, .string ⟨#[49]⟩, .string ⟨#[]⟩, .slice (some ⟨w2.heap.size, 0, none⟩) 1 1] 51)).cell? ⟨w2.heap.size + 1, 2, none⟩ = some (.string ⟨#[49]⟩) := by go_cell
  have o3 : ((w2.alloc (.cells #[.string ⟨#[99, 99]⟩, .int .i64 0, .int .i64 0, .string ⟨#[]⟩, .string ⟨#[]⟩] 57)).alloc (.cells #[.string ⟨#[98, 98]⟩, .int .i64 0, .string ⟨#[49]⟩, .string ⟨#[]⟩, .slice (some ⟨w2.heap.size, 0, none⟩) 1 1] 51)).cell? ⟨w2.heap.size + 1, 3, none⟩ = some (.string ⟨#[]⟩) := by go_cell
  have o4 : ((w2.alloc (.cells #[.string ⟨#[99, 99]⟩, .int .i64 0, .int .i64 0, .string ⟨#[]⟩, .string ⟨#[]⟩] 57)).alloc (.cells #[.string ⟨#[98, 98]⟩, .int .i64 0, .string ⟨#[49]⟩, .string ⟨#[]⟩, .slice (some ⟨w2.heap.size, 0, none⟩) 1 1] 51)).cell? ⟨w2.heap.size + 1, 4, none⟩ = some (.slice (some ⟨w2.heap.size, 0, none⟩) 1 1) := by go_cell
  go_upto_region 5 with fail
  obtain ⟨g, hg⟩ : ∃ g, w2.heap.size = g := ⟨_, rfl⟩
  rw [hg] at hT4 hB4 hA4 o0 o1 o2 o3 o4 ⊢
  generalize (w2.alloc (.cells #[.string ⟨#[99, 99]⟩, .int .i64 0, .int .i64 0, .string ⟨#[]⟩, .string ⟨#[]⟩] 57)).alloc (.cells #[.string ⟨#[98, 98]⟩, .int .i64 0, .string ⟨#[49]⟩, .string ⟨#[]⟩, .slice (some ⟨g, 0, none⟩) 1 1] 51) = W4 at hT4 hB4 hA4 o0 o1 o2 o3 o4 ⊢
  clear hb3 hT3 hb4 hA2 hB2 hg
  have hO5 := offersAt_one W4 _ _ _ offerA hT4
  have hb5 := below_alloc W4 (.cells #[.string offerA.n, .int .i64 offerA.e, .string offerA.u, .string offerA.r, .slice (some ⟨g, 0, none⟩) 1 1] 51)
  have HM := Lib.hid (met_calls _ _ listA [offerA] _ (hA4.below hb5) hO5 HSM.out (fun o ho => by rw [show o = offerA from List.mem_singleton.1 ho]; exact small_offerA))
  rw [met_A] at HM
  have HB5 := Lib.hid hb5
  clear hb5 hO5
  go_wp2_with fail
  refine HM.out.mono ?_
  rintro E w6 ⟨i, rfl, hb6⟩
  have hb46 := step_below HB5.out hb6
  have p0 := kept hb46 o0
  have p1 := kept hb46 o1
  have p2 := kept hb46 o2
  have p3 := kept hb46 o3
  have p4 := kept hb46 o4
  have hB6 := step_below hB4 hb46
  have hT6 := hT4.below hb46
  clear hb46 hb6 o0 o1 o2 o3 o4 hT4 hB4 hA4 HM HB5
  have MT : ∀ W, Below w6.heap.size w6 W → Calls Tryd.prog 28 #[.agg #[.string ⟨#[98, 98]⟩, .int .i64 0, .string ⟨#[49]⟩, .string ⟨#[]⟩, .slice (some ⟨g, 0, none⟩) 1 1], .agg #[.string ⟨#[99, 99]⟩, .int .i64 3, .int .i64 0, .string ⟨#[49]⟩, .string ⟨#[]⟩]] W (BoolIs false W) := fun W hb => by
    have h := meets_calls offerA (.slice (some ⟨g, 0, none⟩) 1 1) cc3 W (hT6.below hb) small_offerA small_cc3.vs
    rw [meets_A] at h
    exact h
  have RD : ∀ W, Below w6.heap.size w6 W → Calls Tryd.prog 21 #[.string ⟨#[49]⟩] W fun E w' => E = .returned (.agg #[.int .i64 0, .string ⟨#[49]⟩, .string ⟨#[]⟩]) ∧ Below W.heap.size W w' := fun W hb => HRD.out W (step_below hB6 hb)
  have MT' := Lib.hid MT
  have RD' := Lib.hid RD
  have hS6 : Five g w6 w6 := ⟨p0, p1, p2, p3, p4, Below.refl _ _⟩
  clear HA HSM HE HRD hc hc' hl2 hl3 hop4 hB1 hT6 MT RD
  go_wp2_with fail
  go_region_held3 (fun W => W.cell? ⟨g + 1, 0, none⟩ = some (.string ⟨#[98, 98]⟩) ∧ W.cell? ⟨g + 1, 1, none⟩ = some (.int .i64 0) ∧ W.cell? ⟨g + 1, 2, none⟩ = some (.string ⟨#[49]⟩) ∧ W.cell? ⟨g + 1, 3, none⟩ = some (.string ⟨#[]⟩) ∧ W.cell? ⟨g + 1, 4, none⟩ = some (.slice (some ⟨g, 0, none⟩) 1 1) ∧ Below w6.heap.size w6 W)
    ((first | assumption | exact five_go (by assumption) hb | exact five_go hS6 (below_drew _) | exact five_go (by assumption) (below_drew _)))
    (first | (go_at_call 21; (with_reducible refine (RD'.out _ ?_).mono ?_); (exact five_below (by assumption)); rintro E w' ⟨rfl, hb⟩) | (go_at_call 28; (with_reducible refine (MT'.out _ ?_).mono ?_); (exact five_below (by assumption)); rintro E w' ⟨rfl, hb⟩))
  all_goals
    go_wp2_with fail
    go_ret
    exact ⟨rfl, step_below hB6 (five_below (by assumption))⟩
end Go.Proofs.YtlkmmejlnohjhaaDoor

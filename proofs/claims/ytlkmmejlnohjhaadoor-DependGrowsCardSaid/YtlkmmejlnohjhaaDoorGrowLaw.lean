/- DependGrows: for all that is asked for and all packages that are there the call returns true: the walk. -/
import Derived.Test.YtlkmmejlnohjhaaDoorKeepAsked
import Derived.Test.YtlkmmejlnohjhaaDoorKeepFlat
import Derived.Test.YtlkmmejlnohjhaaDoorAppSrc
import Derived.Test.YtlkmmejlnohjhaaDoorDepSmall
import Derived.Deep.RegionHeld3
import Derived.Deep.DeepCutAuto
namespace Go.Proofs.YtlkmmejlnohjhaaDoor
open Go Go.RowKit

def offB (o : Ov) : Bool := shortB o.u o.r && flatB o.ps
theorem small_off {w : World} {v : Value} {o : Ov} (h : TermsAt w v o.ps) (hb : offB o = true) : o.small := by
  unfold offB at hb
  rw [Bool.and_eq_true] at hb
  have h1 := hb.1
  unfold shortB at h1
  simp at h1
  exact ⟨by omega, by omega, small_flat h hb.2⟩
theorem small_offers {w : World} {v : Value} {os : List Ov} (h : OffersAt w v os) (hb : os.all offB = true) : ∀ o ∈ os, o.small := by
  rw [List.all_eq_true] at hb
  intro o ho
  obtain ⟨A, c, _, _, _, hr⟩ := h
  obtain ⟨b, off, _, hi⟩ := hr (List.ne_nil_of_mem ho)
  obtain ⟨i, hoi⟩ := List.getElem?_of_mem ho
  obtain ⟨vp, _, _, _, _, _, hT⟩ := hi i o hoi
  exact small_off hT (hb o ho)
theorem slice_of {w : World} {v : Value} {ts : List Tv} (h : TermsAt w v ts) : ∃ A c, v = .slice A ts.length c := by
  obtain ⟨A, c, hv, _⟩ := h
  exact ⟨A, c, hv⟩

/-- what stands at every place of the walk: the four arguments, and what has been looked through -/
structure GrowAt (w : World) (v0 v1 v2 v3 : Value) (L M : List (List Tv)) (a b : List Ov) : Prop where
  l : AskedAt w v0 L
  m : AskedAt w v1 M
  a : OffersAt w v2 a
  b : OffersAt w v3 b
theorem GrowAt.below {w w' : World} {v0 v1 v2 v3 : Value} {L M : List (List Tv)} {a b : List Ov} (h : GrowAt w v0 v1 v2 v3 L M a b) (hb : Below w.heap.size w w') : GrowAt w' v0 v1 v2 v3 L M a b := ⟨h.l.below hb, h.m.below hb, h.a.below hb, h.b.below hb⟩

/-- what a region keeps: a package that lies there, and how the world grew -/
def OffS (w0 : World) (bb p : Nat) (on : ByteArray) (oe : Int) (ou or : ByteArray) (vp : Value) (W : World) : Prop := W.cell? ⟨bb, p, none⟩ = some (.string on) ∧ W.cell? ⟨bb, p + 1, none⟩ = some (.int .i64 oe) ∧ W.cell? ⟨bb, p + 2, none⟩ = some (.string ou) ∧ W.cell? ⟨bb, p + 3, none⟩ = some (.string or) ∧ W.cell? ⟨bb, p + 4, none⟩ = some vp ∧ Below w0.heap.size w0 W
theorem off_go {w0 : World} {bb p : Nat} {on : ByteArray} {oe : Int} {ou or : ByteArray} {vp : Value} {W W' : World} (h : OffS w0 bb p on oe ou or vp W) (hb : Below W.heap.size W W') : OffS w0 bb p on oe ou or vp W' := by
  obtain ⟨h0, h1, h2, h3, h4, h5⟩ := h
  exact ⟨kept hb h0, kept hb h1, kept hb h2, kept hb h3, kept hb h4, step_below h5 hb⟩
theorem off_below {w0 : World} {bb p : Nat} {on : ByteArray} {oe : Int} {ou or : ByteArray} {vp : Value} {W : World} (h : OffS w0 bb p on oe ou or vp W) : Below w0.heap.size w0 W := h.2.2.2.2.2

def OffT (w0 : World) (bb p : Nat) (on : ByteArray) (oe : Int) (ou or : ByteArray) (vp : Value) (b1 p1 : Nat) (n : ByteArray) (W : World) : Prop := W.cell? ⟨b1, p1, none⟩ = some (.string n) ∧ OffS w0 bb p on oe ou or vp W
theorem offT_go {w0 : World} {bb p : Nat} {on : ByteArray} {oe : Int} {ou or : ByteArray} {vp : Value} {b1 p1 : Nat} {n : ByteArray} {W W' : World} (h : OffT w0 bb p on oe ou or vp b1 p1 n W) (hb : Below W.heap.size W W') : OffT w0 bb p on oe ou or vp b1 p1 n W' := ⟨kept hb h.1, off_go h.2 hb⟩
theorem offT_below {w0 : World} {bb p : Nat} {on : ByteArray} {oe : Int} {ou or : ByteArray} {vp : Value} {b1 p1 : Nat} {n : ByteArray} {W : World} (h : OffT w0 bb p on oe ou or vp b1 p1 n W) : Below w0.heap.size w0 W := off_below h.2

theorem len_of {L : List (List Tv)} (h : termsB L = true) : L.length ≤ 40 := by
  unfold termsB at h
  rw [Bool.and_eq_true, decide_eq_true_eq] at h
  exact h.1

set_option maxHeartbeats 2000000 in
set_option maxRecDepth 100000 in
theorem grows_calls (v0 v1 v2 v3 : Value) (L M : List (List Tv)) (a b : List Ov) (w : World) (hE : Env w) (hS : EnvS w) (hG : GrowAt w v0 v1 v2 v3 L M a b) :
    Calls Tryd.prog 6 #[v0, v1, v2, v3] w (BoolIs true w) := by
  have T0 := Lib.hid (keepTerms_calls v0 L w hG.l)
  have T1 := Lib.hid (fun (W : World) (hb : Below w.heap.size w W) => keepTerms_calls v1 M W (hG.m.below hb))
  have KA := Lib.hid (fun (W : World) (hb : Below w.heap.size w W) => asked_holds W (hE.below hb) (hS.below hb))
  have HG := Lib.hid hG
  obtain ⟨A2, c2, hv2, hc2, hm2, hr2⟩ := id hG.a
  obtain ⟨A3, c3, hv3, hc3, hm3, hr3⟩ := id hG.b
  obtain ⟨la, hla⟩ : ∃ n, a.length = n := ⟨_, rfl⟩
  obtain ⟨lb, hlb⟩ : ∃ n, b.length = n := ⟨_, rfl⟩
  have HLA := Lib.hid hla
  have HLB := Lib.hid hlb
  have HR2 := Lib.hid hr2
  have HR3 := Lib.hid hr3
  rw [hla] at hc2 hm2 hv2
  rw [hlb] at hc3 hm3 hv3
  subst hv2
  subst hv3
  clear hE hS hG hr2 hr3 hla hlb
  obtain ⟨bl, hbl⟩ : ∃ x, termsB L = x := ⟨_, rfl⟩
  obtain ⟨bm, hbm⟩ : ∃ x, termsB M = x := ⟨_, rfl⟩
  have HBL := Lib.hid hbl
  have HBM := Lib.hid hbm
  rw [hbl] at T0
  have T1' : Hid (∀ (W : World), Below w.heap.size w W → Calls Tryd.prog 24 #[v1] W (BoolIs bm W)) := by rw [← hbm]; exact T1
  clear hbl hbm T1
  go_enter Tryd.func6, Tryd.ntmps6
  go_wp2_with fail
  refine T0.out.mono ?_
  rintro E w1 ⟨rfl, hB⟩
  cases bl with
  | false =>
    go_wp2_with fail
    go_ret
    exact ⟨rfl, hB⟩
  | true =>
  go_wp2_with fail
  refine (T1'.out _ hB).mono ?_
  rintro E w2 ⟨rfl, hb⟩
  replace hB := step_below hB hb
  clear hb
  cases bm with
  | false =>
    go_wp2_with fail
    go_ret
    exact ⟨rfl, hB⟩
  | true =>
  by_cases hla : 15 < la
  · go_wp2_with fail
    go_ret
    exact ⟨rfl, hB⟩
  by_cases hlb : 15 < lb
  · go_wp2_with fail
    go_ret
    exact ⟨rfl, hB⟩
  go_wp2_with fail
  go_loopw [9] (fun i wr => ∃ k : Nat, k ≤ la ∧ i = .int .i64 k ∧ Hid ((a.take k).all offB = true) ∧ Below w.heap.size w wr) (fun i _ => la - (intOf i).toNat)
  case atStart => exact ⟨0, Nat.zero_le _, rfl, rfl, hB⟩
  case round =>
    obtain ⟨k, hk, rfl, hall, hB⟩ := hrel
    by_cases hlt : k < la
    · have hne : a ≠ [] := by
        intro e
        have := HLA.out
        rw [e] at this
        simp at this
        omega
      obtain ⟨o, ho⟩ : ∃ o, a[k]? = some o := ⟨a[k]'(by have := HLA.out; omega), List.getElem?_eq_getElem _⟩
      obtain ⟨bb, off, rfl, hi⟩ := HR2.out hne
      obtain ⟨vp, o0, o1, o2, o3, o4, hps⟩ := (hi k o ho).below hB
      obtain ⟨A', c', rfl⟩ := slice_of hps
      have HP := Lib.hid hps
      have HO := Lib.hid ho
      clear hi hne hps ho
      go_wp2_with fail
      refine (short_calls o.e o.u o.r _).mono ?_
      rintro E w3 ⟨rfl, hb⟩
      have hB3 := step_below hB hb
      have HP3 := Lib.hid (keepFlat_calls _ o.ps w3 (HP.out.below hb))
      have o4' := kept hb o4
      clear hb o0 o1 o2 o3 o4
      obtain ⟨bs, hbs⟩ : ∃ x, shortB o.u o.r = x := ⟨_, rfl⟩
      have HS := Lib.hid hbs
      rw [hbs]
      clear hbs
      cases bs with
      | false =>
        go_wp2_with fail
        go_ret
        exact ⟨rfl, hB3⟩
      | true =>
        obtain ⟨bf, hbf⟩ : ∃ x, flatB o.ps = x := ⟨_, rfl⟩
        have HF := Lib.hid hbf
        rw [hbf] at HP3
        clear hbf
        go_wp2_with fail
        refine HP3.out.mono ?_
        rintro E w4 ⟨rfl, hb⟩
        have hB4 := step_below hB3 hb
        clear hb o4' HP3
        cases bf with
        | false =>
          go_wp2_with fail
          go_ret
          exact ⟨rfl, hB4⟩
        | true =>
          go_wp2_with fail
          go_roundw
          case rel => exact ⟨k + 1, by omega, by go_num, Lib.hid (all_take_succ hall.out HO.out (by unfold offB; rw [HS.out, HF.out]; rfl)), hB4⟩
          case measure => simp [intOf]; omega
    · obtain rfl : la = k := by omega
      have HAA := Lib.hid (show a.all offB = true by have := hall.out; rw [← HLA.out] at this; exact all_done this)
      clear hall
      go_wp2_with fail
      go_loopw [10] (fun i wr => ∃ k : Nat, k ≤ lb ∧ i = .int .i64 k ∧ Hid ((b.take k).all offB = true) ∧ Below w.heap.size w wr) (fun i _ => lb - (intOf i).toNat)
      case atStart => exact ⟨0, Nat.zero_le _, rfl, rfl, hB⟩
      case round =>
        obtain ⟨k, hk, rfl, hall, hB⟩ := hrel
        by_cases hlt : k < lb
        · have hne : b ≠ [] := by
            intro e
            have := HLB.out
            rw [e] at this
            simp at this
            omega
          obtain ⟨o, ho⟩ : ∃ o, b[k]? = some o := ⟨b[k]'(by have := HLB.out; omega), List.getElem?_eq_getElem _⟩
          obtain ⟨bb, off, rfl, hi⟩ := HR3.out hne
          obtain ⟨vp, o0, o1, o2, o3, o4, hps⟩ := (hi k o ho).below hB
          obtain ⟨A', c', rfl⟩ := slice_of hps
          have HP := Lib.hid hps
          have HO := Lib.hid ho
          clear hi hne hps ho
          go_wp2_with fail
          refine (short_calls o.e o.u o.r _).mono ?_
          rintro E w3 ⟨rfl, hb⟩
          have hB3 := step_below hB hb
          have HP3 := Lib.hid (keepFlat_calls _ o.ps w3 (HP.out.below hb))
          have o4' := kept hb o4
          clear hb o0 o1 o2 o3 o4
          obtain ⟨bs, hbs⟩ : ∃ x, shortB o.u o.r = x := ⟨_, rfl⟩
          have HS := Lib.hid hbs
          rw [hbs]
          clear hbs
          cases bs with
          | false =>
            go_wp2_with fail
            go_ret
            exact ⟨rfl, hB3⟩
          | true =>
            obtain ⟨bf, hbf⟩ : ∃ x, flatB o.ps = x := ⟨_, rfl⟩
            have HF := Lib.hid hbf
            rw [hbf] at HP3
            clear hbf
            go_wp2_with fail
            refine HP3.out.mono ?_
            rintro E w4 ⟨rfl, hb⟩
            have hB4 := step_below hB3 hb
            clear hb o4' HP3
            cases bf with
            | false =>
              go_wp2_with fail
              go_ret
              exact ⟨rfl, hB4⟩
            | true =>
              go_wp2_with fail
              go_roundw
              case rel => exact ⟨k + 1, by omega, by go_num, Lib.hid (all_take_succ hall.out HO.out (by unfold offB; rw [HS.out, HF.out]; rfl)), hB4⟩
              case measure => simp [intOf]; omega
        · obtain rfl : lb = k := by omega
          have HAB := Lib.hid (show b.all offB = true by have := hall.out; rw [← HLB.out] at this; exact all_done this)
          clear hall
          go_wp2_with fail
          refine (KA.out _ hB).mono ?_
          rintro E w5 ⟨rfl, hb⟩
          replace hB := step_below hB hb
          clear hb
          have G5 := HG.out.below hB
          obtain ⟨xa, sa, ra⟩ := G5.a.src
          obtain ⟨xb, sb, rb⟩ := G5.b.src
          obtain ⟨xl, sl, rl⟩ := G5.l.src
          obtain ⟨xm, sm, rm⟩ := G5.m.src
          obtain ⟨i0, hi0, hz0, hz1, hz2⟩ := info_parts info_offer
          obtain ⟨i1, hi1, hy0, hy1, hy2⟩ := info_parts info_terms
          clear G5
          have laE := HLA.out
          have lbE := HLB.out
          have lL := len_of HBL.out
          have lM := len_of HBM.out
          go_upto_region 16 with (first | (at_builtin; refine wpList_append_src _ rfl _ _ 47 rfl _ 51 i0 (.agg #[.string ⟨#[]⟩, .int .i64 0, .string ⟨#[]⟩, .string ⟨#[]⟩, .slice none 0 0]) 5 80 Tryd.underlying47 hi0 hz0 hz1 hz2 rfl (by decide) _ _ _ rfl (made_at w5 _ _) _ a.length xa rfl (sa.below (below_alloc _ _)) ra.1 ra.one (by simp only [maxLen]; omega) (by omega) (by simp) ?_; intro v6 w6 own6 g6) | (at_builtin; refine wpList_append_src _ rfl _ _ 47 rfl _ 51 i0 (.agg #[.string ⟨#[]⟩, .int .i64 0, .string ⟨#[]⟩, .string ⟨#[]⟩, .slice none 0 0]) 5 80 Tryd.underlying47 hi0 hz0 hz1 hz2 rfl (by decide) _ _ _ rfl own6 _ b.length xb rfl (sb.below (below_grown (below_alloc w5 (.cells #[] 51)) (made_at w5 51 5) g6)) rb.1 rb.one (by simp only [maxLen]; omega) (by omega) (by have := g6.size; rw [World.size_alloc] at this; omega) ?_; intro v7 w7 own7 g7))
          have hb7 := below_grown (below_grown (below_alloc w5 (.cells #[] 51)) (made_at w5 51 5) g6) own6 g7
          have AB := offers_of_own own7 (os := a ++ b) (by rw [List.length_append]; omega) (by omega) ((ra.append rb).below hb7)
          have ra7 := ra.below hb7
          have rb7 := rb.below hb7
          have sa7 := sa.below hb7
          have sb7 := sb.below hb7
          clear own6 g6 own7 g7 sa sb
          go_upto_region 17 with (first | (at_builtin; refine wpList_append_src _ rfl _ _ 47 rfl _ 51 i0 (.agg #[.string ⟨#[]⟩, .int .i64 0, .string ⟨#[]⟩, .string ⟨#[]⟩, .slice none 0 0]) 5 80 Tryd.underlying47 hi0 hz0 hz1 hz2 rfl (by decide) _ _ _ rfl (made_at w7 _ _) _ b.length xb rfl (sb7.below (below_alloc _ _)) rb7.1 rb7.one (by simp only [maxLen]; omega) (by omega) (by simp) ?_; intro v8 w8 own8 g8) | (at_builtin; refine wpList_append_src _ rfl _ _ 47 rfl _ 51 i0 (.agg #[.string ⟨#[]⟩, .int .i64 0, .string ⟨#[]⟩, .string ⟨#[]⟩, .slice none 0 0]) 5 80 Tryd.underlying47 hi0 hz0 hz1 hz2 rfl (by decide) _ _ _ rfl own8 _ a.length xa rfl (sa7.below (below_grown (below_alloc w7 (.cells #[] 51)) (made_at w7 51 5) g8)) ra7.1 ra7.one (by simp only [maxLen]; omega) (by omega) (by have := g8.size; rw [World.size_alloc] at this; omega) ?_; intro v9 w9 own9 g9))
          have hb9 := below_grown (below_grown (below_alloc w7 (.cells #[] 51)) (made_at w7 51 5) g8) own8 g9
          have BA := offers_of_own own9 (os := b ++ a) (by rw [List.length_append]; omega) (by omega) ((rb7.append ra7).below hb9)
          have hb59 := step_below hb7 hb9
          have AB9 := AB.below hb9
          have rl9 := rl.below hb59
          have rm9 := rm.below hb59
          have sl9 := sl.below hb59
          have sm9 := sm.below hb59
          clear own8 g8 own9 g9 AB sl sm rl rm ra7 rb7 sa7 sb7 ra rb
          go_upto_region 18 with (first | (at_builtin; refine wpList_append_src _ rfl _ _ 46 rfl _ 49 i1 (.slice none 0 0) 1 24 Tryd.underlying46 hi1 hy0 hy1 hy2 rfl (by decide) _ _ _ rfl (made_at w9 _ _) _ L.length xl rfl (sl9.below (below_alloc _ _)) (rl9.1.trans (Nat.mul_one _).symm) rl9.one (by simp only [maxLen]; omega) (by omega) (by simp) ?_; intro v10 w10 own10 g10) | (at_builtin; refine wpList_append_src _ rfl _ _ 46 rfl _ 49 i1 (.slice none 0 0) 1 24 Tryd.underlying46 hi1 hy0 hy1 hy2 rfl (by decide) _ _ _ rfl own10 _ M.length xm rfl (sm9.below (below_grown (below_alloc w9 (.cells #[] 49)) (made_at w9 49 1) g10)) (rm9.1.trans (Nat.mul_one _).symm) rm9.one (by simp only [maxLen]; omega) (by omega) (by have := g10.size; rw [World.size_alloc] at this; omega) ?_; intro v11 w11 own11 g11))
          have hb11 := below_grown (below_grown (below_alloc w9 (.cells #[] 49)) (made_at w9 49 1) g10) own10 g11
          have LM := asked_of_own own11 (L := L ++ M) (by rw [List.length_append]; omega) (by omega) (fun i x hx => ((rl9.append rm9).below hb11).2 i x hx)
          have AB11 := AB9.below hb11
          have BA11 := BA.below hb11
          have hB11 := step_below (step_below hB hb59) hb11
          have G11 := HG.out.below hB11
          have hsL := small_of G11.l HBL.out
          have hsM := small_of G11.m HBM.out
          have hsa := small_offers G11.a HAA.out
          have hsb := small_offers G11.b HAB.out
          have hsab : ∀ o ∈ a ++ b, o.small := fun o ho => (List.mem_append.1 ho).elim (hsa o) (hsb o)
          have hsba : ∀ o ∈ b ++ a, o.small := fun o ho => (List.mem_append.1 ho).elim (hsb o) (hsa o)
          have hsLM : ∀ x ∈ L ++ M, ∀ t ∈ x, t.small := fun x hx => (List.mem_append.1 hx).elim (hsL x) (hsM x)
          have MX := Lib.hid (fun (W : World) (hb : Below w11.heap.size w11 W) => met_calls v0 _ L a W (G11.l.below hb) (G11.a.below hb) hsL hsa)
          have MY := Lib.hid (fun (W : World) (hb : Below w11.heap.size w11 W) => met_calls v0 v7 L (a ++ b) W (G11.l.below hb) (AB11.below hb) hsL hsab)
          have MZ := Lib.hid (fun (W : World) (hb : Below w11.heap.size w11 W) => met_calls v0 v9 L (b ++ a) W (G11.l.below hb) (BA11.below hb) hsL hsba)
          have MU := Lib.hid (fun (W : World) (hb : Below w11.heap.size w11 W) => met_calls v1 v7 M (a ++ b) W (G11.m.below hb) (AB11.below hb) hsM hsab)
          have MV := Lib.hid (fun (W : World) (hb : Below w11.heap.size w11 W) => met_calls v11 v7 (L ++ M) (a ++ b) W (LM.below hb) (AB11.below hb) hsLM hsab)
          have HSA := Lib.hid hsa
          have mono : metB L a = true → metB L (a ++ b) = true := met_mono (fun o ho => List.mem_append_left _ ho)
          rw [← met_comm L a b] at MZ
          rw [met_append L M (a ++ b)] at MV
          obtain ⟨mx, hmx⟩ : ∃ x, metB L a = x := ⟨_, rfl⟩
          obtain ⟨my, hmy⟩ : ∃ x, metB L (a ++ b) = x := ⟨_, rfl⟩
          obtain ⟨mu, hmu⟩ : ∃ x, metB M (a ++ b) = x := ⟨_, rfl⟩
          rw [hmx] at MX
          rw [hmy] at MY MZ MV
          rw [hmu] at MU MV
          rw [hmx, hmy] at mono
          have MONO := Lib.hid mono
          clear hmx hmy hmu mono own10 g10 own11 g11 hb7 hb9 hb59 hb11 AB9 BA LM AB11 BA11 rl9 rm9 sl9 sm9 G11 hsL hsM hsa hsb hsab hsba hsLM hi0 hi1 hz0 hz1 hz2 hy0 hy1 hy2 hB
          have hB := hB11
          have hZ := Below.refl w11.heap.size w11
          go_wp2_with fail
          refine (MX.out _ hZ).mono ?_
          rintro E w12 ⟨i12, rfl, hb⟩
          replace hB := step_below hB hb
          replace hZ := step_below hZ hb
          clear hb MX
          go_wp2_with fail
          refine (MY.out _ hZ).mono ?_
          rintro E w13 ⟨i13, rfl, hb⟩
          replace hB := step_below hB hb
          replace hZ := step_below hZ hb
          clear hb MY
          go_wp2_with fail
          refine (MZ.out _ hZ).mono ?_
          rintro E w14 ⟨i14, rfl, hb⟩
          replace hB := step_below hB hb
          replace hZ := step_below hZ hb
          clear hb MZ
          go_wp2_with fail
          refine (MU.out _ hZ).mono ?_
          rintro E w15 ⟨i15, rfl, hb⟩
          replace hB := step_below hB hb
          replace hZ := step_below hZ hb
          clear hb MU
          go_wp2_with fail
          refine (MV.out _ hZ).mono ?_
          rintro E w16 ⟨i16, rfl, hb⟩
          replace hB := step_below hB hb
          replace hZ := step_below hZ hb
          clear hb MV
          go_upto_region 23 with fail
          go_cut [152] (fun s wx => s = .bool false ∧ Below w.heap.size w wx)
          case first =>
            have HB := Lib.hid hB
            have hm := MONO.out
            clear hB hZ HSA HR2 HR3 HG KA MONO
            cases mx <;> cases my <;> cases mu
            all_goals first | (exact absurd (hm rfl) (by decide)) | (clear hm; go_wp2_with fail; go_meet; exact ⟨rfl, HB.out⟩)
          case rest =>
            obtain ⟨rfl, hBc⟩ := hcut
            clear hB hZ
            go_wp2_with fail
            go_loopw [24] (fun i wr => ∃ k : Nat, k ≤ la ∧ i = .int .i64 k ∧ Below w.heap.size w wr) (fun i _ => la - (intOf i).toNat)
            case atStart => exact ⟨0, Nat.zero_le _, rfl, hBc⟩
            case round =>
              clear hBc
              obtain ⟨k, hk, rfl, hB⟩ := hrel
              by_cases hlt : k < la
              · have hne : a ≠ [] := by
                  intro e
                  have := HLA.out
                  rw [e] at this
                  simp at this
                  omega
                obtain ⟨o, ho⟩ : ∃ o, a[k]? = some o := ⟨a[k]'(by have := HLA.out; omega), List.getElem?_eq_getElem _⟩
                obtain ⟨bb, off, rfl, hi⟩ := HR2.out hne
                have hos := HSA.out o (List.mem_of_getElem? ho)
                obtain ⟨vp, o0, o1, o2, o3, o4, hps⟩ := (hi k o ho).below hB
                obtain ⟨A', c', rfl⟩ := slice_of hps
                have HP := Lib.hid hps
                have hm1 := meets_name o
                have hm2 := meets_same o
                obtain ⟨on, oe, ou, or, ops⟩ := o
                have M1 := fun (W : World) (hb : Below wr.heap.size wr W) => meets_calls ⟨on, oe, ou, or, ops⟩ _ (askN on) W (HP.out.below hb) hos ⟨show 0 ≤ 1000 by omega, show 0 ≤ 1000 by omega⟩
                have M2 := fun (W : World) (hb : Below wr.heap.size wr W) => meets_calls ⟨on, oe, ou, or, ops⟩ _ (askV ⟨on, oe, ou, or, ops⟩) W (HP.out.below hb) hos ⟨hos.u, hos.r⟩
                rw [hm1] at M1
                rw [hm2] at M2
                unfold Ov.val Tv.val askN at M1
                unfold Ov.val Tv.val askV at M2
                dsimp only at M1 M2 o0 o1 o2 o3 o4 HP
                have HM1 := Lib.hid M1
                have HM2 := Lib.hid M2
                have HOS := Lib.hid hos
                have HB := Lib.hid hB
                clear M1 M2 hm1 hm2 hi hne hps hos
                have hz := Below.refl wr.heap.size wr
                go_upto_region 28 with fail
                go_cut [189] (fun s wx => s = .bool false ∧ Below wr.heap.size wr wx)
                case first =>
                  clear HR2 HR3 HG KA HSA
                  go_region_held3 (fun W => W.cell? ⟨bb, off + k * 5, none⟩ = some (.string on) ∧ W.cell? ⟨bb, off + k * 5 + 1, none⟩ = some (.int .i64 oe) ∧ W.cell? ⟨bb, off + k * 5 + 2, none⟩ = some (.string ou) ∧ W.cell? ⟨bb, off + k * 5 + 3, none⟩ = some (.string or) ∧ W.cell? ⟨bb, off + k * 5 + 4, none⟩ = some (.slice A' ops.length c') ∧ Below wr.heap.size wr W)
                    ((first | assumption | exact off_go (by assumption) hb | exact off_go ⟨o0, o1, o2, o3, o4, hz⟩ (below_drew _) | exact off_go (by assumption) (below_drew _)))
                    (first | (go_at_call 28; first | ((with_reducible refine (HM1.out _ ?_).mono ?_); (exact off_below (by assumption)); rintro E w' ⟨rfl, hb⟩) | ((with_reducible refine (HM2.out _ ?_).mono ?_); (exact off_below (by assumption)); rintro E w' ⟨rfl, hb⟩)))
                  all_goals (go_wp2_with fail; go_meet; exact ⟨rfl, off_below (by assumption)⟩)
                case rest =>
                  obtain ⟨rfl, hz⟩ := hcut
                  obtain ⟨A1, c1, hv1, hc1, hl1, hr1⟩ := id HP.out
                  injection hv1 with hv1 _ hv2
                  subst hv1
                  subst hv2
                  have HR1 := Lib.hid hr1
                  have P0 := o0
                  have P1 := o1
                  have P2 := o2
                  have P3 := o3
                  have P4 := o4
                  clear hr1 o0 o1 o2 o3 o4 HM1 HM2
                  obtain ⟨wo, rfl⟩ : ∃ x, x = wr := ⟨wr, rfl⟩
                  go_wp2_with fail
                  go_loopw [25] (fun i wx => ∃ j : Nat, j ≤ ops.length ∧ i = .int .i64 j ∧ Below wo.heap.size wo wx) (fun i _ => ops.length - (intOf i).toNat)
                  case atStart => exact ⟨0, Nat.zero_le _, rfl, hz⟩
                  case round =>
                    clear hz
                    obtain ⟨j, hj, rfl, hz⟩ := hrel
                    have o0 := kept hz P0
                    have o1 := kept hz P1
                    have o2 := kept hz P2
                    have o3 := kept hz P3
                    have o4 := kept hz P4
                    by_cases hjt : j < ops.length
                    · have hne1 : ops ≠ [] := by
                        intro e
                        rw [e] at hjt
                        simp at hjt
                      obtain ⟨t, ht⟩ : ∃ t, ops[j]? = some t := ⟨ops[j], List.getElem?_eq_getElem _⟩
                      obtain ⟨b1, off1, rfl, hi1⟩ := HR1.out hne1
                      have q0 := ((hi1 j t ht).1.below hz).c0
                      have hm3 := meets_prov ⟨on, oe, ou, or, ops⟩ t (List.mem_of_getElem? ht)
                      have M3 := fun (W : World) (hb : Below wo.heap.size wo W) => meets_calls ⟨on, oe, ou, or, ops⟩ _ (askN t.n) W (HP.out.below hb) HOS.out ⟨show 0 ≤ 1000 by omega, show 0 ≤ 1000 by omega⟩
                      rw [hm3] at M3
                      unfold Ov.val Tv.val askN at M3
                      dsimp only at M3
                      have HM3 := Lib.hid M3
                      clear M3 hm3 hi1 hne1 ht
                      go_upto_region 33 with fail
                      go_cut [215] (fun s wx => s = .bool false ∧ Below wo.heap.size wo wx)
                      case first =>
                        clear HR2 HR3 HG KA HSA HR1 P0 P1 P2 P3 P4
                        have hS0 : OffT wo bb (off + k * 5) on oe ou or (.slice (some ⟨b1, off1, none⟩) ops.length c') b1 (off1 + j * 5) t.n wr := ⟨q0, o0, o1, o2, o3, o4, hz⟩
                        go_region_held3 (fun W => W.cell? ⟨b1, off1 + j * 5, none⟩ = some (.string t.n) ∧ W.cell? ⟨bb, off + k * 5, none⟩ = some (.string on) ∧ W.cell? ⟨bb, off + k * 5 + 1, none⟩ = some (.int .i64 oe) ∧ W.cell? ⟨bb, off + k * 5 + 2, none⟩ = some (.string ou) ∧ W.cell? ⟨bb, off + k * 5 + 3, none⟩ = some (.string or) ∧ W.cell? ⟨bb, off + k * 5 + 4, none⟩ = some (.slice (some ⟨b1, off1, none⟩) ops.length c') ∧ Below wo.heap.size wo W)
                          ((first | assumption | exact offT_go (by assumption) hb | exact offT_go hS0 (below_drew _) | exact offT_go (by assumption) (below_drew _)))
                          (first | (go_at_call 28; (with_reducible refine (HM3.out _ ?_).mono ?_); (exact offT_below (by assumption)); rintro E w' ⟨rfl, hb⟩))
                        all_goals (go_wp2_with fail; go_meet; exact ⟨rfl, offT_below (by assumption)⟩)
                      case rest =>
                        obtain ⟨rfl, hz⟩ := hcut
                        go_wp2_with fail
                        go_roundw
                        case rel => exact ⟨j + 1, by omega, by go_num, hz⟩
                        case measure => simp [intOf]; omega
                    · obtain hjl : j = ops.length := by omega
                      go_wp2_with fail
                      go_roundw
                      case rel => exact ⟨k + 1, by omega, by go_num, step_below HB.out hz⟩
                      case measure => simp [intOf]; omega
              · go_wp2_with fail
                go_ret
                exact ⟨rfl, hB⟩
end Go.Proofs.YtlkmmejlnohjhaaDoor

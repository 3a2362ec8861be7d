/- depend.Print: how what is asked for is written. · depend.Print: the walk. -/
import Derived.Test.YtodbbfgkclkpgaaGreatDoorRR22
import Derived.Test.YtodbbfgkclkpgaaGreatDoorRR14
import Derived.Maps.AppendAt
import Derived.OwnWalk
import Derived.Laws.AppendOwn
namespace Go.Proofs.YtodbbfgkclkpgaaGreatDoor
open Go.RowKit

theorem info_str : (Tryz.prog.info? 9).map (fun i => (i.zero, i.size, i.bytes)) = some (some (.string ⟨#[]⟩), 1, 16) := by kernel_rfl

/-! what is joined -/
theorem joinP_eq (sep : List UInt8) : ∀ xs : List (List UInt8), Lib.join xs sep = VP.joinP sep xs
  | [] => rfl
  | [x] => by rw [Lib.join_one]; rfl
  | x :: y :: r => by
    have ih := joinP_eq sep (y :: r)
    rw [Lib.join_cons, VP.joinP, ← ih, Lib.join_cons]
    simp [Lib.joinTail]

theorem joinP_len (sep : List UInt8) (B : Nat) : ∀ xs : List (List UInt8), (∀ x ∈ xs, x.length ≤ B) → (VP.joinP sep xs).length ≤ xs.length * (B + sep.length)
  | [], _ => by simp [VP.joinP]
  | [x], h => by
    have := h x (.head _)
    rw [VP.joinP, List.length_singleton, Nat.one_mul]; omega
  | x :: y :: r, h => by
    have ih := joinP_len sep B (y :: r) (fun z hz => h z (.tail _ hz))
    have := h x (.head _)
    rw [VP.joinP, List.length_append, List.length_append]
    rw [List.length_cons (a := x), Nat.add_mul, Nat.one_mul]
    omega

theorem oneP_len {t : VP.Tm} (h : VP.RightT t) : (VP.oneP t).length ≤ 100 := by
  have h1 := h.nm.hi
  rcases h.k with ⟨h0, _⟩ | ⟨hop, hv⟩
  · unfold VP.oneP; rw [if_pos h0]; omega
  · have h2 := hv.len
    have h3 : (VP.signP t.op).length ≤ 2 := by
      unfold VP.signP
      (repeat' split) <;> simp
    unfold VP.oneP
    rw [if_neg (by omega)]
    simp only [List.length_append, List.length_cons, List.length_nil]
    omega

def lineS (x : List Tv) : ByteArray := ⟨(VP.lineP (x.map Tv.tm)).toArray⟩
def wholeS (L : List (List Tv)) : ByteArray := ⟨(VP.printL (tmL L)).toArray⟩

theorem lineS_eq (x : List Tv) : Lib.join ((x.map oneS).map (·.data.toList)) [32, 124, 32] = (lineS x).data.toList := by
  rw [joinP_eq]
  show _ = VP.joinP [32, 124, 32] ((x.map Tv.tm).map VP.oneP)
  rw [List.map_map, List.map_map]
  rfl
theorem wholeS_eq (L : List (List Tv)) : Lib.join ((L.map lineS).map (·.data.toList)) [44, 32] = (wholeS L).data.toList := by
  rw [joinP_eq]
  show _ = VP.joinP [44, 32] ((L.map fun x => x.map Tv.tm).map VP.lineP)
  rw [List.map_map, List.map_map]
  rfl
theorem lineS_len {x : List Tv} (h : ∀ t ∈ x, VP.RightT t.tm) : (lineS x).data.toList.length ≤ x.length * 103 := by
  have := joinP_len [32, 124, 32] 100 ((x.map Tv.tm).map VP.oneP) (fun y hy => by
    obtain ⟨t', ht', rfl⟩ := List.mem_map.1 hy
    obtain ⟨t, ht, rfl⟩ := List.mem_map.1 ht'
    exact oneP_len (h t ht))
  rw [List.length_map, List.length_map] at this
  exact this

/-- a slice of strings of the call's own -/
theorem own_cells {w : World} {base : Nat} {v : Value} {n : Nat} {ss : List ByteArray} (h : w.ownsRow base 9 1 v n (ss.map Value.string)) :
    n = ss.length ∧ ((v = .slice none 0 0 ∧ n = 0) ∨ ∃ g cap, v = .slice (some ⟨g, 0, none⟩) n cap ∧ g < w.heap.size ∧ n ≤ cap ∧ ∀ j s, ss[j]? = some s → w.cell? ⟨g, 0 + j, none⟩ = some (.string s)) := by
  have hl := h.1
  rw [List.length_map, Nat.mul_one] at hl
  refine ⟨hl.symm, ?_⟩
  rcases h.2 with h0 | ⟨g, cap, cur, rfl, hg, hk, hn, hm, hs, ht⟩
  · exact .inl h0
  · refine .inr ⟨g, cap, rfl, (Array.getElem?_eq_some_iff.1 hk).1, hn, fun j s hj => ?_⟩
    have := h.cells (g := g) rfl j (.string s) (by rw [List.getElem?_map, hj]; rfl)
    rw [Go.WideShapes.add_plain] at this
    exact this

theorem call_join (w : World) (base : Nat) (v : Value) (n : Nat) (ss : List ByteArray) (sep : ByteArray) (h : w.ownsRow base 9 1 v n (ss.map Value.string)) (hn : n ≤ 1000000)
    (hlen : (Lib.join (ss.map (·.data.toList)) sep.data.toList).length ≤ 1000000) :
    Calls Tryz.prog 61 #[v, .string sep] w fun e w' => e = .returned (.string ⟨(Lib.join (ss.map (·.data.toList)) sep.data.toList).toArray⟩) ∧ Below w.heap.size w w' := by
  obtain ⟨hl, ⟨rfl, h0⟩ | ⟨g, cap, rfl, hg, hc, hcell⟩⟩ := own_cells h
  · refine (Tryz.strings_Join_none none 0 sep w).mono fun e w' ⟨he, hw⟩ => ⟨?_, hw ▸ Below.refl _ _⟩
    have : ss = [] := List.eq_nil_of_length_eq_zero (by omega)
    rw [he, this]
    rfl
  · rw [hl] at hc ⊢
    exact Tryz.strings_Join g 0 cap ss sep w hcell hg (by omega) hc (by omega)
end Go.Proofs.YtodbbfgkclkpgaaGreatDoor

namespace Go.Proofs.YtodbbfgkclkpgaaGreatDoor
open Go.RowKit

def PrintTIs (L : List (List Tv)) (n : Int) (w : World) (E : Ending) (w' : World) : Prop := E = .returned (.tuple #[.string (if VP.askedP (tmL L) then wholeS L else ⟨#[]⟩), errV n]) ∧ Below w.heap.size w w'

theorem asked_sizes {L : List (List Tv)} (h : VP.askedP (tmL L) = true) : L.length ≤ 30 ∧ ∀ x ∈ L, x.length ≤ 30 ∧ ∀ t ∈ x, VP.RightT t.tm := by
  obtain ⟨h1, h2⟩ := (VP.askedP_iff _).1 h
  have hs : sumL L ≤ 30 := by
    rw [asked_eq] at h
    rw [Bool.and_eq_true] at h
    simpa using h.2
  have hx : ∀ x ∈ L, x ≠ [] ∧ ∀ t ∈ x, VP.RightT t.tm := fun x hx => by
    obtain ⟨h3, h4⟩ := h1 (x.map Tv.tm) (List.mem_map.2 ⟨x, hx, rfl⟩)
    exact ⟨by simpa using h3, fun t ht => h4 t.tm (List.mem_map.2 ⟨t, ht, rfl⟩)⟩
  have key : ∀ M : List (List Tv), (∀ x ∈ M, x ≠ []) → M.length ≤ sumL M ∧ ∀ x ∈ M, x.length ≤ sumL M := by
    intro M
    induction M with
    | nil => intro _; exact ⟨by simp [sumL], by simp⟩
    | cons y M ih =>
      intro hM
      obtain ⟨i1, i2⟩ := ih (fun z hz => hM z (.tail _ hz))
      have hy := List.length_pos_iff.2 (hM y (.head _))
      have e : sumL (y :: M) = y.length + sumL M := by simp [sumL]
      refine ⟨by rw [e, List.length_cons]; omega, fun x hx => ?_⟩
      rcases List.mem_cons.1 hx with rfl | hx
      · omega
      · have := i2 x hx; omega
  obtain ⟨k1, k2⟩ := key L (fun x h => (hx x h).1)
  exact ⟨by omega, fun x h => ⟨by have := k2 x h; omega, (hx x h).2⟩⟩

set_option maxRecDepth 100000 in
theorem printT_no (v : Value) (L : List (List Tv)) (w : World) (hE : Env w) (h : AskedAt w v L) (hs : ∀ x ∈ L, ∀ t ∈ x, t.small) (h40 : ∀ x ∈ L, x.length ≤ 1000) (hno : VP.askedP (tmL L) = false) :
    Calls Tryz.prog 59 #[v] w (PrintTIs L 1 w) := by
  have H := Lib.hid (asked_calls v L w hE h hs h40)
  rw [hno] at H
  have HNO := Lib.hid hno
  clear hno h hs hE h40
  go_enter Tryz.func59, Tryz.ntmps59
  go_wp2_with fail
  refine H.out.mono ?_
  rintro E w1 ⟨rfl, hb⟩
  go_wp2_with fail
  go_ret2
  exact ⟨by rw [HNO.out]; rfl, hb⟩

set_option maxHeartbeats 2000000 in
set_option maxRecDepth 100000 in
theorem printT_yes (v : Value) (L : List (List Tv)) (w : World) (hE : Env w) (hS : EnvS w) (h : AskedAt w v L) (hs : ∀ x ∈ L, ∀ t ∈ x, t.small) (h40 : ∀ x ∈ L, x.length ≤ 1000) (hyes : VP.askedP (tmL L) = true) :
    Calls Tryz.prog 59 #[v] w (PrintTIs L 0 w) := by
  have H := Lib.hid (asked_calls v L w hE h hs h40)
  rw [hyes] at H
  have HY := Lib.hid hyes
  obtain ⟨hlen30, hx30⟩ := asked_sizes hyes
  clear hyes
  obtain ⟨A, c, rfl, hc, hm, hr⟩ := h
  obtain ⟨len, hlen⟩ : ∃ len, L.length = len := ⟨_, rfl⟩
  have HL := Lib.hid hlen
  have HS := Lib.hid hs
  clear h40
  have HR := Lib.hid hr
  have HX30 := Lib.hid hx30
  rw [hlen] at hc hm hlen30 H ⊢
  clear hlen hr hs hx30
  obtain ⟨i0, hi, hz0, hz1, hz2⟩ := info_parts info_str
  go_enter Tryz.func59, Tryz.ntmps59
  go_wp2_with fail
  refine H.out.mono ?_
  rintro E w1 ⟨rfl, hb1⟩
  have HB1 := Lib.hid hb1
  have hE1 := hE.below hb1
  have hS1 := hS.below hb1
  clear hE hS H hb1
  go_wp2_with fail
  go_loopw [4, 16] (fun s4 i wr => ∃ k : Nat, k ≤ len ∧ i = .int .i64 k ∧ wr.ownsRow w1.heap.size 9 1 s4 k ((L.take k).map fun x => Value.string (lineS x)) ∧ Below w1.heap.size w1 wr) (fun _ i _ => len - (intOf i).toNat)
  case atStart => exact ⟨0, Nat.zero_le _, rfl, World.ownsRow_nil _ _ _ _, Below.refl _ _⟩
  case round =>
    obtain ⟨k, hk, rfl, hown, hB⟩ := hrel
    by_cases hlt : k < len
    · have hne : L ≠ [] := by
        intro e
        have := HL.out
        rw [e] at this
        simp at this
        omega
      obtain ⟨x, hx⟩ : ∃ x, L[k]? = some x := ⟨L[k]'(by have := HL.out; omega), List.getElem?_eq_getElem _⟩
      obtain ⟨b, off, rfl, hi'⟩ := HR.out hne
      obtain ⟨vx, hc0, hT⟩ := hi' k x hx
      clear hi' hne
      have hBw := step_below HB1.out hB
      have hT1 := hT.below hBw
      have c0 := kept hBw hc0
      have HX := Lib.hid hx
      have HSX := Lib.hid (HS.out x (List.mem_of_getElem? hx))
      obtain ⟨hx30, hxr⟩ := HX30.out x (List.mem_of_getElem? hx)
      have HXR := Lib.hid hxr
      obtain ⟨A', c', rfl, hc', hm', hr'⟩ := hT1
      have HR' := Lib.hid hr'
      clear hx hc0 hT hr' hxr hBw
      obtain ⟨xl, hxl⟩ : ∃ xl, x.length = xl := ⟨_, rfl⟩
      have HXL := Lib.hid hxl
      rw [hxl] at hc' hm' c0 hx30
      clear hxl
      obtain ⟨wo, rfl⟩ : ∃ wo : World, wo = wr := ⟨_, rfl⟩
      have HBo := Lib.hid hB
      have HOo := Lib.hid hown
      have hEo := hE1.below hB
      have hSo := hS1.below hB
      clear hown hB
      go_wp2_with fail
      clear c0
      go_loopw [7, 22] (fun s7 i wr => ∃ j : Nat, j ≤ xl ∧ i = .int .i64 j ∧ wr.ownsRow wo.heap.size 9 1 s7 j ((x.take j).map fun t => Value.string (oneS t)) ∧ Below wo.heap.size wo wr) (fun _ i _ => xl - (intOf i).toNat)
      case atStart => exact ⟨0, Nat.zero_le _, rfl, World.ownsRow_nil _ _ _ _, Below.refl _ _⟩
      case round =>
        obtain ⟨j, hj, rfl, hown, hB⟩ := hrel
        by_cases hjt : j < xl
        · obtain ⟨t, ht⟩ : ∃ t, x[j]? = some t := ⟨x[j]'(by have := HXL.out; omega), List.getElem?_eq_getElem _⟩
          have hxne : x ≠ [] := by
            intro e
            have := HXL.out
            rw [e] at this
            simp at this
            omega
          obtain ⟨b', off', rfl, hi'⟩ := HR'.out hxne
          obtain ⟨hT0, hok⟩ := hi' j t ht
          clear hi' hxne
          have hsm := HSX.out t (List.mem_of_getElem? ht)
          have hrt := HXR.out t (List.mem_of_getElem? ht)
          have hT := hT0.below hB
          have HT := Lib.hid ht
          obtain ⟨c0, c1, c2, c3, c4⟩ := hT
          have hb1 := below_alloc wr (.cells #[.string t.n, .int .i64 t.op, .int .i64 t.e, .string t.u, .string t.r] 99)
          have hB1 := step_below hB hb1
          have hown1 := own_below hown hb1
          have H1 := Lib.hid (fun (W : World) (h1 : Env W) (h2 : EnvS W) => oneTerm_calls t W h1 h2 hsm hrt)
          have hEr := hEo.below hB1
          have hSr := hSo.below hB1
          clear ht hT0 hok hsm hrt hb1 hB hown
          unfold Tv.val at H1
          go_wp2_with fail
          refine (H1.out _ hEr hSr).mono ?_
          rintro E w2 ⟨rfl, hb⟩
          have hB2 := step_below hB1 hb
          have hown2 := own_below hown1 hb
          have hz2' := hB2.size
          clear hb hown1 c0 c1 c2 c3 c4 hEr hSr H1 hB1
          go_wp2_with (at_builtin; refine wpList_append_own _ rfl _ _ 26 rfl wo.heap.size 9 i0 (.string ⟨#[]⟩) 1 16 Tryz.underlying26 hi hz0 hz1 hz2 rfl (by decide) _ _ _ rfl (hown2.alloc _) ⟨w2.heap.size, 0, none⟩ 1 1 [.string (oneS t)] rfl rfl (cell_one_new _ _ _) (by simp [Value.oneCell']) (by simp only [maxLen]; omega) (by omega) (by simp; omega) ?_; intro v' w3 hown3 hgrow hnil)
          have HOW := Lib.hid hown3
          have HG := Lib.hid hgrow
          have HO2 := Lib.hid hown2
          clear hown3 hgrow hown2 hnil
          go_roundw
          case rel =>
            refine ⟨j + 1, by omega, by go_num, ?_, (hB2.alloc hB2.size _).grown HG.out (by simp; omega) (fun g e => (HO2.out.lt g e).1)⟩
            have h := HOW.out
            rw [List.take_add_one, HT.out]
            simpa using h
          case measure => simp [intOf]; omega
        · obtain rfl : j = xl := by omega
          have hcat : (x.take j).map (fun t => Value.string (oneS t)) = (x.map oneS).map Value.string := by
            rw [← HXL.out, List.take_length, List.map_map]
            rfl
          rw [hcat] at hown
          clear hcat
          have HJ := Lib.hid (lineS_eq x)
          have HJL := Lib.hid (lineS_len HXR.out)
          have hj30 : x.length ≤ 30 := by have := HXL.out; omega
          have HC := Lib.hid (call_join wr wo.heap.size _ j (x.map oneS) ⟨#[32, 124, 32]⟩ hown (by omega) (by
            show (Lib.join ((x.map oneS).map (·.data.toList)) [32, 124, 32]).length ≤ 1000000
            rw [HJ.out]
            have := HJL.out
            omega))
          have hown4 := own_below HOo.out hB
          have hsz := hB.size
          clear hown hj30
          go_wp2_with fail
          refine HC.out.mono ?_
          rintro E w2 ⟨rfl, hb⟩
          have hs2 : (⟨(Lib.join ((x.map oneS).map (·.data.toList)) (⟨#[32, 124, 32]⟩ : ByteArray).data.toList).toArray⟩ : ByteArray) = lineS x := by
            show (⟨(Lib.join ((x.map oneS).map (·.data.toList)) [32, 124, 32]).toArray⟩ : ByteArray) = lineS x
            rw [HJ.out, mk_data]
          rw [hs2]
          clear hs2
          have hB2 := step_below (step_below HBo.out hB) hb
          have hown5 := own_below hown4 hb
          have hz2' := hB2.size
          clear hb hown4 hB hsz HC
          go_wp2_with (at_builtin; refine wpList_append_own _ rfl _ _ 26 rfl w1.heap.size 9 i0 (.string ⟨#[]⟩) 1 16 Tryz.underlying26 hi hz0 hz1 hz2 rfl (by decide) _ _ _ rfl (hown5.alloc _) ⟨w2.heap.size, 0, none⟩ 1 1 [.string (lineS x)] rfl rfl (cell_one_new _ _ _) (by simp [Value.oneCell']) (by simp only [maxLen]; omega) (by omega) (by simp; omega) ?_; intro v' w3 hown3 hgrow hnil)
          have HOW := Lib.hid hown3
          have HG := Lib.hid hgrow
          have HO2 := Lib.hid hown5
          clear hown3 hgrow hown5 hnil
          go_roundw
          case rel =>
            refine ⟨k + 1, by omega, by go_num, ?_, (hB2.alloc hB2.size _).grown HG.out (by simp; omega) (fun g e => (HO2.out.lt g e).1)⟩
            have h := HOW.out
            rw [List.take_add_one, HX.out]
            simpa using h
          case measure => simp [intOf]; omega
    · obtain rfl : k = len := by omega
      have hcat : (L.take k).map (fun x => Value.string (lineS x)) = (L.map lineS).map Value.string := by
        rw [← HL.out, List.take_length, List.map_map]
        rfl
      rw [hcat] at hown
      clear hcat
      have HJ := Lib.hid (wholeS_eq L)
      have HJL : Hid ((wholeS L).data.toList.length ≤ 200000) := by
        have h1 := joinP_len [44, 32] 4000 ((L.map lineS).map (·.data.toList)) (fun y hy => by
          obtain ⟨s', hs', rfl⟩ := List.mem_map.1 hy
          obtain ⟨x, hx, rfl⟩ := List.mem_map.1 hs'
          obtain ⟨h2, h3⟩ := HX30.out x hx
          have := lineS_len h3
          omega)
        rw [← joinP_eq, HJ.out, List.length_map, List.length_map] at h1
        have := HL.out
        simp at h1
        exact Nat.le_trans h1 (by omega)
      have HC := Lib.hid (call_join wr w1.heap.size _ k (L.map lineS) ⟨#[44, 32]⟩ hown (by omega) (by
        show (Lib.join ((L.map lineS).map (·.data.toList)) [44, 32]).length ≤ 1000000
        rw [HJ.out]
        have := HJL.out
        omega))
      have hBw := step_below HB1.out hB
      clear hown hB
      go_wp2_with fail
      refine HC.out.mono ?_
      rintro E w2 ⟨rfl, hb⟩
      have hs2 : (⟨(Lib.join ((L.map lineS).map (·.data.toList)) (⟨#[44, 32]⟩ : ByteArray).data.toList).toArray⟩ : ByteArray) = wholeS L := by
        show (⟨(Lib.join ((L.map lineS).map (·.data.toList)) [44, 32]).toArray⟩ : ByteArray) = wholeS L
        rw [HJ.out, mk_data]
      rw [hs2]
      clear hs2
      have hBe := step_below hBw hb
      clear hb hBw HC
      go_wp2_with fail
      go_ret2
      exact ⟨by rw [HY.out]; rfl, hBe⟩

theorem printT_calls (v : Value) (L : List (List Tv)) (w : World) (hE : Env w) (hS : EnvS w) (h : AskedAt w v L) (hs : ∀ x ∈ L, ∀ t ∈ x, t.small) (h40 : ∀ x ∈ L, x.length ≤ 1000) :
    Calls Tryz.prog 59 #[v] w (PrintTIs L (if VP.askedP (tmL L) then 0 else 1) w) := by
  cases hy : VP.askedP (tmL L) with
  | false => exact printT_no v L w hE h hs h40 hy
  | true => exact printT_yes v L w hE hS h hs h40 hy
end Go.Proofs.YtodbbfgkclkpgaaGreatDoor

/- depend.Print: the walk. · record.Fields: its closures add and terms: a field more, if it says something. · The fields that a package is: as texts; how long they are. -/
import Derived.Test.YtodbbfgkclkpgaaGreatDoorABK10
import Derived.Test.YtodbbfgkclkpgaaGreatDoorABK11
import Derived.Test.YtodbbfgkclkpgaaGreatDoorABK19
namespace Go.Proofs.YtodbbfgkclkpgaaGreatDoor
open Go.RowKit

def PrintTIs (L : List (List Tv)) (n : Int) (w : World) (E : Ending) (w' : World) : Prop := E = .returned (.tuple #[.string (if VP.askedP (tmL L) then wholeS L else ⟨#[]⟩), errV n]) ∧ Below w.heap.size w w'

theorem asked_sizes {L : List (List Tv)} (h : VP.askedP (tmL L) = true) : L.length ≤ 30 ∧ ∀ x ∈ L, x.length ≤ 30 ∧ ∀ t ∈ x, VP.RightT t.tm := by
  obtain ⟨h1, h2⟩ := (VP.askedP_iff _).1 h
  have hs : sumL L ≤ 30 := by
    rw [asked_eq] at h
    rw [Bool.and_eq_true] at h
    simpa using h.2
  have hx : ∀ x ∈ L, x ≠ [] ∧ ∀ t ∈ x, VP.RightT t.tm := fun x hx => by
    obtain ⟨h3, h4⟩ := h1 (x.map Tv.tm) (List.mem_map.2 ⟨x, hx, rfl⟩)
    exact ⟨by simpa using h3, fun t ht => h4 t.tm (List.mem_map.2 ⟨t, ht, rfl⟩)⟩
  have key : ∀ M : List (List Tv), (∀ x ∈ M, x ≠ []) → M.length ≤ sumL M ∧ ∀ x ∈ M, x.length ≤ sumL M := by
    intro M
    induction M with
    | nil => intro _; exact ⟨by simp [sumL], by simp⟩
    | cons y M ih =>
      intro hM
      obtain ⟨i1, i2⟩ := ih (fun z hz => hM z (.tail _ hz))
      have hy := List.length_pos_iff.2 (hM y (.head _))
      have e : sumL (y :: M) = y.length + sumL M := by simp [sumL]
      refine ⟨by rw [e, List.length_cons]; omega, fun x hx => ?_⟩
      rcases List.mem_cons.1 hx with rfl | hx
      · omega
      · have := i2 x hx; omega
  obtain ⟨k1, k2⟩ := key L (fun x h => (hx x h).1)
  exact ⟨by omega, fun x h => ⟨by have := k2 x h; omega, (hx x h).2⟩⟩

set_option maxHeartbeats 2000000 in
set_option maxRecDepth 100000 in
theorem printT_yes (v : Value) (L : List (List Tv)) (w : World) (hE : Env w) (hS : EnvS w) (h : AskedAt w v L) (hs : ∀ x ∈ L, ∀ t ∈ x, t.small) (h40 : ∀ x ∈ L, x.length ≤ 1000) (hyes : VP.askedP (tmL L) = true) :
    Calls Tryz.prog 59 #[v] w (PrintTIs L 0 w) := by
  have H := Lib.hid (asked_calls v L w hE h hs h40)
  rw [hyes] at H
  have HY := Lib.hid hyes
  obtain ⟨hlen30, hx30⟩ := asked_sizes hyes
  clear hyes
  obtain ⟨A, c, rfl, hc, hm, hr⟩ := h
  obtain ⟨len, hlen⟩ : ∃ len, L.length = len := ⟨_, rfl⟩
  have HL := Lib.hid hlen
  have HS := Lib.hid hs
  clear h40
  have HR := Lib.hid hr
  have HX30 := Lib.hid hx30
  rw [hlen] at hc hm hlen30 H ⊢
  clear hlen hr hs hx30
  obtain ⟨i0, hi, hz0, hz1, hz2⟩ := info_parts info_str
  go_enter Tryz.func59, Tryz.ntmps59
  go_wp2_with fail
  refine H.out.mono ?_
  rintro E w1 ⟨rfl, hb1⟩
  have HB1 := Lib.hid hb1
  have hE1 := hE.below hb1
  have hS1 := hS.below hb1
  clear hE hS H hb1
  go_wp2_with fail
  go_loopw [4, 16] (fun s4 i wr => ∃ k : Nat, k ≤ len ∧ i = .int .i64 k ∧ wr.ownsRow w1.heap.size 9 1 s4 k ((L.take k).map fun x => Value.string (lineS x)) ∧ Below w1.heap.size w1 wr) (fun _ i _ => len - (intOf i).toNat)
  case atStart => exact ⟨0, Nat.zero_le _, rfl, World.ownsRow_nil _ _ _ _, Below.refl _ _⟩
  case round =>
    obtain ⟨k, hk, rfl, hown, hB⟩ := hrel
    by_cases hlt : k < len
    · have hne : L ≠ [] := by
        intro e
        have := HL.out
        rw [e] at this
        simp at this
        omega
      obtain ⟨x, hx⟩ : ∃ x, L[k]? = some x := ⟨L[k]'(by have := HL.out; omega), List.getElem?_eq_getElem _⟩
      obtain ⟨b, off, rfl, hi'⟩ := HR.out hne
      obtain ⟨vx, hc0, hT⟩ := hi' k x hx
      clear hi' hne
      have hBw := step_below HB1.out hB
      have hT1 := hT.below hBw
      have c0 := kept hBw hc0
      have HX := Lib.hid hx
      have HSX := Lib.hid (HS.out x (List.mem_of_getElem? hx))
      obtain ⟨hx30, hxr⟩ := HX30.out x (List.mem_of_getElem? hx)
      have HXR := Lib.hid hxr
      obtain ⟨A', c', rfl, hc', hm', hr'⟩ := hT1
      have HR' := Lib.hid hr'
      clear hx hc0 hT hr' hxr hBw
      obtain ⟨xl, hxl⟩ : ∃ xl, x.length = xl := ⟨_, rfl⟩
      have HXL := Lib.hid hxl
      rw [hxl] at hc' hm' c0 hx30
      clear hxl
      obtain ⟨wo, rfl⟩ : ∃ wo : World, wo = wr := ⟨_, rfl⟩
      have HBo := Lib.hid hB
      have HOo := Lib.hid hown
      have hEo := hE1.below hB
      have hSo := hS1.below hB
      clear hown hB
      go_wp2_with fail
      clear c0
      go_loopw [7, 22] (fun s7 i wr => ∃ j : Nat, j ≤ xl ∧ i = .int .i64 j ∧ wr.ownsRow wo.heap.size 9 1 s7 j ((x.take j).map fun t => Value.string (oneS t)) ∧ Below wo.heap.size wo wr) (fun _ i _ => xl - (intOf i).toNat)
      case atStart => exact ⟨0, Nat.zero_le _, rfl, World.ownsRow_nil _ _ _ _, Below.refl _ _⟩
      case round =>
        obtain ⟨j, hj, rfl, hown, hB⟩ := hrel
        by_cases hjt : j < xl
        · obtain ⟨t, ht⟩ : ∃ t, x[j]? = some t := ⟨x[j]'(by have := HXL.out; omega), List.getElem?_eq_getElem _⟩
          have hxne : x ≠ [] := by
            intro e
            have := HXL.out
            rw [e] at this
            simp at this
            omega
          obtain ⟨b', off', rfl, hi'⟩ := HR'.out hxne
          obtain ⟨hT0, hok⟩ := hi' j t ht
          clear hi' hxne
          have hsm := HSX.out t (List.mem_of_getElem? ht)
          have hrt := HXR.out t (List.mem_of_getElem? ht)
          have hT := hT0.below hB
          have HT := Lib.hid ht
          obtain ⟨c0, c1, c2, c3, c4⟩ := hT
          have hb1 := below_alloc wr (.cells #[.string t.n, .int .i64 t.op, .int .i64 t.e, .string t.u, .string t.r] 99)
          have hB1 := step_below hB hb1
          have hown1 := own_below hown hb1
          have H1 := Lib.hid (fun (W : World) (h1 : Env W) (h2 : EnvS W) => oneTerm_calls t W h1 h2 hsm hrt)
          have hEr := hEo.below hB1
          have hSr := hSo.below hB1
          clear ht hT0 hok hsm hrt hb1 hB hown
          unfold Tv.val at H1
          go_wp2_with fail
          refine (H1.out _ hEr hSr).mono ?_
          rintro E w2 ⟨rfl, hb⟩
          have hB2 := step_below hB1 hb
          have hown2 := own_below hown1 hb
          have hz2' := hB2.size
          clear hb hown1 c0 c1 c2 c3 c4 hEr hSr H1 hB1
          go_wp2_with (at_builtin; refine wpList_append_own _ rfl _ _ 26 rfl wo.heap.size 9 i0 (.string ⟨#[]⟩) 1 16 Tryz.underlying26 hi hz0 hz1 hz2 rfl (by decide) _ _ _ rfl (hown2.alloc _) ⟨w2.heap.size, 0, none⟩ 1 1 [.string (oneS t)] rfl rfl (cell_one_new _ _ _) (by simp [Value.oneCell']) (by simp only [maxLen]; omega) (by omega) (by simp; omega) ?_; intro v' w3 hown3 hgrow hnil)
          have HOW := Lib.hid hown3
          have HG := Lib.hid hgrow
          have HO2 := Lib.hid hown2
          clear hown3 hgrow hown2 hnil
          go_roundw
          case rel =>
            refine ⟨j + 1, by omega, by go_num, ?_, (hB2.alloc hB2.size _).grown HG.out (by simp; omega) (fun g e => (HO2.out.lt g e).1)⟩
            have h := HOW.out
            rw [List.take_add_one, HT.out]
            simpa using h
          case measure => simp [intOf]; omega
        · obtain rfl : j = xl := by omega
          have hcat : (x.take j).map (fun t => Value.string (oneS t)) = (x.map oneS).map Value.string := by
            rw [← HXL.out, List.take_length, List.map_map]
            rfl
          rw [hcat] at hown
          clear hcat
          have HJ := Lib.hid (lineS_eq x)
          have HJL := Lib.hid (lineS_len HXR.out)
          have hj30 : x.length ≤ 30 := by have := HXL.out; omega
          have HC := Lib.hid (call_join wr wo.heap.size _ j (x.map oneS) ⟨#[32, 124, 32]⟩ hown (by omega) (by
            show (Lib.join ((x.map oneS).map (·.data.toList)) [32, 124, 32]).length ≤ 1000000
            rw [HJ.out]
            have := HJL.out
            omega))
          have hown4 := own_below HOo.out hB
          have hsz := hB.size
          clear hown hj30
          go_wp2_with fail
          refine HC.out.mono ?_
          rintro E w2 ⟨rfl, hb⟩
          have hs2 : (⟨(Lib.join ((x.map oneS).map (·.data.toList)) (⟨#[32, 124, 32]⟩ : ByteArray).data.toList).toArray⟩ : ByteArray) = lineS x := by
            show (⟨(Lib.join ((x.map oneS).map (·.data.toList)) [32, 124, 32]).toArray⟩ : ByteArray) = lineS x
            rw [HJ.out, mk_data]
          rw [hs2]
          clear hs2
          have hB2 := step_below (step_below HBo.out hB) hb
          have hown5 := own_below hown4 hb
          have hz2' := hB2.size
          clear hb hown4 hB hsz HC
          go_wp2_with (at_builtin; refine wpList_append_own _ rfl _ _ 26 rfl w1.heap.size 9 i0 (.string ⟨#[]⟩) 1 16 Tryz.underlying26 hi hz0 hz1 hz2 rfl (by decide) _ _ _ rfl (hown5.alloc _) ⟨w2.heap.size, 0, none⟩ 1 1 [.string (lineS x)] rfl rfl (cell_one_new _ _ _) (by simp [Value.oneCell']) (by simp only [maxLen]; omega) (by omega) (by simp; omega) ?_; intro v' w3 hown3 hgrow hnil)
          have HOW := Lib.hid hown3
          have HG := Lib.hid hgrow
          have HO2 := Lib.hid hown5
          clear hown3 hgrow hown5 hnil
          go_roundw
          case rel =>
            refine ⟨k + 1, by omega, by go_num, ?_, (hB2.alloc hB2.size _).grown HG.out (by simp; omega) (fun g e => (HO2.out.lt g e).1)⟩
            have h := HOW.out
            rw [List.take_add_one, HX.out]
            simpa using h
          case measure => simp [intOf]; omega
    · obtain rfl : k = len := by omega
      have hcat : (L.take k).map (fun x => Value.string (lineS x)) = (L.map lineS).map Value.string := by
        rw [← HL.out, List.take_length, List.map_map]
        rfl
      rw [hcat] at hown
      clear hcat
      have HJ := Lib.hid (wholeS_eq L)
      have HJL : Hid ((wholeS L).data.toList.length ≤ 200000) := by
        have h1 := joinP_len [44, 32] 4000 ((L.map lineS).map (·.data.toList)) (fun y hy => by
          obtain ⟨s', hs', rfl⟩ := List.mem_map.1 hy
          obtain ⟨x, hx, rfl⟩ := List.mem_map.1 hs'
          obtain ⟨h2, h3⟩ := HX30.out x hx
          have := lineS_len h3
          omega)
        rw [← joinP_eq, HJ.out, List.length_map, List.length_map] at h1
        have := HL.out
        simp at h1
        exact Nat.le_trans h1 (by omega)
      have HC := Lib.hid (call_join wr w1.heap.size _ k (L.map lineS) ⟨#[44, 32]⟩ hown (by omega) (by
        show (Lib.join ((L.map lineS).map (·.data.toList)) [44, 32]).length ≤ 1000000
        rw [HJ.out]
        have := HJL.out
        omega))
      have hBw := step_below HB1.out hB
      clear hown hB
      go_wp2_with fail
      refine HC.out.mono ?_
      rintro E w2 ⟨rfl, hb⟩
      have hs2 : (⟨(Lib.join ((L.map lineS).map (·.data.toList)) (⟨#[44, 32]⟩ : ByteArray).data.toList).toArray⟩ : ByteArray) = wholeS L := by
        show (⟨(Lib.join ((L.map lineS).map (·.data.toList)) [44, 32]).toArray⟩ : ByteArray) = wholeS L
        rw [HJ.out, mk_data]
      rw [hs2]
      clear hs2
      have hBe := step_below hBw hb
      clear hb hBw HC
      go_wp2_with fail
      go_ret2
      exact ⟨by rw [HY.out]; rfl, hBe⟩

end Go.Proofs.YtodbbfgkclkpgaaGreatDoor

namespace Go.Proofs.YtodbbfgkclkpgaaGreatDoor
open Go Go.RowKit

theorem info_field : (Tryz.prog.info? 69).map (fun i => (i.zero, i.size, i.bytes)) = some (some (.agg #[.string ⟨#[]⟩, .string ⟨#[]⟩]), 2, 32) := by kernel_rfl

/-- what writing fields keeps: all below B, and all blocks that are no fields' but q -/
def KeptF (B q : Nat) (W W' : World) : Prop := W.heap.size ≤ W'.heap.size ∧ Below B W W' ∧ ∀ (j : Nat) cs t fz, W.heap[j]? = some (.cells cs t fz) → t ≠ 69 → j ≠ q → W'.heap[j]? = W.heap[j]?
theorem KeptF.refl (B q : Nat) (W : World) : KeptF B q W W := ⟨Nat.le_refl _, Below.refl _ _, fun _ _ _ _ _ _ _ => rfl⟩
theorem KeptF.of_below {B q : Nat} {W W' : World} (hb : Below W.heap.size W W') (hB : B ≤ W.heap.size) : KeptF B q W W' :=
  ⟨hb.size, hb.mono hB, fun j _ _ _ hj _ _ => hb.block j (Array.getElem?_eq_some_iff.1 hj).1⟩
theorem KeptF.trans {B q : Nat} {W W1 W2 : World} (h : KeptF B q W W1) (k : KeptF B q W1 W2) : KeptF B q W W2 :=
  ⟨Nat.le_trans h.1 k.1, h.2.1.trans k.2.1, fun j cs t fz hj ht hq => (k.2.2 j cs t fz ((h.2.2 j cs t fz hj ht hq).trans hj) ht hq).trans (h.2.2 j cs t fz hj ht hq)⟩
theorem KeptF.boxed {B q b : Nat} {W W' : World} {t : TypeId} {v : Value} (h : KeptF B q W W') (hb : Boxed W b t v) (ht : t ≠ 69) (hq : b ≠ q) : Boxed W' b t v := (h.2.2 b _ _ _ hb ht hq).trans hb

/-- the cell q holds a slice of the call's own of these fields -/
structure LBox (B q : Nat) (fs : List Fv) (W : World) : Prop where
  box : ∃ s, Boxed W q 31 s ∧ W.ownsRow B 69 2 s fs.length (fs.flatMap fldC)
  high : B ≤ q
theorem LBox.below {B q : Nat} {fs : List Fv} {W W' : World} (h : LBox B q fs W) (hb : Below W.heap.size W W') : LBox B q fs W' := by
  obtain ⟨⟨s, h1, h2⟩, hq⟩ := h
  exact ⟨⟨s, boxed_below h1 hb, own_below h2 hb⟩, hq⟩

def optF (n v : ByteArray) : List Fv := if v.size = 0 then [] else [⟨n, v⟩]
def AddIs (B q : Nat) (fs : List Fv) (n v : ByteArray) (W : World) (E : Ending) (W' : World) : Prop := E = .returned (.tuple #[]) ∧ LBox B q (fs ++ optF n v) W' ∧ KeptF B q W W'

theorem own_other {W : World} {B : Nat} {e t : TypeId} {size n j : Nat} {s : Value} {xs : List Value} {cs : Array Value} {fz : Nat × Nat} (h : W.ownsRow B e size s n xs) (hj : W.heap[j]? = some (.cells cs t fz)) (ht : t ≠ e) : some j ≠ s.ownBlock := by
  intro e'
  rcases h.2 with ⟨rfl, _⟩ | ⟨g, cap, cur, rfl, _, hk, _⟩
  · cases e'
  · have : j = g := by injection e'
    subst this
    rw [hj] at hk
    injection hk with hk
    injection hk with _ hk _
    exact ht hk

theorem cells_new2 (W : World) (n v : ByteArray) : ∀ j u, (fldC ⟨n, v⟩)[j]? = some u → (W.alloc (.cells #[.string n, .string v] 69)).cell? ((⟨W.heap.size, 0, none⟩ : Addr).add j) = some u := by
  intro j u hj
  rw [Go.WideShapes.add_plain, Nat.zero_add]
  rcases j with _ | _ | j
  · cases hj; go_cell
  · cases hj; go_cell
  · cases hj

set_option maxHeartbeats 2000000 in
set_option maxRecDepth 100000 in
theorem add_calls (n v : ByteArray) (B q : Nat) (fs : List Fv) (W : World) (h : LBox B q fs W) (hN : fs.length ≤ 1000) (hB : B ≤ W.heap.size) :
    Calls Tryz.prog 57 #[.string n, .string v, .pointer (some ⟨q, 0, none⟩)] W (AddIs B q fs n v W) := by
  by_cases hv : v.size = 0
  · have hem := isEmpty_true v hv
    have H := Lib.hid (show AddIs B q fs n v W (.returned (.tuple #[])) W from ⟨rfl, by unfold optF; rw [if_pos hv, List.append_nil]; exact h, KeptF.refl _ _ _⟩)
    clear h hv
    go_enter Tryz.func57, Tryz.ntmps57
    go_wp2_with fail
    refine bodyPost_end (results_none rfl _ _ _) rfl ?_
    exact H.out
  · have hem := isEmpty_false v (by omega)
    obtain ⟨⟨s, h1, h2⟩, hq⟩ := h
    have c0 := h1.cell
    have f0 := h1.frozen
    obtain ⟨i0, hi, hz0, hz1, hz2⟩ := info_parts info_field
    have HO := Lib.hid (show optF n v = [⟨n, v⟩] by unfold optF; rw [if_neg hv])
    clear hv
    go_enter Tryz.func57, Tryz.ntmps57
    go_wp2_with (at_builtin; refine wpList_append_own _ rfl _ _ 31 rfl B 69 i0 (.agg #[.string ⟨#[]⟩, .string ⟨#[]⟩]) 2 32 Tryz.underlying31 hi hz0 hz1 hz2 rfl (by decide) _ _ _ rfl (h2.alloc _) ⟨W.heap.size, 0, none⟩ 1 1 (fldC ⟨n, v⟩) rfl rfl (cells_new2 _ _ _) (by simp [Value.oneCell', fldC]) (by simp only [maxLen]; omega) (by omega) (by simp; omega) ?_; intro v' w3 hown3 hgrow hnil; obtain ⟨g', cap', rfl⟩ := ownsRow_succ hown3; obtain ⟨hv1, hv2, hr3, _, hzz, hfar, hbel⟩ := appended_far (B := q) h1 (by decide) h2 hown3 hgrow; have hc1 := hv1.cell; have hf1 := hv1.frozen)
    refine bodyPost_end (results_none rfl _ _ _) rfl ?_
    refine ⟨rfl, ⟨⟨_, hv2, ?_⟩, hq⟩, hzz, hbel B hB (Nat.le_refl B) hq, fun j cs t fz hj ht hjq => hfar j (Array.getElem?_eq_some_iff.1 hj).1 hjq (own_other h2 hj ht)⟩
    rw [HO.out, List.flatMap_append, List.length_append]
    simpa using hr3

/-- the cell a holds add -/
def AddBox (a q : Nat) (W : World) : Prop := Boxed W a 90 (.func (.func 57) #[] #[.pointer (some ⟨q, 0, none⟩)])
def PrintsTo (x : Value) (s : ByteArray) (W : World) : Prop := Calls Tryz.prog 59 #[x] W fun E w' => E = .returned (.tuple #[.string s, .nilIface]) ∧ Below W.heap.size W w'

set_option maxHeartbeats 2000000 in
set_option maxRecDepth 100000 in
theorem addTerms_calls (n s : ByteArray) (x : Value) (B q a : Nat) (fs : List Fv) (W : World) (hP : PrintsTo x s W) (h : LBox B q fs W) (ha : AddBox a q W) (hN : fs.length ≤ 1000) (hB : B ≤ W.heap.size) :
    Calls Tryz.prog 58 #[.string n, x, .pointer (some ⟨a, 0, none⟩)] W (AddIs B q fs n s W) := by
  have HP := Lib.hid hP
  have H := Lib.hid h
  have HA := Lib.hid ha
  have HB := Lib.hid hB
  clear hP h ha hB
  go_enter Tryz.func58, Tryz.ntmps58
  go_wp2_with fail
  refine HP.out.mono ?_
  rintro E w1 ⟨rfl, hb⟩
  have c0 := (boxed_below HA.out hb).cell
  have C := Lib.hid (add_calls n s B q fs w1 (H.out.below hb) hN (Nat.le_trans HB.out hb.size))
  have HK := Lib.hid (KeptF.of_below (q := q) hb HB.out)
  clear hb HP H HA
  go_wp2_with fail
  refine C.out.mono ?_
  rintro E w2 ⟨rfl, hl, hk⟩
  have HL := Lib.hid hl
  have HK2 := Lib.hid (HK.out.trans hk)
  clear hl hk C HK c0
  go_wp2_with fail
  refine bodyPost_end (results_none rfl _ _ _) rfl ?_
  exact ⟨rfl, HL.out, HK2.out⟩
end Go.Proofs.YtodbbfgkclkpgaaGreatDoor

namespace Go.Proofs.YtodbbfgkclkpgaaGreatDoor
open Go Go.RowKit

def nPackage : ByteArray := ⟨#[80, 97, 99, 107, 97, 103, 101]⟩
def nVersion : ByteArray := ⟨#[86, 101, 114, 115, 105, 111, 110]⟩
def nDepends : ByteArray := ⟨#[68, 101, 112, 101, 110, 100, 115]⟩
def nPre : ByteArray := ⟨#[80, 114, 101, 45, 68, 101, 112, 101, 110, 100, 115]⟩
def nConflicts : ByteArray := ⟨#[67, 111, 110, 102, 108, 105, 99, 116, 115]⟩
def nBreaks : ByteArray := ⟨#[66, 114, 101, 97, 107, 115]⟩
def nReplaces : ByteArray := ⟨#[82, 101, 112, 108, 97, 99, 101, 115]⟩
def nProvides : ByteArray := ⟨#[80, 114, 111, 118, 105, 100, 101, 115]⟩
def nConffiles : ByteArray := ⟨#[67, 111, 110, 102, 102, 105, 108, 101, 115]⟩
def nTriggers : ByteArray := ⟨#[84, 114, 105, 103, 103, 101, 114, 115]⟩

def versS (p : Pv) : ByteArray := ⟨(VP.printP p.e p.u.data.toList p.r.data.toList).toArray⟩
def singS (ts : List Tv) : ByteArray := wholeS (ts.map fun t => [t])
def linesS (ss : List ByteArray) : ByteArray := ⟨(VP.linesOf (ss.map (·.data.toList))).toArray⟩

/-- the fields, one by one -/
def fld0 (p : Pv) : List Fv := [⟨nPackage, p.n⟩, ⟨nVersion, versS p⟩]
def fld1 (p : Pv) : List Fv := fld0 p ++ optF nDepends (wholeS p.dep)
def fld2 (p : Pv) : List Fv := fld1 p ++ optF nPre (wholeS p.ahead)
def fld3 (p : Pv) : List Fv := fld2 p ++ optF nConflicts (singS p.ag)
def fld4 (p : Pv) : List Fv := fld3 p ++ optF nBreaks (singS p.br)
def fld5 (p : Pv) : List Fv := fld4 p ++ optF nReplaces (singS p.re)
def fld6 (p : Pv) : List Fv := fld5 p ++ optF nProvides (singS p.pr)
def fld7 (p : Pv) : List Fv := fld6 p ++ optF nConffiles (linesS p.se)
def fldB (p : Pv) : List Fv := fld7 p ++ optF nTriggers (linesS p.li)

theorem optF_len (n v : ByteArray) : (optF n v).length ≤ 1 := by unfold optF; split <;> simp
theorem fld_lens (p : Pv) : (fld0 p).length = 2 ∧ (fld1 p).length ≤ 3 ∧ (fld2 p).length ≤ 4 ∧ (fld3 p).length ≤ 5 ∧ (fld4 p).length ≤ 6 ∧ (fld5 p).length ≤ 7 ∧ (fld6 p).length ≤ 8 ∧ (fld7 p).length ≤ 9 ∧ (fldB p).length ≤ 10 := by
  have h0 : (fld0 p).length = 2 := rfl
  have h1 : (fld1 p).length ≤ 3 := by unfold fld1; rw [List.length_append]; have := optF_len nDepends (wholeS p.dep); omega
  have h2 : (fld2 p).length ≤ 4 := by unfold fld2; rw [List.length_append]; have := optF_len nPre (wholeS p.ahead); omega
  have h3 : (fld3 p).length ≤ 5 := by unfold fld3; rw [List.length_append]; have := optF_len nConflicts (singS p.ag); omega
  have h4 : (fld4 p).length ≤ 6 := by unfold fld4; rw [List.length_append]; have := optF_len nBreaks (singS p.br); omega
  have h5 : (fld5 p).length ≤ 7 := by unfold fld5; rw [List.length_append]; have := optF_len nReplaces (singS p.re); omega
  have h6 : (fld6 p).length ≤ 8 := by unfold fld6; rw [List.length_append]; have := optF_len nProvides (singS p.pr); omega
  have h7 : (fld7 p).length ≤ 9 := by unfold fld7; rw [List.length_append]; have := optF_len nConffiles (linesS p.se); omega
  have h8 : (fldB p).length ≤ 10 := by unfold fldB; rw [List.length_append]; have := optF_len nTriggers (linesS p.li); omega
  exact ⟨h0, h1, h2, h3, h4, h5, h6, h7, h8⟩

theorem wholeS_size {L : List (List Tv)} (h : VP.askedP (tmL L) = true) : (wholeS L).size ≤ 200000 := by
  obtain ⟨hlen, hx⟩ := asked_sizes h
  have h1 := joinP_len [44, 32] 4000 ((L.map lineS).map (·.data.toList)) (fun y hy => by
    obtain ⟨s', hs', rfl⟩ := List.mem_map.1 hy
    obtain ⟨x, hx', rfl⟩ := List.mem_map.1 hs'
    obtain ⟨h2, h3⟩ := hx x hx'
    have := lineS_len h3
    omega)
  rw [← joinP_eq, wholeS_eq, List.length_map, List.length_map, ← size_eq_length] at h1
  simp at h1
  exact Nat.le_trans h1 (by omega)
end Go.Proofs.YtodbbfgkclkpgaaGreatDoor

/- stevedorekeep.apart: no path is two packages', or lies beneath another package's: walked. -/
import Derived.Test.YtpbbhjifgaeklaaGreatDoorSOK10
import Derived.Test.YtpbbhjifgaeklaaGreatDoorSOK28
import Derived.Test.YtpbbhjifgaeklaaGreatDoorSOK31
namespace Go.Proofs.YtpbbhjifgaeklaaGreatDoor
open Go Go.RowKit Go.Maps

/-- whose the paths of these owners are -/
def FillIs (M Mf : Fm) (own : List ByteArray) : Prop := ∀ q n, getF Mf q = some n ↔ (n ∈ own ∧ q ∈ pathsM M n)
/-- .. and these of one more -/
def FillIn (M Mf : Fm) (own : List ByteArray) (x : ByteArray) (ps : List ByteArray) : Prop := ∀ q n, getF Mf q = some n ↔ ((n ∈ own ∧ q ∈ pathsM M n) ∨ (n = x ∧ q ∈ ps))
theorem fill_nil (M : Fm) : FillIs M [] [] := fun q n => ⟨fun h => (by cases h), fun h => (by cases h.1)⟩
theorem FillIs.start {M Mf : Fm} {own : List ByteArray} (h : FillIs M Mf own) (x : ByteArray) : FillIn M Mf own x [] := fun q n => by
  rw [h q n]
  exact ⟨fun h => .inl h, fun h => h.elim id fun h => by cases h.2⟩
theorem FillIn.done {M Mf : Fm} {own : List ByteArray} {x : ByteArray} (h : FillIn M Mf own x (pathsM M x)) : FillIs M Mf (own ++ [x]) := fun q n => by
  rw [h q n, List.mem_append, List.mem_singleton]
  constructor
  · rintro (⟨h1, h2⟩ | ⟨rfl, h2⟩)
    · exact ⟨.inl h1, h2⟩
    · exact ⟨.inr rfl, h2⟩
  · rintro ⟨h1 | rfl, h2⟩
    · exact .inl ⟨h1, h2⟩
    · exact .inr ⟨rfl, h2⟩
theorem FillIn.none {M Mf : Fm} {own ps : List ByteArray} {x q : ByteArray} (h : FillIn M Mf own x ps) (hI : OwnInv M) (hx : x ∉ own) (hq : q ∈ pathsM M x) (hp : q ∉ ps) : getF Mf q = Option.none := by
  cases hg : getF Mf q with
  | none => rfl
  | some n =>
    rcases (h q n).1 hg with ⟨h1, h2⟩ | ⟨_, h2⟩
    · exact absurd h2 (hI.one x n q (fun e => hx (by rw [e]; exact h1)) hq)
    · exact absurd h2 hp
theorem FillIn.step {M Mf : Fm} {own ps : List ByteArray} {x q : ByteArray} (h : FillIn M Mf own x ps) (hn : getF Mf q = Option.none) : FillIn M (putF Mf q x) own x (ps ++ [q]) := fun r n => by
  rw [getF_put, List.mem_append, List.mem_singleton]
  by_cases e : r = q
  · subst e
    rw [if_pos rfl]
    constructor
    · intro h'
      exact .inr ⟨(Option.some.inj h').symm, .inr rfl⟩
    · rintro (h' | ⟨rfl, _⟩)
      · have := (h r n).2 (.inl h')
        rw [hn] at this
        cases this
      · rfl
  · rw [if_neg e, h r n]
    constructor
    · rintro (h' | ⟨h1, h2⟩)
      · exact .inl h'
      · exact .inr ⟨h1, .inl h2⟩
    · rintro (h' | ⟨h1, h2 | h2⟩)
      · exact .inl h'
      · exact .inr ⟨h1, h2⟩
      · exact absurd h2 e

theorem gb_below {W W' W'' : World} {r : Option Nat} (h : W.grownBy W' r) (hb : Below W'.heap.size W' W'') : W.grownBy W'' r :=
  ⟨hb.os.trans h.os, hb.tape.trans h.tape, hb.output.trans h.output, Nat.le_trans h.size hb.size, fun k hk hne => (hb.block k (Nat.lt_of_lt_of_le hk h.size)).trans (h.block k hk hne)⟩
theorem gb_turn {W W' W'' : World} {b : Nat} (h : W.grownBy W' (some b)) (ht : W'.mapTurned W'' b) : W.grownBy W'' (some b) :=
  ⟨ht.grown.os.trans h.os, ht.grown.tape.trans h.tape, ht.grown.output.trans h.output, Nat.le_trans h.size ht.grown.size, fun k hk hne => (ht.grown.block k (Nat.lt_of_lt_of_le hk h.size) hne).trans (h.block k hk hne)⟩
theorem gb_refl (W : World) (r : Option Nat) : W.grownBy W r := ⟨rfl, rfl, rfl, Nat.le_refl _, fun _ _ _ => rfl⟩
theorem gb_cell {W W' : World} {b g i : Nat} {v : Value} (h : W.grownBy W' (some b)) (hc : W.cell? ⟨g, i, none⟩ = some v) (hne : g ≠ b) : W'.cell? ⟨g, i, none⟩ = some v :=
  (World.cell?_of_block (a := ⟨g, i, none⟩) (h.block g (cell_lt hc) fun e => hne (by injection e))).trans hc
theorem not_take : ∀ {l : List ByteArray} {k : Nat} {x : ByteArray}, l.Nodup → l[k]? = some x → x ∉ l.take k
  | [], _, _, _, h => by cases h
  | y :: r, 0, _, _, _ => by simp
  | y :: r, k + 1, x, hd, h => by
    obtain ⟨h1, h2⟩ := List.nodup_cons.1 hd
    rw [List.take_succ_cons, List.mem_cons, not_or]
    have hx : r[k]? = some x := h
    exact ⟨fun e => h1 (by rw [← e]; exact List.mem_of_getElem? hx), not_take h2 hx⟩

set_option maxHeartbeats 4000000 in
set_option maxRecDepth 100000 in
theorem apart_calls (sh d : Nat) (D : Dk) (w : World) (hE : Env w) (h : ShAt w sh d D) (hk : DkOk D) (hf : FitD 900000 D) (hI : OwnInv D.now) : Calls Tryz.prog 44 #[.pointer (some ⟨sh, 0, none⟩)] w (BoolIs true w) := by
  have hmm := @run_makeMap Tryz.prog
  have CO := Lib.hid (fun (W : World) (hb : Below w.heap.size w W) => owners_calls sh d D W (h.keep hb) hk)
  have CP := Lib.hid (fun (W : World) (hb : Below w.heap.size w W) (n : ByteArray) (hn : n.size ≤ 80) => paths_row sh d D n W (hE.below hb) (h.keep hb) (hf.mono (by omega)) (by omega))
  have HON := Lib.hid (ownersD_size hf)
  have HOL := Lib.hid (ownersD_len hk)
  have HPL := Lib.hid (fun n => paths_few hf n)
  have HI := Lib.hid hI
  have HND := Lib.hid (srt_names hI.ris owP).nodup
  obtain ⟨M, hM⟩ : ∃ M, D.now = M := ⟨_, rfl⟩
  have HPM : Hid (∀ n, pathsD D n = pathsM M n) := Lib.hid (fun n => by rw [← hM]; rfl)
  rw [show namesL owP (keysF D.now) = ownersD D from rfl] at HND
  obtain ⟨own, hown⟩ : ∃ own, ownersD D = own := ⟨_, rfl⟩
  rw [hown] at CO HON HOL HND
  rw [hM] at HI
  have HOWN : Hid (ownersM M = own) := Lib.hid (by rw [← hown, ← hM]; rfl)
  obtain ⟨bm, hbm⟩ : ∃ b, w.heap.size = b := ⟨_, rfl⟩
  have HBM := Lib.hid hbm
  have HM0 := Lib.hid (mapAt_new w)
  have HB0 := Lib.hid (below_alloc w (.map #[] 0))
  rw [hbm] at HM0
  clear hE h hk hf hI hM hown
  go_enter Tryz.func44, Tryz.ntmps44
  go_upto_region 2 with fail
  (try rw [hbm])
  obtain ⟨W0, hW0⟩ : ∃ W, w.alloc (.map #[] 0) = W := ⟨_, rfl⟩
  rw [hW0] at HM0 HB0
  (try rw [hW0])
  clear hbm hW0
  go_wp2_with fail
  refine (CO.out _ HB0.out).mono ?_
  rintro E w1 ⟨vo, rfl, hU, hb1⟩
  have HB1 := Lib.hid (step_below HB0.out hb1)
  have HM1 := Lib.hid (HM0.out.keep (hb1.block _ HM0.out.1.lt))
  obtain ⟨Ao, co, rfl, hco, hmo, hro⟩ := hU.1.open
  obtain ⟨len, hlen⟩ : ∃ l, own.length = l := ⟨_, rfl⟩
  have HL := Lib.hid hlen
  have HRO := Lib.hid (And.intro hro hU.2)
  have HZ0 := Lib.hid hb1.size
  rw [hlen] at hco hmo HOL ⊢
  clear hU hb1 CO hro hlen
  go_wp2_with fail
  go_loopw [16] (fun i wr => ∃ (k : Nat) (Mf : Fm), k ≤ len ∧ i = .int .i64 k ∧ Hid (MapAt wr bm Mf) ∧ Hid (Mf.length ≤ k * 1000001) ∧ Hid (FillIs M Mf (own.take k)) ∧ Hid (w1.grownBy wr (some bm)) ∧ Hid (Below w.heap.size w wr)) (fun i _ => len - (intOf i).toNat)
  case atStart => exact ⟨0, [], Nat.zero_le _, rfl, HM1, Lib.hid (Nat.zero_le _), Lib.hid (fill_nil M), Lib.hid (gb_refl _ _), HB1⟩
  case round =>
    obtain ⟨k, Mf, hk, rfl, hmf, hml, hfl, hgb, hB⟩ := hrel
    by_cases hlt : k < len
    · obtain ⟨x, ht⟩ : ∃ x, own[k]? = some x := ⟨own[k]'(by have := HL.out; omega), List.getElem?_eq_getElem _⟩
      have hne : own ≠ [] := fun e => by rw [e] at ht; cases ht
      obtain ⟨bo, oo, rfl, hio⟩ := HRO.out.1 hne
      have hbo : bo ≠ bm := by
        have h1 := HRO.out.2 bo oo _ _ rfl
        have h2 := HM0.out.1.lt
        omega
      have c0 := gb_cell hgb.out (hio k x ht) hbo
      have hx80 := HON.out x (List.mem_of_getElem? ht)
      have HNT := Lib.hid (not_take HND.out ht)
      have HTK : Hid (own.take (k + 1) = own.take k ++ [x]) := Lib.hid (by rw [List.take_add_one, ht]; rfl)
      have C1 := Lib.hid (CP.out wr hB.out x hx80)
      have HPX := Lib.hid (HPL.out x)
      rw [HPM.out] at C1 HPX
      obtain ⟨P, hPP⟩ : ∃ P, pathsM M x = P := ⟨_, rfl⟩
      have HPP := Lib.hid hPP
      rw [hPP] at C1 HPX
      have hk5 : k < 5000 := by have := HOL.out; omega
      clear ht hio hne hPP hbo
      go_wp2_with fail
      refine C1.out.mono ?_
      rintro E w2 ⟨v2, rfl, hro2, hb2⟩
      obtain ⟨A2, c2, hv2, hc2, hm2, hr2⟩ := (hro2.strs (by have := HPX.out; omega)).1.open
      have HR2 : Hid (∀ (j : Nat) (q : ByteArray), P[j]? = some q → ∃ g, A2 = some ⟨g, 0, none⟩ ∧ wr.heap.size ≤ g ∧ w2.cell? ⟨g, j, none⟩ = some (.string q)) := Lib.hid (fun j q hq => by
        obtain ⟨g, e, hg, hk⟩ := hro2.blk hq
        rw [hv2] at e
        injection e with e _ _
        exact ⟨g, e, hg, row_cell hk hq⟩)
      subst hv2
      obtain ⟨len2, hlen2⟩ : ∃ l, P.length = l := ⟨_, rfl⟩
      have HL2 := Lib.hid hlen2
      rw [hlen2] at hc2 hm2 HPX ⊢
      have HM2 := Lib.hid (hmf.out.keep (hb2.block _ hmf.out.1.lt))
      have HG2 := Lib.hid (gb_below hgb.out hb2)
      have HB2 := Lib.hid (step_below hB.out hb2)
      have HBR := Lib.hid hmf.out.1.lt
      clear hro2 hr2 hb2 C1 hlen2 c0
      have HML0 : Hid (Mf.length ≤ k * 1000001 + 0) := Lib.hid (Nat.le_trans hml.out (Nat.le_add_right _ _))
      have HFI0 : Hid (FillIn M Mf (own.take k) x (P.take 0)) := Lib.hid (by rw [List.take_zero]; exact hfl.out.start x)
      go_wp2_with fail
      go_loopw [24] (fun i wy => ∃ (k2 : Nat) (Mg : Fm), k2 ≤ len2 ∧ i = .int .i64 k2 ∧ Hid (MapAt wy bm Mg) ∧ Hid (Mg.length ≤ k * 1000001 + k2) ∧ Hid (FillIn M Mg (own.take k) x (P.take k2)) ∧ Hid (w2.grownBy wy (some bm)) ∧ Hid (w1.grownBy wy (some bm)) ∧ Hid (Below w.heap.size w wy)) (fun i _ => len2 - (intOf i).toNat)
      case atStart => exact ⟨0, Mf, Nat.zero_le _, rfl, HM2, HML0, HFI0, Lib.hid (gb_refl _ _), HG2, HB2⟩
      case round =>
        obtain ⟨k2, Mg, hk2, rfl, hmg, hmgl, hfi, hgy, hg1, hBy⟩ := hrel
        by_cases hlt2 : k2 < len2
        · obtain ⟨q, hq⟩ : ∃ q, P[k2]? = some q := ⟨P[k2]'(by have := HL2.out; omega), List.getElem?_eq_getElem _⟩
          obtain ⟨g2, rfl, hgr, hcq⟩ := HR2.out k2 q hq
          have c0 := gb_cell hgy.out hcq (by have := HBR.out; omega)
          have hqm : q ∈ pathsM M x := by rw [HPP.out]; exact List.mem_of_getElem? hq
          have hnn := hfi.out.none HI.out HNT.out hqm (not_take (by rw [← HPP.out]; exact HI.out.nodup x) hq)
          have HFS : Hid (FillIn M (putF Mg q x) (own.take k) x (P.take (k2 + 1))) := Lib.hid (by
            have := hfi.out.step hnn
            rwa [show P.take (k2 + 1) = P.take k2 ++ [q] by rw [List.take_add_one, hq]; rfl])
          have hq60 : q.size ≤ 60 := (path_no (HI.out.path x q hqm)).2.1
          have hlook := hmg.out.look1 q (by unfold maxLen; omega)
          rw [hnn] at hlook
          simp only [Option.getD_none] at hlook
          have HPXo := HPX.out
          have HMLo := hmgl.out
          obtain ⟨W', hrun, hM', hturn⟩ := hmg.out.store q x (by unfold maxLen; omega) (by unfold maxLen; omega) (by unfold maxLen; omega)
          have HM' := Lib.hid hM'
          have HLP : Hid ((putF Mg q x).length ≤ k * 1000001 + (k2 + 1)) := Lib.hid (by have := len_put_le Mg q x; omega)
          have HG' := Lib.hid (gb_turn hgy.out hturn)
          have HG1' := Lib.hid (gb_turn hg1.out hturn)
          have HB' := Lib.hid (below_turned hBy.out (Nat.le_of_eq HBM.out) hBy.out.size hturn)
          clear hM' hturn hqm hnn hcq hgr hq HMLo
          go_wp2_with fail
          go_roundw
          case rel => first | exact ⟨k2 + 1, _, by omega, by go_num, HM', HLP, HFS, HG', HG1', HB'⟩ | ((repeat apply Exists.intro); exact ⟨⟨k2 + 1, _, by omega, by go_num, HM', HLP, HFS, HG', HG1', HB'⟩, rfl⟩)
          case measure => simp [intOf]; omega
        · obtain rfl : k2 = len2 := by omega
          have HFD : Hid (FillIs M Mg (own.take (k + 1))) := Lib.hid (by
            rw [HTK.out]
            refine FillIn.done ?_
            have := hfi.out
            rwa [show P.take k2 = P from List.take_of_length_le (by have := HL2.out; omega), ← HPP.out] at this)
          have HLN : Hid (Mg.length ≤ (k + 1) * 1000001) := Lib.hid (by have := hmgl.out; have := HPX.out; omega)
          go_wp2_with fail
          go_roundw
          case rel => first | exact ⟨k + 1, Mg, by omega, by go_num, hmg, HLN, HFD, hg1, hBy⟩ | ((repeat apply Exists.intro); exact ⟨⟨k + 1, Mg, by omega, by go_num, hmg, HLN, HFD, hg1, hBy⟩, rfl⟩)
          case measure => simp [intOf]; omega
    · obtain rfl : k = len := by omega
      have HFA : Hid (FillIs M Mf own) := Lib.hid (by have := hfl.out; rwa [List.take_of_length_le (by have := HL.out; omega)] at this)
      have hmap := hmf.out
      clear hfl hml hgb
      go_wp2_with (at_range; refine wpList_rangeF _ rfl _ rfl bm Mf rfl hmap ?_; intro w5 hr5 hg5 hs5)
      go_frame
      obtain ⟨r1, hr1⟩ : ∃ r, wr.heap.size = r := ⟨_, rfl⟩
      rw [hr1] at hr5 ⊢
      have HR5 := Lib.hid hr5
      have HB5 := Lib.hid (hB.out.grown hg5 hB.out.size (fun g e => by cases e))
      have HRL := Lib.hid (show bm < r1 by have := hmf.out.1.lt; omega)
      clear hr5 hg5 hs5 hmap hr1
      go_loopw [8, 9] (fun _ _ wr => ∃ (left : Lit → Bool) (cnt : Nat), Hid (RangesF wr bm r1 Mf left cnt) ∧ Hid (Below w.heap.size w wr)) (fun _ _ wr => wr.rangeLeft bm r1)
      case atStart => exact ⟨_, _, HR5, HB5⟩
      case round =>
        obtain ⟨left, cnt, hrg, hBx⟩ := hrel
        have hrgo := hrg.out
        go_wp2_with (at_next; refine wpList_nextF _ rfl _ rfl bm r1 Mf left cnt rfl hrgo ?_ ?_)
        · intro hc0 hl0
          go_wp2_with fail
          go_ret
          exact ⟨rfl, hBx.out⟩
        · intro p n w6 cnt1 hgp hlp hrg1 hlt1 hg1 hs1 hen
          have HGP := Lib.hid ((HFA.out p n).1 hgp)
          have HR1 := Lib.hid hrg1
          have HLT := Lib.hid hlt1
          have HB6 := Lib.hid (hBx.out.grown hg1 hBx.out.size (fun g e => by injection e with e; have := HRL.out; have := HBM.out; omega))
          have hmap := hrg1.map
          clear hgp hlp hrg1 hlt1 hg1 hs1 hrgo
          go_wp2_with (at_range; refine wpList_rangeF _ rfl _ rfl bm Mf rfl hmap ?_; intro w7 hr7 hg7 hs7)
          go_frame
          obtain ⟨r2, hr2⟩ : ∃ r, w6.heap.size = r := ⟨_, rfl⟩
          rw [hr2] at hr7 ⊢
          have HR7 := Lib.hid hr7
          have HRL2 := Lib.hid (show r1 < r2 by have := HR1.out.1.lt; omega)
          have HR1' := Lib.hid (HR1.out.kept hg7 (by simp) (by simp))
          have HB7 := Lib.hid (HB6.out.grown hg7 HB6.out.size (fun g e => by cases e))
          clear hr7 hg7 hs7 hmap hr2 HR1 HB6
          go_loopw [10, 11] (fun _ _ wr => ∃ (left2 : Lit → Bool) (cnt2 : Nat), Hid (RangesF wr bm r2 Mf left2 cnt2) ∧ Hid (RangesF wr bm r1 Mf (fun z => left z && !z.sameKey (.string p.data.toList)) cnt1) ∧ Hid (Below w.heap.size w wr)) (fun _ _ wr => wr.rangeLeft bm r2)
          case atStart => exact ⟨_, _, HR7, HR1', HB7⟩
          case round =>
            obtain ⟨left2, cnt2, hrg2, hrg1', hBy⟩ := hrel
            have hrgo := hrg2.out
            go_wp2_with (at_next; refine wpList_nextF _ rfl _ rfl bm r2 Mf left2 cnt2 rfl hrgo ?_ ?_)
            · intro hc0 hl0
              have HE1 := Lib.hid hrg1'.out.1.left_eq
              have HE0 := Lib.hid hrg.out.1.left_eq
              go_wp2_with fail
              go_roundw
              case rel => first | exact ⟨_, _, hrg1', hBy⟩ | ((repeat apply Exists.intro); exact ⟨⟨_, _, hrg1', hBy⟩, rfl⟩)
              case measure => rw [HE1.out, HE0.out]; exact HLT.out
            · intro q m w8 cnt3 hgq hlq hrg3 hlt3 hg3 hs3 hen2
              have HGQ := Lib.hid ((HFA.out q m).1 hgq)
              have HR3 := Lib.hid hrg3
              have HR1b := Lib.hid (hrg1'.out.kept hg3 (by intro e; injection e with e; have := HRL.out; have := HRL2.out; omega) (by intro e; injection e with e; have := HRL2.out; omega))
              have HB8 := Lib.hid (hBy.out.grown hg3 hBy.out.size (fun g e => by injection e with e; have := HRL.out; have := HRL2.out; have := HBM.out; omega))
              have HLT3 := Lib.hid hlt3
              have HE3 := Lib.hid hrg3.1.left_eq
              have HE2 := Lib.hid hrg2.out.1.left_eq
              have hp60 : p.size ≤ 60 := (path_no (HI.out.path n p HGP.out.2)).2.1
              have z1 : ¬ 9223372036854775807 < p.size + 1 := by omega
              obtain ⟨bn, hbn⟩ : ∃ b, decide (n = m) = b := ⟨_, rfl⟩
              have hn1 : (n.toList == m.toList) = bn := by rw [← hbn]; exact name_eq n m
              have hn2 : (n.toList != m.toList) = !bn := by rw [← hn1]; rfl
              have HBN := Lib.hid hbn
              clear hgq hlq hrg3 hlt3 hg3 hs3 hrgo hbn
              cases bn
              · have CF := Lib.hid (pref_calls q (p ++ slB) w8)
                rw [show hasP (p ++ slB) q = false from HI.out.apart n m p q (of_decide_eq_false HBN.out) HGP.out.2 HGQ.out.2] at CF
                unfold slB at CF
                go_wp2_with fail
                refine CF.out.mono ?_
                rintro E w9 ⟨rfl, rfl⟩
                go_wp2_with fail
                go_roundw
                case rel => first | exact ⟨_, _, HR3, HR1b, HB8⟩ | ((repeat apply Exists.intro); exact ⟨⟨_, _, HR3, HR1b, HB8⟩, rfl⟩)
                case measure => rw [HE3.out, HE2.out]; exact HLT3.out
              · go_wp2_with fail
                go_roundw
                case rel => first | exact ⟨_, _, HR3, HR1b, HB8⟩ | ((repeat apply Exists.intro); exact ⟨⟨_, _, HR3, HR1b, HB8⟩, rfl⟩)
                case measure => rw [HE3.out, HE2.out]; exact HLT3.out
end Go.Proofs.YtpbbhjifgaeklaaGreatDoor

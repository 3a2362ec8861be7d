/- The reference's PrintTerms: how what is asked for is written. · The reference's PrintTerms: the walk. -/
import Derived.Test.YtodbbfgkclkpgaaGreatDoorRK25
import Derived.Test.YtodbbfgkclkpgaaGreatDoorRK28
import Derived.Deep.RegionHeld3
namespace Go.Proofs.YtodbbfgkclkpgaaGreatDoor
open Go.RowKit

set_option maxRecDepth 100000 in
theorem signOf_calls (k : Nat) (hk : k < 6) (w : World) : Calls Tryz.prog 123 #[.int .i64 (k : Int)] w fun E w' => E = .returned (.string (signS k)) ∧ w = w' := by
  have h : k = 0 ∨ k = 1 ∨ k = 2 ∨ k = 3 ∨ k = 4 ∨ k = 5 := by omega
  have xi : ∀ (k : Nat), k < 6 → ∀ W : World, (Instr.index 199 (.agg #[.string ⟨#[]⟩, .string ⟨#[60, 60]⟩, .string ⟨#[60, 61]⟩, .string ⟨#[61]⟩, .string ⟨#[62, 61]⟩, .string ⟨#[62, 62]⟩]) (.int .i64 (k : Int))).run Tryz.prog W = .ok (.string (signS k)) W := by
    intro k hk W
    have h : k = 0 ∨ k = 1 ∨ k = 2 ∨ k = 3 ∨ k = 4 ∨ k = 5 := by omega
    rcases h with rfl | rfl | rfl | rfl | rfl | rfl
    · exact (by kernel_rfl : (Instr.index 199 (.agg #[.string ⟨#[]⟩, .string ⟨#[60, 60]⟩, .string ⟨#[60, 61]⟩, .string ⟨#[61]⟩, .string ⟨#[62, 61]⟩, .string ⟨#[62, 62]⟩]) (.int .i64 0)).run Tryz.prog W = .ok (.string ⟨#[]⟩) W)
    · exact (by kernel_rfl : (Instr.index 199 (.agg #[.string ⟨#[]⟩, .string ⟨#[60, 60]⟩, .string ⟨#[60, 61]⟩, .string ⟨#[61]⟩, .string ⟨#[62, 61]⟩, .string ⟨#[62, 62]⟩]) (.int .i64 1)).run Tryz.prog W = .ok (.string ⟨#[60, 60]⟩) W)
    · exact (by kernel_rfl : (Instr.index 199 (.agg #[.string ⟨#[]⟩, .string ⟨#[60, 60]⟩, .string ⟨#[60, 61]⟩, .string ⟨#[61]⟩, .string ⟨#[62, 61]⟩, .string ⟨#[62, 62]⟩]) (.int .i64 2)).run Tryz.prog W = .ok (.string ⟨#[60, 61]⟩) W)
    · exact (by kernel_rfl : (Instr.index 199 (.agg #[.string ⟨#[]⟩, .string ⟨#[60, 60]⟩, .string ⟨#[60, 61]⟩, .string ⟨#[61]⟩, .string ⟨#[62, 61]⟩, .string ⟨#[62, 62]⟩]) (.int .i64 3)).run Tryz.prog W = .ok (.string ⟨#[61]⟩) W)
    · exact (by kernel_rfl : (Instr.index 199 (.agg #[.string ⟨#[]⟩, .string ⟨#[60, 60]⟩, .string ⟨#[60, 61]⟩, .string ⟨#[61]⟩, .string ⟨#[62, 61]⟩, .string ⟨#[62, 62]⟩]) (.int .i64 4)).run Tryz.prog W = .ok (.string ⟨#[62, 61]⟩) W)
    · exact (by kernel_rfl : (Instr.index 199 (.agg #[.string ⟨#[]⟩, .string ⟨#[60, 60]⟩, .string ⟨#[60, 61]⟩, .string ⟨#[61]⟩, .string ⟨#[62, 61]⟩, .string ⟨#[62, 62]⟩]) (.int .i64 5)).run Tryz.prog W = .ok (.string ⟨#[62, 62]⟩) W)
  have x1 := xi k hk
  clear xi h
  go_enter Tryz.func123, Tryz.ntmps123
  go_wp2_with fail
  go_ret
  exact ⟨rfl, rfl⟩

/-! what has been written -/
theorem joinP_snoc (sep : List UInt8) (y : List UInt8) : ∀ xs : List (List UInt8), VP.joinP sep (xs ++ [y]) = if xs = [] then y else VP.joinP sep xs ++ (sep ++ y)
  | [] => rfl
  | [x] => rfl
  | x :: z :: r => by
    have ih := joinP_snoc sep y (z :: r)
    rw [if_neg (by simp)] at ih ⊢
    rw [List.cons_append, List.cons_append, VP.joinP, ← List.cons_append, ih, VP.joinP]
    simp

/-- so many lines, and so many of the next line's terms -/
def upTo (L : List (List Tv)) (k : Nat) : List UInt8 := VP.joinP [44, 32] (((L.take k).map fun x => x.map Tv.tm).map VP.lineP)
def inTo (L : List (List Tv)) (k : Nat) (x : List Tv) (j : Nat) : List UInt8 :=
  if j = 0 then upTo L k else upTo L k ++ ((if k = 0 then [] else [44, 32]) ++ VP.joinP [32, 124, 32] (((x.take j).map Tv.tm).map VP.oneP))

theorem inTo_next {L : List (List Tv)} {k : Nat} {x : List Tv} {j : Nat} {t : Tv} (ht : x[j]? = some t) :
    inTo L k x (j + 1) = inTo L k x j ++ ((if j = 0 then (if k = 0 then [] else [44, 32]) else [32, 124, 32]) ++ VP.oneP t.tm) := by
  unfold inTo
  rw [if_neg (by omega), List.take_add_one, ht]
  simp only [Option.toList_some, List.map_append, List.map_cons, List.map_nil]
  rw [joinP_snoc]
  by_cases hj : j = 0
  · subst hj
    simp
  · have hne : ((x.take j).map Tv.tm).map VP.oneP ≠ [] := by
      have hjl : j < x.length := (List.getElem?_eq_some_iff.1 ht).1
      intro e
      have := congrArg List.length e
      rw [List.length_map, List.length_map, List.length_take, List.length_nil] at this
      omega
    rw [if_neg hj, if_neg hj, if_neg hne]
    simp

theorem inTo_done {L : List (List Tv)} {k : Nat} {x : List Tv} (hx : L[k]? = some x) (hne : x ≠ []) : inTo L k x x.length = upTo L (k + 1) := by
  have h0 : x.length ≠ 0 := fun e => hne (List.eq_nil_of_length_eq_zero e)
  unfold inTo upTo
  rw [if_neg h0, List.take_length, List.take_add_one, hx]
  simp only [Option.toList_some, List.map_append, List.map_cons, List.map_nil]
  rw [joinP_snoc]
  by_cases hk : k = 0
  · subst hk
    simp [VP.joinP, VP.lineP]
  · have hne2 : ((L.take k).map fun x => x.map Tv.tm).map VP.lineP ≠ [] := by
      have hkl : k < L.length := (List.getElem?_eq_some_iff.1 hx).1
      intro e
      have := congrArg List.length e
      rw [List.length_map, List.length_map, List.length_take, List.length_nil] at this
      omega
    rw [if_neg hk, if_neg hne2]
    rfl
end Go.Proofs.YtodbbfgkclkpgaaGreatDoor

namespace Go.Proofs.YtodbbfgkclkpgaaGreatDoor
open Go.RowKit

def RefPrintTIs (L : List (List Tv)) (n : Int) (w : World) (E : Ending) (w' : World) : Prop := E = .returned (.tuple #[.string (if VP.askedP (tmL L) then wholeS L else ⟨#[]⟩), .int .i64 n]) ∧ Below w.heap.size w w'

set_option maxRecDepth 100000 in
theorem refPrintT_no (v : Value) (L : List (List Tv)) (w : World) (hE : Env w) (h : AskedAt w v L) (hs : ∀ x ∈ L, ∀ t ∈ x, t.small) (h40 : ∀ x ∈ L, x.length ≤ 1000) (hno : VP.askedP (tmL L) = false) :
    Calls Tryz.prog 54 #[v] w (RefPrintTIs L 1 w) := by
  have H := Lib.hid (refAsked_calls v L w hE h hs h40)
  rw [hno] at H
  have HNO := Lib.hid hno
  clear hno h hs hE h40
  go_enter Tryz.func54, Tryz.ntmps54
  go_wp2_with fail
  refine H.out.mono ?_
  rintro E w1 ⟨rfl, hb⟩
  go_wp2_with fail
  go_ret2
  exact ⟨by rw [HNO.out]; rfl, hb⟩

/-- the term's cells, and what lay before -/
def Fiv (w : World) (b : Nat) (n : ByteArray) (op e : Int) (u r : ByteArray) (W : World) : Prop :=
  W.cell? ⟨b, 0, none⟩ = some (.string n) ∧ W.cell? ⟨b, 1, none⟩ = some (.int .i64 op) ∧ W.cell? ⟨b, 2, none⟩ = some (.int .i64 e) ∧ W.cell? ⟨b, 3, none⟩ = some (.string u) ∧ W.cell? ⟨b, 4, none⟩ = some (.string r) ∧ Below w.heap.size w W
theorem fiv_go {w W W' : World} {b : Nat} {n : ByteArray} {op e : Int} {u r : ByteArray} (h : Fiv w b n op e u r W) (hb : Below W.heap.size W W') : Fiv w b n op e u r W' := by
  obtain ⟨h1, h2, h3, h4, h5, h7⟩ := h
  exact ⟨kept hb h1, kept hb h2, kept hb h3, kept hb h4, kept hb h5, step_below h7 hb⟩
theorem fiv_below {w W : World} {b : Nat} {n : ByteArray} {op e : Int} {u r : ByteArray} (h : Fiv w b n op e u r W) : Below w.heap.size w W := h.2.2.2.2.2

set_option maxHeartbeats 4000000 in
set_option maxRecDepth 100000 in
theorem refPrintT_yes (v : Value) (L : List (List Tv)) (w : World) (hE : Env w) (h : AskedAt w v L) (hs : ∀ x ∈ L, ∀ t ∈ x, t.small) (h40 : ∀ x ∈ L, x.length ≤ 1000) (hyes : VP.askedP (tmL L) = true) :
    Calls Tryz.prog 54 #[v] w (RefPrintTIs L 0 w) := by
  have H := Lib.hid (refAsked_calls v L w hE h hs h40)
  rw [hyes] at H
  have HY := Lib.hid hyes
  obtain ⟨hlen30, hx30⟩ := asked_sizes hyes
  have HNE := Lib.hid (fun (x : List Tv) (hx : x ∈ L) => show x ≠ [] from by
    have := (((VP.askedP_iff _).1 hyes).each (x.map Tv.tm) (List.mem_map.2 ⟨x, hx, rfl⟩)).1
    simpa using this)
  clear hyes
  obtain ⟨A, c, rfl, hc, hm, hr⟩ := h
  obtain ⟨len, hlen⟩ : ∃ len, L.length = len := ⟨_, rfl⟩
  have HL := Lib.hid hlen
  have HS := Lib.hid hs
  clear h40
  have HR := Lib.hid hr
  have HX30 := Lib.hid hx30
  rw [hlen] at hc hm hlen30 H ⊢
  clear hlen hr hs hx30
  go_enter Tryz.func54, Tryz.ntmps54
  go_wp2_with fail
  refine H.out.mono ?_
  rintro E w1 ⟨rfl, hb1⟩
  have HB1 := Lib.hid hb1
  have hE1 := hE.below hb1
  clear hE H hb1
  go_wp2_with fail
  go_loopw [4, 14] (fun s4 i wr => ∃ (k : Nat) (S : ByteArray), k ≤ len ∧ i = .int .i64 k ∧ s4 = .string S ∧ Hid (S.data.toList = upTo L k) ∧ S.size ≤ k * 10000 ∧ Below w1.heap.size w1 wr) (fun _ i _ => len - (intOf i).toNat)
  case atStart => exact ⟨0, ⟨#[]⟩, Nat.zero_le _, rfl, rfl, rfl, by decide, Below.refl _ _⟩
  case round =>
    obtain ⟨k, S0, hk, rfl, rfl, hS0, hS0z, hB⟩ := hrel
    by_cases hlt : k < len
    · have hne : L ≠ [] := by
        intro e
        have := HL.out
        rw [e] at this
        simp at this
        omega
      obtain ⟨x, hx⟩ : ∃ x, L[k]? = some x := ⟨L[k]'(by have := HL.out; omega), List.getElem?_eq_getElem _⟩
      obtain ⟨b, off, rfl, hi'⟩ := HR.out hne
      obtain ⟨vx, hc0, hT⟩ := hi' k x hx
      clear hi' hne
      have hBw := step_below HB1.out hB
      have hT1 := hT.below hBw
      have c0 := kept hBw hc0
      have HX := Lib.hid hx
      have HSX := Lib.hid (HS.out x (List.mem_of_getElem? hx))
      have HXN := Lib.hid (HNE.out x (List.mem_of_getElem? hx))
      obtain ⟨hx30, hxr⟩ := HX30.out x (List.mem_of_getElem? hx)
      have HXR := Lib.hid hxr
      obtain ⟨A', c', rfl, hc', hm', hr'⟩ := hT1
      have HR' := Lib.hid hr'
      clear hx hc0 hT hr' hxr hBw
      obtain ⟨xl, hxl⟩ : ∃ xl, x.length = xl := ⟨_, rfl⟩
      have HXL := Lib.hid hxl
      rw [hxl] at hc' hm' c0 hx30
      clear hxl
      obtain ⟨wo, rfl⟩ : ∃ wo : World, wo = wr := ⟨_, rfl⟩
      have HBo := Lib.hid hB
      have hEo := hE1.below hB
      clear hB
      go_wp2_with fail
      clear c0
      go_loopw [4, 21] (fun s4 i wr => ∃ (j : Nat) (S : ByteArray), j ≤ xl ∧ i = .int .i64 j ∧ s4 = .string S ∧ Hid (S.data.toList = inTo L k x j) ∧ S.size ≤ k * 10000 + j * 200 ∧ Below wo.heap.size wo wr) (fun _ i _ => xl - (intOf i).toNat)
      case atStart => exact ⟨0, S0, Nat.zero_le _, rfl, rfl, Lib.hid (hS0.out.trans (by unfold inTo; rw [if_pos rfl])), by omega, Below.refl _ _⟩
      case round =>
        obtain ⟨j, S, hj, rfl, rfl, hS, hSz, hB⟩ := hrel
        by_cases hjt : j < xl
        · obtain ⟨t, ht⟩ : ∃ t, x[j]? = some t := ⟨x[j]'(by have := HXL.out; omega), List.getElem?_eq_getElem _⟩
          have hxne : x ≠ [] := HXN.out
          obtain ⟨b', off', rfl, hi'⟩ := HR'.out hxne
          obtain ⟨hT0, hok⟩ := hi' j t ht
          clear hi' hxne
          have hsm := HSX.out t (List.mem_of_getElem? ht)
          have hrt := HXR.out t (List.mem_of_getElem? ht)
          have hT := hT0.below hB
          have HIN := Lib.hid (inTo_next (L := L) (k := k) ht)
          have HOL := Lib.hid (oneP_len hrt)
          have hb1 := below_alloc wr (.cells #[.string t.n, .int .i64 t.op, .int .i64 t.e, .string t.u, .string t.r] 99)
          have hB1 := step_below hB hb1
          have hEr := hEo.below hB1
          obtain ⟨n, op, e, u, r⟩ := t
          obtain ⟨hs1, hs2, hs3, hk1, hk2, hk3, hk4⟩ := hsm
          obtain ⟨c0, c1, c2, c3, c4⟩ := hT
          dsimp only at c0 c1 c2 c3 c4 hs1 hs2 hs3 hk1 hk2 hk3 hk4 hb1 hB1 hEr
          have hnlen : n.size ≤ 24 := by
            have := hrt.nm.hi
            rw [size_eq_length]
            exact this
          have HRK := Lib.hid hrt.k
          have hB0 := Lib.hid hB
          clear ht hT0 hok hb1 hB hk3 hk4 hrt
          have hkz : k * 10000 ≤ 300000 := by omega
          have hsz1 : S.size ≤ 400000 := by omega
          -- what is written ahead of it
          have hsep : (∃ p : ByteArray, Hid (p.data.toList = (if j = 0 then (if k = 0 then [] else [44, 32]) else [32, 124, 32])) ∧ ((¬ 0 < j ∧ ¬ 0 < k ∧ p = ⟨#[]⟩) ∨ (¬ 0 < j ∧ 0 < k ∧ p = ⟨#[44, 32]⟩) ∨ (0 < j ∧ p = ⟨#[32, 124, 32]⟩))) := by
            rcases Nat.eq_zero_or_pos j with hj0 | hj0
            · rcases Nat.eq_zero_or_pos k with hk0 | hk0
              · exact ⟨⟨#[]⟩, Lib.hid (by rw [if_pos hj0, if_pos hk0]), .inl ⟨by omega, by omega, rfl⟩⟩
              · exact ⟨⟨#[44, 32]⟩, Lib.hid (by rw [if_pos hj0, if_neg (by omega)]), .inr (.inl ⟨by omega, hk0, rfl⟩)⟩
            · exact ⟨⟨#[32, 124, 32]⟩, Lib.hid (by rw [if_neg (by omega)]), .inr (.inr ⟨hj0, rfl⟩)⟩
          obtain ⟨p, HP, hp⟩ := hsep
          rcases HRK.out with ⟨h0, _⟩ | ⟨hop, hv⟩
          · obtain rfl : op = 0 := h0
            have HO := Lib.hid (show VP.oneP (Tv.tm ⟨n, 0, e, u, r⟩) = n.data.toList by unfold VP.oneP; exact if_pos rfl)
            rcases hp with ⟨hj0, hk0, rfl⟩ | ⟨hj0, hk0, rfl⟩ | ⟨hj0, rfl⟩
            · go_wp2_with fail
              go_roundw
              case rel => exact ⟨j + 1, _, by omega, by go_num, rfl, Lib.hid (by rw [HIN.out, append_data, hS.out, HO.out, ← HP.out]; simp), by rw [ByteArray.size_append]; omega, hB1⟩
              case measure => simp [intOf]; omega
            · go_wp2_with fail
              go_roundw
              case rel => exact ⟨j + 1, _, by omega, by go_num, rfl, Lib.hid (by rw [HIN.out, append_data, append_data, hS.out, HO.out, ← HP.out]; simp), by rw [ByteArray.size_append, ByteArray.size_append]; show S.size + 2 + n.size ≤ _; omega, hB1⟩
              case measure => simp [intOf]; omega
            · go_wp2_with fail
              go_roundw
              case rel => exact ⟨j + 1, _, by omega, by go_num, rfl, Lib.hid (by rw [HIN.out, append_data, append_data, hS.out, HO.out, ← HP.out]; simp), by rw [ByteArray.size_append, ByteArray.size_append]; show S.size + 3 + n.size ≤ _; omega, hB1⟩
              case measure => simp [intOf]; omega
          · have hop' : op = 1 ∨ op = 2 ∨ op = 3 ∨ op = 4 ∨ op = 5 := hop
            obtain ⟨q, rfl⟩ : ∃ q : Nat, op = (q : Int) := ⟨op.toNat, by omega⟩
            have hq1 : 1 ≤ q := by omega
            have hq6 : q < 6 := by omega
            clear hop hop'
            have hv' : VP.RightP e u.data.toList r.data.toList := hv
            have hTl := hv'.len
            obtain ⟨T, hTe⟩ : ∃ T : ByteArray, T = ⟨(VP.printP e u.data.toList r.data.toList).toArray⟩ := ⟨_, rfl⟩
            have hTz : T.size ≤ 40 := by rw [size_eq_length, hTe]; exact hTl
            have HT' := Lib.hid (show T.data.toList = VP.printP e u.data.toList r.data.toList by rw [hTe])
            clear hv hv' hTl hTe
            obtain ⟨sg, hsg⟩ : ∃ sg, signS q = sg := ⟨_, rfl⟩
            have hsgz : sg.size ≤ 2 := by rw [← hsg]; exact signS_size q
            have HSG := Lib.hid (show sg.data.toList = VP.signP (q : Int) by rw [← hsg]; rfl)
            have C1 := Lib.hid (fun (W : World) => signOf_calls q hq6 W)
            rw [hsg] at C1
            have C2 : Hid (Gives (wr.alloc (.cells #[.string n, .int .i64 (q : Int), .int .i64 e, .string u, .string r] 99)) 52 #[.agg #[.int .i64 e, .string u, .string r]] (.string T)) :=
              fun W hb => (refPrint_calls e u r W (hEr.below hb) hk1 hk2 (by omega) (by omega)).mono fun E W' ⟨t', he, ht, hb'⟩ => ⟨by rw [he]; congr 2; exact data_inj (ht.trans HT'.out.symm), hb'⟩
            clear hsg hEr
            have HO : Hid (VP.oneP (Tv.tm ⟨n, (q : Int), e, u, r⟩) = n.data.toList ++ (((([32, 40] ++ sg.data.toList) ++ [32]) ++ T.data.toList) ++ [41])) := by
              show VP.oneP (Tv.tm ⟨n, (q : Int), e, u, r⟩) = _
              unfold VP.oneP
              rw [if_neg (show ¬ (Tv.tm ⟨n, (q : Int), e, u, r⟩).op = 0 by show ¬ (q : Int) = 0; omega), HSG.out, HT'.out]
              simp [Tv.tm]
            have hq0 : ((q : Int) == 0) = false := by rw [beq_eq_false_iff_ne]; omega
            have hq0' : ((q : Int) != 0) = true := bne_of_false hq0
            have z1 : (⟨#[32, 40]⟩ ++ sg : ByteArray).size = 2 + sg.size := by rw [ByteArray.size_append]; rfl
            have z2 : ((⟨#[32, 40]⟩ ++ sg) ++ ⟨#[32]⟩ : ByteArray).size = 2 + sg.size + 1 := by rw [ByteArray.size_append, z1]; rfl
            have z3 : (((⟨#[32, 40]⟩ ++ sg) ++ ⟨#[32]⟩) ++ T : ByteArray).size = 2 + sg.size + 1 + T.size := by rw [ByteArray.size_append, z2]
            have z4 : ((((⟨#[32, 40]⟩ ++ sg) ++ ⟨#[32]⟩) ++ T) ++ ⟨#[41]⟩ : ByteArray).size = 2 + sg.size + 1 + T.size + 1 := by rw [ByteArray.size_append, z3]; rfl
            have a1 : ∀ W : World, (Op.stringOp .add (⟨#[32, 40]⟩ : ByteArray) sg).run Tryz.prog W = .ok (.string (⟨#[32, 40]⟩ ++ sg)) W := fun W => run_string_add_sum W _ _ (by show 2 + sg.size ≤ _; omega)
            have a2 : ∀ W : World, (Op.stringOp .add (⟨#[32, 40]⟩ ++ sg) (⟨#[32]⟩ : ByteArray)).run Tryz.prog W = .ok (.string ((⟨#[32, 40]⟩ ++ sg) ++ ⟨#[32]⟩)) W := fun W => run_string_add_sum W _ _ (by rw [z1]; show _ + 1 ≤ _; omega)
            have a3 : ∀ W : World, (Op.stringOp .add ((⟨#[32, 40]⟩ ++ sg) ++ ⟨#[32]⟩) T).run Tryz.prog W = .ok (.string (((⟨#[32, 40]⟩ ++ sg) ++ ⟨#[32]⟩) ++ T)) W := fun W => run_string_add_sum W _ _ (by rw [z2]; omega)
            have a4 : ∀ W : World, (Op.stringOp .add (((⟨#[32, 40]⟩ ++ sg) ++ ⟨#[32]⟩) ++ T) (⟨#[41]⟩ : ByteArray)).run Tryz.prog W = .ok (.string ((((⟨#[32, 40]⟩ ++ sg) ++ ⟨#[32]⟩) ++ T) ++ ⟨#[41]⟩)) W := fun W => run_string_add_sum W _ _ (by rw [z3]; show _ + 1 ≤ _; omega)
            obtain ⟨X, hX⟩ : ∃ X : ByteArray, (((⟨#[32, 40]⟩ ++ sg) ++ ⟨#[32]⟩) ++ T) ++ ⟨#[41]⟩ = X := ⟨_, rfl⟩
            have hXz : X.size ≤ 50 := by rw [← hX, z4]; omega
            have HXD := Lib.hid (show X.data.toList = (((([32, 40] ++ sg.data.toList) ++ [32]) ++ T.data.toList) ++ [41]) by rw [← hX, append_data, append_data, append_data, append_data])
            rw [hX] at a4
            clear z1 z2 z3 z4 hX
            have hN : Fiv (wr.alloc (.cells #[.string n, .int .i64 (q : Int), .int .i64 e, .string u, .string r] 99)) wr.heap.size n q e u r (wr.alloc (.cells #[.string n, .int .i64 (q : Int), .int .i64 e, .string u, .string r] 99)) :=
              ⟨by go_cell, by go_cell, by go_cell, by go_cell, by go_cell, Below.refl _ _⟩
            clear hB1
            rcases hp with ⟨hj0, hk0, rfl⟩ | ⟨hj0, hk0, rfl⟩ | ⟨hj0, rfl⟩
            · have a5 : ∀ W : World, (Op.stringOp .add (S ++ n) X).run Tryz.prog W = .ok (.string ((S ++ n) ++ X)) W := fun W => run_string_add_sum W _ _ (by rw [ByteArray.size_append]; omega)
              go_wp2_with fail
              go_region_held3 (fun W => W.cell? ⟨wr.heap.size, 0, none⟩ = some (.string n) ∧ W.cell? ⟨wr.heap.size, 1, none⟩ = some (.int .i64 (q : Int)) ∧ W.cell? ⟨wr.heap.size, 2, none⟩ = some (.int .i64 e) ∧ W.cell? ⟨wr.heap.size, 3, none⟩ = some (.string u) ∧ W.cell? ⟨wr.heap.size, 4, none⟩ = some (.string r) ∧ Below (wr.alloc (.cells #[.string n, .int .i64 (q : Int), .int .i64 e, .string u, .string r] 99)).heap.size (wr.alloc (.cells #[.string n, .int .i64 (q : Int), .int .i64 e, .string u, .string r] 99)) W)
                ((first | assumption | exact fiv_go (by assumption) hb | exact fiv_go hN (below_drew _) | exact fiv_go (by assumption) (below_drew _)))
                (first | (go_at_call 52; (with_reducible refine (Gives.at C2.out _ ?_).mono ?_); (exact fiv_below (by assumption)); rintro E w' ⟨rfl, hb⟩) | (go_at_call 123; (with_reducible refine (C1.out _).mono ?_); rintro E w' ⟨rfl, rfl⟩))
              all_goals
                go_wp2_with fail
                go_roundw
                case rel => exact ⟨j + 1, _, by omega, by go_num, rfl, Lib.hid (by rw [HIN.out, append_data, append_data, hS.out, HO.out, ← HXD.out, ← HP.out]; simp), by rw [ByteArray.size_append, ByteArray.size_append]; omega, step_below hB0.out (step_below (below_alloc _ _) (fiv_below (by assumption)))⟩
                case measure => simp [intOf]; omega
            · have a5 : ∀ W : World, (Op.stringOp .add ((S ++ ⟨#[44, 32]⟩) ++ n) X).run Tryz.prog W = .ok (.string (((S ++ ⟨#[44, 32]⟩) ++ n) ++ X)) W := fun W => run_string_add_sum W _ _ (by rw [ByteArray.size_append, ByteArray.size_append]; show S.size + 2 + n.size + X.size ≤ _; omega)
              go_wp2_with fail
              go_region_held3 (fun W => W.cell? ⟨wr.heap.size, 0, none⟩ = some (.string n) ∧ W.cell? ⟨wr.heap.size, 1, none⟩ = some (.int .i64 (q : Int)) ∧ W.cell? ⟨wr.heap.size, 2, none⟩ = some (.int .i64 e) ∧ W.cell? ⟨wr.heap.size, 3, none⟩ = some (.string u) ∧ W.cell? ⟨wr.heap.size, 4, none⟩ = some (.string r) ∧ Below (wr.alloc (.cells #[.string n, .int .i64 (q : Int), .int .i64 e, .string u, .string r] 99)).heap.size (wr.alloc (.cells #[.string n, .int .i64 (q : Int), .int .i64 e, .string u, .string r] 99)) W)
                ((first | assumption | exact fiv_go (by assumption) hb | exact fiv_go hN (below_drew _) | exact fiv_go (by assumption) (below_drew _)))
                (first | (go_at_call 52; (with_reducible refine (Gives.at C2.out _ ?_).mono ?_); (exact fiv_below (by assumption)); rintro E w' ⟨rfl, hb⟩) | (go_at_call 123; (with_reducible refine (C1.out _).mono ?_); rintro E w' ⟨rfl, rfl⟩))
              all_goals
                go_wp2_with fail
                go_roundw
                case rel => exact ⟨j + 1, _, by omega, by go_num, rfl, Lib.hid (by rw [HIN.out, append_data, append_data, append_data, hS.out, HO.out, ← HXD.out, ← HP.out]; simp), by rw [ByteArray.size_append, ByteArray.size_append, ByteArray.size_append]; show S.size + 2 + n.size + X.size ≤ _; omega, step_below hB0.out (step_below (below_alloc _ _) (fiv_below (by assumption)))⟩
                case measure => simp [intOf]; omega
            · have a5 : ∀ W : World, (Op.stringOp .add ((S ++ ⟨#[32, 124, 32]⟩) ++ n) X).run Tryz.prog W = .ok (.string (((S ++ ⟨#[32, 124, 32]⟩) ++ n) ++ X)) W := fun W => run_string_add_sum W _ _ (by rw [ByteArray.size_append, ByteArray.size_append]; show S.size + 3 + n.size + X.size ≤ _; omega)
              go_wp2_with fail
              go_region_held3 (fun W => W.cell? ⟨wr.heap.size, 0, none⟩ = some (.string n) ∧ W.cell? ⟨wr.heap.size, 1, none⟩ = some (.int .i64 (q : Int)) ∧ W.cell? ⟨wr.heap.size, 2, none⟩ = some (.int .i64 e) ∧ W.cell? ⟨wr.heap.size, 3, none⟩ = some (.string u) ∧ W.cell? ⟨wr.heap.size, 4, none⟩ = some (.string r) ∧ Below (wr.alloc (.cells #[.string n, .int .i64 (q : Int), .int .i64 e, .string u, .string r] 99)).heap.size (wr.alloc (.cells #[.string n, .int .i64 (q : Int), .int .i64 e, .string u, .string r] 99)) W)
                ((first | assumption | exact fiv_go (by assumption) hb | exact fiv_go hN (below_drew _) | exact fiv_go (by assumption) (below_drew _)))
                (first | (go_at_call 52; (with_reducible refine (Gives.at C2.out _ ?_).mono ?_); (exact fiv_below (by assumption)); rintro E w' ⟨rfl, hb⟩) | (go_at_call 123; (with_reducible refine (C1.out _).mono ?_); rintro E w' ⟨rfl, rfl⟩))
              all_goals
                go_wp2_with fail
                go_roundw
                case rel => exact ⟨j + 1, _, by omega, by go_num, rfl, Lib.hid (by rw [HIN.out, append_data, append_data, append_data, hS.out, HO.out, ← HXD.out, ← HP.out]; simp), by rw [ByteArray.size_append, ByteArray.size_append, ByteArray.size_append]; show S.size + 3 + n.size + X.size ≤ _; omega, step_below hB0.out (step_below (below_alloc _ _) (fiv_below (by assumption)))⟩
                case measure => simp [intOf]; omega
        · obtain rfl : j = xl := by omega
          have HD := Lib.hid (inTo_done HX.out HXN.out)
          have hBo := step_below HBo.out hB
          go_wp2_with fail
          go_roundw
          case rel => exact ⟨k + 1, S, by omega, by go_num, rfl, Lib.hid (by rw [hS.out, ← HD.out, HXL.out]), by omega, hBo⟩
          case measure => simp [intOf]; omega
    · obtain rfl : k = len := by omega
      have hBw := step_below HB1.out hB
      have hres : Hid (S0 = wholeS L) := by
        apply data_inj
        rw [hS0.out]
        unfold upTo
        rw [← HL.out, List.take_length]
        exact rfl
      go_wp2_with fail
      go_ret2
      exact ⟨by rw [HY.out, hres.out]; rfl, hBw⟩

theorem refPrintT_calls (v : Value) (L : List (List Tv)) (w : World) (hE : Env w) (h : AskedAt w v L) (hs : ∀ x ∈ L, ∀ t ∈ x, t.small) (h40 : ∀ x ∈ L, x.length ≤ 1000) :
    Calls Tryz.prog 54 #[v] w (RefPrintTIs L (if VP.askedP (tmL L) then 0 else 1) w) := by
  cases hy : VP.askedP (tmL L) with
  | false => exact refPrintT_no v L w hE h hs h40 hy
  | true => exact refPrintT_yes v L w hE h hs h40 hy
end Go.Proofs.YtodbbfgkclkpgaaGreatDoor

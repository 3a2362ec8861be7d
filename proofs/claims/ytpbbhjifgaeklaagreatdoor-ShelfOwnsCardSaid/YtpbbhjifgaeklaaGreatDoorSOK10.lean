/- The disk's calls: Read, Write, Sync, Move, Remove: what they answer, and what becomes of the disk. · A map of texts in memory: a look-up without 'ok'; ranging over it. · The disk's Move. -/
import Derived.Test.YtpbbhjifgaeklaaGreatDoorSOK9
import Derived.Maps.RangeWalk
import Derived.Maps.OwnOps
import Derived.Sort.KeysCollected
namespace Go.Proofs.YtpbbhjifgaeklaaGreatDoor
open Go Go.RowKit Go.Maps

def writeD (D : Dk) (f s : ByteArray) : Int × Dk :=
  if nameD f = false then (1, D) else if powerD D = false then (14, D) else if getF D.now f = none ∧ 5000 ≤ D.now.length then (12, stepD D) else (0, { stepD D with now := putF D.now f s })
def syncD (D : Dk) (f : ByteArray) : Int × Dk :=
  match getF D.now f with
  | none => (7, D)
  | some s => if powerD D = false then (14, D) else (0, { stepD D with safe := putF D.safe f s })
def movedS (S : Fm) (f g : ByteArray) : Fm := match getF S f with | some old => putF (delF (delF S f) g) g old | none => delF (delF S f) g
def moveD (D : Dk) (f g : ByteArray) : Int × Dk :=
  if nameD g = false then (1, D) else match getF D.now f with
  | none => (7, D)
  | some s => if powerD D = false then (14, D) else (0, { stepD D with now := putF (delF D.now f) g s, safe := movedS D.safe f g })
def removeD (D : Dk) (f : ByteArray) : Int × Dk :=
  match getF D.now f with
  | none => (7, D)
  | some _ => if powerD D = false then (14, D) else (0, { stepD D with now := delF D.now f, safe := delF D.safe f })
def readV (D : Dk) (f : ByteArray) : Value := match getF D.now f with | some s => .tuple #[.string s, .nilIface] | none => .tuple #[.string ⟨#[]⟩, .iface 43 (.int .i64 7)]
/-- a call on a disk has answered so, and the disk is so -/
def DiskDone (d : Nat) (r : Int × Dk) (w : World) (E : Ending) (w' : World) : Prop := E = .returned (errV r.1) ∧ DiskAt w' d r.2 ∧ Off d w w'

theorem size_max {s : ByteArray} (h : s.size ≤ 1000000) : s.size ≤ maxLen := by unfold maxLen; omega
/-- the look-up in what there is now -/
theorem DiskAt.look {w : World} {d : Nat} {D : Dk} (h : DiskAt w d D) (f : ByteArray) (hf : f.size ≤ 1000000) : ∃ r : Option Nat, w.cell? ⟨d, 0, none⟩ = some (.map r) ∧ (Instr.lookup 56 (.map r) (.string f) true).run Tryz.prog w = .ok (.tuple #[.string ((getF D.now f).getD ⟨#[]⟩), .bool (getF D.now f).isSome]) w ∧ ((getF D.now f).getD ⟨#[]⟩).size ≤ maxLen := by
  obtain ⟨m0, m1, hb, hm⟩ := h
  rcases hm with ⟨rfl, rfl, e0, _⟩ | ⟨b0, b1, rfl, rfl, _, h0, _⟩
  · refine ⟨none, hb.cell (i := 0) rfl, ?_, ?_⟩
    · have := Maps.look_nil (P := Tryz.prog) (w := w) true str_key Tryz.underlying56 (zero_str w) (keyOf_str1 f (size_max hf))
      rw [e0]
      exact this
    · rw [e0]
      show (0 : Nat) ≤ maxLen
      exact Nat.zero_le _
  · exact ⟨some b0, hb.cell (i := 0) rfl, (h0.look f (size_max hf)).1, (h0.look f (size_max hf)).2⟩

set_option maxRecDepth 100000 in
theorem dread_calls (d : Nat) (D : Dk) (f : ByteArray) (w : World) (hD : DiskAt w d D) (hf : f.size ≤ 1000000) : Calls Tryz.prog 93 #[.pointer (some ⟨d, 0, none⟩), .string f] w fun E w' => E = .returned (readV D f) ∧ w = w' := by
  obtain ⟨r, c0, hl, _⟩ := hD.look f hf
  unfold readV
  clear hD hf
  cases hg : getF D.now f with
  | none =>
    rw [hg] at hl
    simp only [Option.getD_none, Option.isSome_none] at hl
    clear hg
    go_enter Tryz.func93, Tryz.ntmps93
    go_wp2_with fail
    go_ret2
    exact ⟨rfl, rfl⟩
  | some s =>
    rw [hg] at hl
    simp only [Option.getD_some, Option.isSome_some] at hl
    clear hg
    go_enter Tryz.func93, Tryz.ntmps93
    go_wp2_with fail
    go_ret2
    exact ⟨rfl, rfl⟩

set_option maxHeartbeats 1000000 in
set_option maxRecDepth 100000 in
theorem dsync_calls (d : Nat) (D : Dk) (f : ByteArray) (w : World) (hD : DiskAt w d D) (hk : DkOk D) (hf : f.size ≤ 1000000) : Calls Tryz.prog 156 #[.pointer (some ⟨d, 0, none⟩), .string f] w (DiskDone d (syncD D f) w) := by
  obtain ⟨r, c0, hl, hmx⟩ := hD.look f hf
  cases hg : getF D.now f with
  | none =>
    rw [hg] at hl
    have F := Lib.hid (show syncD D f = (7, D) by unfold syncD; rw [hg])
    have HD := Lib.hid hD
    simp only [Option.getD_none, Option.isSome_none] at hl
    clear hg hD hk hf hmx
    go_enter Tryz.func156, Tryz.ntmps156
    go_wp2_with fail
    go_ret
    exact ⟨by rw [F.out]; rfl, by rw [F.out]; exact HD.out, Off.refl _ _⟩
  | some s =>
    rw [hg] at hl hmx
    simp only [Option.getD_some, Option.isSome_some] at hl hmx
    cases hp : powerD D with
    | false =>
      have F := Lib.hid (show syncD D f = (14, D) by unfold syncD; rw [hg]; exact if_pos hp)
      have C := Lib.hid (does_no d D w hD hp)
      have HD := Lib.hid hD
      clear hg hD hk hf hmx hp
      go_enter Tryz.func156, Tryz.ntmps156
      go_wp2_with fail
      refine C.out.mono ?_
      rintro E w1 ⟨rfl, rfl⟩
      go_wp2_with fail
      go_ret
      exact ⟨by rw [F.out]; rfl, by rw [F.out]; exact HD.out, Off.refl _ _⟩
    | true =>
      have F := Lib.hid (show syncD D f = (0, { stepD D with safe := putF D.safe f s }) by unfold syncD; rw [hg]; exact if_neg (by rw [hp]; decide))
      have C := Lib.hid (does_yes d D w hD hk hp)
      have HK := Lib.hid hk.slen
      have HF := Lib.hid hf
      have HM := Lib.hid hmx
      clear hg hD hk hf hmx hp
      go_enter Tryz.func156, Tryz.ntmps156
      go_wp2_with fail
      refine C.out.mono ?_
      rintro E w1 ⟨rfl, b0, b1, hR, hO⟩
      have c1 := hR.1.cell (i := 1) rfl
      obtain ⟨W2, hrun, hM2, ht⟩ := hR.2.2.2.store f s (size_max HF.out) HM.out (by have := HK.out; show D.safe.length < maxLen; unfold maxLen; omega)
      have HR2 := Lib.hid (hR.safe ht hM2)
      have HO := Lib.hid hO
      clear hR hM2 ht hO C c0 hl
      go_wp2_with fail
      go_ret
      exact ⟨by rw [F.out]; rfl, by rw [F.out]; exact HR2.out.1.disk, HO.out.trans HR2.out.2⟩

set_option maxHeartbeats 1000000 in
set_option maxRecDepth 100000 in
theorem dremove_calls (d : Nat) (D : Dk) (f : ByteArray) (w : World) (hD : DiskAt w d D) (hk : DkOk D) (hf : f.size ≤ 1000000) : Calls Tryz.prog 94 #[.pointer (some ⟨d, 0, none⟩), .string f] w (DiskDone d (removeD D f) w) := by
  obtain ⟨r, c0, hl, hmx⟩ := hD.look f hf
  cases hg : getF D.now f with
  | none =>
    rw [hg] at hl
    have F := Lib.hid (show removeD D f = (7, D) by unfold removeD; rw [hg])
    have HD := Lib.hid hD
    simp only [Option.getD_none, Option.isSome_none] at hl
    clear hg hD hk hf hmx
    go_enter Tryz.func94, Tryz.ntmps94
    go_wp2_with fail
    go_ret
    exact ⟨by rw [F.out]; rfl, by rw [F.out]; exact HD.out, Off.refl _ _⟩
  | some s =>
    rw [hg] at hl hmx
    simp only [Option.getD_some, Option.isSome_some] at hl hmx
    cases hp : powerD D with
    | false =>
      have F := Lib.hid (show removeD D f = (14, D) by unfold removeD; rw [hg]; exact if_pos hp)
      have C := Lib.hid (does_no d D w hD hp)
      have HD := Lib.hid hD
      clear hg hD hk hf hmx hp
      go_enter Tryz.func94, Tryz.ntmps94
      go_wp2_with fail
      refine C.out.mono ?_
      rintro E w1 ⟨rfl, rfl⟩
      go_wp2_with fail
      go_ret
      exact ⟨by rw [F.out]; rfl, by rw [F.out]; exact HD.out, Off.refl _ _⟩
    | true =>
      have F := Lib.hid (show removeD D f = (0, { stepD D with now := delF D.now f, safe := delF D.safe f }) by unfold removeD; rw [hg]; exact if_neg (by rw [hp]; decide))
      have C := Lib.hid (does_yes d D w hD hk hp)
      have HF := Lib.hid hf
      clear hg hD hk hf hmx hp
      go_enter Tryz.func94, Tryz.ntmps94
      go_wp2_with fail
      refine C.out.mono ?_
      rintro E w1 ⟨rfl, b0, b1, hR, hO⟩
      have d0 := hR.1.cell (i := 0) rfl
      obtain ⟨W2, hrun, hM2, ht⟩ := hR.2.2.1.drop f (size_max HF.out) 0
      have hR2 := hR.now ht hM2
      have e1 := hR2.1.1.cell (i := 1) rfl
      obtain ⟨W3, hrun3, hM3, ht3⟩ := hR2.1.2.2.2.drop f (size_max HF.out) 0
      have HR3 := Lib.hid (hR2.1.safe ht3 hM3)
      have HO := Lib.hid (hO.trans hR2.2)
      clear hR hM2 ht hO C c0 hl hR2 hM3 ht3
      go_wp2_with fail
      go_ret
      exact ⟨by rw [F.out]; rfl, by rw [F.out]; exact HR3.out.1.disk, HO.out.trans HR3.out.2⟩
end Go.Proofs.YtpbbhjifgaeklaaGreatDoor

namespace Go.Proofs.YtpbbhjifgaeklaaGreatDoor
open Go Go.RowKit Go.Maps

/-- 'm[k]' -/
theorem MapAt.look1 {W : World} {b : Nat} {M : Fm} (h : MapAt W b M) (k : ByteArray) (hk : k.size ≤ maxLen) : (Instr.lookup 56 (.map (some b)) (.string k) false).run Tryz.prog W = .ok (.string ((getF M k).getD ⟨#[]⟩)) W := by
  obtain ⟨v, ps, hrun, hR⟩ := h.1.lookup str_key Tryz.underlying56 (zero_str W) (plainElem_string Tryz.underlying9 (s := ⟨#[]⟩) (by unfold maxLen; decide)) (keyOf_str1 k hk)
  rw [datF_at] at hR
  obtain ⟨s, rfl, hz, hs⟩ := plainElem_string_inv Tryz.underlying9 hR
  have e : s = (getF M k).getD ⟨#[]⟩ := by
    cases hg : getF M k with
    | none =>
      rw [hg] at hz
      exact data_inj (lit_str (congrArg Prod.fst hz)).symm
    | some v =>
      rw [hg] at hz
      exact data_inj (lit_str (congrArg Prod.fst hz)).symm
  rw [← e]
  exact hrun
theorem below_turned {n b : Nat} {w0 W W' : World} (h : Below n w0 W) (hn : n ≤ b) (hW : n ≤ W.heap.size) (ht : W.mapTurned W' b) : Below n w0 W' :=
  h.grown ht.grown hW fun g e => by injection e with e; omega

/-- ranging over a map of texts under way: what is still to come -/
def RangesF (W : World) (b r : Nat) (M : Fm) (left : Lit → Bool) (cnt : Nat) : Prop := W.ranges Tryz.prog 9 (plainElem Tryz.prog 9) b r M.length (datF M) left cnt ∧ RisF M
theorem RangesF.map {W : World} {b r : Nat} {M : Fm} {left : Lit → Bool} {cnt : Nat} (h : RangesF W b r M left cnt) : MapAt W b M := ⟨h.1.owns, h.2⟩
theorem RangesF.kept {W W' : World} {b r : Nat} {M : Fm} {left : Lit → Bool} {cnt : Nat} {row : Option Nat} (h : RangesF W b r M left cnt) (hg : W.grownBy W' row) (hb : some b ≠ row) (hr : some r ≠ row) : RangesF W' b r M left cnt := ⟨h.1.kept hg hb hr, h.2⟩
section
variable {ops : Array Oper} {rest : List Oper} {o : Oper} {a : Act} {Q : Exit → Act → World → Prop}
theorem wpList_rangeF (w : World) (hg : o.guard = none) (m : Operand) (hop : o.op = Op.range 56 m) (b : Nat) (M : Fm) (hm : a.eval m = .map (some b)) (h : MapAt w b M)
    (hK : ∀ w', RangesF w' b w.heap.size M (Maps.has (datF M)) M.length → w.grownBy w' none → w'.heap.size = w.heap.size + 1 → wpList Tryz.prog ops Q rest (a.put o.dst (.pointer (some ⟨w.heap.size, 0, none⟩))) w') :
    wpList Tryz.prog ops Q (o :: rest) a w :=
  wpList_range_own w hg m 56 hop 9 9 str_key Tryz.underlying56 _ b M.length (datF M) hm h.1 fun w' h1 h2 h3 => hK w' ⟨by rw [datF_size] at h1; exact h1, h.2⟩ h2 h3
theorem wpList_nextF (w : World) (hg : o.guard = none) (it : Operand) (hop : o.op = Op.next it false) (b r : Nat) (M : Fm) (left : Lit → Bool) (cnt : Nat) (hit : a.eval it = .pointer (some ⟨r, 0, none⟩)) (h : RangesF w b r M left cnt)
    (hDone : cnt = 0 → (∀ kl, left kl = false) → wpList Tryz.prog ops Q rest (a.put o.dst (.tuple #[.bool false])) w)
    (hMore : ∀ (x c : ByteArray) (w' : World) (cnt' : Nat), getF M x = some c → left (.string x.data.toList) = true → RangesF w' b r M (fun z => left z && !z.sameKey (.string x.data.toList)) cnt' → cnt' < cnt →
      w.grownBy w' (some r) → w'.heap.size = w.heap.size → (Instr.entry (.pointer (some ⟨r, 0, none⟩))).run Tryz.prog w' = .ok (.tuple #[.string x, .string c]) w' → wpList Tryz.prog ops Q rest (a.put o.dst (.tuple #[.bool true, .string x, .string c])) w') :
    wpList Tryz.prog ops Q (o :: rest) a w := by
  refine wpList_next_ranges w hg it hop 9 str_key (plainElem Tryz.prog 9) (fun s : ByteArray => Value.string s) (fun s : ByteArray => Value.string s) (fun key kl hk => ?_) (fun v y hv => ?_) b r M.length (datF M) left cnt hit h.1 hDone fun x c kl y w' cnt' hkey hl hv hat hr hlt hg2 hs hen => ?_
  · obtain ⟨x, hx, _⟩ := Maps.keyOf_str Tryz.underlying9 hk
    exact ⟨_, hx⟩
  · obtain ⟨s, rfl, _⟩ := plainElem_string_inv Tryz.underlying9 hv
    exact ⟨s, rfl⟩
  · obtain ⟨x', hx, rfl, _⟩ := Maps.keyOf_str Tryz.underlying9 hkey
    obtain ⟨c', hc, rfl, _⟩ := plainElem_string_inv Tryz.underlying9 hv
    have ex : x.data.toList = x' := by rw [Value.string.inj hx]
    obtain rfl : c = c' := Value.string.inj hc
    subst ex
    refine hMore x c w' cnt' ?_ hl ⟨hr, h.2⟩ hlt hg2 hs hen
    have h1 := hat (.lit (.int .i64 0))
    rw [datF_at] at h1
    cases hg' : getF M x with
    | none => rw [hg'] at h1; cases h1
    | some v =>
      rw [hg'] at h1
      exact congrArg some (data_inj (lit_str h1))
end
end Go.Proofs.YtpbbhjifgaeklaaGreatDoor

namespace Go.Proofs.YtpbbhjifgaeklaaGreatDoor
open Go Go.RowKit Go.Maps

set_option maxHeartbeats 1000000 in
set_option maxRecDepth 100000 in
theorem dmove_calls (d : Nat) (D : Dk) (f g : ByteArray) (w : World) (hD : DiskAt w d D) (hk : DkOk D) (hf : f.size ≤ 1000000) (hg1 : g.size ≤ 1000000) : Calls Tryz.prog 154 #[.pointer (some ⟨d, 0, none⟩), .string f, .string g] w (DiskDone d (moveD D f g) w) := by
  obtain ⟨r, c0, hl, hmx⟩ := hD.look f hf
  have CN := Lib.hid (fun W => dname_calls g W)
  cases hn : nameD g with
  | false =>
    rw [hn] at CN
    have F := Lib.hid (show moveD D f g = (1, D) by unfold moveD; exact if_pos hn)
    have HD := Lib.hid hD
    obtain ⟨x, hx⟩ : ∃ x, (getF D.now f).getD ⟨#[]⟩ = x := ⟨_, rfl⟩
    obtain ⟨y, hy⟩ : ∃ y, (getF D.now f).isSome = y := ⟨_, rfl⟩
    rw [hx, hy] at hl
    clear hD hk hf hmx hn hg1 hx hy
    go_enter Tryz.func154, Tryz.ntmps154
    go_wp2_with fail
    refine (CN.out _).mono ?_
    rintro E w1 ⟨rfl, rfl⟩
    go_wp2_with fail
    go_ret
    exact ⟨by rw [F.out]; rfl, by rw [F.out]; exact HD.out, Off.refl _ _⟩
  | true =>
  rw [hn] at CN
  cases hg : getF D.now f with
  | none =>
    rw [hg] at hl
    have F := Lib.hid (show moveD D f g = (7, D) by unfold moveD; rw [if_neg (by rw [hn]; decide), hg])
    have HD := Lib.hid hD
    simp only [Option.getD_none, Option.isSome_none] at hl
    clear hg hD hk hf hmx hn hg1
    go_enter Tryz.func154, Tryz.ntmps154
    go_wp2_with fail
    refine (CN.out _).mono ?_
    rintro E w1 ⟨rfl, rfl⟩
    go_wp2_with fail
    go_ret
    exact ⟨by rw [F.out]; rfl, by rw [F.out]; exact HD.out, Off.refl _ _⟩
  | some s =>
    rw [hg] at hl hmx
    simp only [Option.getD_some, Option.isSome_some] at hl hmx
    cases hp : powerD D with
    | false =>
      have F := Lib.hid (show moveD D f g = (14, D) by unfold moveD; rw [if_neg (by rw [hn]; decide), hg]; exact if_pos hp)
      have C := Lib.hid (does_no d D w hD hp)
      have HD := Lib.hid hD
      clear hg hD hk hf hmx hp hn hg1
      go_enter Tryz.func154, Tryz.ntmps154
      go_wp2_with fail
      refine (CN.out _).mono ?_
      rintro E w1 ⟨rfl, rfl⟩
      go_wp2_with fail
      refine C.out.mono ?_
      rintro E w1 ⟨rfl, rfl⟩
      go_wp2_with fail
      go_ret
      exact ⟨by rw [F.out]; rfl, by rw [F.out]; exact HD.out, Off.refl _ _⟩
    | true =>
      have F := Lib.hid (show moveD D f g = (0, { stepD D with now := putF (delF D.now f) g s, safe := movedS D.safe f g }) by unfold moveD; rw [if_neg (by rw [hn]; decide), hg]; exact if_neg (by rw [hp]; decide))
      have C := Lib.hid (does_yes d D w hD hk hp)
      have HF := Lib.hid hf
      have HG := Lib.hid hg1
      have HL := Lib.hid (Nat.le_trans (len_del_le D.now f) hk.len)
      have HM := Lib.hid hmx
      have HSL := Lib.hid hk.slen
      clear hg hD hk hf hmx hp hn hg1
      go_enter Tryz.func154, Tryz.ntmps154
      go_wp2_with fail
      refine (CN.out _).mono ?_
      rintro E w1 ⟨rfl, rfl⟩
      go_wp2_with fail
      refine C.out.mono ?_
      rintro E w1 ⟨rfl, b0, b1, hR, hO⟩
      have d0 := hR.1.cell (i := 0) rfl
      obtain ⟨W2, hrun2, hM2, ht2⟩ := hR.2.2.1.drop f (size_max HF.out) 0
      have hR2 := hR.now ht2 hM2
      have e0 := hR2.1.1.cell (i := 0) rfl
      obtain ⟨W3, hrun3, hM3, ht3⟩ := hR2.1.2.2.1.store g s (size_max HG.out) HM.out (by have := HL.out; show (delF D.now f).length < maxLen; unfold maxLen; omega)
      have hR3 := hR2.1.now ht3 hM3
      have f1 := hR3.1.1.cell (i := 1) rfl
      have hL4 := hR3.1.2.2.2.look f (size_max HF.out)
      obtain ⟨W5, hrun5, hM5, ht5⟩ := hR3.1.2.2.2.drop f (size_max HF.out) 0
      have hR5 := hR3.1.safe ht5 hM5
      have g1 := hR5.1.1.cell (i := 1) rfl
      obtain ⟨W6, hrun6, hM6, ht6⟩ := hR5.1.2.2.2.drop g (size_max HG.out) 0
      have hR6 := hR5.1.safe ht6 hM6
      have h1 := hR6.1.1.cell (i := 1) rfl
      have HO := Lib.hid ((((hO.trans hR2.2).trans hR3.2).trans hR5.2).trans hR6.2)
      have HR6 := Lib.hid hR6.1
      clear hR hM2 ht2 hO C c0 hl hR2 hM3 ht3 hR3 hM5 ht5 hR5 hM6 ht6 hR6
      obtain ⟨hlk, hlm⟩ := hL4
      have hSS : (stepD D).safe = D.safe := rfl
      cases hs : getF D.safe f with
      | none =>
        rw [show getF ({ (stepD D) with now := putF (delF D.now f) g s } : Dk).safe f = none from hs] at hlk
        simp only [Option.getD_none, Option.isSome_none] at hlk
        have FS := Lib.hid (show movedS D.safe f g = delF (delF D.safe f) g by unfold movedS; rw [hs])
        clear hs hlm
        go_wp2_with fail
        go_ret
        exact ⟨by rw [F.out]; rfl, by rw [F.out, FS.out]; exact HR6.out.disk, HO.out⟩
      | some old =>
        rw [show getF ({ (stepD D) with now := putF (delF D.now f) g s } : Dk).safe f = some old from hs] at hlk hlm
        simp only [Option.getD_some, Option.isSome_some] at hlk hlm
        have FS := Lib.hid (show movedS D.safe f g = putF (delF (delF D.safe f) g) g old by unfold movedS; rw [hs])
        obtain ⟨W7, hrun7, hM7, ht7⟩ := HR6.out.2.2.2.store g old (size_max HG.out) hlm (by
          have h1 := len_del_le (delF D.safe f) g
          have h2 := len_del_le D.safe f
          have h3 := HSL.out
          show (delF (delF D.safe f) g).length < maxLen
          unfold maxLen
          omega)
        have HR7 := Lib.hid (HR6.out.safe ht7 hM7)
        clear hs hlm hM7 ht7
        go_wp2_with fail
        go_ret
        exact ⟨by rw [F.out]; rfl, by rw [F.out, FS.out]; exact HR7.out.1.disk, HO.out.trans HR7.out.2⟩
end Go.Proofs.YtpbbhjifgaeklaaGreatDoor

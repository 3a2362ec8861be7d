/- status.Next, status.May: which state comes of a state and an event: by the table, as it lies. · stevedorekeep.pick: a number below another one. · ShelfSettings: for every path, texts, text, number and truth value the call returns true: the walk. -/
import Derived.Test.YtpbbhjifgaeklaaGreatDoorSSK9
import Derived.Test.YtpbbhjifgaeklaaGreatDoorSSK6
import Derived.Deep.RegionHeld3
import Derived.Deep.DeepCutAuto
import Derived.Test.YtpbbhjifgaeklaaGreatDoorSSK28
namespace Go.Proofs.YtpbbhjifgaeklaaGreatDoor
open Go Go.RowKit

def afterR : List (List Int) := [[0, 0, 0, 0, 0, 0, 0, 0], [2, 2, 2, 2, 2, 2, 2, 2], [-1, -1, 3, -1, -1, -1, -1, -1], [-1, -1, -1, 4, 4, -1, -1, -1], [-1, -1, -1, -1, 7, -1, -1, -1], [-1, -1, 2, -1, 4, -1, 4, -1], [-1, -1, 2, 2, 2, 2, 2, 2], [-1, -1, 1, -1, -1, -1, -1, -1], [-1, 0, 0, -1, -1, -1, -1, -1], [-1, -1, -1, -1, -1, 5, 6, 6], [-1, -1, -1, -1, -1, -1, 7, -1]]
/-- which state comes of an event and a state -/
def afterT (e s : Nat) : Int := (afterR.getD e []).getD s 0
/-- status.after is laid -/
def EnvN (w : World) : Prop := ∀ e s, e < 11 → s < 8 → w.cell? ⟨1, e * 8 + s, none⟩ = some (.int .i64 (afterT e s))
theorem EnvN.below {w w' : World} (h : EnvN w) (hb : Below w.heap.size w w') : EnvN w' := fun e s he hs => kept hb (h e s he hs)

end Go.Proofs.YtpbbhjifgaeklaaGreatDoor

namespace Go.Proofs.YtpbbhjifgaeklaaGreatDoor
open Go Go.RowKit

/-! pick -/
def pickV (a n : Int) : Int := wrap64 ((IntKind.u64.wrap a).tmod n)
def PickIs (a n : Int) (w : World) (E : Ending) (w' : World) : Prop := E = .returned (.int .i64 (pickV a n)) ∧ w = w'
theorem pick_num (a n : Int) (h0 : 1 ≤ n) (h1 : n ≤ 1000) : ∃ k : Nat, (k : Int) < n ∧ pickV a n = (k : Int) := by
  unfold pickV
  have hw : IntKind.u64.wrap a = a % 18446744073709551616 := IntKind.wrap_u64 a
  have hn : 0 ≤ a % 18446744073709551616 := Int.emod_nonneg _ (by decide)
  have hr : (a % 18446744073709551616).tmod n = (a % 18446744073709551616) % n := Int.tmod_eq_emod_of_nonneg hn
  rw [hw, hr]
  have l0 := Int.emod_nonneg (a % 18446744073709551616) (b := n) (by omega)
  have l1 := Int.emod_lt_of_pos (a % 18446744073709551616) (b := n) (by omega)
  generalize (a % 18446744073709551616) % n = r at l0 l1
  refine ⟨r.toNat, by omega, ?_⟩
  unfold wrap64
  omega
set_option maxRecDepth 100000 in
theorem pick_calls (a n : Int) (h0 : 1 ≤ n) (h1 : n ≤ 1000) (w : World) : Calls Tryz.prog 15 #[.int .i64 a, .int .i64 n] w (PickIs a n w) := by
  have hn : (n == 0) = false := by rw [beq_eq_false_iff_ne]; omega
  have hu : IntKind.u64.wrap n = n := by rw [IntKind.wrap_u64]; omega
  go_enter Tryz.func15, Tryz.ntmps15
  go_wp2
  go_ret
  exact ⟨rfl, rfl⟩
end Go.Proofs.YtpbbhjifgaeklaaGreatDoor

namespace Go.Proofs.YtpbbhjifgaeklaaGreatDoor
open Go Go.RowKit Go.Maps

/-! the state of the loop -/
theorem stM_fit {path now last : ByteArray} (hp : path.size ≤ 60) (hn : now.size ≤ 100) (hl : last.size ≤ 100) {D : Dk} (hD : D.now = stM path aaB now last) : FitD 100 D := fun k v hv => by
  rw [hD, stM_get] at hv
  split at hv
  · rename_i e
    obtain rfl := Option.some.inj hv
    rw [e]
    exact ⟨by decide, by omega⟩
  · split at hv
    · rename_i e
      obtain rfl := Option.some.inj hv
      rw [e, cat_size]
      exact ⟨by show 2 + _ ≤ _; omega, hl⟩
    · split at hv
      · rename_i e
        obtain rfl := Option.some.inj hv
        rw [e, cat_size]
        exact ⟨by show 2 + _ ≤ _; omega, hn⟩
      · cases hv
/-- the state of the loop: before round k -/
def SetSt (path : ByteArray) (pk k : Nat) (ch : Bool) (now : ByteArray) (M : Fm) : Prop :=
  (k ≤ pk → ch = false) ∧ now.size ≤ 100 ∧ ((k = 0 ∧ M = []) ∨ (0 < k ∧ ∃ last, last.size ≤ 100 ∧ M = stM path aaB now last ∧ (ch = true ↔ now ≠ last)))
/-- a round: what lies there behind Put -/
theorem set_step {path now x : ByteArray} {pk k : Nat} {ch : Bool} {M : Fm} (hp : VP.pathP path.data.toList = true) (h : SetSt path pk k ch now M) (hx : x.size ≤ 100) (yes : Bool) :
    ∃ y, putM M aaB [path] [⟨path, x⟩] [yes] = stM path aaB y x ∧ y.size ≤ 100 ∧ (ch = false → y = x) ∧ (ch = true → yes = false → y = now) := by
  obtain ⟨h1, h2, ⟨rfl, rfl⟩ | ⟨hk, last, hl, rfl, hc⟩⟩ := h
  · exact ⟨x, put_first [yes], hx, fun _ => rfl, fun hc => by rw [h1 (Nat.zero_le _)] at hc; cases hc⟩
  · refine ⟨nextD now last x yes, put_next hp yes, ?_, fun hf => ?_, fun ht hy => ?_⟩
    · unfold nextD
      split
      · exact hx
      · exact h2
    · refine next_fits.1 (Classical.byContradiction fun hn => ?_)
      rw [hc.2 hn] at hf
      cases hf
    · exact next_fits.2.1 (hc.1 ht) hy
theorem set_fit {path now : ByteArray} {pk k : Nat} {ch : Bool} {D : Dk} (hp : path.size ≤ 60) (h : SetSt path pk k ch now D.now) : FitD 100 D := by
  obtain ⟨_, h2, ⟨_, e⟩ | ⟨_, last, hl, e, _⟩⟩ := h
  · intro k v hv
    rw [e] at hv
    cases hv
  · exact stM_fit hp h2 hl e
theorem set_owners {path now : ByteArray} {pk k : Nat} {ch : Bool} {M : Fm} (h : SetSt path pk k ch now M) : ∀ n ∈ ownersM M, n = aaB := by
  obtain ⟨_, _, ⟨_, rfl⟩ | ⟨_, last, _, rfl, _⟩⟩ := h
  · exact fun n hn => absurd rfl (mem_owners.1 hn)
  · exact fun n hn => stM_owners hn
theorem set_len {path now : ByteArray} {pk k : Nat} {ch : Bool} {M : Fm} (h : SetSt path pk k ch now M) : M.length ≤ 3 := by
  obtain ⟨_, _, ⟨_, rfl⟩ | ⟨_, last, _, rfl, _⟩⟩ := h
  · exact Nat.zero_le _
  · exact stM_len _ _ _ _
theorem set_put {path now x y : ByteArray} {pk k : Nat} {ch yes : Bool} {D : Dk} (hp : path.size ≤ 60) (h : SetSt path pk k ch now D.now) (hC : Calm D) (hy : putM D.now aaB [path] [⟨path, x⟩] [yes] = stM path aaB y x) : Goes (putFD D aaB [path] [⟨path, x⟩] [yes]) (stM path aaB y x) := by
  rw [← hy]
  refine put_goes hC [path] [yes] (by decide) (fun f hf => by rw [List.mem_singleton.1 hf]; exact hp) (fun n hn => by rw [set_owners h n hn]; decide) ?_
  have := set_len h
  show _ + 2 * 1 < 5000
  omega
theorem set_edit {path x y mine : ByteArray} {D : Dk} (hp : VP.pathP path.data.toList = true) (hC : Calm D) (hD : D.now = stM path aaB y x) : Goes (editD D path mine false) (stM path aaB mine x) := by
  have ho : ownerD D path = aaB := by
    unfold ownerD
    rw [ownersD_M, hD]
    have hP : ∀ n, pathsD D n = pathsM (stM path aaB y x) n := fun n => by rw [pathsD_M, hD]
    simp only [hP]
    rw [stM_owner hp]
    rfl
  unfold editD
  rw [ho, if_neg (by decide), if_neg (by decide), ← stM_edit (now := y) mine, ← hD]
  refine keeps_goes hC (name_th (path_no hp).2.1) ?_ (fun q => cmth q path) mine
  rw [hD]
  exact Nat.lt_of_le_of_lt (stM_len _ _ _ _) (by decide)
theorem set_next0 {path x y : ByteArray} {pk k : Nat} (hy : y.size ≤ 100) (hx : x.size ≤ 100) (e : y = x) : SetSt path pk (k + 1) false y (stM path aaB y x) :=
  ⟨fun _ => rfl, hy, .inr ⟨Nat.succ_pos _, x, hx, rfl, ⟨fun h => (by cases h), fun h => absurd e h⟩⟩⟩
theorem set_next1 {path x y : ByteArray} {pk k : Nat} (hk : ¬ k + 1 ≤ pk) (hy : y.size ≤ 100) (hx : x.size ≤ 100) (e : y ≠ x) : SetSt path pk (k + 1) true y (stM path aaB y x) :=
  ⟨fun h => absurd h hk, hy, .inr ⟨Nat.succ_pos _, x, hx, rfl, ⟨fun _ => e, fun _ => rfl⟩⟩⟩


theorem setF_calls (W : World) (s : ByteArray) : Calls Tryz.prog 29 #[.string s] W (BoolIs false W) := by
  go_enter Tryz.func29, Tryz.ntmps29
  go_wp2_with fail
  go_ret
  exact ⟨rfl, Below.refl _ _⟩
set_option maxHeartbeats 8000000 in
set_option maxRecDepth 100000 in
theorem set_main (path mine : ByteArray) (ds : List ByteArray) (v : Value) (at' : Int) (yes : Bool) (w : World) (hE : Env w) (hD : StrsAt w v ds) (h1 : path.size ≤ 60) (h2 : ds.length ≤ 12) (h3 : mine.size ≤ 100) (hp : VP.pathP path.data.toList = true)
    (SH : Calls Tryz.prog 24 #[] w (BoolIs true w)) :
    Calls Tryz.prog 5 #[.string path, v, .string mine, .int .i64 at', .bool yes] w (BoolIs true w) := by
  have SHH := Lib.hid SH
  have HE := Lib.hid hE
  obtain ⟨Ad, cd, rfl, hcd, hmd, hrd⟩ := hD.open
  have HRD := Lib.hid hrd
  obtain ⟨len, hlen⟩ : ∃ l, ds.length = l := ⟨_, rfl⟩
  have HL := Lib.hid hlen
  rw [hlen] at hcd hmd h2 ⊢
  have PA := Lib.hid (fun (W : World) (hb : Below w.heap.size w W) => pathF_calls path W (hE.below hb) (by omega))
  have HP := Lib.hid hp
  clear SH hE hD hrd hlen
  go_enter Tryz.func5, Tryz.ntmps5
  go_wp2_with fail
  refine SHH.out.mono ?_
  rintro E w1 ⟨rfl, hb1⟩
  have HB1 := Lib.hid hb1
  have HE1 := Lib.hid (HE.out.below hb1)
  clear SHH hb1
  obtain ⟨hS0, hT0, hB0⟩ := newShelf w1
  have HS0 := Lib.hid hS0
  have HT0 := Lib.hid hT0
  have CO := Lib.hid (over_calls w1.heap.size (w1.alloc (.cells #[.map none, .map none, .int .i64 0, .bool false, .int .i64 0, .bool false] 58)))
  have HSZ1 := Lib.hid (World.size_alloc w1 (.cells #[.map none, .map none, .int .i64 0, .bool false, .int .i64 0, .bool false] 58))
  clear hS0 hT0 hB0
  go_wp2_with fail
  refine CO.out.mono ?_
  rintro E w2 ⟨rfl, rfl⟩
  rw [HSZ1.out]
  have HW1 := Lib.hid (HB1.out.size)
  obtain ⟨d, hd⟩ : ∃ d, w1.heap.size = d := ⟨_, rfl⟩
  rw [hd] at HS0 HT0 ⊢
  generalize (w1.alloc (.cells #[.map none, .map none, .int .i64 0, .bool false, .int .i64 0, .bool false] 58)).alloc (.cells #[.pointer (some ⟨d, 0, none⟩)] 132) = W2 at HS0 HT0 ⊢
  have HT : Hid (Trk w1 w1.heap.size d W2) := Lib.hid (by have := HT0.out; rw [← hd] at this ⊢; exact this)
  have HDD := Lib.hid hd
  clear CO hd HT0 HSZ1
  have PC := Lib.hid (PA.out W2 (step_below HB1.out HT.out.below))
  unfold BoolIs at PC
  rw [HP.out] at PC
  go_wp2_with fail
  refine PC.out.mono ?_
  rintro E w3 ⟨rfl, hb3⟩
  have HS3 := Lib.hid (HS0.out.keep hb3)
  have HT3 := Lib.hid (HT.out.step hb3 HS0.out.dk.lt (by have := HS0.out.dk.lt; have := HDD.out; omega))
  clear hb3 PC PA HS0 HT
  have HPS := Lib.hid (path_no HP.out)
  have hb0 : (w3.heap.size : Nat) ≤ w3.heap.size := Nat.le_refl _
  have HRD3 := Lib.hid (fun (hn : ds ≠ []) => HRD.out hn)
  obtain ⟨pk, hpk, hpv⟩ := pick_num at' 12 (by decide) (by decide)
  have CPK := Lib.hid (fun (W : World) => pick_calls at' 12 (by decide) (by decide) W)
  unfold PickIs at CPK
  rw [hpv] at CPK
  clear hb0 hpv
  go_wp2_with fail
  go_loopw [13, 14, 15] (fun v13 v14 i wr => ∃ (k : Nat) (ch : Bool) (now : ByteArray) (D : Dk), k ≤ len ∧ i = .int .i64 k ∧ v13 = .bool ch ∧ v14 = .string now ∧ Hid (SetSt path pk k ch now D.now) ∧ Hid (Calm D) ∧ Hid (ShAt wr (d + 1) d D) ∧ Hid (Trk w1 w1.heap.size d wr)) (fun _ _ i _ => len - (intOf i).toNat)
  case atStart => exact ⟨0, false, ⟨#[]⟩, D0, Nat.zero_le _, rfl, rfl, rfl, Lib.hid ⟨fun _ => rfl, by decide, .inl ⟨rfl, rfl⟩⟩, Lib.hid calm0, HS3, HT3⟩
  case round =>
    obtain ⟨k, ch, now, D, hk, rfl, rfl, rfl, hst, hcalm, hsh, htr⟩ := hrel
    by_cases hlt : k < len
    · obtain ⟨x, ht⟩ : ∃ x, ds[k]? = some x := ⟨ds[k]'(by have := HL.out; omega), List.getElem?_eq_getElem _⟩
      have hne : ds ≠ [] := fun e => by rw [e] at ht; cases ht
      obtain ⟨bd, od, rfl, hid⟩ := HRD3.out hne
      have hBw := step_below HB1.out htr.out.below
      have c0 := kept hBw (hid k x ht)
      have HBW := Lib.hid hBw
      have HDS := Lib.hid (fun (j : Nat) (u : ByteArray) (h : ds[j]? = some u) => hid j u h)
      have HTX := Lib.hid ht
      clear hid hne ht hBw
      by_cases hx : 100 < x.size
      · go_wp2_with fail
        go_ret
        exact ⟨rfl, HBW.out⟩
      have HX := Lib.hid (show x.size ≤ 100 by omega)
      have RD := Lib.hid (fun (W : World) (hb : Below wr.heap.size wr W) => read1_calls W (HE.out.below (step_below HBW.out hb)))
      unfold oneB at RD
      go_upto_region 15 with fail
      go_cut [16] (fun v16 wx => ∃ b7 b9 bp, v16 = .pointer (some ⟨bp, 0, none⟩) ∧ MkBox wr path x b7 b9 bp wx)
      case first =>
        refine mk_region hlt c0 RD.out ?_ (fun b7 b9 bp W hW => ?_)
        · intro c a d v w h
          cases d <;> exact h
        go_wp2_with fail
        go_meet
        exact ⟨b7, b9, bp, rfl, hW⟩
      case rest =>
      obtain ⟨b7, b9, bp, rfl, hmk⟩ := hcut
      have HMK := Lib.hid hmk
      obtain ⟨y, hy, hy1, hy2, hy3⟩ := set_step HP.out hst.out HX.out yes
      have HY := Lib.hid (And.intro hy (And.intro hy1 (And.intro hy2 hy3)))
      obtain ⟨c0, c1, c2, c3, c4, c5, c6, c7, c8, c9, c10, c11, c12⟩ := pack_cells hmk.cp
      have HS4 := Lib.hid (hsh.out.keep hmk.b)
      have HT4 := Lib.hid (htr.out.step hmk.b hsh.out.dk.lt (by have := hsh.out.dk.lt; have := HDD.out; omega))
      have hb5 := below_alloc wc (.cells #[.bool yes] 4)
      have HS5 := Lib.hid (HS4.out.keep hb5)
      have HT5 := Lib.hid (HT4.out.step hb5 HS4.out.dk.lt (by have := HS4.out.dk.lt; have := HDD.out; omega))
      have HK7 := Lib.hid (And.intro (hmk.c7.keep hb5) (And.intro (Nat.lt_of_lt_of_le hmk.c7.lt hb5.size) (new_not_foot hsh.out.dk (step_below hmk.b hb5) hmk.h7)))
      have HK9 := Lib.hid (And.intro (hmk.c9.keep hb5) (And.intro (Nat.lt_of_lt_of_le hmk.c9.lt hb5.size) (new_not_foot hsh.out.dk (step_below hmk.b hb5) hmk.h9)))
      have hsz5 := World.size_alloc wc (.cells #[.bool yes] 4)
      have HKB := Lib.hid (And.intro (blk_new 4 wc #[.bool yes]) (new_not_foot HS4.out.dk hb5 (Nat.le_refl _)))
      obtain ⟨gb, hgb⟩ : ∃ g, wc.heap.size = g := ⟨_, rfl⟩
      rw [hgb] at hsz5 HKB
      obtain ⟨W5, hW5⟩ : ∃ W, wc.alloc (.cells #[.bool yes] 4) = W := ⟨_, rfl⟩
      rw [hW5] at HS5 HT5 HK7 HK9 hsz5 HKB
      have HTE := Lib.hid ((HT5.out.env HE1.out).mono (m := gb + 1) (by have := HS4.out.dk.lt; have := HDD.out; omega))
      have HSZ := Lib.hid hsz5
      have hps : path.size ≤ 60 := HPS.out.2.1
      have hG := set_put hps hst.out hcalm.out hy
      have PC := put_calls (d + 1) d (gb + 1) 100 D (onePk path x [path]) (fun _ => false) (.slice none 0 0) (.slice none 0 0) (.slice none 0 0) (.slice none 0 0) (.slice none 0 0) (.slice none 0 0) (.slice (some ⟨b7, 0, none⟩) 1 1) (.slice none 0 0) (.slice (some ⟨b9, 0, none⟩) 1 1) (.func (.func 29) #[] #[]) (.slice (some ⟨gb, 0, none⟩) 1 1) [yes] W5
        HTE.out HS5.out hcalm.out.ok (set_fit hps hst.out) (by decide) (by omega) (fun W hW => onePk_at (strs_one (HK7.out.1.offN hW (by have := HK7.out.2.1; omega) HK7.out.2.2)) (HK9.out.1.offN hW (by have := HK9.out.2.1; omega) HK9.out.2.2)) (onePk_fit fun s hs => by rw [List.mem_singleton.1 hs]; omega) (by show aaB.size ≤ 1000; decide)
        (fun f hf => by rw [List.mem_singleton.1 hf]; show path.size ≤ 1000; omega) (fun f hf => by rw [List.mem_singleton.1 hf]; exact HX.out) (by show (linesT [path]).size ≤ 90000; rw [lines_one]; omega) (by show 1 ≤ 1000; decide) (fun W hW => bools_one (HKB.out.1.offN hW (by omega) HKB.out.2))
        (fun W hb => clashS_calls (d + 1) d D (onePk path x [path]) (fun _ => false) _ _ _ _ _ _ _ _ _ W (HTE.out.env.below hb) (HS5.out.keep hb) hcalm.out.ok ((set_fit hps hst.out).mono (by decide)) (fields_one (f := ⟨path, x⟩) (HK9.out.1.keep hb)) (fun f hf => by rw [List.mem_singleton.1 hf]; show path.size ≤ 1000; omega) fun W s _ => setF_calls W s)
      have PC := Lib.hid (PC.mono fun E w' h => h.goes (onePk_right x HP.out (.inr rfl)) (by show ¬ 0 ≤ (clashD D aaB (fun _ => false) [⟨path, x⟩]).1; rw [clash_own _ _ (set_owners hst.out)]; decide) hG)
      unfold onePk aaB oneB at PC
      simp only at PC
      unfold aaB at c0
      unfold oneB at c2
      have HGB := Lib.hid (show w1.heap.size ≤ gb + 1 by have := HS4.out.dk.lt; have := HDD.out; omega)
      clear hmk hy hy1 hy2 hy3 hb5 hsz5 hG hx HS4 HT4 HS5 HK7 HK9 HKB HTE RD hcalm hsh htr
      go_wp2_with fail
      (try rw [hgb])
      (try rw [show wc.alloc (.cells #[.bool yes] 4) = W5 from hW5])
      refine PC.out.mono ?_
      rintro E w6 ⟨rfl, D6, hD6, hC6, hDe, hS6, hO6⟩
      have HT6 := Lib.hid (HT5.out.go hO6 HGB.out)
      have HS6 := Lib.hid hS6
      have HC6 := Lib.hid hC6
      have HD6 := Lib.hid hD6
      clear PC hO6 hDe HT5 hW5 hgb c1 c3 c4 c5 c6 c7 c8 c9 c10 c11 c12
      clear c0 c2
      have CR := Lib.hid (shread_calls (d + 1) d D6 path w6 hS6 (by omega))
      unfold readV at CR
      rw [hD6, stM_th] at CR
      clear hS6 hC6 hD6
      go_wp2_with fail
      refine CR.out.mono ?_
      rintro E w7 ⟨rfl, rfl⟩
      clear CR
      have hBw := step_below HB1.out HT6.out.below
      have c0 := kept hBw (HDS.out k x HTX.out)
      have HBW6 := Lib.hid hBw
      clear hBw
      cases ch
      · obtain rfl : y = x := HY.out.2.2.1 rfl
        have hxx : (y.toList != y.toList) = false := by simp
        go_wp2_with fail
        refine (CPK.out _).mono ?_
        rintro E w8 ⟨rfl, rfl⟩
        by_cases hkp : k = pk
        · have hkb : (((k : Nat) : Int) == ((pk : Nat) : Int)) = true := by rw [hkp]; simp
          have HKP := Lib.hid hkp
          obtain ⟨bm, hbm⟩ : ∃ b, decide (mine = y) = b := ⟨_, rfl⟩
          have hm1 : (mine.toList == y.toList) = bm := by rw [← hbm]; exact name_eq mine y
          have hm2 : (mine.toList != y.toList) = !bm := by rw [← hm1]; rfl
          have HBM := Lib.hid hbm
          clear hbm hkp
          cases bm
          · have hG2 := set_edit (mine := mine) HP.out HC6.out HD6.out
            have CE := edit_calls (d + 1) d D6 path mine false w6 (HE1.out.below HT6.out.below) HS6.out HC6.out.ok ((stM_fit HPS.out.2.1 HX.out HX.out HD6.out).mono (by decide)) (by omega) (by omega)
            unfold SDone at CE
            rw [hG2.none] at CE
            have HG2 := Lib.hid hG2
            have CE := Lib.hid CE
            have hw6 : w1.heap.size ≤ w6.heap.size := HT6.out.below.size
            have HW6 := Lib.hid hw6
            clear hG2 hw6
            go_wp2_with fail
            refine CE.out.mono ?_
            rintro E w9 ⟨rfl, hS9, hO9⟩
            have HS9 := Lib.hid hS9
            have HT9 := Lib.hid (HT6.out.go (OffN.of (n := w6.heap.size) hO9 (Nat.le_refl _)) HW6.out)
            have HST : Hid (SetSt path pk (k + 1) true mine (editD D6 path mine false).2.now) := Lib.hid (by rw [HG2.out.now]; exact set_next1 (by have := HKP.out; omega) h3 HX.out (of_decide_eq_false HBM.out))
            have HCE := Lib.hid HG2.out.calm
            clear hS9 hO9 CE
            rw [errV_0]
            go_wp2_with fail
            go_roundw
            case rel => first | exact ⟨k + 1, true, mine, (editD D6 path mine false).2, by omega, by go_num, rfl, rfl, Lib.hid (HST.out), HCE, HS9, HT9⟩ | ((repeat apply Exists.intro); exact ⟨⟨k + 1, true, mine, (editD D6 path mine false).2, by omega, by go_num, rfl, rfl, Lib.hid (HST.out), HCE, HS9, HT9⟩, rfl⟩)
            case measure => simp [intOf]; omega
          · go_wp2_with fail
            go_roundw
            case rel => first | exact ⟨k + 1, false, y, D6, by omega, by go_num, rfl, rfl, Lib.hid (by rw [HD6.out]; exact set_next0 HX.out HX.out rfl), HC6, HS6, HT6⟩ | ((repeat apply Exists.intro); exact ⟨⟨k + 1, false, y, D6, by omega, by go_num, rfl, rfl, Lib.hid (by rw [HD6.out]; exact set_next0 HX.out HX.out rfl), HC6, HS6, HT6⟩, rfl⟩)
            case measure => simp [intOf]; omega
        · have hkb : (((k : Nat) : Int) == ((pk : Nat) : Int)) = false := by rw [beq_eq_false_iff_ne]; omega
          clear hkp
          go_wp2_with fail
          go_roundw
          case rel => first | exact ⟨k + 1, false, y, D6, by omega, by go_num, rfl, rfl, Lib.hid (by rw [HD6.out]; exact set_next0 HX.out HX.out rfl), HC6, HS6, HT6⟩ | ((repeat apply Exists.intro); exact ⟨⟨k + 1, false, y, D6, by omega, by go_num, rfl, rfl, Lib.hid (by rw [HD6.out]; exact set_next0 HX.out HX.out rfl), HC6, HS6, HT6⟩, rfl⟩)
          case measure => simp [intOf]; omega
      · cases yes
        · obtain rfl : y = now := HY.out.2.2.2 rfl rfl
          have hxx : (y.toList != y.toList) = false := by simp
          have hkn : ¬ k ≤ pk := fun h => by have := hst.out.1 h; cases this
          have hkb : (((k : Nat) : Int) == ((pk : Nat) : Int)) = false := by rw [beq_eq_false_iff_ne]; omega
          have HKN := Lib.hid hkn
          obtain ⟨bm, hbm⟩ : ∃ b, decide (y = x) = b := ⟨_, rfl⟩
          have hm1 : (y.toList == x.toList) = bm := by rw [← hbm]; exact name_eq y x
          have hm2 : (y.toList != x.toList) = !bm := by rw [← hm1]; rfl
          have HBM := Lib.hid hbm
          clear hbm hkn
          cases bm
          · go_wp2_with fail
            refine (CPK.out _).mono ?_
            rintro E w8 ⟨rfl, rfl⟩
            go_wp2_with fail
            go_roundw
            case rel => first | exact ⟨k + 1, true, y, D6, by omega, by go_num, rfl, rfl, Lib.hid (by rw [HD6.out]; exact set_next1 (by have := HKN.out; omega) HY.out.2.1 HX.out (of_decide_eq_false HBM.out)), HC6, HS6, HT6⟩ | ((repeat apply Exists.intro); exact ⟨⟨k + 1, true, y, D6, by omega, by go_num, rfl, rfl, Lib.hid (by rw [HD6.out]; exact set_next1 (by have := HKN.out; omega) HY.out.2.1 HX.out (of_decide_eq_false HBM.out)), HC6, HS6, HT6⟩, rfl⟩)
            case measure => simp [intOf]; omega
          · go_wp2_with fail
            refine (CPK.out _).mono ?_
            rintro E w8 ⟨rfl, rfl⟩
            go_wp2_with fail
            go_roundw
            case rel => first | exact ⟨k + 1, false, y, D6, by omega, by go_num, rfl, rfl, Lib.hid (by rw [HD6.out]; exact set_next0 HY.out.2.1 HX.out (of_decide_eq_true HBM.out)), HC6, HS6, HT6⟩ | ((repeat apply Exists.intro); exact ⟨⟨k + 1, false, y, D6, by omega, by go_num, rfl, rfl, Lib.hid (by rw [HD6.out]; exact set_next0 HY.out.2.1 HX.out (of_decide_eq_true HBM.out)), HC6, HS6, HT6⟩, rfl⟩)
            case measure => simp [intOf]; omega
        · have hkn : ¬ k ≤ pk := fun h => by have := hst.out.1 h; cases this
          have hkb : (((k : Nat) : Int) == ((pk : Nat) : Int)) = false := by rw [beq_eq_false_iff_ne]; omega
          have HKN := Lib.hid hkn
          obtain ⟨bm, hbm⟩ : ∃ b, decide (y = x) = b := ⟨_, rfl⟩
          have hm1 : (y.toList == x.toList) = bm := by rw [← hbm]; exact name_eq y x
          have hm2 : (y.toList != x.toList) = !bm := by rw [← hm1]; rfl
          have HBM := Lib.hid hbm
          clear hbm hkn
          cases bm
          · go_wp2_with fail
            refine (CPK.out _).mono ?_
            rintro E w8 ⟨rfl, rfl⟩
            go_wp2_with fail
            go_roundw
            case rel => first | exact ⟨k + 1, true, y, D6, by omega, by go_num, rfl, rfl, Lib.hid (by rw [HD6.out]; exact set_next1 (by have := HKN.out; omega) HY.out.2.1 HX.out (of_decide_eq_false HBM.out)), HC6, HS6, HT6⟩ | ((repeat apply Exists.intro); exact ⟨⟨k + 1, true, y, D6, by omega, by go_num, rfl, rfl, Lib.hid (by rw [HD6.out]; exact set_next1 (by have := HKN.out; omega) HY.out.2.1 HX.out (of_decide_eq_false HBM.out)), HC6, HS6, HT6⟩, rfl⟩)
            case measure => simp [intOf]; omega
          · go_wp2_with fail
            refine (CPK.out _).mono ?_
            rintro E w8 ⟨rfl, rfl⟩
            go_wp2_with fail
            go_roundw
            case rel => first | exact ⟨k + 1, false, y, D6, by omega, by go_num, rfl, rfl, Lib.hid (by rw [HD6.out]; exact set_next0 HY.out.2.1 HX.out (of_decide_eq_true HBM.out)), HC6, HS6, HT6⟩ | ((repeat apply Exists.intro); exact ⟨⟨k + 1, false, y, D6, by omega, by go_num, rfl, rfl, Lib.hid (by rw [HD6.out]; exact set_next0 HY.out.2.1 HX.out (of_decide_eq_true HBM.out)), HC6, HS6, HT6⟩, rfl⟩)
            case measure => simp [intOf]; omega
    · obtain rfl : k = len := by omega
      have HBW := Lib.hid (step_below HB1.out htr.out.below)
      go_wp2_with fail
      go_ret
      exact ⟨rfl, HBW.out⟩
end Go.Proofs.YtpbbhjifgaeklaaGreatDoor

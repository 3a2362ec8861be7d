/- Numbers as texts: a text that Number takes is what Itoa writes: plain. · What all walks of this seat lean on: the library's variables that are read (Env), and how a world grows. · The walks of package version: what its functions compute. · version.Print: how a version is written. -/
import Derived.Test.YtodbbfgkclkpgaaGreatDoorABK1
import Derived.Test.YtodbbfgkclkpgaaGreatDoorABK2
import Derived.Lib.AtoiTie
import Derived.Lib.ItoaMem
import Derived.Test.YtodbbfgkclkpgaaGreatDoorShelf
import Derived.Shelf.Strings.SlTrimAscii
import Derived.Lib.SmallJoins
import Derived.WalkKit
import Derived.WalkSpells
import Derived.WalkLawsBesides
import Derived.Outline
import Derived.Lib.Hide
import Derived.Handy
import Derived.Lib.ItoaLen
import Derived.Sort.Grow
import Derived.Shelf.GgClosure.Gives
namespace Go.Proofs.YtodbbfgkclkpgaaGreatDoor.VP

theorem dig_range {c : UInt8} (h : dig c = true) : 48 ≤ c.toNat ∧ c.toNat ≤ 57 := by
  unfold dig at h
  simp only [Bool.and_eq_true, decide_eq_true_eq] at h
  exact h
theorem fold_ge (l : List UInt8) (n : Nat) : n ≤ l.foldl (fun n c => n * 10 + (c.toNat - 48)) n := by
  induction l generalizing n with
  | nil => exact Nat.le_refl _
  | cons a l ih =>
    rw [List.foldl_cons]
    have := ih (n * 10 + (a.toNat - 48))
    omega
theorem val_pos {l : List UInt8} (hne : l ≠ []) (ha : l.all dig = true) (h0 : l.head? ≠ some 48) : 1 ≤ val l := by
  cases l with
  | nil => exact absurd rfl hne
  | cons a l =>
    rw [List.all_cons, Bool.and_eq_true] at ha
    have hr := dig_range ha.1
    have h48 : a.toNat ≠ 48 := fun e => h0 (by rw [List.head?_cons]; exact congrArg some (UInt8.toNat_inj.1 e))
    have := fold_ge l (0 * 10 + (a.toNat - 48))
    unfold val
    rw [List.foldl_cons]
    omega
theorem canon_dec (l : List UInt8) : l ≠ [] → l.all dig = true → ¬ (1 < l.length ∧ l.head? = some 48) → Go.Lib.decDigits (val l) = l := by
  induction l using rev_ind with
  | nil => intro h; exact absurd rfl h
  | append_singleton l c ih =>
    intro _ ha hz
    rw [List.all_append, Bool.and_eq_true] at ha
    have hc := dig_range (c := c) (by simpa using ha.2)
    have hb : UInt8.ofNat (48 + (c.toNat - 48)) = c := by
      rw [show 48 + (c.toNat - 48) = c.toNat by omega]; simp
    rw [val_snoc]
    by_cases hl : l = []
    · subst hl
      rw [show val [] = 0 from rfl, Nat.zero_mul, Nat.zero_add, Go.Lib.decDigits, dif_pos (by omega), hb]
      rfl
    · have h0 : l.head? ≠ some 48 := fun e => hz ⟨by have := List.length_pos_iff.2 hl; simp; omega, by
        cases l with
        | nil => exact absurd rfl hl
        | cons a l => exact e⟩
      have hv := val_pos hl ha.1 h0
      have hr := ih hl ha.1 (fun h => h0 h.2)
      rw [Go.Lib.decDigits, dif_neg (by omega), show (val l * 10 + (c.toNat - 48)) / 10 = val l by omega, show (val l * 10 + (c.toNat - 48)) % 10 = c.toNat - 48 by omega, hr, hb]
theorem number_dec {most : Nat} {l : List UInt8} {n : Nat} (h : number most l = some n) : l = Go.Lib.decDigits n ∧ n < 10 ^ most := by
  unfold number at h
  split at h
  · cases h
  · rename_i h1
    split at h
    · rename_i h2
      have e : val l = n := by simpa using h
      subst e
      have hne : l ≠ [] := fun e => h1 (.inl e)
      refine ⟨(canon_dec l hne h2 (fun e => h1 (.inr (.inr e)))).symm, Nat.lt_of_lt_of_le (val_lt l h2) (Nat.pow_le_pow_right (by omega) ?_)⟩
      exact Nat.le_of_not_lt fun e => h1 (.inr (.inl e))
    · cases h
theorem decFrom_val (l : List UInt8) (h : l.all dig = true) (acc : Nat) : Go.Lib.decFrom acc l = some (l.foldl (fun n c => n * 10 + (c.toNat - 48)) acc) := by
  induction l generalizing acc with
  | nil => rfl
  | cons a l ih =>
    rw [List.all_cons, Bool.and_eq_true] at h
    have hr := dig_range h.1
    unfold Go.Lib.decFrom Go.Lib.digitVal
    rw [if_pos hr, List.foldl_cons]
    exact ih h.2 _
theorem atoi_dec (n : Nat) (hn : n < 10 ^ 9) : Go.Lib.atoiAll (Go.Lib.decDigits n) = .ok (n : Int) := by
  obtain ⟨h1, h2, h3, _⟩ := val_decDigits n
  have hl := Go.Lib.decDigits_length n
  have hk := nDigits_le 8 n hn
  rw [Go.Lib.atoiAll_short _ (by omega)]
  have : Go.Lib.atoi (Go.Lib.decDigits n) = some (n : Int) := by
    cases hd : Go.Lib.decDigits n with
    | nil => exact absurd hd h3
    | cons a l =>
      rw [hd] at h1 h2
      have hr := dig_range (c := a) (by rw [List.all_cons, Bool.and_eq_true] at h2; exact h2.1)
      have n45 : (a == 45) = false := by
        rw [beq_eq_false_iff_ne]; intro e; rw [e] at hr; exact absurd hr.1 (by decide)
      have n43 : (a == 43) = false := by
        rw [beq_eq_false_iff_ne]; intro e; rw [e] at hr; exact absurd hr.1 (by decide)
      show (if (a == 45) = true then (Go.Lib.decNat l).map (fun (m : Nat) => -(m : Int)) else if (a == 43) = true then (Go.Lib.decNat l).map (fun (m : Nat) => (m : Int)) else (Go.Lib.decNat (a :: l)).map (fun (m : Nat) => (m : Int))) = some (n : Int)
      rw [n45, n43]
      unfold Go.Lib.decNat
      rw [if_neg (by simp), if_neg (by simp), if_neg (by simp), decFrom_val _ h2, show (a :: l).foldl (fun n c => n * 10 + (c.toNat - 48)) 0 = n from h1]
      rfl
  rw [this]
  rfl
theorem itoa_dec (n : Nat) : Go.Lib.itoa (n : Int) = Go.Lib.decDigits n := Go.Lib.itoa_nonneg n
end Go.Proofs.YtodbbfgkclkpgaaGreatDoor.VP

namespace Go.Proofs.YtodbbfgkclkpgaaGreatDoor
open Go.RowKit

/-- What the library's functions read of the library's own variables: a number, and the table of powers of ten. -/
def Env (w : World) : Prop := (∃ m, w.cell? ⟨4, 0, none⟩ = some (.int .i64 m)) ∧ Lib.TabIs Tryz.prog w "internal/strconv.uint64pow10" .u64 Lib.pow10Tab

theorem cell_lt {w : World} {a : Addr} {v : Value} (h : w.cell? a = some v) : a.block < w.heap.size := by
  rcases Nat.lt_or_ge a.block w.heap.size with h1 | h1
  · exact h1
  · unfold World.cell? at h
    rw [Array.getElem?_eq_none h1] at h
    cases h

theorem kept {w w1 : World} {p : Addr} {v : Value} (hb : Below w.heap.size w w1) (h : w.cell? p = some v) : w1.cell? p = some v := (hb.cell (cell_lt h)).trans h
theorem below_alloc (w : World) (o : Obj) : Below w.heap.size w (w.alloc o) := (Below.refl _ _).alloc (Nat.le_refl _) o
theorem below_drew (w : World) : Below w.heap.size w w.drew := (Below.refl _ _).drew

theorem box3 {w w1 : World} {x y z : Value} {t : TypeId} (hb : Below (w.alloc (.cells #[x, y, z] t)).heap.size (w.alloc (.cells #[x, y, z] t)) w1) :
    w1.cell? ⟨w.heap.size, 0, none⟩ = some x ∧ w1.cell? ⟨w.heap.size, 1, none⟩ = some y ∧ w1.cell? ⟨w.heap.size, 2, none⟩ = some z :=
  ⟨kept hb (by go_cell), kept hb (by go_cell), kept hb (by go_cell)⟩

theorem Env.below {w w' : World} (h : Env w) (hb : Below w.heap.size w w') : Env w' := by
  obtain ⟨⟨m, hm⟩, ht⟩ := h
  exact ⟨⟨m, (hb.cell (cell_lt hm)).trans hm⟩, Joins.tab_stays (g := 7) (by kernel_rfl) ht hb (Nat.le_refl _)⟩

theorem Env.drew {w : World} (h : Env w) : Env w.drew := h.below ((Below.refl _ _).drew)

/-- one step more -/
theorem step_below {w w1 w2 : World} (h1 : Below w.heap.size w w1) (h2 : Below w1.heap.size w1 w2) : Below w.heap.size w w2 := h1.trans (h2.mono h1.size)

theorem below_drewN (B : Nat) (w : World) (n : Nat) : Below B w (w.drewN n) := ⟨rfl, rfl, rfl, Nat.le_refl _, fun _ _ => rfl⟩

theorem ret_bool {a b : Bool} (h : a = b) : Ending.returned (.bool a) = .returned (.bool b) := by rw [h]

theorem isEmpty_false (s : ByteArray) (h : 0 < s.size) : s.toList.isEmpty = false := by
  rw [Lib.toList_data]
  cases h1 : s.data.toList with
  | nil => have := Lib.size_eq s; rw [h1, List.length_nil] at this; omega
  | cons _ _ => rfl
theorem isEmpty_true (s : ByteArray) (h : s.size = 0) : s.toList.isEmpty = true := by
  rw [Lib.toList_data]
  cases h1 : s.data.toList with
  | nil => rfl
  | cons _ _ => have := Lib.size_eq s; rw [h1, List.length_cons] at this; omega
theorem eq_empty (s : ByteArray) (h : s.size = 0) : s = ⟨#[]⟩ := by
  obtain ⟨⟨l⟩⟩ := s
  have : l = [] := List.eq_nil_of_length_eq_zero h
  subst this; rfl
theorem take_snoc (s : ByteArray) (k : Nat) (h : k < s.size) : s.data.toList.take (k + 1) = s.data.toList.take k ++ [s[k]] := by
  rw [List.take_succ_eq_append_getElem (by simpa using h)]; rfl
theorem drop_cons (s : ByteArray) (k : Nat) (h : k < s.size) : s.data.toList.drop k = s[k] :: s.data.toList.drop (k + 1) := by
  rw [List.drop_eq_getElem_cons (by simpa using h)]; rfl
theorem list_cons (s : ByteArray) (h : 0 < s.size) : s.data.toList = s[0] :: s.data.toList.tail := by
  have := drop_cons s 0 h
  rw [List.drop_zero] at this
  rw [← List.drop_one]
  exact this
theorem size_eq_length (s : ByteArray) : s.size = s.data.toList.length := Lib.size_eq s

theorem mk_data (s : ByteArray) : (⟨s.data.toList.toArray⟩ : ByteArray) = s := by cases s; simp
theorem data_inj {s t : ByteArray} (h : s.data.toList = t.data.toList) : s = t := by rw [← mk_data s, ← mk_data t, h]

/-! the library's calls, said in our words -/
theorem info_set : (Tryz.prog.info? 207).map (fun i => (i.zero, i.size)) = some (some (.agg (Array.replicate 256 (.bool false))), 256) := by kernel_rfl

/-- t is s without what stands ahead of it that is of one kind -/
def Behind (p : UInt8 → Bool) (s t : ByteArray) : Prop := t.data.toList = s.data.toList.dropWhile p

theorem Behind.size {p : UInt8 → Bool} {s t : ByteArray} (h : Behind p s t) : t.size ≤ s.size := by
  have := VP.dropWhile_le p s.data.toList
  rw [size_eq_length, size_eq_length, h]; exact this

def digitsB : ByteArray := ⟨#[48, 49, 50, 51, 52, 53, 54, 55, 56, 57]⟩
end Go.Proofs.YtodbbfgkclkpgaaGreatDoor

namespace Go.Proofs.YtodbbfgkclkpgaaGreatDoor
open Go.RowKit

/-- where a byte stands among the digits -/
def idxD (c : UInt8) : Int := Lib.indexByte digitsB.data.toList c
theorem idxD_fin : ∀ i : Fin 256, decide (0 ≤ idxD (UInt8.ofNat i.val)) = VP.dig (UInt8.ofNat i.val) := by decide +kernel
theorem idxD_dig (c : UInt8) : decide (0 ≤ idxD c) = VP.dig c := by
  have := idxD_fin ⟨c.toNat, c.toNat_lt⟩
  simpa using this
theorem call_idxD (c : UInt8) (w : World) : Calls Tryz.prog 136 #[.string ⟨#[48, 49, 50, 51, 52, 53, 54, 55, 56, 57]⟩, .int .u8 (c.toNat : Int)] w fun e w' => e = .returned (.int .i64 (idxD c)) ∧ w = w' :=
  (Tryz.strings_IndexByte digitsB (c.toNat : Int) w).mono fun e w' ⟨he, hw⟩ => ⟨by rw [he]; unfold idxD; simp, hw.symm⟩

def NumIs (s : ByteArray) (e : Ending) : Prop := e = .returned (.tuple #[.int .i64 (((VP.number 9 s.data.toList).getD 0 : Nat) : Int), .bool (VP.number 9 s.data.toList).isSome])

theorem number_none (s : ByteArray) (h : VP.number 9 s.data.toList = none) : NumIs s (.returned (.tuple #[.int .i64 0, .bool false])) := by
  unfold NumIs; rw [h]; rfl

set_option maxRecDepth 100000 in
theorem number_calls (s : ByteArray) (w : World) : Calls Tryz.prog 152 #[.string s] w fun e w' => NumIs s e ∧ w = w' := by
  have hl := size_eq_length s
  by_cases h0 : s.size = 0
  · have hs : s = ⟨#[]⟩ := by
      obtain ⟨⟨l⟩⟩ := s
      have : l = [] := List.eq_nil_of_length_eq_zero h0
      subst this; rfl
    subst hs
    clear hl h0
    go_enter Tryz.func152, Tryz.ntmps152
    go_wp2
    go_ret2
    exact ⟨number_none _ (by simp [VP.number]), rfl⟩
  · have h0' : 0 < s.size := by omega
    have hne := isEmpty_false s h0'
    clear h0
    by_cases h9 : 9 < s.size
    · have hn : VP.number 9 s.data.toList = none := by unfold VP.number; rw [if_pos]; right; left; omega
      have HN := Lib.hid hn
      clear hl hn
      go_enter Tryz.func152, Tryz.ntmps152
      go_wp2
      go_ret2
      exact ⟨number_none _ HN.out, rfl⟩
    · have h9' : s.size ≤ 9 := by omega
      clear h9
      by_cases hz : 1 < s.size ∧ s[0] = 48
      · obtain ⟨h1, hz⟩ := hz
        have hn : VP.number 9 s.data.toList = none := by
          unfold VP.number; rw [if_pos]; right; right
          refine ⟨by omega, ?_⟩
          have := drop_cons s 0 h0'
          rw [List.drop_zero] at this
          rw [this, hz]; rfl
        have hb : (((s[0].toNat : Nat) : Int) == 48) = true := by rw [hz]; rfl
        have HN := Lib.hid hn
        clear hl hn hz
        go_enter Tryz.func152, Tryz.ntmps152
        go_wp2
        go_ret2
        exact ⟨number_none _ HN.out, rfl⟩
      · have hnn : ¬ (s.data.toList = [] ∨ 9 < s.data.toList.length ∨ (1 < s.data.toList.length ∧ s.data.toList.head? = some 48)) := by
          rintro (e | e | ⟨e1, e2⟩)
          · rw [e, List.length_nil] at hl; omega
          · omega
          · refine hz ⟨by omega, ?_⟩
            have := drop_cons s 0 h0'
            rw [List.drop_zero] at this
            rw [this] at e2
            simpa using e2
        have hn : VP.number 9 s.data.toList = if s.data.toList.all VP.dig then some (VP.val s.data.toList) else none := by
          unfold VP.number; rw [if_neg hnn]
        have HN := Lib.hid hn
        have HL := Lib.hid hl
        clear hn hnn hl
        have hb : 1 < s.size → (((s[0].toNat : Nat) : Int) == 48) = false := fun h => by
          rw [beq_eq_false_iff_ne]
          intro e
          refine hz ⟨h, ?_⟩
          exact UInt8.toNat_inj.1 (by have e48 : (48 : UInt8).toNat = 48 := rfl; omega)
        clear hz
        have hq : 1 < s.size ∨ s.size ≤ 1 := by omega
        rcases hq with h1 | h1
        · have hb' := hb h1
          clear hb
          go_enter Tryz.func152, Tryz.ntmps152
          go_wp2
          go_loop [4, 25] (fun n i => ∃ k : Nat, k ≤ s.size ∧ i = .int .i64 k ∧ n = .int .i64 (VP.val (s.data.toList.take k) : Nat) ∧ Hid ((s.data.toList.take k).all VP.dig = true)) (fun _ i => s.size - (intOf i).toNat)
          case atStart => exact ⟨0, Nat.zero_le _, rfl, rfl, rfl⟩
          case round =>
            obtain ⟨k, hk, rfl, rfl, hall⟩ := hrel
            have hv := VP.val_lt _ hall.out
            have hlen : (s.data.toList.take k).length ≤ 9 := Nat.le_trans (List.length_take_le _ _) (by omega)
            have hpow : 10 ^ (s.data.toList.take k).length ≤ 10 ^ 9 := Nat.pow_le_pow_right (by omega) hlen
            have hv9 : VP.val (s.data.toList.take k) < 1000000000 := Nat.lt_of_lt_of_le hv hpow
            clear hv hlen hpow
            by_cases hlt : k < s.size
            · have hts := Lib.hid (take_snoc s k hlt)
              have hd := idxD_dig s[k]
              have hbt : s[k].toNat < 256 := s[k].toNat_lt
              cases hdg : VP.dig s[k] with
              | true =>
                rw [hdg] at hd
                have hd' : (0 ≤ idxD s[k]) := of_decide_eq_true hd
                have hdd : 48 ≤ s[k].toNat ∧ s[k].toNat ≤ 57 := by unfold VP.dig at hdg; simpa using hdg
                obtain ⟨hd1, hd2⟩ := hdd
                have hdg' := Lib.hid hdg
                clear hd hdg
                go_wp2_with (go_at_call 136; refine (call_idxD _ _).mono ?_; rintro e w' ⟨rfl, rfl⟩)
                go_round
                case rel => exact ⟨k + 1, by omega, by go_num, by rw [hts.out, VP.val_snoc]; go_num, Lib.hid (by rw [hts.out, List.all_append, hall.out]; simp [hdg'.out])⟩
                case measure => simp [intOf]; omega
              | false =>
                rw [hdg] at hd
                have hd' : ¬ (0 ≤ idxD s[k]) := of_decide_eq_false hd
                have hdg' := Lib.hid hdg
                clear hd hdg
                go_wp2_with (go_at_call 136; refine (call_idxD _ _).mono ?_; rintro e w' ⟨rfl, rfl⟩)
                go_ret2
                refine ⟨number_none _ ?_, rfl⟩
                rw [HN.out, if_neg]
                intro ha
                rw [← List.take_append_drop k s.data.toList, drop_cons s k hlt] at ha
                rw [List.all_append, List.all_cons, hdg'.out] at ha
                simp at ha
            · go_wp2
              go_ret2
              have hl := HL.out
              have ht : s.data.toList.take k = s.data.toList := List.take_of_length_le (by omega)
              refine ⟨?_, rfl⟩
              have ha := hall.out
              rw [ht] at ha
              unfold NumIs
              rw [HN.out, ht, if_pos ha]
              rfl
        · clear hb
          go_enter Tryz.func152, Tryz.ntmps152
          go_wp2
          go_loop [4, 25] (fun n i => ∃ k : Nat, k ≤ s.size ∧ i = .int .i64 k ∧ n = .int .i64 (VP.val (s.data.toList.take k) : Nat) ∧ Hid ((s.data.toList.take k).all VP.dig = true)) (fun _ i => s.size - (intOf i).toNat)
          case atStart => exact ⟨0, Nat.zero_le _, rfl, rfl, rfl⟩
          case round =>
            obtain ⟨k, hk, rfl, rfl, hall⟩ := hrel
            have hv := VP.val_lt _ hall.out
            have hlen : (s.data.toList.take k).length ≤ 9 := Nat.le_trans (List.length_take_le _ _) (by omega)
            have hpow : 10 ^ (s.data.toList.take k).length ≤ 10 ^ 9 := Nat.pow_le_pow_right (by omega) hlen
            have hv9 : VP.val (s.data.toList.take k) < 1000000000 := Nat.lt_of_lt_of_le hv hpow
            clear hv hlen hpow
            by_cases hlt : k < s.size
            · have hts := Lib.hid (take_snoc s k hlt)
              have hd := idxD_dig s[k]
              have hbt : s[k].toNat < 256 := s[k].toNat_lt
              cases hdg : VP.dig s[k] with
              | true =>
                rw [hdg] at hd
                have hd' : (0 ≤ idxD s[k]) := of_decide_eq_true hd
                have hdd : 48 ≤ s[k].toNat ∧ s[k].toNat ≤ 57 := by unfold VP.dig at hdg; simpa using hdg
                obtain ⟨hd1, hd2⟩ := hdd
                have hdg' := Lib.hid hdg
                clear hd hdg
                go_wp2_with (go_at_call 136; refine (call_idxD _ _).mono ?_; rintro e w' ⟨rfl, rfl⟩)
                go_round
                case rel => exact ⟨k + 1, by omega, by go_num, by rw [hts.out, VP.val_snoc]; go_num, Lib.hid (by rw [hts.out, List.all_append, hall.out]; simp [hdg'.out])⟩
                case measure => simp [intOf]; omega
              | false =>
                rw [hdg] at hd
                have hd' : ¬ (0 ≤ idxD s[k]) := of_decide_eq_false hd
                have hdg' := Lib.hid hdg
                clear hd hdg
                go_wp2_with (go_at_call 136; refine (call_idxD _ _).mono ?_; rintro e w' ⟨rfl, rfl⟩)
                go_ret2
                refine ⟨number_none _ ?_, rfl⟩
                rw [HN.out, if_neg]
                intro ha
                rw [← List.take_append_drop k s.data.toList, drop_cons s k hlt] at ha
                rw [List.all_append, List.all_cons, hdg'.out] at ha
                simp at ha
            · go_wp2
              go_ret2
              have hl := HL.out
              have ht : s.data.toList.take k = s.data.toList := List.take_of_length_le (by omega)
              refine ⟨?_, rfl⟩
              have ha := hall.out
              rw [ht] at ha
              unfold NumIs
              rw [HN.out, ht, if_pos ha]
              rfl

end Go.Proofs.YtodbbfgkclkpgaaGreatDoor

namespace Go.Proofs.YtodbbfgkclkpgaaGreatDoor
open Go.RowKit

def PrintIs (e : Int) (u r : ByteArray) (w : World) (E : Ending) (w' : World) : Prop := ∃ t : ByteArray, E = .returned (.string t) ∧ t.data.toList = VP.printP e u.data.toList r.data.toList ∧ Below w.heap.size w w'

theorem grow_below (w : World) (k : Nat) (os : Array Obj) : Below w.heap.size w (Go.Sort.grow (w.drewN k) os) := by
  refine ⟨rfl, rfl, rfl, by simp [Go.Sort.grow], fun i hi => ?_⟩
  show (w.heap ++ os)[i]? = _
  rw [Array.getElem?_append_left hi]

def ItoaIs (n : Int) (w : World) (E : Ending) (w' : World) : Prop := ∃ t : ByteArray, E = .returned (.string t) ∧ t.data.toList = Lib.itoa n ∧ t.size ≤ 21 ∧ Below w.heap.size w w'

theorem call_itoa (n : Int) (w : World) (hE : Env w) (h0 : -9223372036854775808 ≤ n) (h1 : n ≤ 9223372036854775807) : Calls Tryz.prog 79 #[.int .i64 n] w (ItoaIs n w) :=
  (Tryz.strconv_Itoa n h0 h1 w hE.2).mono fun e w' ⟨he, k, os, hw⟩ => by
    refine ⟨_, he, rfl, ?_, ?_⟩
    · rw [size_eq_length]; exact Lib.itoa_length_le n h0 h1
    · rw [hw]; exact grow_below w k os

theorem append_data (a b : ByteArray) : (a ++ b).data.toList = a.data.toList ++ b.data.toList := Joins.data_append a b

theorem printP_rev (r : ByteArray) (h : 0 < r.size) : ¬ r.data.toList = [] := fun e => by
  have := size_eq_length r
  rw [e, List.length_nil] at this
  omega

set_option maxRecDepth 100000 in
theorem print_calls (e : Int) (u r : ByteArray) (w : World) (hE : Env w) (h0 : -9223372036854775808 ≤ e) (h1 : e ≤ 9223372036854775807) (hu : u.size ≤ 1000000) (hr : r.size ≤ 1000000) :
    Calls Tryz.prog 56 #[.agg #[.int .i64 e, .string u, .string r]] w (PrintIs e u r w) := by
  have hb0 := below_alloc w (.cells #[.int .i64 e, .string u, .string r] 23)
  have hE1 := hE.below hb0
  clear hE
  have hr' : r.size = 0 ∨ 0 < r.size := by omega
  by_cases he : e = 0
  · subst he
    rcases hr' with hr' | hr'
    · have hz := isEmpty_true r hr'
      have er := eq_empty r hr'
      subst er
      clear hr' hr
      go_enter Tryz.func56, Tryz.ntmps56
      go_wp2
      go_ret
      exact ⟨_, rfl, by simp [VP.printP], hb0⟩
    · have hz := isEmpty_false r hr'
      have Hr := Lib.hid (printP_rev r hr')
      go_enter Tryz.func56, Tryz.ntmps56
      go_wp2
      go_ret
      exact ⟨_, rfl, by rw [append_data, append_data]; simp [VP.printP, Hr.out], hb0⟩
  · have hb : (e != 0) = true := by rw [bne_iff_ne]; exact he
    have HE := Lib.hid he
    clear he
    rcases hr' with hr' | hr'
    · have hz := isEmpty_true r hr'
      have er := eq_empty r hr'
      subst er
      clear hr' hr
      go_enter Tryz.func56, Tryz.ntmps56
      go_wp2_with fail
      refine (call_itoa _ _ hE1 h0 h1).mono ?_
      rintro E w1 ⟨t, rfl, ht, hts, hb1⟩
      have hB := step_below hb0 hb1
      obtain ⟨c0, c1, c2⟩ := box3 hb1
      clear hb1
      have Ht := Lib.hid ht
      clear ht
      go_wp2
      go_ret
      exact ⟨_, rfl, by rw [append_data, append_data, Ht.out]; simp [VP.printP, HE.out], hB⟩
    · have hz := isEmpty_false r hr'
      have Hr := Lib.hid (printP_rev r hr')
      go_enter Tryz.func56, Tryz.ntmps56
      go_wp2_with fail
      refine (call_itoa _ _ hE1 h0 h1).mono ?_
      rintro E w1 ⟨t, rfl, ht, hts, hb1⟩
      have hB := step_below hb0 hb1
      obtain ⟨c0, c1, c2⟩ := box3 hb1
      clear hb1
      have Ht := Lib.hid ht
      clear ht
      go_wp2
      go_ret
      exact ⟨_, rfl, by rw [append_data, append_data, append_data, append_data, Ht.out]; simp [VP.printP, HE.out, Hr.out], hB⟩
end Go.Proofs.YtodbbfgkclkpgaaGreatDoor

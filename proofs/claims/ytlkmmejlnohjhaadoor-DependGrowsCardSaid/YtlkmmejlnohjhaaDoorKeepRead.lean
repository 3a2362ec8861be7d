/- What the statements on versions share: short and read. -/
import Derived.Test.YtlkmmejlnohjhaaDoorParseWalk
namespace Go.Proofs.YtlkmmejlnohjhaaDoor
open Go.RowKit

def shortB (u r : ByteArray) : Bool := decide (u.size ≤ 100) && decide (r.size ≤ 100)

def BoolIs (b : Bool) (w : World) (E : Ending) (w' : World) : Prop := E = .returned (.bool b) ∧ Below w.heap.size w w'

set_option maxRecDepth 100000 in
theorem short_calls (e : Int) (u r : ByteArray) (w : World) :
    Calls Tryd.prog 7 #[.agg #[.int .i64 e, .string u, .string r]] w (BoolIs (shortB u r) w) := by
  have hb0 := below_alloc w (.cells #[.int .i64 e, .string u, .string r] 23)
  by_cases h1 : u.size ≤ 100
  · by_cases h2 : r.size ≤ 100
    · have F := Lib.hid (show shortB u r = true by unfold shortB; simp [h1, h2])
      go_enter Tryd.func7, Tryd.ntmps7
      go_wp2
      go_ret
      exact ⟨ret_bool (by rw [F.out] <;> simp <;> omega), hb0⟩
    · have F := Lib.hid (show shortB u r = false by unfold shortB; simp [h2])
      go_enter Tryd.func7, Tryd.ntmps7
      go_wp2
      go_ret
      exact ⟨ret_bool (by rw [F.out] <;> simp <;> omega), hb0⟩
  · have F := Lib.hid (show shortB u r = false by unfold shortB; simp [h1])
    go_enter Tryd.func7, Tryd.ntmps7
    go_wp2
    go_ret
    exact ⟨ret_bool (by rw [F.out] <;> simp <;> omega), hb0⟩

/-- the version that a text is; none: no letter of one -/
def readP (l : List UInt8) : Int × List UInt8 × List UInt8 := (VP.parseP l).getD (0, [], [])

def ReadIs (s : ByteArray) (w : World) (E : Ending) (w' : World) : Prop :=
  Below w.heap.size w w' ∧ ∃ (e : Int) (u r : ByteArray), readP s.data.toList = (e, u.data.toList, r.data.toList) ∧ E = .returned (.agg #[.int .i64 e, .string u, .string r])

set_option maxRecDepth 100000 in
theorem read_calls (s : ByteArray) (w : World) (hE : Env w) : Calls Tryd.prog 21 #[.string s] w (ReadIs s w) := by
  have hb0 := below_alloc w (.cells #[.int .i64 0, .string ⟨#[]⟩, .string ⟨#[]⟩] 23)
  have hE1 := hE.below hb0
  clear hE
  go_enter Tryd.func21, Tryd.ntmps21
  go_wp2_with fail
  refine (parse_calls s _ hE1).mono ?_
  rintro E w1 ⟨hb, hP⟩
  have hsz : w.heap.size < w1.heap.size := by have := hb.size; simp at this; omega
  have k0 := kept hb (p := ⟨w.heap.size, 0, none⟩) (v := .int .i64 0) (by go_cell)
  have k1 := kept hb (p := ⟨w.heap.size, 1, none⟩) (v := .string ⟨#[]⟩) (by go_cell)
  have k2 := kept hb (p := ⟨w.heap.size, 2, none⟩) (v := .string ⟨#[]⟩) (by go_cell)
  have f0 := keptf hb (p := ⟨w.heap.size, 0, none⟩) (by simp) (by simp [go_sem])
  have f1 := keptf hb (p := ⟨w.heap.size, 1, none⟩) (by simp) (by simp [go_sem])
  have f2 := keptf hb (p := ⟨w.heap.size, 2, none⟩) (by simp) (by simp [go_sem])
  have hB := step_below hb0 hb
  clear hb hb0 hE1
  rcases hP with ⟨hp, rfl⟩ | ⟨e, u, r, hp, rfl⟩
  · have HP := Lib.hid hp
    clear hp
    unfold noVersion
    go_wp2_with fail
    exact bodyPost_ret (v := .agg #[.int .i64 0, .string ⟨#[]⟩, .string ⟨#[]⟩]) (by simp [results, Tryd.results21, go_sem, World.cell?_alloc_lt, hsz, k0, k1, k2]) rfl ⟨by go_grown, 0, ⟨#[]⟩, ⟨#[]⟩, by unfold readP; rw [HP.out]; rfl, rfl⟩
  · have HP := Lib.hid hp
    clear hp
    go_wp2_with fail
    exact bodyPost_ret (v := .agg #[.int .i64 e, .string u, .string r]) (by simp [results, Tryd.results21, go_sem, World.cell?_alloc_lt, hsz, k0, k1, k2]) rfl ⟨by go_grown, e, u, r, by unfold readP; rw [HP.out]; rfl, rfl⟩

/-- a version that may be is read as it is written -/
theorem read_right {e : Int} {u r : List UInt8} (h : VP.RightP e u r) : readP (VP.printP e u r) = (e, u, r) := by
  unfold readP
  rw [VP.parse_print ((VP.rightP_iff e u r).2 h)]
  rfl

theorem itoa_1 : Lib.itoa 1 = [49] := by unfold Lib.itoa; rw [if_neg (by decide)]; exact Lib.decDigits_one (i := 1) (by decide)
theorem read_a : readP [49, 58, 50, 46, 48, 126, 114, 99, 49, 45, 51] = (1, [50, 46, 48, 126, 114, 99, 49], [51]) := by
  have h : VP.printP 1 [50, 46, 48, 126, 114, 99, 49] [51] = [49, 58, 50, 46, 48, 126, 114, 99, 49, 45, 51] := by unfold VP.printP; rw [itoa_1]; rfl
  rw [← h]
  exact read_right ⟨by decide, by decide, by decide, by decide, by decide, by decide, by rw [h]; decide⟩
theorem read_0 (u r : List UInt8) (hs : VP.startsDig u = true) (ha : u.all (VP.ok1 0) = true) (hr : r.all VP.ok0 = true) (hd : r ≠ [] ∨ 45 ∉ u) (hl : (VP.printP 0 u r).length ≤ 40) : readP (VP.printP 0 u r) = (0, u, r) :=
  read_right ⟨by decide, by decide, hs, ha, hr, hd, hl⟩
theorem read_b : readP [49, 46, 48, 126, 97] = (0, [49, 46, 48, 126, 97], []) := read_0 [49, 46, 48, 126, 97] [] (by decide) (by decide) (by decide) (by decide) (by decide)
theorem read_c : readP [49, 46, 48] = (0, [49, 46, 48], []) := read_0 [49, 46, 48] [] (by decide) (by decide) (by decide) (by decide) (by decide)
theorem read_d : readP [49, 46, 57] = (0, [49, 46, 57], []) := read_0 [49, 46, 57] [] (by decide) (by decide) (by decide) (by decide) (by decide)
theorem read_e : readP [49, 46, 49, 48] = (0, [49, 46, 49, 48], []) := read_0 [49, 46, 49, 48] [] (by decide) (by decide) (by decide) (by decide) (by decide)
theorem read_f : readP [49, 46, 48, 45, 50] = (0, [49, 46, 48], [50]) := read_0 [49, 46, 48] [50] (by decide) (by decide) (by decide) (by decide) (by decide)
theorem partC_cmpN (a b : List UInt8) : VP.partC a b = VP.cmpN ((VP.key a).length + (VP.key b).length) (VP.key a) (VP.key b) := by
  unfold VP.partC
  exact VP.cmpL_eq_cmpN _ _ _ (by omega) (by omega)
theorem cmp_bc : VP.cmpV 0 [49, 46, 48, 126, 97] [] 0 [49, 46, 48] [] = -1 := by unfold VP.cmpV; rw [partC_cmpN, partC_cmpN]; decide +kernel
theorem cmp_de : VP.cmpV 0 [49, 46, 57] [] 0 [49, 46, 49, 48] [] = -1 := by unfold VP.cmpV; rw [partC_cmpN, partC_cmpN]; decide +kernel
theorem cmp_fc : VP.cmpV 0 [49, 46, 48] [50] 0 [49, 46, 48] [] = 1 := by unfold VP.cmpV; rw [partC_cmpN, partC_cmpN]; decide +kernel

theorem read_const (s : ByteArray) (e : Int) (u r : ByteArray) (h : readP s.data.toList = (e, u.data.toList, r.data.toList)) (w : World) (hE : Env w) :
    Calls Tryd.prog 21 #[.string s] w fun E w' => E = .returned (.agg #[.int .i64 e, .string u, .string r]) ∧ Below w.heap.size w w' :=
  (read_calls s w hE).mono fun E w' ⟨hb, e', u', r', h', he⟩ => by
    rw [h] at h'
    simp only [Prod.mk.injEq] at h'
    obtain ⟨h1, h2, h3⟩ := h'
    refine ⟨?_, hb⟩
    rw [he, h1, data_inj h2, data_inj h3]

theorem print_const (e : Int) (u r : ByteArray) (t : ByteArray) (h : t.data.toList = VP.printP e u.data.toList r.data.toList) (w : World) (hE : Env w) (h0 : -9223372036854775808 ≤ e) (h1 : e ≤ 9223372036854775807) (hu : u.size ≤ 1000000) (hr : r.size ≤ 1000000) :
    Calls Tryd.prog 11 #[.agg #[.int .i64 e, .string u, .string r]] w fun E w' => E = .returned (.string t) ∧ Below w.heap.size w w' :=
  (print_calls e u r w hE h0 h1 hu hr).mono fun E w' ⟨t', he, ht, hb⟩ => ⟨by rw [he, data_inj (ht.trans h.symm)], hb⟩

theorem cmp_const (e1 : Int) (u1 r1 : ByteArray) (e2 : Int) (u2 r2 : ByteArray) (n : Int) (h : VP.cmpV e1 u1.data.toList r1.data.toList e2 u2.data.toList r2.data.toList = n) (hu1 : u1.size ≤ 1000000) (hr1 : r1.size ≤ 1000000) (hu2 : u2.size ≤ 1000000) (hr2 : r2.size ≤ 1000000) (w : World) :
    Calls Tryd.prog 13 #[.agg #[.int .i64 e1, .string u1, .string r1], .agg #[.int .i64 e2, .string u2, .string r2]] w fun e w' => e = .returned (.int .i64 n) ∧ Below w.heap.size w w' :=
  (compare_calls e1 u1 r1 e2 u2 r2 w hu1 hr1 hu2 hr2).mono fun e w' ⟨he, hb⟩ => ⟨by rw [he, h], hb⟩
end Go.Proofs.YtlkmmejlnohjhaaDoor

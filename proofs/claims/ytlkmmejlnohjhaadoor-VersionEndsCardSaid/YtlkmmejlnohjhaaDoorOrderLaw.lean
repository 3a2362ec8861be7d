/- VersionOrder: for every three versions the call returns true: from the walk and the plain order of versions; the row; the tied card. Conditions: none of ours (the row lists five of the library's tables, tied to the program's text). -/
import Derived.Test.YtlkmmejlnohjhaaDoorOrderMain
import Derived.Test.YtlkmmejlnohjhaaDoorFrame
import Derived.Test.YtlkmmejlnohjhaaDoorTie
import Derived.Test.YtlkmmejlnohjhaaDoorCards
namespace Go.Proofs.YtlkmmejlnohjhaaDoor
open Go.RowKit Go.ChangeShapes Go.WideShapes Go.ChangeAt Go.Joins

/-- versions, all in one -/
def cmpT (a b : Int × List UInt8 × List UInt8) : Int := VP.cmpV a.1 a.2.1 a.2.2 b.1 b.2.1 b.2.2
theorem row_cmpT : VP.Row cmpT :=
  (VP.row_cmpI.comap (fun a : Int × List UInt8 × List UInt8 => a.1)).lex ((VP.row_partC.comap (fun a : Int × List UInt8 × List UInt8 => a.2.1)).lex (VP.row_partC.comap (fun a : Int × List UInt8 × List UInt8 => a.2.2)))

theorem does_bool {w : World} {f : Nat} {args : Array Value} {b : Bool} (h : ∀ W, Below w.heap.size w W → Calls Tryd.prog f args W (BoolIs b W)) : Does w f args (.bool b) := h
theorem does_short {e : Int} {u r : ByteArray} {b : Bool} (w : World) (h : shortB u r = b) : Does w 7 #[.agg #[.int .i64 e, .string u, .string r]] (.bool b) :=
  fun W _ => by
    subst h
    exact short_calls e u r W
theorem short_sizes {u r : ByteArray} (h : shortB u r = true) : u.size ≤ 100 ∧ r.size ≤ 100 := by
  unfold shortB at h
  simpa using h
theorem does_right {e : Int} {u r : ByteArray} {b : Bool} {w : World} (hE : Env w) (hs : shortB u r = true) (h : VP.rightP e u.data.toList r.data.toList = b) : Does w 9 #[.agg #[.int .i64 e, .string u, .string r]] (.bool b) :=
  fun W hb => by
    subst h
    have := short_sizes hs
    exact right_calls e u r W (hE.below hb) (by omega) (by omega)
theorem does_cmp {e1 : Int} {u1 r1 : ByteArray} {e2 : Int} {u2 r2 : ByteArray} {n : Int} (w : World) (hs1 : shortB u1 r1 = true) (hs2 : shortB u2 r2 = true) (h : cmpT (e1, u1.data.toList, r1.data.toList) (e2, u2.data.toList, r2.data.toList) = n) :
    Does w 13 #[.agg #[.int .i64 e1, .string u1, .string r1], .agg #[.int .i64 e2, .string u2, .string r2]] (.int .i64 n) :=
  fun W _ => by
    subst h
    have := short_sizes hs1
    have := short_sizes hs2
    exact compare_calls e1 u1 r1 e2 u2 r2 W (by omega) (by omega) (by omega) (by omega)
theorem does_is {e1 : Int} {u1 r1 : ByteArray} {op : Int} {e2 : Int} {u2 r2 : ByteArray} {b : Bool} (w : World) (hs1 : shortB u1 r1 = true) (hs2 : shortB u2 r2 = true) (h : VP.isOp op (cmpT (e1, u1.data.toList, r1.data.toList) (e2, u2.data.toList, r2.data.toList)) = b) :
    Does w 14 #[.agg #[.int .i64 e1, .string u1, .string r1], .int .i64 op, .agg #[.int .i64 e2, .string u2, .string r2]] (.bool b) :=
  fun W _ => by
    subst h
    have := short_sizes hs1
    have := short_sizes hs2
    exact is_calls e1 u1 r1 op e2 u2 r2 W (by omega) (by omega) (by omega) (by omega)
theorem does_sign {n : Int} (w : World) (h : n = -1 ∨ n = 0 ∨ n = 1) : Does w 12 #[.int .i64 n] (.int .i64 n) :=
  fun W _ => (sign_calls n W h).mono fun _ _ ⟨he, hw⟩ => ⟨he, hw ▸ Below.refl _ _⟩
theorem does_held {w : World} (hE : Env w) : Does w 8 #[] (.bool true) := fun W hb => held_calls W (hE.below hb)

/-- what a version is written as is that version, as the program does it -/
theorem does_print {e : Int} {u r : ByteArray} {w : World} (hE : Env w) (hs : shortB u r = true) (h : VP.rightP e u.data.toList r.data.toList = true) :
    Does w 11 #[.agg #[.int .i64 e, .string u, .string r]] (.string ⟨(VP.printP e u.data.toList r.data.toList).toArray⟩) :=
  fun W hb => by
    have := short_sizes hs
    have H := (VP.rightP_iff _ _ _).1 h
    have := H.lo
    have := H.hi
    exact print_const e u r _ rfl W (hE.below hb) (by omega) (by omega) (by omega) (by omega)
theorem does_parse {e : Int} {u r : ByteArray} {w : World} (hE : Env w) (h : VP.rightP e u.data.toList r.data.toList = true) :
    Does w 10 #[.string ⟨(VP.printP e u.data.toList r.data.toList).toArray⟩] (.tuple #[.agg #[.int .i64 e, .string u, .string r], .nilIface]) :=
  fun W hb => (parse_calls _ W (hE.below hb)).mono fun _ _ ⟨hb', hp⟩ => by
    have hpp : VP.parseP (⟨(VP.printP e u.data.toList r.data.toList).toArray⟩ : ByteArray).data.toList = some (e, u.data.toList, r.data.toList) := VP.parse_print h
    refine ⟨?_, hb'⟩
    rcases hp with ⟨hn, _⟩ | ⟨e', u', r', hp, he⟩
    · rw [hpp] at hn; cases hn
    · rw [hpp] at hp
      simp only [Option.some.injEq, Prod.mk.injEq] at hp
      obtain ⟨h1, h2, h3⟩ := hp
      rw [he, ← h1, data_inj h2.symm, data_inj h3.symm]

theorem dec_not {a b : Prop} [Decidable a] [Decidable b] (h : a ↔ ¬ b) : decide a = !decide b := by
  by_cases hb : b
  · rw [decide_eq_true hb, decide_eq_false (fun ha => h.1 ha hb)]; rfl
  · rw [decide_eq_false hb, decide_eq_true (h.2 hb)]; rfl
theorem isOp_1 (m : Int) : VP.isOp 1 m = decide (m < 0) := by unfold VP.isOp; simp
theorem isOp_2 (m : Int) : VP.isOp 2 m = !decide (0 < m) := (show VP.isOp 2 m = decide (m ≤ 0) by unfold VP.isOp; simp).trans (dec_not (by omega))
theorem isOp_3 (m : Int) : VP.isOp 3 m = (m == 0) := by unfold VP.isOp; simp
theorem isOp_4 (m : Int) : VP.isOp 4 m = !decide (m < 0) := (show VP.isOp 4 m = decide (0 ≤ m) by unfold VP.isOp; simp).trans (dec_not (by omega))
theorem isOp_5 (m : Int) : VP.isOp 5 m = decide (0 < m) := by unfold VP.isOp; simp

set_option maxHeartbeats 1000000 in
theorem order_calls (e1 : Int) (u1 r1 : ByteArray) (e2 : Int) (u2 r2 : ByteArray) (e3 : Int) (u3 r3 : ByteArray) (w : World) (hE : Env w) :
    Calls Tryd.prog 3 #[.agg #[.int .i64 e1, .string u1, .string r1], .agg #[.int .i64 e2, .string u2, .string r2], .agg #[.int .i64 e3, .string u3, .string r3]] w (BoolIs true w) := by
  cases hs1 : shortB u1 r1 with
  | false => exact order_short1 e1 u1 r1 e2 u2 r2 e3 u3 r3 w (does_short w hs1)
  | true =>
  cases hs2 : shortB u2 r2 with
  | false => exact order_short2 e1 u1 r1 e2 u2 r2 e3 u3 r3 w (does_short w hs1) (does_short w hs2)
  | true =>
  cases hs3 : shortB u3 r3 with
  | false => exact order_short3 e1 u1 r1 e2 u2 r2 e3 u3 r3 w (does_short w hs1) (does_short w hs2) (does_short w hs3)
  | true =>
  cases hr1 : VP.rightP e1 u1.data.toList r1.data.toList with
  | false => exact order_right1 e1 u1 r1 e2 u2 r2 e3 u3 r3 w (does_short w hs1) (does_short w hs2) (does_short w hs3) (does_held hE) (does_right hE hs1 hr1)
  | true =>
  cases hr2 : VP.rightP e2 u2.data.toList r2.data.toList with
  | false => exact order_right2 e1 u1 r1 e2 u2 r2 e3 u3 r3 w (does_short w hs1) (does_short w hs2) (does_short w hs3) (does_held hE) (does_right hE hs1 hr1) (does_right hE hs2 hr2)
  | true =>
  cases hr3 : VP.rightP e3 u3.data.toList r3.data.toList with
  | false => exact order_right3 e1 u1 r1 e2 u2 r2 e3 u3 r3 w (does_short w hs1) (does_short w hs2) (does_short w hs3) (does_held hE) (does_right hE hs1 hr1) (does_right hE hs2 hr2) (does_right hE hs3 hr3)
  | true =>
  have hab := row_cmpT.rng (e1, u1.data.toList, r1.data.toList) (e2, u2.data.toList, r2.data.toList)
  have hbc := row_cmpT.rng (e2, u2.data.toList, r2.data.toList) (e3, u3.data.toList, r3.data.toList)
  have hac := row_cmpT.rng (e1, u1.data.toList, r1.data.toList) (e3, u3.data.toList, r3.data.toList)
  have hba := row_cmpT.anti (e1, u1.data.toList, r1.data.toList) (e2, u2.data.toList, r2.data.toList)
  have haa := row_cmpT.self (e1, u1.data.toList, r1.data.toList)
  have t2 := row_cmpT.eq_left (a := (e1, u1.data.toList, r1.data.toList)) (b := (e2, u2.data.toList, r2.data.toList)) (e3, u3.data.toList, r3.data.toList)
  have t3 := row_cmpT.eq_right (a := (e2, u2.data.toList, r2.data.toList)) (b := (e3, u3.data.toList, r3.data.toList)) (e1, u1.data.toList, r1.data.toList)
  have t4 := row_cmpT.lt_trans (a := (e1, u1.data.toList, r1.data.toList)) (b := (e2, u2.data.toList, r2.data.toList)) (c := (e3, u3.data.toList, r3.data.toList))
  have t5 := row_cmpT.gt_trans (a := (e1, u1.data.toList, r1.data.toList)) (b := (e2, u2.data.toList, r2.data.toList)) (c := (e3, u3.data.toList, r3.data.toList))
  obtain ⟨m, hm⟩ : ∃ m, cmpT (e1, u1.data.toList, r1.data.toList) (e2, u2.data.toList, r2.data.toList) = m := ⟨_, rfl⟩
  obtain ⟨n, hn⟩ : ∃ n, cmpT (e2, u2.data.toList, r2.data.toList) (e3, u3.data.toList, r3.data.toList) = n := ⟨_, rfl⟩
  obtain ⟨k, hk⟩ : ∃ k, cmpT (e1, u1.data.toList, r1.data.toList) (e3, u3.data.toList, r3.data.toList) = k := ⟨_, rfl⟩
  rw [hm] at hab hba t2 t3 t4 t5
  rw [hn] at hbc t3 t4 t5
  rw [hk] at hac t2 t3 t4 t5
  rw [hn] at t2
  exact order_main e1 u1 r1 e2 u2 r2 e3 u3 r3 w (does_short w hs1) (does_short w hs2) (does_short w hs3) (does_held hE) (does_right hE hs1 hr1) (does_right hE hs2 hr2) (does_right hE hs3 hr3) _ (does_print hE hs1 hr1) (does_parse hE hr1)
    m n k (does_cmp w hs1 hs2 hm) (does_cmp w hs2 hs3 hn) (does_cmp w hs1 hs3 hk) (does_cmp w hs2 hs1 hba) (does_cmp w hs1 hs1 haa)
    (does_sign w hab) (does_sign w hbc) (does_sign w hac) (does_sign w (by omega))
    (decide (m < 0)) (m == 0) (decide (0 < m))
    (does_is w hs1 hs2 (by rw [hm]; rfl))
    (does_is w hs1 hs2 (by rw [hm, isOp_1])) (does_is w hs2 hs1 (by rw [hba, isOp_5]; exact decide_eq_decide.2 (by omega)))
    (does_is w hs1 hs2 (by rw [hm, isOp_2])) (does_is w hs2 hs1 (by rw [hba, isOp_4]; exact congrArg not (decide_eq_decide.2 (by omega))))
    (does_is w hs1 hs2 (by rw [hm, isOp_3])) (does_is w hs2 hs1 (by rw [hba, isOp_3, Bool.eq_iff_iff, beq_iff_eq, beq_iff_eq]; omega))
    (does_is w hs1 hs2 (by rw [hm, isOp_4])) (does_is w hs2 hs1 (by rw [hba, isOp_2]; exact congrArg not (decide_eq_decide.2 (by omega))))
    (does_is w hs1 hs2 (by rw [hm, isOp_5])) (does_is w hs2 hs1 (by rw [hba, isOp_1]; exact decide_eq_decide.2 (by omega)))
    hab hbc hac (by intro h; rcases hab with h' | h' | h'
                    · exact (t4 h' (by omega)).trans h'.symm
                    · have := t2 h'; omega
                    · exact (t5 h' (by omega)).trans h'.symm) (fun h => t2 h) (fun h => (t3 h).symm)
end Go.Proofs.YtlkmmejlnohjhaaDoor

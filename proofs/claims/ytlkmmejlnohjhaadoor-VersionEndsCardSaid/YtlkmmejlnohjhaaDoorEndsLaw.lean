/- VersionEnds: for every version, text and number the call returns true: from the walk and the plain order of versions. -/
import Derived.Test.YtlkmmejlnohjhaaDoorEndsTop
namespace Go.Proofs.YtlkmmejlnohjhaaDoor
open Go.RowKit

theorem does_right_any {e : Int} {u r : ByteArray} {b : Bool} {w : World} (hE : Env w) (hu : u.size ≤ 1000000) (hr : r.size ≤ 1000000) (h : VP.rightP e u.data.toList r.data.toList = b) : Does w 9 #[.agg #[.int .i64 e, .string u, .string r]] (.bool b) :=
  fun W hb => by
    subst h
    exact right_calls e u r W (hE.below hb) hu hr
theorem does_cmp_any {e1 : Int} {u1 r1 : ByteArray} {e2 : Int} {u2 r2 : ByteArray} {n : Int} (w : World) (h1 : u1.size ≤ 1000000) (h2 : r1.size ≤ 1000000) (h3 : u2.size ≤ 1000000) (h4 : r2.size ≤ 1000000)
    (h : VP.cmpV e1 u1.data.toList r1.data.toList e2 u2.data.toList r2.data.toList = n) :
    Does w 13 #[.agg #[.int .i64 e1, .string u1, .string r1], .agg #[.int .i64 e2, .string u2, .string r2]] (.int .i64 n) :=
  fun W _ => by
    subst h
    exact compare_calls e1 u1 r1 e2 u2 r2 W h1 h2 h3 h4
theorem does_pick {a n k : Int} (w : World) (h0 : 1 ≤ n) (h1 : n ≤ 1000) (hk : pickV a n = k) : Does w 20 #[.int .i64 a, .int .i64 n] (.int .i64 k) :=
  fun W _ => (pick_calls a n h0 h1 W).mono fun _ _ ⟨he, hw⟩ => ⟨by rw [he, hk], hw ▸ Below.refl _ _⟩
theorem does_digits (w : World) (k : Nat) (hk : k < 1000) : Does w 23 #[.int .i64 (k : Int)] (.string ⟨(Lib.decDigits k).toArray⟩) :=
  fun W _ => (digits_calls k k W (Nat.le_refl _) hk).mono fun _ _ ⟨t, he, ht, _, hb⟩ => ⟨by rw [he]; exact congrArg (fun s : ByteArray => Ending.returned (.string s)) (data_inj ht), hb⟩
theorem does_rep (w : World) (z : Nat) (hz : z ≤ 4) : Does w 22 #[.string ⟨#[48]⟩, .int .i64 (z : Int)] (.string ⟨(List.replicate z (48 : UInt8)).toArray⟩) :=
  fun W _ => (call_rep z hz W).mono fun _ _ ⟨t, he, ht, _, hb⟩ => ⟨by rw [he]; exact congrArg (fun s : ByteArray => Ending.returned (.string s)) (data_inj ht), hb⟩
theorem does_read {s : ByteArray} {e : Int} {u r : ByteArray} {w : World} (hE : Env w) (h : readP s.data.toList = (e, u.data.toList, r.data.toList)) : Does w 21 #[.string s] (.agg #[.int .i64 e, .string u, .string r]) :=
  fun W hb => read_const s e u r h W (hE.below hb)

theorem ok1_of_dig {l : List UInt8} (h : l.all VP.dig = true) : l.all (VP.ok1 0) = true := by
  rw [List.all_eq_true] at h ⊢
  intro c hc
  unfold VP.ok1 VP.ok0
  rw [h c hc]
  rfl
theorem not_dash {l : List UInt8} (h : l.all VP.dig = true) : 45 ∉ l := VP.not_mem_of_all h (by decide)

/-- a text of a one, a point and digits is a version -/
theorem read_num (l : List UInt8) (h : l.all VP.dig = true) (hl : l.length ≤ 30) : readP ([49, 46] ++ l) = (0, [49, 46] ++ l, []) := by
  have hp : VP.printP 0 ([49, 46] ++ l) [] = [49, 46] ++ l := by simp [VP.printP]
  have hr := read_0 ([49, 46] ++ l) [] (by rfl) (by rw [List.all_append, ok1_of_dig h]; decide) (by rfl) (Or.inr (by
    rw [List.mem_append, not_or]
    exact ⟨by decide, not_dash h⟩)) (by rw [hp]; simp; omega)
  rw [hp] at hr
  exact hr

theorem ends_calls (e : Int) (u r more : ByteArray) (n : Int) (w : World) (hE : Env w) :
    Calls Tryd.prog 5 #[.agg #[.int .i64 e, .string u, .string r], .string more, .int .i64 n] w (BoolIs true w) := by
  cases hs : shortB u r with
  | false => exact ends_short e u r more n w (does_short w hs)
  | true =>
  have s1 := does_short (e := e) w hs
  obtain ⟨hu, hr⟩ := short_sizes hs
  by_cases hm : 50 < more.size
  · exact ends_long e u r more n w hm s1
  have hm' : more.size ≤ 50 := by omega
  have hh := does_held hE
  have db : (u ++ (⟨#[126]⟩ ++ more)).data.toList = u.data.toList ++ 126 :: more.data.toList := by rw [append_data, append_data]; rfl
  have dc : (u ++ (⟨#[43]⟩ ++ more)).data.toList = u.data.toList ++ 43 :: more.data.toList := by rw [append_data, append_data]; rfl
  have zb : (u ++ (⟨#[126]⟩ ++ more)).size ≤ 1000000 := by
    have h1 := size_eq_length u
    have h2 := size_eq_length more
    rw [size_eq_length, db, List.length_append, List.length_cons]; omega
  have zc : (u ++ (⟨#[43]⟩ ++ more)).size ≤ 1000000 := by
    have h1 := size_eq_length u
    have h2 := size_eq_length more
    rw [size_eq_length, dc, List.length_append, List.length_cons]; omega
  cases hra : VP.rightP e u.data.toList r.data.toList with
  | false => exact ends_right1 e u r more n w hu hm' s1 hh (does_right hE hs hra)
  | true =>
  have ra := does_right hE hs hra
  cases hrb : VP.rightP e (u ++ (⟨#[126]⟩ ++ more)).data.toList r.data.toList with
  | false => exact ends_right2 e u r more n w hu hm' s1 hh ra (does_right_any hE zb (by omega) hrb)
  | true =>
  have rb := does_right_any hE zb (by omega) hrb
  cases hrc : VP.rightP e (u ++ (⟨#[43]⟩ ++ more)).data.toList r.data.toList with
  | false => exact ends_right3 e u r more n w hu hm' s1 hh ra rb (does_right_any hE zc (by omega) hrc)
  | true =>
  have rc := does_right_any hE zc (by omega) hrc
  obtain ⟨k, hk, ek⟩ := pick_num n 1000 (by omega) (by omega)
  obtain ⟨z, hz, ez⟩ := pick_num n 5 (by omega) (by omega)
  have hk' : k < 1000 := by omega
  obtain ⟨_, dd, dn, _⟩ := VP.val_decDigits k
  have ld : (Lib.decDigits k).length ≤ 3 := by rw [Lib.decDigits_length]; exact VP.nDigits_le 2 k hk'
  have hZ : (⟨(List.replicate z (48 : UInt8)).toArray⟩ : ByteArray).size ≤ 4 := by
    rw [size_eq_length]
    show (List.replicate z (48 : UInt8)).length ≤ 4
    rw [List.length_replicate]; omega
  have hT : (⟨(Lib.decDigits k).toArray⟩ : ByteArray).size ≤ 3 := by rw [size_eq_length]; exact ld
  have dx : ((⟨#[49, 46]⟩ ++ (⟨(List.replicate z (48 : UInt8)).toArray⟩ : ByteArray)) ++ (⟨(Lib.decDigits k).toArray⟩ : ByteArray)).data.toList = [49, 46] ++ (List.replicate z 48 ++ Lib.decDigits k) := by
    rw [append_data, append_data, List.append_assoc]
  have dy : ((⟨#[49, 46]⟩ : ByteArray) ++ (⟨(Lib.decDigits k).toArray⟩ : ByteArray)).data.toList = [49, 46] ++ Lib.decDigits k := by
    rw [append_data]
  have ax : (List.replicate z (48 : UInt8) ++ Lib.decDigits k).all VP.dig = true := by rw [List.all_append, VP.rep_dig, dd]; rfl
  have hzx : ((⟨#[49, 46]⟩ ++ (⟨(List.replicate z (48 : UInt8)).toArray⟩ : ByteArray)) ++ (⟨(Lib.decDigits k).toArray⟩ : ByteArray)).size ≤ 1000000 := by
    rw [size_eq_length, dx]; simp; omega
  have hzy : ((⟨#[49, 46]⟩ : ByteArray) ++ (⟨(Lib.decDigits k).toArray⟩ : ByteArray)).size ≤ 1000000 := by
    rw [size_eq_length, dy]; simp; omega
  refine ends_main e u r more n w hu hm' s1 hh ra rb rc k z _ _ _ _ hZ hT (does_pick w (by omega) (by omega) ek) (does_pick w (by omega) (by omega) ez) (does_rep w z (by omega)) (does_digits w k hk')
    (does_read (u := (⟨#[49, 46]⟩ ++ (⟨(List.replicate z (48 : UInt8)).toArray⟩ : ByteArray)) ++ (⟨(Lib.decDigits k).toArray⟩ : ByteArray)) (r := ⟨#[]⟩) hE (by rw [dx]; exact read_num _ ax (by simp; omega)))
    (does_read (u := (⟨#[49, 46]⟩ : ByteArray) ++ (⟨(Lib.decDigits k).toArray⟩ : ByteArray)) (r := ⟨#[]⟩) hE (by rw [dy]; exact read_num _ dd (by omega)))
    (does_cmp_any w zb (by omega) (by omega) (by omega) (by rw [db]; exact VP.cmpV_up e _ _ _ _ (VP.part_tilde _ _) (by decide)))
    (does_cmp_any w zc (by omega) (by omega) (by omega) (by rw [dc]; exact VP.cmpV_up e _ _ _ _ (VP.part_plus _ _) (by decide)))
    (does_cmp_any w zb (by omega) zc (by omega) (by rw [db, dc]; exact VP.cmpV_up e _ _ _ _ (VP.part_tilde_plus _ _) (by decide)))
    (does_cmp_any w hzx (by decide) hzy (by decide) (by
      rw [dx, dy]
      unfold VP.cmpV
      rw [VP.cmpI_self, VP.orc_zero]
      have hp : VP.partC ([49, 46] ++ (List.replicate z 48 ++ Lib.decDigits k)) ([49, 46] ++ Lib.decDigits k) = 0 := by
        cases hd : Lib.decDigits k with
        | nil => exact absurd hd dn
        | cons c l => rw [hd] at dd; exact VP.part_noughts z c l dd
      rw [hp, VP.orc_zero]
      exact VP.partC_nil))
end Go.Proofs.YtlkmmejlnohjhaaDoor

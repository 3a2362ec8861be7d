/- One setting, put again and again: what lies there. Plain. · version.part: two parts of versions, by turns what is no digit and numbers: its order is partC. · What the statements on versions share: short and read. -/
import Derived.Test.YtpbbhjifgaeklaaGreatDoorSSK25
import Derived.Test.YtpbbhjifgaeklaaGreatDoorSSK3
import Derived.Test.YtpbbhjifgaeklaaGreatDoorSSK2
import Derived.Test.YtpbbhjifgaeklaaGreatDoorSSK6
import Derived.Deep.RegionHeld3
namespace Go.Proofs.YtpbbhjifgaeklaaGreatDoor
open Go Go.RowKit Go.Maps

/-! paths as lines -/
theorem lines_back {l : List ByteArray} (hne : l ≠ []) (h : ∀ x ∈ l, x.size ≠ 0 ∧ (10 : UInt8) ∉ x.data.toList) : pathsT (linesT l) = l := by
  have hp := VP.pieces_join 10 [] [] (by simp) (by simp) [] (l.map (·.data.toList)) (by simpa using hne) (by simp) (fun x hx => by
    obtain ⟨y, hy, rfl⟩ := List.mem_map.1 hx
    exact (h y hy).2)
  have hpad : ∀ xs : List (List UInt8), VP.padP [] [] [] xs = xs := by
    intro xs
    induction xs with
    | nil => rfl
    | cons x r ih =>
      cases r with
      | nil => simp [VP.padP]
      | cons y r => simp only [VP.padP, List.nil_append, List.append_nil]; rw [ih]
  rw [hpad] at hp
  have h0 : (linesT l).size ≠ 0 := by
    cases l with
    | nil => exact absurd rfl hne
    | cons x r =>
      have hx := (h x (List.mem_cons_self ..)).1
      rw [size_eq_length] at hx ⊢
      show (VP.joinP [10] ((x :: r).map (·.data.toList))).length ≠ 0
      cases r with
      | nil => exact hx
      | cons y r =>
        rw [List.map_cons, List.map_cons, VP.joinP, List.length_append]
        omega
  unfold pathsT
  rw [if_neg h0]
  unfold piecesB
  have e : (linesT l).data.toList = VP.joinP [10] (l.map (·.data.toList)) := rfl
  have e2 : ([] ++ VP.joinP ([] ++ 10 :: []) (l.map (·.data.toList))) = VP.joinP [10] (l.map (·.data.toList)) := rfl
  rw [e2] at hp
  rw [e, hp, List.map_map]
  conv => rhs; rw [← List.map_id l]
  exact List.map_congr_left fun x _ => Lib.mk_data x
theorem path_no {p : ByteArray} (h : VP.pathP p.data.toList = true) : p.size ≠ 0 ∧ p.size ≤ 60 ∧ (10 : UInt8) ∉ p.data.toList := by
  unfold VP.pathP at h
  simp only [Bool.and_eq_true, decide_eq_true_eq, List.all_eq_true] at h
  obtain ⟨⟨⟨⟨h1, _⟩, h2⟩, h3⟩, _⟩ := h
  rw [size_eq_length]
  refine ⟨by omega, h3, fun h10 => ?_⟩
  have := (h1 10 h10).1
  exact absurd this (by decide)

/-! the state: one path, of one package -/
def stM (p a : ByteArray) (now last : ByteArray) : Fm := putF (putF (putF [] (thP ++ p) now) (spP ++ p) last) (owP ++ a) p
theorem stM_ris (p a now last : ByteArray) : RisF (stM p a now last) := ris_put (ris_put (ris_put ris_nil _ _) _ _) _ _
theorem stM_get (p a now last k : ByteArray) : getF (stM p a now last) k = if k = owP ++ a then some p else if k = spP ++ p then some last else if k = thP ++ p then some now else none := by
  unfold stM
  rw [getF_put, getF_put, getF_put, getF_nil]
theorem stM_th (p a now last : ByteArray) : getF (stM p a now last) (thP ++ p) = some now := by
  rw [stM_get, if_neg (thow p a), if_neg (thsp p p), if_pos rfl]
theorem stM_sp (p a now last : ByteArray) : getF (stM p a now last) (spP ++ p) = some last := by
  rw [stM_get, if_neg (spow p a), if_pos rfl]
theorem stM_ow (p a now last : ByteArray) : getF (stM p a now last) (owP ++ a) = some p := by
  rw [stM_get, if_pos rfl]
theorem stM_len (p a now last : ByteArray) : (stM p a now last).length ≤ 3 := by
  unfold stM
  have h1 := len_put_le (putF (putF [] (thP ++ p) now) (spP ++ p) last) (owP ++ a) p
  have h2 := len_put_le (putF [] (thP ++ p) now) (spP ++ p) last
  have h3 := len_put_le [] (thP ++ p) now
  simp only [List.length_nil] at h3
  omega
theorem stM_owners {p a now last n : ByteArray} (h : n ∈ ownersM (stM p a now last)) : n = a := by
  rw [mem_owners, stM_get] at h
  by_cases e : owP ++ n = owP ++ a
  · exact cat_inj.1 e
  · rw [if_neg e, if_neg (Ne.symm (spow p n)), if_neg (Ne.symm (thow p n))] at h
    exact absurd rfl h
theorem own1M_same (pn : ByteArray) (ps : List ByteArray) (M : Fm) : ∀ l : List ByteArray, (∀ n ∈ l, n = pn ∨ (leftM M ps n).length = (pathsM M n).length) → own1M pn ps l M = M
  | [], _ => rfl
  | n :: r, h => by
    rw [own1M, if_pos (h n (List.mem_cons_self ..))]
    exact own1M_same pn ps M r fun m hm => h m (List.mem_cons_of_mem _ hm)
theorem sortB_one (p : ByteArray) : sortB [p] = [p] := by
  unfold sortB
  rw [List.map_cons, List.map_nil, List.mergeSort_singleton, List.map_cons, List.map_nil]
theorem lines_one (p : ByteArray) : linesT [p] = p := by
  unfold linesT
  exact Lib.mk_data p
theorem own2M_has (ps : List ByteArray) (M : Fm) : ∀ l : List ByteArray, (∀ q ∈ l, hasB ps q = true) → own2M l ps M = (M, ps)
  | [], _ => rfl
  | q :: r, h => by
    rw [own2M, if_pos (h q (List.mem_cons_self ..))]
    exact own2M_has ps M r fun m hm => h m (List.mem_cons_of_mem _ hm)
/-- what is owned, of one path and one package -/
theorem ownedM_one {M : Fm} {p a : ByteArray} (h1 : ∀ n ∈ ownersM M, n = a) (h2 : ∀ q ∈ pathsM M a, q = p) : ownedM M a [p] = putF M (owP ++ a) p := by
  unfold ownedM
  rw [own1M_same a [p] M _ fun n hn => .inl (h1 n hn), own2M_has [p] M _ fun q hq => by rw [h2 q hq]; exact hasB_iff.2 (List.mem_singleton.2 rfl)]
  show setM M a (sortB [p]) = _
  rw [sortB_one]
  unfold setM
  rw [if_neg (List.cons_ne_nil _ _), lines_one]
theorem put_first {p a d : ByteArray} (ans : List Bool) : putM [] a [p] [⟨p, d⟩] ans = stM p a d d := by
  unfold putM
  have e1 : putLM [p] [⟨p, d⟩] ans [] = putF (putF [] (thP ++ p) d) (spP ++ p) d := by
    rw [putLM, if_pos (hasB_iff.2 (List.mem_singleton.2 rfl)), putLM]
    have hc : choM [] ⟨p, d⟩ = 0 := rfl
    have hw : (whatD (choM [] ⟨p, d⟩) ans).1 = 0 := by
      rw [hc]
      cases ans <;> rfl
    unfold putSM
    rw [hw, if_pos rfl]
  rw [e1]
  refine ownedM_one (fun n hn => ?_) fun q hq => ?_
  · rw [mem_owners, getF_put, getF_put, if_neg (Ne.symm (spow _ _)), if_neg (Ne.symm (thow _ _)), getF_nil] at hn
    exact absurd rfl hn
  · unfold pathsM at hq
    rw [getF_put, getF_put, if_neg (Ne.symm (spow _ _)), if_neg (Ne.symm (thow _ _)), getF_nil] at hq
    cases hq
/-- what lies there behind the next one -/
def nextD (now last d : ByteArray) (yes : Bool) : ByteArray := if (whatD (choiceD (some last) (some now) d) [yes]).1 = 0 then d else now
theorem put_next {p a now last d : ByteArray} (hp : VP.pathP p.data.toList = true) (yes : Bool) : putM (stM p a now last) a [p] [⟨p, d⟩] [yes] = stM p a (nextD now last d yes) d := by
  unfold putM
  have e1 : putLM [p] [⟨p, d⟩] [yes] (stM p a now last) = stM p a (nextD now last d yes) d := by
    rw [putLM, if_pos (hasB_iff.2 (List.mem_singleton.2 rfl)), putLM]
    have hc : choM (stM p a now last) ⟨p, d⟩ = choiceD (some last) (some now) d := by
      unfold choM
      simp only
      rw [stM_sp, stM_th]
    rw [hc]
    unfold putSM nextD
    refine fm_ext (ris_put (by split; exact ris_put (stM_ris _ _ _ _) _ _; exact stM_ris _ _ _ _) _ _) (stM_ris _ _ _ _) fun k => ?_
    simp only
    rw [getF_put, stM_get]
    by_cases k1 : k = spP ++ p
    · rw [if_pos k1, k1, if_neg (spow p a), if_pos rfl]
    · rw [if_neg k1, if_neg k1]
      split
      · rw [getF_put, stM_get, if_neg k1]
        by_cases k2 : k = thP ++ p
        · rw [if_pos k2, k2, if_neg (thow p a), if_pos rfl]
        · rw [if_neg k2, if_neg k2, if_neg k2]
      · rw [stM_get, if_neg k1]
  rw [e1, show ([(⟨p, d⟩ : Fv)].map (·.n)) = [p] from rfl, ownedM_one (fun n hn => stM_owners hn) fun q hq => ?_]
  · exact put_same (stM_ris _ _ _ _) (stM_ow _ _ _ _)
  · unfold pathsM at hq
    rw [stM_ow] at hq
    replace hq : q ∈ pathsT p := hq
    have e2 : pathsT p = [p] := by
      have := lines_back (l := [p]) (by simp) fun x hx => by rw [List.mem_singleton.1 hx]; exact ⟨(path_no hp).1, (path_no hp).2.2⟩
      rwa [lines_one] at this
    rw [e2] at hq
    exact List.mem_singleton.1 hq
theorem stM_edit {p a now last : ByteArray} (m : ByteArray) : putF (stM p a now last) (thP ++ p) m = stM p a m last := by
  refine fm_ext (ris_put (stM_ris _ _ _ _) _ _) (stM_ris _ _ _ _) fun k => ?_
  rw [getF_put, stM_get, stM_get]
  by_cases k2 : k = thP ++ p
  · rw [if_pos k2, k2, if_neg (thow p a), if_neg (thsp p p), if_pos rfl]
  · rw [if_neg k2, if_neg k2, if_neg k2]
theorem stM_paths {p a now last : ByteArray} (hp : VP.pathP p.data.toList = true) : pathsM (stM p a now last) a = [p] := by
  unfold pathsM
  rw [stM_ow]
  have := lines_back (l := [p]) (by simp) fun x hx => by rw [List.mem_singleton.1 hx]; exact ⟨(path_no hp).1, (path_no hp).2.2⟩
  rwa [lines_one] at this
theorem stM_owner {p a now last : ByteArray} (hp : VP.pathP p.data.toList = true) : (ownersM (stM p a now last)).find? (fun n => hasB (pathsM (stM p a now last) n) p) = some a := by
  cases hf : (ownersM (stM p a now last)).find? (fun n => hasB (pathsM (stM p a now last) n) p) with
  | some n => rw [stM_owners (List.mem_of_find?_eq_some hf)]
  | none =>
    have := List.find?_eq_none.1 hf a (mem_owners.2 (by rw [stM_ow]; simp))
    rw [stM_paths hp] at this
    exact absurd (hasB_iff.2 (List.mem_singleton.2 rfl)) this

/-! the law -/
/-- not changed: what comes is there; changed, and not said yes to: what lay there is there, or what comes lay there -/
theorem next_fits {now last d : ByteArray} {yes : Bool} : (now = last → nextD now last d yes = d) ∧ (now ≠ last → yes = false → nextD now last d yes = now) ∧ (nextD now last d yes = d ∨ nextD now last d yes = now ∧ (now ≠ last)) := by
  have hc : choiceD (some last) (some now) d = if now = d then 1 else if last = d then 1 else if now = last then 0 else 2 := by
    unfold choiceD sameO
    simp only [decide_eq_true_eq]
  unfold nextD
  rw [hc]
  by_cases h1 : now = d
  · rw [if_pos h1]
    have hw : (whatD 1 [yes]).1 ≠ 0 := by cases yes <;> decide
    rw [if_neg hw]
    exact ⟨fun _ => h1, fun _ _ => rfl, .inl h1⟩
  · rw [if_neg h1]
    by_cases h2 : last = d
    · rw [if_pos h2]
      have hw : (whatD 1 [yes]).1 ≠ 0 := by cases yes <;> decide
      rw [if_neg hw]
      exact ⟨fun e => by rw [e, h2], fun _ _ => rfl, .inr ⟨rfl, fun e => h1 (by rw [e, h2])⟩⟩
    · rw [if_neg h2]
      by_cases h3 : now = last
      · rw [if_pos h3]
        have hw : (whatD 0 [yes]).1 = 0 := by cases yes <;> rfl
        rw [if_pos hw]
        exact ⟨fun _ => rfl, fun h => absurd h3 h, .inl rfl⟩
      · rw [if_neg h3]
        cases yes with
        | true => exact ⟨fun _ => rfl, fun _ h => (by cases h), .inl rfl⟩
        | false => exact ⟨fun e => absurd e h3, fun _ _ => rfl, .inr ⟨rfl, h3⟩⟩
end Go.Proofs.YtpbbhjifgaeklaaGreatDoor

namespace Go.Proofs.YtpbbhjifgaeklaaGreatDoor
open Go.RowKit

/-- what is known at the head of either loop -/
structure PartIn (A B : ByteArray) (w0 : World) (n : Nat) (a b : ByteArray) (w : World) : Prop where
  same : VP.partC a.data.toList b.data.toList = VP.partC A.data.toList B.data.toList
  size : a.size + b.size ≤ n
  below : Below w0.heap.size w0 w

end Go.Proofs.YtpbbhjifgaeklaaGreatDoor

namespace Go.Proofs.YtpbbhjifgaeklaaGreatDoor
open Go.RowKit

/-- the version that a text is; none: no letter of one -/
def readP (l : List UInt8) : Int × List UInt8 × List UInt8 := (VP.parseP l).getD (0, [], [])

def ReadIs (s : ByteArray) (w : World) (E : Ending) (w' : World) : Prop :=
  Below w.heap.size w w' ∧ ∃ (e : Int) (u r : ByteArray), readP s.data.toList = (e, u.data.toList, r.data.toList) ∧ E = .returned (.agg #[.int .i64 e, .string u, .string r])

set_option maxRecDepth 100000 in
theorem read_calls (s : ByteArray) (w : World) (hE : Env w) : Calls Tryz.prog 27 #[.string s] w (ReadIs s w) := by
  have hb0 := below_alloc w (.cells #[.int .i64 0, .string ⟨#[]⟩, .string ⟨#[]⟩] 23)
  have hE1 := hE.below hb0
  clear hE
  go_enter Tryz.func27, Tryz.ntmps27
  go_wp2_with fail
  refine (parse_calls s _ hE1).mono ?_
  rintro E w1 ⟨hb, hP⟩
  have hsz : w.heap.size < w1.heap.size := by have := hb.size; simp at this; omega
  have k0 := kept hb (p := ⟨w.heap.size, 0, none⟩) (v := .int .i64 0) (by go_cell)
  have k1 := kept hb (p := ⟨w.heap.size, 1, none⟩) (v := .string ⟨#[]⟩) (by go_cell)
  have k2 := kept hb (p := ⟨w.heap.size, 2, none⟩) (v := .string ⟨#[]⟩) (by go_cell)
  have f0 := keptf hb (p := ⟨w.heap.size, 0, none⟩) (by simp) (by simp [go_sem])
  have f1 := keptf hb (p := ⟨w.heap.size, 1, none⟩) (by simp) (by simp [go_sem])
  have f2 := keptf hb (p := ⟨w.heap.size, 2, none⟩) (by simp) (by simp [go_sem])
  have hB := step_below hb0 hb
  clear hb hb0 hE1
  rcases hP with ⟨hp, rfl⟩ | ⟨e, u, r, hp, rfl⟩
  · have HP := Lib.hid hp
    clear hp
    unfold noVersion
    go_wp2_with fail
    exact bodyPost_ret (v := .agg #[.int .i64 0, .string ⟨#[]⟩, .string ⟨#[]⟩]) (by simp [results, Tryz.results27, go_sem, World.cell?_alloc_lt, hsz, k0, k1, k2]) rfl ⟨by go_grown, 0, ⟨#[]⟩, ⟨#[]⟩, by unfold readP; rw [HP.out]; rfl, rfl⟩
  · have HP := Lib.hid hp
    clear hp
    go_wp2_with fail
    exact bodyPost_ret (v := .agg #[.int .i64 e, .string u, .string r]) (by simp [results, Tryz.results27, go_sem, World.cell?_alloc_lt, hsz, k0, k1, k2]) rfl ⟨by go_grown, e, u, r, by unfold readP; rw [HP.out]; rfl, rfl⟩

/-- a version that may be is read as it is written -/
theorem read_right {e : Int} {u r : List UInt8} (h : VP.RightP e u r) : readP (VP.printP e u r) = (e, u, r) := by
  unfold readP
  rw [VP.parse_print ((VP.rightP_iff e u r).2 h)]
  rfl

theorem read_0 (u r : List UInt8) (hs : VP.startsDig u = true) (ha : u.all (VP.ok1 0) = true) (hr : r.all VP.ok0 = true) (hd : r ≠ [] ∨ 45 ∉ u) (hl : (VP.printP 0 u r).length ≤ 40) : readP (VP.printP 0 u r) = (0, u, r) :=
  read_right ⟨by decide, by decide, hs, ha, hr, hd, hl⟩
theorem read_const (s : ByteArray) (e : Int) (u r : ByteArray) (h : readP s.data.toList = (e, u.data.toList, r.data.toList)) (w : World) (hE : Env w) :
    Calls Tryz.prog 27 #[.string s] w fun E w' => E = .returned (.agg #[.int .i64 e, .string u, .string r]) ∧ Below w.heap.size w w' :=
  (read_calls s w hE).mono fun E w' ⟨hb, e', u', r', h', he⟩ => by
    rw [h] at h'
    simp only [Prod.mk.injEq] at h'
    obtain ⟨h1, h2, h3⟩ := h'
    refine ⟨?_, hb⟩
    rw [he, h1, data_inj h2, data_inj h3]

end Go.Proofs.YtpbbhjifgaeklaaGreatDoor

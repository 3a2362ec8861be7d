/- The fields that a package is: as texts; how long they are. · The fields that a package is: what saysOk holds; how long they are; what the calls return. · The package that fields are: plain: what is read, step by step. -/
import Derived.Test.YtodbbfgkclkpgaaGreatDoorRK25
import Derived.Test.YtodbbfgkclkpgaaGreatDoorRK17
import Derived.Test.YtodbbfgkclkpgaaGreatDoorRK26
import Derived.Test.YtodbbfgkclkpgaaGreatDoorRK31
import Derived.Test.YtodbbfgkclkpgaaGreatDoorRK4
namespace Go.Proofs.YtodbbfgkclkpgaaGreatDoor
open Go Go.RowKit

def nPackage : ByteArray := ⟨#[80, 97, 99, 107, 97, 103, 101]⟩
def nVersion : ByteArray := ⟨#[86, 101, 114, 115, 105, 111, 110]⟩
def nDepends : ByteArray := ⟨#[68, 101, 112, 101, 110, 100, 115]⟩
def nPre : ByteArray := ⟨#[80, 114, 101, 45, 68, 101, 112, 101, 110, 100, 115]⟩
def nConflicts : ByteArray := ⟨#[67, 111, 110, 102, 108, 105, 99, 116, 115]⟩
def nBreaks : ByteArray := ⟨#[66, 114, 101, 97, 107, 115]⟩
def nReplaces : ByteArray := ⟨#[82, 101, 112, 108, 97, 99, 101, 115]⟩
def nProvides : ByteArray := ⟨#[80, 114, 111, 118, 105, 100, 101, 115]⟩
def nConffiles : ByteArray := ⟨#[67, 111, 110, 102, 102, 105, 108, 101, 115]⟩
def nTriggers : ByteArray := ⟨#[84, 114, 105, 103, 103, 101, 114, 115]⟩

def versS (p : Pv) : ByteArray := ⟨(VP.printP p.e p.u.data.toList p.r.data.toList).toArray⟩
def singS (ts : List Tv) : ByteArray := wholeS (ts.map fun t => [t])
def linesS (ss : List ByteArray) : ByteArray := ⟨(VP.linesOf (ss.map (·.data.toList))).toArray⟩

/-- the fields, one by one -/
def fld0 (p : Pv) : List Fv := [⟨nPackage, p.n⟩, ⟨nVersion, versS p⟩]
def fld1 (p : Pv) : List Fv := fld0 p ++ optF nDepends (wholeS p.dep)
def fld2 (p : Pv) : List Fv := fld1 p ++ optF nPre (wholeS p.ahead)
def fld3 (p : Pv) : List Fv := fld2 p ++ optF nConflicts (singS p.ag)
def fld4 (p : Pv) : List Fv := fld3 p ++ optF nBreaks (singS p.br)
def fld5 (p : Pv) : List Fv := fld4 p ++ optF nReplaces (singS p.re)
def fld6 (p : Pv) : List Fv := fld5 p ++ optF nProvides (singS p.pr)
def fld7 (p : Pv) : List Fv := fld6 p ++ optF nConffiles (linesS p.se)
def fldB (p : Pv) : List Fv := fld7 p ++ optF nTriggers (linesS p.li)

theorem optF_len (n v : ByteArray) : (optF n v).length ≤ 1 := by unfold optF; split <;> simp
theorem fld_lens (p : Pv) : (fld0 p).length = 2 ∧ (fld1 p).length ≤ 3 ∧ (fld2 p).length ≤ 4 ∧ (fld3 p).length ≤ 5 ∧ (fld4 p).length ≤ 6 ∧ (fld5 p).length ≤ 7 ∧ (fld6 p).length ≤ 8 ∧ (fld7 p).length ≤ 9 ∧ (fldB p).length ≤ 10 := by
  have h0 : (fld0 p).length = 2 := rfl
  have h1 : (fld1 p).length ≤ 3 := by unfold fld1; rw [List.length_append]; have := optF_len nDepends (wholeS p.dep); omega
  have h2 : (fld2 p).length ≤ 4 := by unfold fld2; rw [List.length_append]; have := optF_len nPre (wholeS p.ahead); omega
  have h3 : (fld3 p).length ≤ 5 := by unfold fld3; rw [List.length_append]; have := optF_len nConflicts (singS p.ag); omega
  have h4 : (fld4 p).length ≤ 6 := by unfold fld4; rw [List.length_append]; have := optF_len nBreaks (singS p.br); omega
  have h5 : (fld5 p).length ≤ 7 := by unfold fld5; rw [List.length_append]; have := optF_len nReplaces (singS p.re); omega
  have h6 : (fld6 p).length ≤ 8 := by unfold fld6; rw [List.length_append]; have := optF_len nProvides (singS p.pr); omega
  have h7 : (fld7 p).length ≤ 9 := by unfold fld7; rw [List.length_append]; have := optF_len nConffiles (linesS p.se); omega
  have h8 : (fldB p).length ≤ 10 := by unfold fldB; rw [List.length_append]; have := optF_len nTriggers (linesS p.li); omega
  exact ⟨h0, h1, h2, h3, h4, h5, h6, h7, h8⟩

theorem wholeS_size {L : List (List Tv)} (h : VP.askedP (tmL L) = true) : (wholeS L).size ≤ 200000 := by
  obtain ⟨hlen, hx⟩ := asked_sizes h
  have h1 := joinP_len [44, 32] 4000 ((L.map lineS).map (·.data.toList)) (fun y hy => by
    obtain ⟨s', hs', rfl⟩ := List.mem_map.1 hy
    obtain ⟨x, hx', rfl⟩ := List.mem_map.1 hs'
    obtain ⟨h2, h3⟩ := hx x hx'
    have := lineS_len h3
    omega)
  rw [← joinP_eq, wholeS_eq, List.length_map, List.length_map, ← size_eq_length] at h1
  simp at h1
  exact Nat.le_trans h1 (by omega)
end Go.Proofs.YtodbbfgkclkpgaaGreatDoor

namespace Go.Proofs.YtodbbfgkclkpgaaGreatDoor
open Go Go.RowKit

structure Pv.Ok (p : Pv) : Prop where
  n : VP.nameP p.n.data.toList = true
  v : VP.rightP p.e p.u.data.toList p.r.data.toList = true
  dep : VP.askedP (tmL p.dep) = true
  ahead : VP.askedP (tmL p.ahead) = true
  ag : VP.askedP (tmL (p.ag.map fun t => [t])) = true
  br : VP.askedP (tmL (p.br.map fun t => [t])) = true
  re : VP.askedP (tmL (p.re.map fun t => [t])) = true
  pr : VP.askedP (tmL (p.pr.map fun t => [t])) = true
  se : pathsB p.se = true
  li : pathsB p.li = true
theorem ok_of {p : Pv} (h : saysOk p = true) : p.Ok := by
  rw [says_prog] at h
  simp only [Bool.and_eq_true] at h
  obtain ⟨_, h0, h1, h2, h3, h4, h5, h6, h7, h8, h9⟩ := h
  exact ⟨h0, h1, h2, h3, by rw [flatP_eq]; exact h4, by rw [flatP_eq]; exact h5, by rw [flatP_eq]; exact h6, by rw [flatP_eq]; exact h7, h8, h9⟩

theorem paths_len {ss : List ByteArray} (h : pathsB ss = true) : ss.length ≤ 20 ∧ ∀ s ∈ ss, s.size ≤ 60 := by
  unfold pathsB VP.pathsP at h
  rw [Bool.and_eq_true, decide_eq_true_eq, List.length_map] at h
  refine ⟨h.2, fun s hs => ?_⟩
  obtain ⟨i, hi⟩ := List.mem_iff_getElem?.1 hs
  have hlt := (List.getElem?_eq_some_iff.1 hi).1
  have h1 := VP.allAt_iff.1 h.1 i hlt
  unfold VP.pathOk at h1
  rw [List.getElem?_map, hi] at h1
  simp only [Option.map_some, Bool.and_eq_true] at h1
  have h2 := h1.1
  unfold VP.pathP at h2
  simp only [Bool.and_eq_true, decide_eq_true_eq] at h2
  rw [size_eq_length]
  exact h2.1.2
theorem linesOf_len (B : Nat) : ∀ l : List (List UInt8), (∀ x ∈ l, x.length ≤ B) → (VP.linesOf l).length ≤ l.length * (B + 1)
  | [], _ => by simp [VP.linesOf]
  | x :: l, h => by
    have ih := linesOf_len B l (fun y hy => h y (.tail _ hy))
    have := h x (.head _)
    show ((10 :: x) ++ VP.linesOf l).length ≤ _
    rw [List.length_append, List.length_cons, List.length_cons, Nat.add_mul]
    omega
theorem linesS_size {ss : List ByteArray} (h : pathsB ss = true) : (linesS ss).size ≤ 2000 := by
  obtain ⟨h1, h2⟩ := paths_len h
  have := linesOf_len 60 (ss.map (·.data.toList)) (fun x hx => by
    obtain ⟨s, hs, rfl⟩ := List.mem_map.1 hx
    rw [← size_eq_length]; exact h2 s hs)
  rw [List.length_map] at this
  rw [size_eq_length]
  show (VP.linesOf (ss.map (·.data.toList))).length ≤ 2000
  omega
theorem versS_size {p : Pv} (h : p.Ok) : (versS p).size ≤ 40 := by
  have h1 := h.v
  unfold VP.rightP at h1
  simp only [Bool.and_eq_true, decide_eq_true_eq] at h1
  rw [size_eq_length]
  exact h1.2

theorem optF_mem {n v : ByteArray} {f : Fv} (h : f ∈ optF n v) : f = ⟨n, v⟩ := by
  unfold optF at h
  split at h
  · cases h
  · simpa using h
theorem fldB_sizes {p : Pv} (h : p.Ok) (hn : p.n.size ≤ 1000000) : ∀ f ∈ fldB p, f.n.size ≤ 1000000 ∧ f.v.size ≤ 1000000 := by
  have big : (200000 : Nat) ≤ 1000000 := by decide
  intro f hf
  unfold fldB fld7 fld6 fld5 fld4 fld3 fld2 fld1 at hf
  simp only [List.mem_append] at hf
  rcases hf with (((((((hf | hf) | hf) | hf) | hf) | hf) | hf) | hf) | hf
  · unfold fld0 at hf
    rcases List.mem_cons.1 hf with rfl | hf
    · exact ⟨(show nPackage.size ≤ 1000000 by decide), hn⟩
    · rw [List.mem_singleton.1 hf]
      exact ⟨(show nVersion.size ≤ 1000000 by decide), Nat.le_trans (versS_size h) (by decide)⟩
  · rw [optF_mem hf]; exact ⟨(show nDepends.size ≤ 1000000 by decide), Nat.le_trans (wholeS_size h.dep) big⟩
  · rw [optF_mem hf]; exact ⟨(show nPre.size ≤ 1000000 by decide), Nat.le_trans (wholeS_size h.ahead) big⟩
  · rw [optF_mem hf]; exact ⟨(show nConflicts.size ≤ 1000000 by decide), Nat.le_trans (wholeS_size h.ag) big⟩
  · rw [optF_mem hf]; exact ⟨(show nBreaks.size ≤ 1000000 by decide), Nat.le_trans (wholeS_size h.br) big⟩
  · rw [optF_mem hf]; exact ⟨(show nReplaces.size ≤ 1000000 by decide), Nat.le_trans (wholeS_size h.re) big⟩
  · rw [optF_mem hf]; exact ⟨(show nProvides.size ≤ 1000000 by decide), Nat.le_trans (wholeS_size h.pr) big⟩
  · rw [optF_mem hf]; exact ⟨(show nConffiles.size ≤ 1000000 by decide), Nat.le_trans (linesS_size h.se) (by decide)⟩
  · rw [optF_mem hf]; exact ⟨(show nTriggers.size ≤ 1000000 by decide), Nat.le_trans (linesS_size h.li) (by decide)⟩

/-- what record.Fields, and the reference's, answer -/
def fldE (p : Pv) : Int := if saysOk p then (if stanzaB (fldB p) then 0 else 4) else 1
def fldR (p : Pv) : List Fv := if saysOk p then (if stanzaB (fldB p) then fldB p else []) else []
def RecFieldsIs (p : Pv) (w : World) (E : Ending) (w' : World) : Prop := ∃ v', E = .returned (.tuple #[v', errV (fldE p)]) ∧ FieldsAt w' v' (fldR p) ∧ Below w.heap.size w w'
def RefFieldsIs (p : Pv) (w : World) (E : Ending) (w' : World) : Prop := ∃ v', E = .returned (.tuple #[v', .int .i64 (fldE p)]) ∧ FieldsAt w' v' (fldR p) ∧ Below w.heap.size w w'

/-! the lines of a field, joined -/
theorem lines_join (ss : List ByteArray) : Lib.join (((⟨#[]⟩ : ByteArray) :: ss).map (·.data.toList)) [10] = (linesS ss).data.toList := by
  rw [joinP_eq, List.map_cons]
  exact VP.join_lines _
/-- .. and as the reference puts them together -/
def linesTo (ss : List ByteArray) (k : Nat) : List UInt8 := VP.linesOf ((ss.take k).map (·.data.toList))
theorem linesTo_succ {ss : List ByteArray} {k : Nat} {s : ByteArray} (h : ss[k]? = some s) : linesTo ss (k + 1) = linesTo ss k ++ 10 :: s.data.toList := by
  unfold linesTo VP.linesOf
  rw [List.take_add_one, h, List.map_append, List.flatMap_append]
  simp
theorem linesTo_len {ss : List ByteArray} (h : ss.length ≤ 20 ∧ ∀ s ∈ ss, s.size ≤ 60) (k : Nat) : (linesTo ss k).length ≤ 2000 := by
  have h2 := linesOf_len 60 ((ss.take k).map (·.data.toList)) (fun x hx => by
    obtain ⟨s, hs, rfl⟩ := List.mem_map.1 hx
    rw [← size_eq_length]; exact h.2 s (List.mem_of_mem_take hs))
  have h1 := h.1
  rw [List.length_map, List.length_take] at h2
  unfold linesTo
  omega
theorem linesTo_all (ss : List ByteArray) : (⟨(linesTo ss ss.length).toArray⟩ : ByteArray) = linesS ss := by
  unfold linesTo linesS
  rw [List.take_length]

/-! the state of record.Fields between its calls -/
structure FSt (w1 : World) (q a : Nat) (fs : List Fv) (W : World) : Prop where
  l : LBox w1.heap.size q fs W
  b : AddBox a q W
  z : Below w1.heap.size w1 W
  ne : a ≠ q
theorem FSt.below {w1 W W' : World} {q a : Nat} {fs : List Fv} (h : FSt w1 q a fs W) (hb : Below W.heap.size W W') : FSt w1 q a fs W' :=
  ⟨h.l.below hb, boxed_below h.b hb, step_below h.z hb, h.ne⟩
theorem FSt.next {w1 W W' : World} {q a : Nat} {fs gs : List Fv} (h : FSt w1 q a fs W) (hl : LBox w1.heap.size q gs W') (hk : KeptF w1.heap.size q W W') : FSt w1 q a gs W' :=
  ⟨hl, hk.boxed h.b (by decide) h.ne, h.z.trans hk.2.1, h.ne⟩
end Go.Proofs.YtodbbfgkclkpgaaGreatDoor

namespace Go.Proofs.YtodbbfgkclkpgaaGreatDoor
open Go Go.RowKit

def tvOf (t : VP.Tm) : Tv := ⟨⟨t.n.toArray⟩, t.op, t.e, ⟨t.u.toArray⟩, ⟨t.r.toArray⟩⟩
theorem tvOf_tm (t : Tv) : tvOf t.tm = t := by
  obtain ⟨n, op, e, u, r⟩ := t
  unfold tvOf Tv.tm
  simp only [mk_data]
theorem tvs_tm (ts : List Tv) : (ts.map Tv.tm).map tvOf = ts := by
  rw [List.map_map]
  conv => rhs; rw [← List.map_id ts]
  exact List.map_congr_left fun t _ => tvOf_tm t
theorem tvL_tm (L : List (List Tv)) : (tmL L).map (fun x => x.map tvOf) = L := by
  unfold tmL
  rw [List.map_map]
  conv => rhs; rw [← List.map_id L]
  exact List.map_congr_left fun x _ => tvs_tm x

/-- what a field says, or nothing -/
def sayF (fs : List Fv) (n : ByteArray) : ByteArray := (getB fs n).getD ⟨#[]⟩
def readT (s : ByteArray) : Except Int (List (List Tv)) := match VP.termsP s.data.toList with
  | .error e => .error e
  | .ok M => .ok (M.map fun x => x.map tvOf)
def readS (s : ByteArray) : Except Int (List Tv) := match VP.listP s.data.toList with
  | .error e => .error e
  | .ok M => .ok (M.map tvOf)
theorem readT_ok {s : ByteArray} {L : List (List Tv)} (h : VP.termsP s.data.toList = .ok (tmL L)) : readT s = .ok L := by unfold readT; rw [h]; exact congrArg _ (tvL_tm L)
theorem readT_no {s : ByteArray} {e : Int} (h : VP.termsP s.data.toList = .error e) : readT s = .error e := by unfold readT; rw [h]
theorem readS_ok {s : ByteArray} {ts : List Tv} (h : VP.listP s.data.toList = .ok (ts.map Tv.tm)) : readS s = .ok ts := by unfold readS; rw [h]; exact congrArg _ (tvs_tm ts)
theorem readS_no {s : ByteArray} {e : Int} (h : VP.listP s.data.toList = .error e) : readS s = .error e := by unfold readS; rw [h]

/-- the k-th of the six -/
def rdK (fs : List Fv) (p : Pv) : Nat → Except Int Pv
  | 0 => (readT (sayF fs nDepends)).map fun L => { p with dep := L }
  | 1 => (readT (sayF fs nPre)).map fun L => { p with ahead := L }
  | 2 => (readS (sayF fs nConflicts)).map fun L => { p with ag := L }
  | 3 => (readS (sayF fs nBreaks)).map fun L => { p with br := L }
  | 4 => (readS (sayF fs nReplaces)).map fun L => { p with re := L }
  | 5 => (readS (sayF fs nProvides)).map fun L => { p with pr := L }
  | _ => .ok p
def rdTo (fs : List Fv) (p : Pv) : Nat → Except Int Pv
  | 0 => .ok p
  | k + 1 => match rdTo fs p k with
    | .error e => .error e
    | .ok q => rdK fs q k
theorem rdTo_error {fs : List Fv} {p : Pv} {k : Nat} {e : Int} (h : rdTo fs p k = .error e) : ∀ m, k ≤ m → rdTo fs p m = .error e := by
  intro m hm
  induction m with
  | zero => obtain rfl : k = 0 := by omega
            exact h
  | succ m ih =>
    rcases Nat.lt_or_ge m k with h1 | h1
    · obtain rfl : k = m + 1 := by omega
      exact h
    · unfold rdTo
      rw [ih h1]
def pack0 : Pv := ⟨⟨#[]⟩, 0, ⟨#[]⟩, ⟨#[]⟩, [], [], [], [], [], [], [], [], []⟩
/-- behind the six: the lines -/
def rdEnd (fs : List Fv) (q : Pv) : Pv := { q with se := linesV fs nConffiles, li := linesV fs nTriggers }
def readP (fs : List Fv) : Except Int Pv :=
  if (getB fs nPackage).isSome && (getB fs nVersion).isSome then
    match VP.parseP (sayF fs nVersion).data.toList with
    | none => .error 3
    | some (e, u, r) => match rdTo fs { pack0 with n := sayF fs nPackage, e := e, u := ⟨u.toArray⟩, r := ⟨r.toArray⟩ } 6 with
      | .error x => .error x
      | .ok q => if linesOk fs nConffiles && linesOk fs nTriggers then (if saysOk (rdEnd fs q) then .ok (rdEnd fs q) else .error 1) else .error 3
  else .error 7
def rdE (fs : List Fv) : Int := match readP fs with
  | .ok _ => 0
  | .error e => e
def rdV (fs : List Fv) : Pv := match readP fs with
  | .ok p => p
  | .error _ => pack0
def RefReadIs (fs : List Fv) (w : World) (E : Ending) (w' : World) : Prop := ∃ v', E = .returned (.tuple #[v', .int .i64 (rdE fs)]) ∧ PackAt w' v' (rdV fs) ∧ Below w.heap.size w w'
theorem rd_error {fs : List Fv} {e : Int} (h : readP fs = .error e) : rdE fs = e ∧ rdV fs = pack0 := by unfold rdE rdV; rw [h]; exact ⟨rfl, rfl⟩
theorem rd_ok {fs : List Fv} {p : Pv} (h : readP fs = .ok p) : rdE fs = 0 ∧ rdV fs = p := by unfold rdE rdV; rw [h]; exact ⟨rfl, rfl⟩
theorem readP_missing {fs : List Fv} (h : ((getB fs nPackage).isSome && (getB fs nVersion).isSome) = false) : readP fs = .error 7 := by unfold readP; rw [h]; rfl
theorem readP_version {fs : List Fv} (h : ((getB fs nPackage).isSome && (getB fs nVersion).isSome) = true) (hv : VP.parseP (sayF fs nVersion).data.toList = none) : readP fs = .error 3 := by unfold readP; rw [h, hv]; rfl
def rdP1 (fs : List Fv) (e : Int) (u r : ByteArray) : Pv := { pack0 with n := sayF fs nPackage, e := e, u := u, r := r }
theorem readP_six {fs : List Fv} {e : Int} {u r : ByteArray} (h : ((getB fs nPackage).isSome && (getB fs nVersion).isSome) = true) (hv : VP.parseP (sayF fs nVersion).data.toList = some (e, u.data.toList, r.data.toList)) :
    readP fs = match rdTo fs (rdP1 fs e u r) 6 with
      | .error x => .error x
      | .ok q => if linesOk fs nConffiles && linesOk fs nTriggers then (if saysOk (rdEnd fs q) then .ok (rdEnd fs q) else .error 1) else .error 3 := by
  unfold readP rdP1
  rw [h, hv]
  dsimp only
  rw [mk_data, mk_data]
  rfl

/-! the box of a package that is being filled, and blocks that are none of its -/
/-- from B on all blocks are as they were -/
def FromAs (B : Nat) (W W' : World) : Prop := ∀ j, B ≤ j → j < W.heap.size → W'.heap[j]? = W.heap[j]?
theorem FromAs.of_below {B : Nat} {W W' : World} (hb : Below W.heap.size W W') : FromAs B W W' := fun j _ hj => hb.block j hj
theorem fromAs_set (W : World) (b i : Nat) (v : Value) : FromAs (b + 1) W (W.setCell ⟨b, i, none⟩ v) := fun j hj _ => by
  unfold World.setCell
  rw [Array.getElem?_modify, if_neg (by show ¬ b = j; omega)]
theorem FromAs.cell {B : Nat} {W W' : World} {a : Addr} {v : Value} (h : FromAs B W W') (hB : B ≤ a.block) (hc : W.cell? a = some v) : W'.cell? a = some v := by
  have := h a.block hB (cell_lt hc)
  unfold World.cell? at hc ⊢
  rw [this]; exact hc
def AskedIn (B : Nat) (W : World) (v : Value) (L : List (List Tv)) : Prop := AskedAt W v L ∧ AskedFr B W v L
theorem AskedIn.keep {B : Nat} {W W' : World} {v : Value} {L : List (List Tv)} (h : AskedIn B W v L) (k : FromAs B W W') : AskedIn B W' v L := by
  obtain ⟨⟨A, c, rfl, hc, hm, hr⟩, ht⟩ := h
  refine ⟨⟨A, c, rfl, hc, hm, fun hn => ?_⟩, ?_⟩
  · obtain ⟨b, off, rfl, hi⟩ := hr hn
    obtain ⟨t0, t1⟩ := ht b off _ _ rfl hn
    refine ⟨b, off, rfl, fun i x hx => ?_⟩
    obtain ⟨vx, h0, A', c', hv, hc', hm', hr'⟩ := hi i x hx
    refine ⟨vx, k.cell t0 h0, A', c', hv, hc', hm', fun hnx => ?_⟩
    obtain ⟨b', off', rfl, hi'⟩ := hr' hnx
    have t2 := t1 i x hx b' off' _ _ (by rw [h0, hv]) hnx
    refine ⟨b', off', rfl, fun q t hq => ?_⟩
    obtain ⟨⟨c0, c1, c2, c3, c4⟩, hok⟩ := hi' q t hq
    exact ⟨⟨k.cell t2 c0, k.cell t2 c1, k.cell t2 c2, k.cell t2 c3, k.cell t2 c4⟩, hok⟩
  · intro b off n c' hv hn
    obtain ⟨t0, t1⟩ := ht b off n c' hv hn
    refine ⟨t0, fun i x hx b' off' n' c'' hcell hnx => ?_⟩
    obtain ⟨b1, off1, hA, hi⟩ := hr hn
    injection hv with hv _ _
    rw [hA] at hv
    injection hv with hv
    injection hv with hb1 ho1 _
    subst hb1
    subst ho1
    obtain ⟨vx, h0, _⟩ := hi i x hx
    have h0' := k.cell t0 h0
    rw [hcell] at h0'
    have hvx := Option.some.inj h0'
    rw [← hvx] at h0
    exact t1 i x hx b' off' n' c'' h0 hnx
def TermsFrom (B : Nat) (W : World) (v : Value) (ts : List Tv) : Prop := TermsAt W v ts ∧ SlFr B v
theorem TermsFrom.keep {B : Nat} {W W' : World} {v : Value} {ts : List Tv} (h : TermsFrom B W v ts) (k : FromAs B W W') : TermsFrom B W' v ts := by
  obtain ⟨⟨A, c, rfl, hc, hm, hr⟩, ht⟩ := h
  refine ⟨⟨A, c, rfl, hc, hm, fun hn => ?_⟩, ht⟩
  obtain ⟨b, off, rfl, hi⟩ := hr hn
  have t0 := ht b off _ _ rfl
  refine ⟨b, off, rfl, fun q t hq => ?_⟩
  obtain ⟨⟨c0, c1, c2, c3, c4⟩, hok⟩ := hi q t hq
  exact ⟨⟨k.cell t0 c0, k.cell t0 c1, k.cell t0 c2, k.cell t0 c3, k.cell t0 c4⟩, hok⟩
def StrsFrom (B : Nat) (W : World) (v : Value) (ss : List ByteArray) : Prop := StrsAt W v ss ∧ SlFr B v
theorem StrsFrom.keep {B : Nat} {W W' : World} {v : Value} {ss : List ByteArray} (h : StrsFrom B W v ss) (k : FromAs B W W') : StrsFrom B W' v ss := by
  obtain ⟨⟨A, c, rfl, hc, hm, hr⟩, ht⟩ := h
  refine ⟨⟨A, c, rfl, hc, hm, fun hn => ?_⟩, ht⟩
  obtain ⟨b, off, rfl, hi⟩ := hr hn
  exact ⟨b, off, rfl, fun j u hj => k.cell (ht b off _ _ rfl) (hi j u hj)⟩
theorem askedIn_nil (B : Nat) (W : World) (n : Nat) : AskedIn B W (.slice none 0 n) [] := ⟨⟨none, n, rfl, Nat.zero_le _, by simp, fun h => absurd rfl h⟩, askedFr_nil _ _ _ _ _⟩
theorem termsFrom_nil (B : Nat) (W : World) (n : Nat) : TermsFrom B W (.slice none 0 n) [] := ⟨⟨none, n, rfl, Nat.zero_le _, by simp, fun h => absurd rfl h⟩, slFr_nil _ _ _⟩
theorem strsFrom_nil (B : Nat) (W : World) (n : Nat) : StrsFrom B W (.slice none 0 n) [] := ⟨SlC.nil _ _ _, slFr_nil _ _ _⟩
end Go.Proofs.YtodbbfgkclkpgaaGreatDoor

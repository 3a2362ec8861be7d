/- The reference's Fields: plain things: the fields by number; what is loaded. · The reference's Says: may a package be. -/
import Derived.Test.YtodbbfgkclkpgaaGreatDoorRK38
import Derived.Test.YtodbbfgkclkpgaaGreatDoorRK23
import Derived.Test.YtodbbfgkclkpgaaGreatDoorRK28
import Derived.Deep.DeepCutAuto
namespace Go.Proofs.YtodbbfgkclkpgaaGreatDoor
open Go Go.RowKit

theorem asked_slice {w : World} {v : Value} {L : List (List Tv)} (h : AskedAt w v L) : ∃ A n c, v = .slice A n c := by
  obtain ⟨A, c, hv, _⟩ := h
  exact ⟨A, _, c, hv⟩
theorem strs_slice {w : World} {v : Value} {ss : List ByteArray} (h : StrsAt w v ss) : ∃ A n c, v = .slice A n c := by
  obtain ⟨A, c, hv, _⟩ := h
  exact ⟨A, _, c, hv⟩

/-- the fields, when k of eight are written -/
def fldK (p : Pv) : Nat → List Fv
  | 0 => fld0 p
  | 1 => fld1 p
  | 2 => fld2 p
  | 3 => fld3 p
  | 4 => fld4 p
  | 5 => fld5 p
  | 6 => fld6 p
  | 7 => fld7 p
  | _ => fldB p
theorem fldK_len (p : Pv) (k : Nat) : (fldK p k).length ≤ 10 := by
  obtain ⟨h0, h1, h2, h3, h4, h5, h6, h7, h8⟩ := fld_lens p
  match k with
  | 0 => show (fld0 p).length ≤ 10; omega
  | 1 => show (fld1 p).length ≤ 10; omega
  | 2 => show (fld2 p).length ≤ 10; omega
  | 3 => show (fld3 p).length ≤ 10; omega
  | 4 => show (fld4 p).length ≤ 10; omega
  | 5 => show (fld5 p).length ≤ 10; omega
  | 6 => show (fld6 p).length ≤ 10; omega
  | 7 => show (fld7 p).length ≤ 10; omega
  | k + 8 => exact h8
def sixN : List ByteArray := [nDepends, nPre, nConflicts, nBreaks, nReplaces, nProvides]
def sixL (p : Pv) : List (List (List Tv)) := [p.dep, p.ahead, p.ag.map fun t => [t], p.br.map fun t => [t], p.re.map fun t => [t], p.pr.map fun t => [t]]
theorem fldK_six {p : Pv} {j : Nat} {n : ByteArray} {L : List (List Tv)} (hn : sixN[j]? = some n) (hL : (sixL p)[j]? = some L) : fldK p (j + 1) = fldK p j ++ optF n (wholeS L) := by
  match j, hn, hL with
  | 0, hn, hL => rw [← Option.some.inj hn, ← Option.some.inj hL]; rfl
  | 1, hn, hL => rw [← Option.some.inj hn, ← Option.some.inj hL]; rfl
  | 2, hn, hL => rw [← Option.some.inj hn, ← Option.some.inj hL]; rfl
  | 3, hn, hL => rw [← Option.some.inj hn, ← Option.some.inj hL]; rfl
  | 4, hn, hL => rw [← Option.some.inj hn, ← Option.some.inj hL]; rfl
  | 5, hn, hL => rw [← Option.some.inj hn, ← Option.some.inj hL]; rfl
theorem six_at {p : Pv} (hf : p.Fit) (hk : p.Ok) {j : Nat} {L : List (List Tv)} (hL : (sixL p)[j]? = some L) : (∀ x ∈ L, ∀ t ∈ x, t.small) ∧ (∀ x ∈ L, x.length ≤ 1000) ∧ VP.askedP (tmL L) = true := by
  match j, hL with
  | 0, hL => rw [← Option.some.inj hL]; exact ⟨hf.dep, hf.depN, hk.dep⟩
  | 1, hL => rw [← Option.some.inj hL]; exact ⟨hf.ahead, hf.aheadN, hk.ahead⟩
  | 2, hL => rw [← Option.some.inj hL]; exact ⟨singles_small hf.ag, singles_few, hk.ag⟩
  | 3, hL => rw [← Option.some.inj hL]; exact ⟨singles_small hf.br, singles_few, hk.br⟩
  | 4, hL => rw [← Option.some.inj hL]; exact ⟨singles_small hf.re, singles_few, hk.re⟩
  | 5, hL => rw [← Option.some.inj hL]; exact ⟨singles_small hf.pr, singles_few, hk.pr⟩
theorem Ty.below {W W' : World} {B0 b : Nat} (h : Ty W B0 b) (hb : Below W.heap.size W W') (hle : B0 ≤ W.heap.size) : Ty W' B0 b := (KeptT.of_below hb hle).ty h
theorem ty_new (W : World) (B0 : Nat) (cs : Array Value) (t : TypeId) (ht : t ≠ 69) : Ty (W.alloc (.cells cs t)) B0 W.heap.size := .inr ⟨cs, t, _, heap_alloc_new W _, ht⟩

/-- the row of fields, one more or none -/
theorem fld_own_same {W : World} {B0 : Nat} {s : Value} {p : Pv} {j : Nat} {n S : ByteArray} (h : W.ownsRow B0 69 2 s (fldK p j).length ((fldK p j).flatMap fldC)) (he : fldK p (j + 1) = fldK p j ++ optF n S) (hS : S.size = 0) : W.ownsRow B0 69 2 s (fldK p (j + 1)).length ((fldK p (j + 1)).flatMap fldC) := by
  rw [he]
  unfold optF
  rw [if_pos hS, List.append_nil]
  exact h
theorem fld_own_more {W : World} {B0 : Nat} {s : Value} {p : Pv} {j : Nat} {n S : ByteArray} (h : W.ownsRow B0 69 2 s ((fldK p j).length + 1) ((fldK p j).flatMap fldC ++ fldC ⟨n, S⟩)) (he : fldK p (j + 1) = fldK p j ++ optF n S) (hS : ¬ S.size = 0) : W.ownsRow B0 69 2 s (fldK p (j + 1)).length ((fldK p (j + 1)).flatMap fldC) := by
  rw [he]
  unfold optF
  rw [if_neg hS, List.flatMap_append, List.length_append]
  simpa using h
def twoN : List ByteArray := [nConffiles, nTriggers]
def twoS (p : Pv) : List (List ByteArray) := [p.se, p.li]
theorem fldK_two {p : Pv} {j : Nat} {n : ByteArray} {ss : List ByteArray} (hn : twoN[j]? = some n) (hL : (twoS p)[j]? = some ss) : fldK p (6 + j + 1) = fldK p (6 + j) ++ optF n (linesS ss) := by
  match j, hn, hL with
  | 0, hn, hL => rw [← Option.some.inj hn, ← Option.some.inj hL]; rfl
  | 1, hn, hL => rw [← Option.some.inj hn, ← Option.some.inj hL]; rfl
theorem text_ne {S : ByteArray} (h : ¬ S.size = 0) : (S.toList == (⟨#[]⟩ : ByteArray).toList) = false ∧ (S.toList == []) = false := by
  have h1 := isEmpty_false S (by omega)
  have e : (⟨#[]⟩ : ByteArray).toList = [] := by rw [Lib.toList_data]
  rw [e]
  have h2 : (S.toList == []) = false := by
    cases hl : S.toList with
    | nil => rw [hl] at h1; cases h1
    | cons a l => rfl
  exact ⟨h2, h2⟩
end Go.Proofs.YtodbbfgkclkpgaaGreatDoor

namespace Go.Proofs.YtodbbfgkclkpgaaGreatDoor
open Go Go.RowKit

theorem block_of2 {ts : List Tv} {w : World} {v : Value} (h : TermsAt w v ts) : ∀ a n c, v = .slice (some a) n c → ts ≠ [] → a.block < w.heap.size := by
  intro a n c hv hne
  obtain ⟨A, c', hv', _, _, hr⟩ := h
  obtain ⟨b, off, rfl, hi⟩ := hr hne
  rw [hv] at hv'
  injection hv' with h1 _ _
  injection h1 with h1
  subst h1
  cases ts with
  | nil => exact absurd rfl hne
  | cons t r => exact cell_lt (hi 0 t rfl).1.c0

theorem is_slice {w : World} {v : Value} {ts : List Tv} (h : TermsAt w v ts) : ∃ A n c, v = .slice A n c := by
  obtain ⟨A, c, hv, _⟩ := h
  exact ⟨A, _, c, hv⟩

/-- the packages that stand each by itself, in the reference's order -/
def fourOf (p : Pv) (v3 v4 v5 v6 : Value) : List (Value × List Tv) := [(v3, p.ag), (v4, p.br), (v5, p.re), (v6, p.pr)]
def fourOk (L : List (Value × List Tv)) (j : Nat) : Bool := (L.take j).all fun x => VP.flatP (x.2.map Tv.tm)
theorem fourOk_succ {L : List (Value × List Tv)} {j : Nat} {x : Value × List Tv} (h : L[j]? = some x) : fourOk L (j + 1) = (fourOk L j && VP.flatP (x.2.map Tv.tm)) := by
  unfold fourOk
  rw [List.take_add_one, h, List.all_append]
  simp
def provTo (ts : List Tv) (k : Nat) : Bool := (ts.take k).all provT
theorem provTo_succ {ts : List Tv} {k : Nat} {t : Tv} (h : ts[k]? = some t) : provTo ts (k + 1) = (provTo ts k && provT t) := by
  unfold provTo
  rw [List.take_add_one, h, List.all_append]
  simp
theorem says_ref (p : Pv) (v3 v4 v5 v6 : Value) : saysOk p = ((VP.nameP p.n.data.toList && (VP.rightP p.e p.u.data.toList p.r.data.toList && (VP.askedP (tmL p.dep) && (VP.askedP (tmL p.ahead) && (pathsB p.se && pathsB p.li))))) && fourOk (fourOf p v3 v4 v5 v6) 4 && provTo p.pr p.pr.length) := by
  rw [says_prog]
  unfold fourOk fourOf provTo
  rw [List.take_length]
  simp only [List.take_succ_cons, List.take_zero, List.all_cons, List.all_nil, Bool.and_true]
  cases p.pr.all provT <;> cases VP.nameP p.n.data.toList <;> cases VP.rightP p.e p.u.data.toList p.r.data.toList <;> cases VP.askedP (tmL p.dep) <;> cases VP.askedP (tmL p.ahead) <;> cases pathsB p.se <;> cases pathsB p.li <;> simp

set_option maxHeartbeats 6000000 in
set_option maxRecDepth 100000 in
theorem refSays_calls (v : Value) (p : Pv) (w : World) (hE : Env w) (h : PackAt w v p) (hf : p.Fit) : Calls Tryz.prog 17 #[v] w (BoolIs (saysOk p) w) := by
  obtain ⟨v1, v2, v3, v4, v5, v6, v7, v8, v9, rfl, h1, h2, h3, h4, h5, h6, h7, h8, _, hlo, hhi⟩ := h
  obtain ⟨A3, n3, k3, rfl⟩ := is_slice h3
  obtain ⟨A4, n4, k4, rfl⟩ := is_slice h4
  obtain ⟨A5, n5, k5, rfl⟩ := is_slice h5
  obtain ⟨A6, n6, k6, rfl⟩ := is_slice h6
  have HE := Lib.hid hE
  have HF := Lib.hid hf
  have CName := Lib.hid (fun (W : World) (hb : Below w.heap.size w W) => (show Calls Tryz.prog 70 #[.string p.n] W (BoolIs (VP.nameP p.n.data.toList) W) from (packName_calls p.n W HF.out.n).mono fun E W' h => ⟨h.1, by rw [← h.2]; exact Below.refl _ _⟩))
  have CVer := Lib.hid (fun (W : World) (hb : Below w.heap.size w W) => (show Calls Tryz.prog 71 #[.agg #[.int .i64 p.e, .string p.u, .string p.r]] W (BoolIs (VP.rightP p.e p.u.data.toList p.r.data.toList) W) from refRight_calls p.e p.u p.r W (HE.out.below hb) hlo hhi (by have := HF.out.u; omega) (by have := HF.out.r; omega)))
  have CDep := Lib.hid (fun (W : World) (hb : Below w.heap.size w W) => refAsked_calls v1 p.dep W (HE.out.below hb) (h1.below hb) HF.out.dep HF.out.depN)
  have CAhe := Lib.hid (fun (W : World) (hb : Below w.heap.size w W) => refAsked_calls v2 p.ahead W (HE.out.below hb) (h2.below hb) HF.out.ahead HF.out.aheadN)
  have CSe := Lib.hid (fun (W : World) (hb : Below w.heap.size w W) => refPaths_calls v7 p.se W (h7.below hb) HF.out.se)
  have CLi := Lib.hid (fun (W : World) (hb : Below w.heap.size w W) => refPaths_calls v8 p.li W (h8.below hb) HF.out.li)
  have F := Lib.hid (says_ref p (.slice A3 n3 k3) (.slice A4 n4 k4) (.slice A5 n5 k5) (.slice A6 n6 k6))
  have HFour := Lib.hid (show ∀ (j : Nat) (x : Value × List Tv), (fourOf p (.slice A3 n3 k3) (.slice A4 n4 k4) (.slice A5 n5 k5) (.slice A6 n6 k6))[j]? = some x → TermsAt w x.1 x.2 ∧ (∀ t ∈ x.2, t.small) ∧ x.2.length ≤ 1000 from fun j x hx => by
    match j, hx with
    | 0, hx => rw [← Option.some.inj hx]; exact ⟨h3, hf.ag, hf.agN⟩
    | 1, hx => rw [← Option.some.inj hx]; exact ⟨h4, hf.br, hf.brN⟩
    | 2, hx => rw [← Option.some.inj hx]; exact ⟨h5, hf.re, hf.reN⟩
    | 3, hx => rw [← Option.some.inj hx]; exact ⟨h6, hf.pr, hf.prN⟩)
  obtain ⟨b0, hb0⟩ : ∃ x, VP.nameP p.n.data.toList = x := ⟨_, rfl⟩
  obtain ⟨b1, hb1⟩ : ∃ x, VP.rightP p.e p.u.data.toList p.r.data.toList = x := ⟨_, rfl⟩
  obtain ⟨b2, hb2⟩ : ∃ x, VP.askedP (tmL p.dep) = x := ⟨_, rfl⟩
  obtain ⟨b3, hb3⟩ : ∃ x, VP.askedP (tmL p.ahead) = x := ⟨_, rfl⟩
  obtain ⟨b4, hb4⟩ : ∃ x, pathsB p.se = x := ⟨_, rfl⟩
  obtain ⟨b5, hb5⟩ : ∃ x, pathsB p.li = x := ⟨_, rfl⟩
  rw [hb0] at CName F
  rw [hb1] at CVer F
  rw [hb2] at CDep F
  rw [hb3] at CAhe F
  rw [hb4] at CSe F
  rw [hb5] at CLi F
  clear hb0 hb1 hb2 hb3 hb4 hb5 h1 h2 h3 h4 h5 h7 h8 hE hf hlo hhi
  have X0 := packBox_new w p v1 v2 (.slice A3 n3 k3) (.slice A4 n4 k4) (.slice A5 n5 k5) (.slice A6 n6 k6) v7 v8 v9 29
  have hB0 := below_alloc w (.cells #[.string p.n, .int .i64 p.e, .string p.u, .string p.r, v1, v2, (.slice A3 n3 k3), (.slice A4 n4 k4), (.slice A5 n5 k5), (.slice A6 n6 k6), v7, v8, v9] 29)
  obtain ⟨c0, c1, c2, c3, c4, c5, c6, c7, c8, c9, c10, c11, c12⟩ := id X0
  have HX := Lib.hid X0
  go_enter Tryz.func17, Tryz.ntmps17
  go_upto_region 1 with fail
  obtain ⟨m, hmm⟩ : ∃ m, w.heap.size = m := ⟨_, rfl⟩
  obtain ⟨W0, hW0⟩ : ∃ x, x = w.alloc (.cells #[.string p.n, .int .i64 p.e, .string p.u, .string p.r, v1, v2, (.slice A3 n3 k3), (.slice A4 n4 k4), (.slice A5 n5 k5), (.slice A6 n6 k6), v7, v8, v9] 29) := ⟨_, rfl⟩
  rw [← hW0] at HX hB0 c0 c1 c2 c3 c4 c5 c6 c7 c8 c9 c10 c11 c12 ⊢
  rw [hmm] at HX c0 c1 c2 c3 c4 c5 c6 c7 c8 c9 c10 c11 c12
  (try rw [hmm])
  have HB0 := Lib.hid hB0
  clear hW0 hmm
  have hz0 := Below.refl W0.heap.size W0
  clear X0
  go_cut [3] (fun s wx => s = .bool (b0 && (b1 && (b2 && (b3 && (b4 && b5))))) ∧ Below W0.heap.size W0 wx)
  case first =>
    have hB := HB0.out
    have hz := hz0
    clear hB0 HX HFour F
    have D0 := Lib.hid (CName.out _ hB)
    clear CName
    go_wp2_with fail
    refine D0.out.mono ?_
    rintro E y0 ⟨rfl, hb⟩
    have hB0 := step_below hB hb
    have hz10 := step_below hz hb
    clear hB hz
    have hB := hB0
    have hz := hz10
    clear hB0 hz10
    replace c1 := kept hb c1
    replace c2 := kept hb c2
    replace c3 := kept hb c3
    replace c4 := kept hb c4
    replace c5 := kept hb c5
    replace c10 := kept hb c10
    replace c11 := kept hb c11
    clear hb D0 c0 c6 c7 c8 c9 c12
    cases b0 with
    | false =>
      go_wp2_with fail
      go_meet
      exact ⟨rfl, hz⟩
    | true =>
    have D1 := Lib.hid (CVer.out _ hB)
    clear CVer
    go_wp2_with fail
    refine D1.out.mono ?_
    rintro E y1 ⟨rfl, hb⟩
    have hB1 := step_below hB hb
    have hz11 := step_below hz hb
    clear hB hz
    have hB := hB1
    have hz := hz11
    clear hB1 hz11
    replace c4 := kept hb c4
    replace c5 := kept hb c5
    replace c10 := kept hb c10
    replace c11 := kept hb c11
    clear hb D1 c1 c2 c3
    cases b1 with
    | false =>
      go_wp2_with fail
      go_meet
      exact ⟨rfl, hz⟩
    | true =>
    have D2 := Lib.hid (CDep.out _ hB)
    clear CDep
    go_wp2_with fail
    refine D2.out.mono ?_
    rintro E y2 ⟨rfl, hb⟩
    have hB2 := step_below hB hb
    have hz12 := step_below hz hb
    clear hB hz
    have hB := hB2
    have hz := hz12
    clear hB2 hz12
    replace c5 := kept hb c5
    replace c10 := kept hb c10
    replace c11 := kept hb c11
    clear hb D2 c4
    cases b2 with
    | false =>
      go_wp2_with fail
      go_meet
      exact ⟨rfl, hz⟩
    | true =>
    have D3 := Lib.hid (CAhe.out _ hB)
    clear CAhe
    go_wp2_with fail
    refine D3.out.mono ?_
    rintro E y3 ⟨rfl, hb⟩
    have hB3 := step_below hB hb
    have hz13 := step_below hz hb
    clear hB hz
    have hB := hB3
    have hz := hz13
    clear hB3 hz13
    replace c10 := kept hb c10
    replace c11 := kept hb c11
    clear hb D3 c5
    cases b3 with
    | false =>
      go_wp2_with fail
      go_meet
      exact ⟨rfl, hz⟩
    | true =>
    have D4 := Lib.hid (CSe.out _ hB)
    clear CSe
    go_wp2_with fail
    refine D4.out.mono ?_
    rintro E y4 ⟨rfl, hb⟩
    have hB4 := step_below hB hb
    have hz14 := step_below hz hb
    clear hB hz
    have hB := hB4
    have hz := hz14
    clear hB4 hz14
    replace c11 := kept hb c11
    clear hb D4 c10
    cases b4 with
    | false =>
      go_wp2_with fail
      go_meet
      exact ⟨rfl, hz⟩
    | true =>
    have D5 := Lib.hid (CLi.out _ hB)
    clear CLi
    go_wp2_with fail
    refine D5.out.mono ?_
    rintro E y5 ⟨rfl, hb⟩
    have hB5 := step_below hB hb
    have hz15 := step_below hz hb
    clear hB hz
    have hB := hB5
    have hz := hz15
    clear hB5 hz15
    clear hb D5 c11
    cases b5 with
    | false =>
      go_wp2_with fail
      go_meet
      exact ⟨rfl, hz⟩
    | true =>
    go_wp2_with fail
    go_meet
    exact ⟨rfl, hz⟩
  case rest =>
    obtain ⟨rfl, hz⟩ := hcut
    clear CName CVer CDep CAhe CSe CLi hz0 hB0 c0 c1 c2 c3 c4 c5 c6 c7 c8 c9 c10 c11 c12
    obtain ⟨B1, hB1⟩ : ∃ B, (b0 && (b1 && (b2 && (b3 && (b4 && b5))))) = B := ⟨_, rfl⟩
    rw [hB1] at F ⊢
    clear hB1
    have X1 := HX.out.below hz
    obtain ⟨c0, c1, c2, c3, c4, c5, c6, c7, c8, c9, c10, c11, c12⟩ := id X1
    have HZ := Lib.hid hz
    clear hz c0 c1 c2 c3 c4 c5 c10 c11 c12 X1
    obtain ⟨L, hL⟩ : ∃ L, fourOf p (.slice A3 n3 k3) (.slice A4 n4 k4) (.slice A5 n5 k5) (.slice A6 n6 k6) = L := ⟨_, rfl⟩
    have hbq := below_alloc wc (.cells #[(.slice A3 n3 k3), (.slice A4 n4 k4), (.slice A5 n5 k5), (.slice A6 n6 k6)] 25)
    have hcells : ∀ (j : Nat) (x : Value × List Tv), L[j]? = some x → (wc.alloc (.cells #[(.slice A3 n3 k3), (.slice A4 n4 k4), (.slice A5 n5 k5), (.slice A6 n6 k6)] 25)).cell? ⟨wc.heap.size, j, none⟩ = some x.1 := fun j x hx => by
      rw [← hL] at hx
      match j, hx with
      | 0, hx => rw [← Option.some.inj hx]; go_cell
      | 1, hx => rw [← Option.some.inj hx]; go_cell
      | 2, hx => rw [← Option.some.inj hx]; go_cell
      | 3, hx => rw [← Option.some.inj hx]; go_cell
    have hL4 : L.length = 4 := by rw [← hL]; rfl
    rw [hL] at F HFour
    have d9 := kept hbq c9
    have HB2 := Lib.hid (step_below (step_below HB0.out HZ.out) hbq)
    clear hL
    go_wp2_with fail
    clear c6 c7 c8 c9
    obtain ⟨g, hg⟩ : ∃ g, wc.heap.size = g := ⟨_, rfl⟩
    obtain ⟨W1, hW1⟩ : ∃ x, x = wc.alloc (.cells #[(.slice A3 n3 k3), (.slice A4 n4 k4), (.slice A5 n5 k5), (.slice A6 n6 k6)] 25) := ⟨_, rfl⟩
    rw [← hW1] at HB2 d9 hcells ⊢
    rw [hg] at hcells
    (try rw [hg])
    have HCells := Lib.hid hcells
    have HL4 := Lib.hid hL4
    clear hW1 hg hbq hcells hL4 HX HB0 HZ
    have hz1 := Below.refl W1.heap.size W1
    go_loopw [3, 46] (fun sv i wx => ∃ (j : Nat) (B : Bool), j ≤ 4 ∧ sv = .bool B ∧ i = .int .i64 j ∧ Hid (B = (B1 && fourOk L j)) ∧ Below W1.heap.size W1 wx) (fun _ i _ => 4 - (intOf i).toNat)
    case atStart => exact ⟨0, B1, by omega, rfl, rfl, Lib.hid (by unfold fourOk; simp), hz1⟩
    case round =>
      clear hz1
      obtain ⟨j, B, hj, rfl, rfl, hBe, hz⟩ := hrel
      by_cases hj4 : j < 4
      · obtain ⟨x, hx⟩ : ∃ x, L[j]? = some x := ⟨L[j]'(by have := HL4.out; omega), List.getElem?_eq_getElem _⟩
        have q0 := kept hz (HCells.out j x hx)
        obtain ⟨hT, hsm, hN⟩ := HFour.out j x hx
        have hB3 := step_below HB2.out hz
        have HX := Lib.hid (fourOk_succ hx)
        have hT1 := hT.below hB3
        have C1 := Lib.hid (refSingles_calls x.1 x.2 wr hT1 (block_of2 hT1) hN)
        have HSM := Lib.hid (singles_small hsm)
        clear hx hT hsm hT1
        cases B with
        | false =>
          have HK := Lib.hid (show false = (B1 && fourOk L (j + 1)) by rw [HX.out, ← Bool.and_assoc, ← hBe.out]; rfl)
          clear C1 HX hBe
          go_wp2_with fail
          go_roundw
          case rel => exact ⟨j + 1, false, by omega, rfl, by go_num, HK, hz⟩
          case measure => simp [intOf]; omega
        | true =>
          go_wp2_with fail
          refine C1.out.mono ?_
          rintro E w2 ⟨v', rfl, ha, hb⟩
          have hz2 := step_below hz hb
          have C2 := Lib.hid (refAsked_calls v' _ w2 (HE.out.below (step_below HB2.out hz2)) ha HSM.out singles_few)
          rw [flatP_eq] at C2
          clear C1 ha hb q0 hz
          go_wp2_with fail
          refine C2.out.mono ?_
          rintro E w3 ⟨rfl, hb⟩
          have hz3 := step_below hz2 hb
          have HK := Lib.hid (show VP.flatP (x.2.map Tv.tm) = (B1 && fourOk L (j + 1)) by rw [HX.out, ← Bool.and_assoc, ← hBe.out]; rfl)
          obtain ⟨bq, hbq⟩ : ∃ y, VP.flatP (x.2.map Tv.tm) = y := ⟨_, rfl⟩
          rw [hbq] at HK ⊢
          clear C2 hb hz2 HX hBe hbq
          go_wp2_with fail
          go_roundw
          case rel => exact ⟨j + 1, bq, by omega, rfl, by go_num, HK, hz3⟩
          case measure => simp [intOf]; omega
      · obtain rfl : j = 4 := by omega
        obtain ⟨A, c, hv6, hc, hm, hr⟩ := id h6
        injection hv6 with e1 e2 e3
        subst e1
        subst e2
        subst e3
        have e9 := kept hz d9
        have HB4 := Lib.hid (step_below HB2.out hz)
        obtain ⟨len, hlen⟩ : ∃ len, p.pr.length = len := ⟨_, rfl⟩
        have HL := Lib.hid hlen
        have HR := Lib.hid hr
        rw [hlen] at hc hm e9 F ⊢
        rw [← hBe.out] at F
        clear hlen hr h6 hz HB2 d9 HCells hBe
        obtain ⟨W4, hW4⟩ : ∃ x, x = wr := ⟨_, rfl⟩
        subst hW4
        have hz4 := Below.refl W4.heap.size W4
        go_wp2_with fail
        go_loopw [3, 60] (fun sv i wx => ∃ (k : Nat) (D : Bool), k ≤ len ∧ sv = .bool D ∧ i = .int .i64 k ∧ Hid (D = (B && provTo p.pr k)) ∧ Below W4.heap.size W4 wx) (fun _ i _ => len - (intOf i).toNat)
        case atStart => exact ⟨0, B, Nat.zero_le _, rfl, rfl, Lib.hid (by unfold provTo; simp), hz4⟩
        case round =>
          clear hz4
          obtain ⟨k, D, hk, rfl, rfl, hDe, hz⟩ := hrel
          by_cases hlt : k < len
          · have hne : p.pr ≠ [] := by
              intro e
              have := HL.out
              rw [e] at this
              simp at this
              omega
            obtain ⟨t, ht⟩ : ∃ t, p.pr[k]? = some t := ⟨p.pr[k]'(by have := HL.out; omega), List.getElem?_eq_getElem _⟩
            obtain ⟨b, off, rfl, hi⟩ := HR.out hne
            obtain ⟨t0, t1, t2, t3, t4⟩ := ((hi k t ht).1.below HB4.out).below hz
            have hz1 := step_below hz (below_alloc wr (.cells #[.string t.n, .int .i64 t.op, .int .i64 t.e, .string t.u, .string t.r] 99))
            have HP := Lib.hid (provTo_succ ht)
            have HPT := Lib.hid (show provT t = (decide (t.op = 0) || decide (t.op = 3)) from rfl)
            clear hi hne ht hz
            cases D with
            | false =>
              have HK := Lib.hid (show false = (B && provTo p.pr (k + 1)) by rw [HP.out, ← Bool.and_assoc, ← hDe.out]; rfl)
              clear hDe HP HPT
              go_wp2_with fail
              go_roundw
              case rel => exact ⟨k + 1, false, by omega, rfl, by go_num, HK, hz1⟩
              case measure => simp [intOf]; omega
            | true =>
              have HK := Lib.hid (show provT t = (B && provTo p.pr (k + 1)) by rw [HP.out, ← Bool.and_assoc, ← hDe.out]; rfl)
              clear hDe HP
              by_cases ho0 : t.op = 0
              · have hob : (t.op == 0) = true := beq_iff_eq.2 ho0
                rw [HPT.out, decide_eq_true ho0] at HK
                clear ho0 HPT
                go_wp2_with fail
                go_roundw
                case rel => exact ⟨k + 1, true, by omega, rfl, by go_num, HK, hz1⟩
                case measure => simp [intOf]; omega
              · have hob : (t.op == 0) = false := beq_eq_false_iff_ne.2 ho0
                by_cases ho3 : t.op = 3
                · have hob3 : (t.op == 3) = true := beq_iff_eq.2 ho3
                  rw [HPT.out, decide_eq_true ho3, Bool.or_true] at HK
                  clear ho0 ho3 HPT
                  go_wp2_with fail
                  go_roundw
                  case rel => exact ⟨k + 1, true, by omega, rfl, by go_num, HK, hz1⟩
                  case measure => simp [intOf]; omega
                · have hob3 : (t.op == 3) = false := beq_eq_false_iff_ne.2 ho3
                  rw [HPT.out, decide_eq_false ho0, decide_eq_false ho3] at HK
                  clear ho0 ho3 HPT
                  go_wp2_with fail
                  go_roundw
                  case rel => exact ⟨k + 1, false, by omega, rfl, by go_num, HK, hz1⟩
                  case measure => simp [intOf]; omega
          · obtain rfl : len = k := by omega
            have HG := Lib.hid (show saysOk p = D by rw [F.out, hDe.out])
            have hBB := step_below HB4.out hz
            clear hDe F hz
            go_wp2_with fail
            go_ret
            exact ⟨ret_bool HG.out.symm, hBB⟩
end Go.Proofs.YtodbbfgkclkpgaaGreatDoor

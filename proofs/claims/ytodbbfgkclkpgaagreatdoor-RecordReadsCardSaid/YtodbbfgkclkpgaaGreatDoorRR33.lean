/- The reference's ReadFields: the boxes; names in small letters. · The reference's Says: may a package be. -/
import Derived.Test.YtodbbfgkclkpgaaGreatDoorRR31
import Derived.Test.YtodbbfgkclkpgaaGreatDoorRR29
import Derived.Test.YtodbbfgkclkpgaaGreatDoorRR24
import Derived.Deep.DeepCutAuto
namespace Go.Proofs.YtodbbfgkclkpgaaGreatDoor
open Go Go.RowKit

def lPackage : ByteArray := ⟨#[112, 97, 99, 107, 97, 103, 101]⟩
def lVersion : ByteArray := ⟨#[118, 101, 114, 115, 105, 111, 110]⟩
def lDepends : ByteArray := ⟨#[100, 101, 112, 101, 110, 100, 115]⟩
def lPre : ByteArray := ⟨#[112, 114, 101, 45, 100, 101, 112, 101, 110, 100, 115]⟩
def lConflicts : ByteArray := ⟨#[99, 111, 110, 102, 108, 105, 99, 116, 115]⟩
def lBreaks : ByteArray := ⟨#[98, 114, 101, 97, 107, 115]⟩
def lReplaces : ByteArray := ⟨#[114, 101, 112, 108, 97, 99, 101, 115]⟩
def lProvides : ByteArray := ⟨#[112, 114, 111, 118, 105, 100, 101, 115]⟩
def lConffiles : ByteArray := ⟨#[99, 111, 110, 102, 102, 105, 108, 101, 115]⟩
def lTriggers : ByteArray := ⟨#[116, 114, 105, 103, 103, 101, 114, 115]⟩
theorem get_low (fs : List Fv) : getB fs lPackage = getB fs nPackage ∧ getB fs lVersion = getB fs nVersion ∧ getB fs lDepends = getB fs nDepends ∧ getB fs lPre = getB fs nPre ∧ getB fs lConflicts = getB fs nConflicts ∧ getB fs lBreaks = getB fs nBreaks ∧ getB fs lReplaces = getB fs nReplaces ∧ getB fs lProvides = getB fs nProvides ∧ getB fs lConffiles = getB fs nConffiles ∧ getB fs lTriggers = getB fs nTriggers :=
  ⟨getB_small (by decide), getB_small (by decide), getB_small (by decide), getB_small (by decide), getB_small (by decide), getB_small (by decide), getB_small (by decide), getB_small (by decide), getB_small (by decide), getB_small (by decide)⟩

/-- a text begins with a line feed, or not -/
theorem pieces_head (v : ByteArray) : (piecesB 10 v).length = (VP.pieces 10 v.data.toList).length := by unfold piecesB; rw [List.length_map]
theorem lines_empty {v : ByteArray} (h : v.size = 0) : (decide ((piecesB 10 v)[0]? = some ⟨#[]⟩) && decide (1 < (piecesB 10 v).length)) = false := by
  rw [eq_empty v h]
  decide
theorem pieces_other {c : UInt8} {l : List UInt8} (h : c ≠ 10) : ∃ a r, VP.pieces 10 (c :: l) = (c :: a) :: r := by
  rcases hp : VP.pieces 10 (c :: l) with _ | ⟨x, r⟩
  · exact absurd hp (VP.pieces_ne _ _)
  · rcases hq : VP.pieces 10 l with _ | ⟨y, s⟩
    · exact absurd hq (VP.pieces_ne _ _)
    · refine ⟨y, s, ?_⟩
      rw [← hp]
      simp [VP.pieces, hq, h]
theorem pieces_feed (l : List UInt8) : VP.pieces 10 (10 :: l) = [] :: VP.pieces 10 l := by simp [VP.pieces]
theorem lines_other {v : ByteArray} (h0 : 0 < v.size) (h : v[0].toNat ≠ 10) : (decide ((piecesB 10 v)[0]? = some ⟨#[]⟩) && decide (1 < (piecesB 10 v).length)) = false := by
  have hl := list_cons v h0
  obtain ⟨a, r, hp⟩ := pieces_other (l := v.data.toList.tail) (fun e => h (by rw [e]; rfl) : v[0] ≠ 10)
  rw [← hl] at hp
  have : ¬ (piecesB 10 v)[0]? = some (⟨#[]⟩ : ByteArray) := by
    unfold piecesB
    rw [List.getElem?_map, hp]
    intro e
    have e1 := Option.some.inj e
    have e2 := congrArg (fun s : ByteArray => s.size) e1
    simp at e2
    cases e2
  rw [decide_eq_false this]; rfl
theorem lines_feed {v t : ByteArray} (h0 : 0 < v.size) (h : v[0].toNat = 10) (ht : t.data.toList = v.data.toList.tail) : (decide ((piecesB 10 v)[0]? = some ⟨#[]⟩) && decide (1 < (piecesB 10 v).length)) = true ∧ (piecesB 10 v).tail = piecesB 10 t := by
  have hl := list_cons v h0
  have hc : v[0] = 10 := UInt8.toNat_inj.1 h
  rw [hc] at hl
  have hp : piecesB 10 v = ⟨#[]⟩ :: piecesB 10 t := by
    unfold piecesB
    rw [hl, pieces_feed, ht]
    rfl
  rw [hp]
  refine ⟨?_, rfl⟩
  have : 0 < (piecesB 10 t).length := by
    rw [pieces_head]
    rcases hq : VP.pieces 10 t.data.toList with _ | ⟨y, s⟩
    · exact absurd hq (VP.pieces_ne _ _)
    · simp
  simp; omega

/-- the state: the fields' box b, the result's b + 1, the empty one b + 2, the package's b + 3 -/
structure RfSt (w : World) (b : Nat) (lv : Value) (q : Pv) (v1 v2 v3 v4 v5 v6 v7 v8 : Value) (W : World) : Prop where
  l : W.cell? ⟨b, 0, none⟩ = some lv
  z : PkBlk W (b + 1) zeros
  n : PkBlk W (b + 2) zeros
  k : PkBlk W (b + 3) (cells13 q v1 v2 v3 v4 v5 v6 v7 v8)
  v : RdVals (b + 4) W q v1 v2 v3 v4 v5 v6 v7 v8
  low : w.heap.size ≤ b
  w : Below w.heap.size w W
theorem RfSt.below {w W W' : World} {b : Nat} {lv : Value} {q : Pv} {v1 v2 v3 v4 v5 v6 v7 v8 : Value} (h : RfSt w b lv q v1 v2 v3 v4 v5 v6 v7 v8 W) (hb : Below W.heap.size W W') : RfSt w b lv q v1 v2 v3 v4 v5 v6 v7 v8 W' :=
  ⟨kept hb h.l, h.z.keep hb, h.n.keep hb, h.k.keep hb, h.v.keep (FromAs.of_below hb), h.low, step_below h.w hb⟩
theorem RfSt.put {w W : World} {b i : Nat} {lv : Value} {q q' : Pv} {v1 v2 v3 v4 v5 v6 v7 v8 u1 u2 u3 u4 u5 u6 u7 u8 : Value} (h : RfSt w b lv q v1 v2 v3 v4 v5 v6 v7 v8 W) (x : Value)
    (hc : (cells13 q v1 v2 v3 v4 v5 v6 v7 v8).setIfInBounds i x = cells13 q' u1 u2 u3 u4 u5 u6 u7 u8) (hv : RdVals (b + 4) W q' u1 u2 u3 u4 u5 u6 u7 u8) : RfSt w b lv q' u1 u2 u3 u4 u5 u6 u7 u8 (W.setCell ⟨b + 3, i, none⟩ x) :=
  ⟨by rw [World.cell?_setCell_other _ _ _ _ (by intro e; simp only [Addr.mk.injEq] at e; omega)]; exact h.l, h.z.other (by omega) i x, h.n.other (by omega) i x, by have := h.k.set i x; rwa [hc] at this, hv.keep (fromAs_set W (b + 3) i x), h.low, h.w.setCell (p := ⟨b + 3, i, none⟩) (show w.heap.size ≤ b + 3 by have := h.low; omega) x⟩
theorem RfSt.start (w : World) (lv : Value) : RfSt w w.heap.size lv pack0 (.slice none 0 0) (.slice none 0 0) (.slice none 0 0) (.slice none 0 0) (.slice none 0 0) (.slice none 0 0) (.slice none 0 0) (.slice none 0 0)
    ((((w.alloc (.cells #[lv] 31)).alloc (.cells zeros 29)).alloc (.cells zeros 29)).alloc (.cells zeros 29)) := by
  have b1 := below_alloc w (.cells #[lv] 31)
  have b2 := below_alloc (w.alloc (.cells #[lv] 31)) (.cells zeros 29)
  have b3 := below_alloc ((w.alloc (.cells #[lv] 31)).alloc (.cells zeros 29)) (.cells zeros 29)
  have b4 := below_alloc (((w.alloc (.cells #[lv] 31)).alloc (.cells zeros 29)).alloc (.cells zeros 29)) (.cells zeros 29)
  have l0 : (w.alloc (.cells #[lv] 31)).cell? ⟨w.heap.size, 0, none⟩ = some lv := by go_cell
  have z1 := pk_new (w.alloc (.cells #[lv] 31)) zeros
  have z2 := pk_new ((w.alloc (.cells #[lv] 31)).alloc (.cells zeros 29)) zeros
  have z3 := pk_new (((w.alloc (.cells #[lv] 31)).alloc (.cells zeros 29)).alloc (.cells zeros 29)) zeros
  simp only [World.size_alloc] at z1 z2 z3
  exact ⟨kept b4 (kept b3 (kept b2 l0)), (z1.keep b3).keep b4, z2.keep b4, z3,
    ⟨askedIn_nil _ _ _, askedIn_nil _ _ _, termsFrom_nil _ _ _, termsFrom_nil _ _ _, termsFrom_nil _ _ _, termsFrom_nil _ _ _, strsFrom_nil _ _ _, strsFrom_nil _ _ _, rfl⟩, Nat.le_refl _, step_below (step_below (step_below b1 b2) b3) b4⟩
theorem refReadIs_err {fs : List Fv} {w W : World} {n : Int} (h : rdE fs = n ∧ rdV fs = pack0) (hb : Below w.heap.size w W) : RefReadIs fs w (.returned (.tuple #[.agg zeros, .int .i64 n])) W :=
  ⟨_, by rw [h.1], by rw [h.2]; exact pack0_at W, hb⟩

set_option maxRecDepth 100000 in
/-- the closure get -/
theorem rget_calls (n : ByteArray) (fs : List Fv) (lv : Value) (b : Nat) (W : World) (hl : W.cell? ⟨b, 0, none⟩ = some lv) (h : FieldsAt W lv fs) (hs : ∀ f ∈ fs, f.n.size ≤ 6000) (hn : n.size ≤ 1000) :
    Calls Tryz.prog 91 #[.string n, .pointer (some ⟨b, 0, none⟩)] W fun E W' => E = .returned (.string (sayF fs n)) ∧ Below W.heap.size W W' := by
  have C := Lib.hid (refGet_calls lv fs n W h (fun f hf => by have := hs f hf; omega) (by omega))
  obtain ⟨A, c, rfl, _⟩ := id h
  clear h hs
  go_enter Tryz.func91, Tryz.ntmps91
  go_wp2_with fail
  refine C.out.mono ?_
  rintro E w1 ⟨rfl, hb⟩
  clear C hl
  go_wp2_with fail
  go_ret
  exact ⟨rfl, hb⟩
end Go.Proofs.YtodbbfgkclkpgaaGreatDoor

namespace Go.Proofs.YtodbbfgkclkpgaaGreatDoor
open Go Go.RowKit

theorem block_of2 {ts : List Tv} {w : World} {v : Value} (h : TermsAt w v ts) : ∀ a n c, v = .slice (some a) n c → ts ≠ [] → a.block < w.heap.size := by
  intro a n c hv hne
  obtain ⟨A, c', hv', _, _, hr⟩ := h
  obtain ⟨b, off, rfl, hi⟩ := hr hne
  rw [hv] at hv'
  injection hv' with h1 _ _
  injection h1 with h1
  subst h1
  cases ts with
  | nil => exact absurd rfl hne
  | cons t r => exact cell_lt (hi 0 t rfl).1.c0

theorem is_slice {w : World} {v : Value} {ts : List Tv} (h : TermsAt w v ts) : ∃ A n c, v = .slice A n c := by
  obtain ⟨A, c, hv, _⟩ := h
  exact ⟨A, _, c, hv⟩

/-- the packages that stand each by itself, in the reference's order -/
def fourOf (p : Pv) (v3 v4 v5 v6 : Value) : List (Value × List Tv) := [(v3, p.ag), (v4, p.br), (v5, p.re), (v6, p.pr)]
def fourOk (L : List (Value × List Tv)) (j : Nat) : Bool := (L.take j).all fun x => VP.flatP (x.2.map Tv.tm)
theorem fourOk_succ {L : List (Value × List Tv)} {j : Nat} {x : Value × List Tv} (h : L[j]? = some x) : fourOk L (j + 1) = (fourOk L j && VP.flatP (x.2.map Tv.tm)) := by
  unfold fourOk
  rw [List.take_add_one, h, List.all_append]
  simp
def provTo (ts : List Tv) (k : Nat) : Bool := (ts.take k).all provT
theorem provTo_succ {ts : List Tv} {k : Nat} {t : Tv} (h : ts[k]? = some t) : provTo ts (k + 1) = (provTo ts k && provT t) := by
  unfold provTo
  rw [List.take_add_one, h, List.all_append]
  simp
theorem says_ref (p : Pv) (v3 v4 v5 v6 : Value) : saysOk p = ((VP.nameP p.n.data.toList && (VP.rightP p.e p.u.data.toList p.r.data.toList && (VP.askedP (tmL p.dep) && (VP.askedP (tmL p.ahead) && (pathsB p.se && pathsB p.li))))) && fourOk (fourOf p v3 v4 v5 v6) 4 && provTo p.pr p.pr.length) := by
  rw [says_prog]
  unfold fourOk fourOf provTo
  rw [List.take_length]
  simp only [List.take_succ_cons, List.take_zero, List.all_cons, List.all_nil, Bool.and_true]
  cases p.pr.all provT <;> cases VP.nameP p.n.data.toList <;> cases VP.rightP p.e p.u.data.toList p.r.data.toList <;> cases VP.askedP (tmL p.dep) <;> cases VP.askedP (tmL p.ahead) <;> cases pathsB p.se <;> cases pathsB p.li <;> simp

set_option maxHeartbeats 6000000 in
set_option maxRecDepth 100000 in
theorem refSays_calls (v : Value) (p : Pv) (w : World) (hE : Env w) (h : PackAt w v p) (hf : p.Fit) : Calls Tryz.prog 17 #[v] w (BoolIs (saysOk p) w) := by
  obtain ⟨v1, v2, v3, v4, v5, v6, v7, v8, v9, rfl, h1, h2, h3, h4, h5, h6, h7, h8, _, hlo, hhi⟩ := h
  obtain ⟨A3, n3, k3, rfl⟩ := is_slice h3
  obtain ⟨A4, n4, k4, rfl⟩ := is_slice h4
  obtain ⟨A5, n5, k5, rfl⟩ := is_slice h5
  obtain ⟨A6, n6, k6, rfl⟩ := is_slice h6
  have HE := Lib.hid hE
  have HF := Lib.hid hf
  have CName := Lib.hid (fun (W : World) (hb : Below w.heap.size w W) => (show Calls Tryz.prog 70 #[.string p.n] W (BoolIs (VP.nameP p.n.data.toList) W) from (packName_calls p.n W HF.out.n).mono fun E W' h => ⟨h.1, by rw [← h.2]; exact Below.refl _ _⟩))
  have CVer := Lib.hid (fun (W : World) (hb : Below w.heap.size w W) => (show Calls Tryz.prog 71 #[.agg #[.int .i64 p.e, .string p.u, .string p.r]] W (BoolIs (VP.rightP p.e p.u.data.toList p.r.data.toList) W) from refRight_calls p.e p.u p.r W (HE.out.below hb) hlo hhi (by have := HF.out.u; omega) (by have := HF.out.r; omega)))
  have CDep := Lib.hid (fun (W : World) (hb : Below w.heap.size w W) => refAsked_calls v1 p.dep W (HE.out.below hb) (h1.below hb) HF.out.dep HF.out.depN)
  have CAhe := Lib.hid (fun (W : World) (hb : Below w.heap.size w W) => refAsked_calls v2 p.ahead W (HE.out.below hb) (h2.below hb) HF.out.ahead HF.out.aheadN)
  have CSe := Lib.hid (fun (W : World) (hb : Below w.heap.size w W) => refPaths_calls v7 p.se W (h7.below hb) HF.out.se)
  have CLi := Lib.hid (fun (W : World) (hb : Below w.heap.size w W) => refPaths_calls v8 p.li W (h8.below hb) HF.out.li)
  have F := Lib.hid (says_ref p (.slice A3 n3 k3) (.slice A4 n4 k4) (.slice A5 n5 k5) (.slice A6 n6 k6))
  have HFour := Lib.hid (show ∀ (j : Nat) (x : Value × List Tv), (fourOf p (.slice A3 n3 k3) (.slice A4 n4 k4) (.slice A5 n5 k5) (.slice A6 n6 k6))[j]? = some x → TermsAt w x.1 x.2 ∧ (∀ t ∈ x.2, t.small) ∧ x.2.length ≤ 1000 from fun j x hx => by
    match j, hx with
    | 0, hx => rw [← Option.some.inj hx]; exact ⟨h3, hf.ag, hf.agN⟩
    | 1, hx => rw [← Option.some.inj hx]; exact ⟨h4, hf.br, hf.brN⟩
    | 2, hx => rw [← Option.some.inj hx]; exact ⟨h5, hf.re, hf.reN⟩
    | 3, hx => rw [← Option.some.inj hx]; exact ⟨h6, hf.pr, hf.prN⟩)
  obtain ⟨b0, hb0⟩ : ∃ x, VP.nameP p.n.data.toList = x := ⟨_, rfl⟩
  obtain ⟨b1, hb1⟩ : ∃ x, VP.rightP p.e p.u.data.toList p.r.data.toList = x := ⟨_, rfl⟩
  obtain ⟨b2, hb2⟩ : ∃ x, VP.askedP (tmL p.dep) = x := ⟨_, rfl⟩
  obtain ⟨b3, hb3⟩ : ∃ x, VP.askedP (tmL p.ahead) = x := ⟨_, rfl⟩
  obtain ⟨b4, hb4⟩ : ∃ x, pathsB p.se = x := ⟨_, rfl⟩
  obtain ⟨b5, hb5⟩ : ∃ x, pathsB p.li = x := ⟨_, rfl⟩
  rw [hb0] at CName F
  rw [hb1] at CVer F
  rw [hb2] at CDep F
  rw [hb3] at CAhe F
  rw [hb4] at CSe F
  rw [hb5] at CLi F
  clear hb0 hb1 hb2 hb3 hb4 hb5 h1 h2 h3 h4 h5 h7 h8 hE hf hlo hhi
  have X0 := packBox_new w p v1 v2 (.slice A3 n3 k3) (.slice A4 n4 k4) (.slice A5 n5 k5) (.slice A6 n6 k6) v7 v8 v9 29
  have hB0 := below_alloc w (.cells #[.string p.n, .int .i64 p.e, .string p.u, .string p.r, v1, v2, (.slice A3 n3 k3), (.slice A4 n4 k4), (.slice A5 n5 k5), (.slice A6 n6 k6), v7, v8, v9] 29)
  obtain ⟨c0, c1, c2, c3, c4, c5, c6, c7, c8, c9, c10, c11, c12⟩ := id X0
  have HX := Lib.hid X0
  go_enter Tryz.func17, Tryz.ntmps17
  go_upto_region 1 with fail
  obtain ⟨m, hmm⟩ : ∃ m, w.heap.size = m := ⟨_, rfl⟩
  obtain ⟨W0, hW0⟩ : ∃ x, x = w.alloc (.cells #[.string p.n, .int .i64 p.e, .string p.u, .string p.r, v1, v2, (.slice A3 n3 k3), (.slice A4 n4 k4), (.slice A5 n5 k5), (.slice A6 n6 k6), v7, v8, v9] 29) := ⟨_, rfl⟩
  rw [← hW0] at HX hB0 c0 c1 c2 c3 c4 c5 c6 c7 c8 c9 c10 c11 c12 ⊢
  rw [hmm] at HX c0 c1 c2 c3 c4 c5 c6 c7 c8 c9 c10 c11 c12
  (try rw [hmm])
  have HB0 := Lib.hid hB0
  clear hW0 hmm
  have hz0 := Below.refl W0.heap.size W0
  clear X0
  go_cut [3] (fun s wx => s = .bool (b0 && (b1 && (b2 && (b3 && (b4 && b5))))) ∧ Below W0.heap.size W0 wx)
  case first =>
    have hB := HB0.out
    have hz := hz0
    clear hB0 HX HFour F
    have D0 := Lib.hid (CName.out _ hB)
    clear CName
    go_wp2_with fail
    refine D0.out.mono ?_
    rintro E y0 ⟨rfl, hb⟩
    have hB0 := step_below hB hb
    have hz10 := step_below hz hb
    clear hB hz
    have hB := hB0
    have hz := hz10
    clear hB0 hz10
    replace c1 := kept hb c1
    replace c2 := kept hb c2
    replace c3 := kept hb c3
    replace c4 := kept hb c4
    replace c5 := kept hb c5
    replace c10 := kept hb c10
    replace c11 := kept hb c11
    clear hb D0 c0 c6 c7 c8 c9 c12
    cases b0 with
    | false =>
      go_wp2_with fail
      go_meet
      exact ⟨rfl, hz⟩
    | true =>
    have D1 := Lib.hid (CVer.out _ hB)
    clear CVer
    go_wp2_with fail
    refine D1.out.mono ?_
    rintro E y1 ⟨rfl, hb⟩
    have hB1 := step_below hB hb
    have hz11 := step_below hz hb
    clear hB hz
    have hB := hB1
    have hz := hz11
    clear hB1 hz11
    replace c4 := kept hb c4
    replace c5 := kept hb c5
    replace c10 := kept hb c10
    replace c11 := kept hb c11
    clear hb D1 c1 c2 c3
    cases b1 with
    | false =>
      go_wp2_with fail
      go_meet
      exact ⟨rfl, hz⟩
    | true =>
    have D2 := Lib.hid (CDep.out _ hB)
    clear CDep
    go_wp2_with fail
    refine D2.out.mono ?_
    rintro E y2 ⟨rfl, hb⟩
    have hB2 := step_below hB hb
    have hz12 := step_below hz hb
    clear hB hz
    have hB := hB2
    have hz := hz12
    clear hB2 hz12
    replace c5 := kept hb c5
    replace c10 := kept hb c10
    replace c11 := kept hb c11
    clear hb D2 c4
    cases b2 with
    | false =>
      go_wp2_with fail
      go_meet
      exact ⟨rfl, hz⟩
    | true =>
    have D3 := Lib.hid (CAhe.out _ hB)
    clear CAhe
    go_wp2_with fail
    refine D3.out.mono ?_
    rintro E y3 ⟨rfl, hb⟩
    have hB3 := step_below hB hb
    have hz13 := step_below hz hb
    clear hB hz
    have hB := hB3
    have hz := hz13
    clear hB3 hz13
    replace c10 := kept hb c10
    replace c11 := kept hb c11
    clear hb D3 c5
    cases b3 with
    | false =>
      go_wp2_with fail
      go_meet
      exact ⟨rfl, hz⟩
    | true =>
    have D4 := Lib.hid (CSe.out _ hB)
    clear CSe
    go_wp2_with fail
    refine D4.out.mono ?_
    rintro E y4 ⟨rfl, hb⟩
    have hB4 := step_below hB hb
    have hz14 := step_below hz hb
    clear hB hz
    have hB := hB4
    have hz := hz14
    clear hB4 hz14
    replace c11 := kept hb c11
    clear hb D4 c10
    cases b4 with
    | false =>
      go_wp2_with fail
      go_meet
      exact ⟨rfl, hz⟩
    | true =>
    have D5 := Lib.hid (CLi.out _ hB)
    clear CLi
    go_wp2_with fail
    refine D5.out.mono ?_
    rintro E y5 ⟨rfl, hb⟩
    have hB5 := step_below hB hb
    have hz15 := step_below hz hb
    clear hB hz
    have hB := hB5
    have hz := hz15
    clear hB5 hz15
    clear hb D5 c11
    cases b5 with
    | false =>
      go_wp2_with fail
      go_meet
      exact ⟨rfl, hz⟩
    | true =>
    go_wp2_with fail
    go_meet
    exact ⟨rfl, hz⟩
  case rest =>
    obtain ⟨rfl, hz⟩ := hcut
    clear CName CVer CDep CAhe CSe CLi hz0 hB0 c0 c1 c2 c3 c4 c5 c6 c7 c8 c9 c10 c11 c12
    obtain ⟨B1, hB1⟩ : ∃ B, (b0 && (b1 && (b2 && (b3 && (b4 && b5))))) = B := ⟨_, rfl⟩
    rw [hB1] at F ⊢
    clear hB1
    have X1 := HX.out.below hz
    obtain ⟨c0, c1, c2, c3, c4, c5, c6, c7, c8, c9, c10, c11, c12⟩ := id X1
    have HZ := Lib.hid hz
    clear hz c0 c1 c2 c3 c4 c5 c10 c11 c12 X1
    obtain ⟨L, hL⟩ : ∃ L, fourOf p (.slice A3 n3 k3) (.slice A4 n4 k4) (.slice A5 n5 k5) (.slice A6 n6 k6) = L := ⟨_, rfl⟩
    have hbq := below_alloc wc (.cells #[(.slice A3 n3 k3), (.slice A4 n4 k4), (.slice A5 n5 k5), (.slice A6 n6 k6)] 25)
    have hcells : ∀ (j : Nat) (x : Value × List Tv), L[j]? = some x → (wc.alloc (.cells #[(.slice A3 n3 k3), (.slice A4 n4 k4), (.slice A5 n5 k5), (.slice A6 n6 k6)] 25)).cell? ⟨wc.heap.size, j, none⟩ = some x.1 := fun j x hx => by
      rw [← hL] at hx
      match j, hx with
      | 0, hx => rw [← Option.some.inj hx]; go_cell
      | 1, hx => rw [← Option.some.inj hx]; go_cell
      | 2, hx => rw [← Option.some.inj hx]; go_cell
      | 3, hx => rw [← Option.some.inj hx]; go_cell
    have hL4 : L.length = 4 := by rw [← hL]; rfl
    rw [hL] at F HFour
    have d9 := kept hbq c9
    have HB2 := Lib.hid (step_below (step_below HB0.out HZ.out) hbq)
    clear hL
    go_wp2_with fail
    clear c6 c7 c8 c9
    obtain ⟨g, hg⟩ : ∃ g, wc.heap.size = g := ⟨_, rfl⟩
    obtain ⟨W1, hW1⟩ : ∃ x, x = wc.alloc (.cells #[(.slice A3 n3 k3), (.slice A4 n4 k4), (.slice A5 n5 k5), (.slice A6 n6 k6)] 25) := ⟨_, rfl⟩
    rw [← hW1] at HB2 d9 hcells ⊢
    rw [hg] at hcells
    (try rw [hg])
    have HCells := Lib.hid hcells
    have HL4 := Lib.hid hL4
    clear hW1 hg hbq hcells hL4 HX HB0 HZ
    have hz1 := Below.refl W1.heap.size W1
    go_loopw [3, 46] (fun sv i wx => ∃ (j : Nat) (B : Bool), j ≤ 4 ∧ sv = .bool B ∧ i = .int .i64 j ∧ Hid (B = (B1 && fourOk L j)) ∧ Below W1.heap.size W1 wx) (fun _ i _ => 4 - (intOf i).toNat)
    case atStart => exact ⟨0, B1, by omega, rfl, rfl, Lib.hid (by unfold fourOk; simp), hz1⟩
    case round =>
      clear hz1
      obtain ⟨j, B, hj, rfl, rfl, hBe, hz⟩ := hrel
      by_cases hj4 : j < 4
      · obtain ⟨x, hx⟩ : ∃ x, L[j]? = some x := ⟨L[j]'(by have := HL4.out; omega), List.getElem?_eq_getElem _⟩
        have q0 := kept hz (HCells.out j x hx)
        obtain ⟨hT, hsm, hN⟩ := HFour.out j x hx
        have hB3 := step_below HB2.out hz
        have HX := Lib.hid (fourOk_succ hx)
        have hT1 := hT.below hB3
        have C1 := Lib.hid (refSingles_calls x.1 x.2 wr hT1 (block_of2 hT1) hN)
        have HSM := Lib.hid (singles_small hsm)
        clear hx hT hsm hT1
        cases B with
        | false =>
          have HK := Lib.hid (show false = (B1 && fourOk L (j + 1)) by rw [HX.out, ← Bool.and_assoc, ← hBe.out]; rfl)
          clear C1 HX hBe
          go_wp2_with fail
          go_roundw
          case rel => exact ⟨j + 1, false, by omega, rfl, by go_num, HK, hz⟩
          case measure => simp [intOf]; omega
        | true =>
          go_wp2_with fail
          refine C1.out.mono ?_
          rintro E w2 ⟨v', rfl, ha, hb⟩
          have hz2 := step_below hz hb
          have C2 := Lib.hid (refAsked_calls v' _ w2 (HE.out.below (step_below HB2.out hz2)) ha HSM.out singles_few)
          rw [flatP_eq] at C2
          clear C1 ha hb q0 hz
          go_wp2_with fail
          refine C2.out.mono ?_
          rintro E w3 ⟨rfl, hb⟩
          have hz3 := step_below hz2 hb
          have HK := Lib.hid (show VP.flatP (x.2.map Tv.tm) = (B1 && fourOk L (j + 1)) by rw [HX.out, ← Bool.and_assoc, ← hBe.out]; rfl)
          obtain ⟨bq, hbq⟩ : ∃ y, VP.flatP (x.2.map Tv.tm) = y := ⟨_, rfl⟩
          rw [hbq] at HK ⊢
          clear C2 hb hz2 HX hBe hbq
          go_wp2_with fail
          go_roundw
          case rel => exact ⟨j + 1, bq, by omega, rfl, by go_num, HK, hz3⟩
          case measure => simp [intOf]; omega
      · obtain rfl : j = 4 := by omega
        obtain ⟨A, c, hv6, hc, hm, hr⟩ := id h6
        injection hv6 with e1 e2 e3
        subst e1
        subst e2
        subst e3
        have e9 := kept hz d9
        have HB4 := Lib.hid (step_below HB2.out hz)
        obtain ⟨len, hlen⟩ : ∃ len, p.pr.length = len := ⟨_, rfl⟩
        have HL := Lib.hid hlen
        have HR := Lib.hid hr
        rw [hlen] at hc hm e9 F ⊢
        rw [← hBe.out] at F
        clear hlen hr h6 hz HB2 d9 HCells hBe
        obtain ⟨W4, hW4⟩ : ∃ x, x = wr := ⟨_, rfl⟩
        subst hW4
        have hz4 := Below.refl W4.heap.size W4
        go_wp2_with fail
        go_loopw [3, 60] (fun sv i wx => ∃ (k : Nat) (D : Bool), k ≤ len ∧ sv = .bool D ∧ i = .int .i64 k ∧ Hid (D = (B && provTo p.pr k)) ∧ Below W4.heap.size W4 wx) (fun _ i _ => len - (intOf i).toNat)
        case atStart => exact ⟨0, B, Nat.zero_le _, rfl, rfl, Lib.hid (by unfold provTo; simp), hz4⟩
        case round =>
          clear hz4
          obtain ⟨k, D, hk, rfl, rfl, hDe, hz⟩ := hrel
          by_cases hlt : k < len
          · have hne : p.pr ≠ [] := by
              intro e
              have := HL.out
              rw [e] at this
              simp at this
              omega
            obtain ⟨t, ht⟩ : ∃ t, p.pr[k]? = some t := ⟨p.pr[k]'(by have := HL.out; omega), List.getElem?_eq_getElem _⟩
            obtain ⟨b, off, rfl, hi⟩ := HR.out hne
            obtain ⟨t0, t1, t2, t3, t4⟩ := ((hi k t ht).1.below HB4.out).below hz
            have hz1 := step_below hz (below_alloc wr (.cells #[.string t.n, .int .i64 t.op, .int .i64 t.e, .string t.u, .string t.r] 99))
            have HP := Lib.hid (provTo_succ ht)
            have HPT := Lib.hid (show provT t = (decide (t.op = 0) || decide (t.op = 3)) from rfl)
            clear hi hne ht hz
            cases D with
            | false =>
              have HK := Lib.hid (show false = (B && provTo p.pr (k + 1)) by rw [HP.out, ← Bool.and_assoc, ← hDe.out]; rfl)
              clear hDe HP HPT
              go_wp2_with fail
              go_roundw
              case rel => exact ⟨k + 1, false, by omega, rfl, by go_num, HK, hz1⟩
              case measure => simp [intOf]; omega
            | true =>
              have HK := Lib.hid (show provT t = (B && provTo p.pr (k + 1)) by rw [HP.out, ← Bool.and_assoc, ← hDe.out]; rfl)
              clear hDe HP
              by_cases ho0 : t.op = 0
              · have hob : (t.op == 0) = true := beq_iff_eq.2 ho0
                rw [HPT.out, decide_eq_true ho0] at HK
                clear ho0 HPT
                go_wp2_with fail
                go_roundw
                case rel => exact ⟨k + 1, true, by omega, rfl, by go_num, HK, hz1⟩
                case measure => simp [intOf]; omega
              · have hob : (t.op == 0) = false := beq_eq_false_iff_ne.2 ho0
                by_cases ho3 : t.op = 3
                · have hob3 : (t.op == 3) = true := beq_iff_eq.2 ho3
                  rw [HPT.out, decide_eq_true ho3, Bool.or_true] at HK
                  clear ho0 ho3 HPT
                  go_wp2_with fail
                  go_roundw
                  case rel => exact ⟨k + 1, true, by omega, rfl, by go_num, HK, hz1⟩
                  case measure => simp [intOf]; omega
                · have hob3 : (t.op == 3) = false := beq_eq_false_iff_ne.2 ho3
                  rw [HPT.out, decide_eq_false ho0, decide_eq_false ho3] at HK
                  clear ho0 ho3 HPT
                  go_wp2_with fail
                  go_roundw
                  case rel => exact ⟨k + 1, false, by omega, rfl, by go_num, HK, hz1⟩
                  case measure => simp [intOf]; omega
          · obtain rfl : len = k := by omega
            have HG := Lib.hid (show saysOk p = D by rw [F.out, hDe.out])
            have hBB := step_below HB4.out hz
            clear hDe F hz
            go_wp2_with fail
            go_ret
            exact ⟨ret_bool HG.out.symm, hBB⟩
end Go.Proofs.YtodbbfgkclkpgaaGreatDoor

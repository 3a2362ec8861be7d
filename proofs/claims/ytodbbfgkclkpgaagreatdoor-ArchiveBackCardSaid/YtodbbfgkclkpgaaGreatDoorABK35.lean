/- The reference's ParseStanzas: what it asks for in another order is the same: plain. · The reference's ParseStanzas: the walk. · The reference's ReadArchive: the walk. · ArchiveReads: for all texts the call returns true: from the walks. · What a stanza is written as reads as that stanza: plain. -/
import Derived.Test.YtodbbfgkclkpgaaGreatDoorABK26
import Derived.Test.YtodbbfgkclkpgaaGreatDoorABK6
import Derived.Test.YtodbbfgkclkpgaaGreatDoorABK17
import Derived.Test.YtodbbfgkclkpgaaGreatDoorABK21
import Derived.IntWalk
import Derived.Test.YtodbbfgkclkpgaaGreatDoorABK29
import Derived.Test.YtodbbfgkclkpgaaGreatDoorABK34
import Derived.Test.YtodbbfgkclkpgaaGreatDoorABK31
import Derived.Test.YtodbbfgkclkpgaaGreatDoorABK11
import Derived.Test.YtodbbfgkclkpgaaGreatDoorABK8
import Derived.Test.YtodbbfgkclkpgaaGreatDoorABK7
import Derived.Test.YtodbbfgkclkpgaaGreatDoorABK2
import Derived.Deep.DeepCutAuto
import Derived.Test.YtodbbfgkclkpgaaGreatDoorABK18
import Derived.Deep.RegionLaw
import Derived.Deep.QuietTactic
import Derived.BigQuiet
import Derived.Deep.RegionHeld3
import Derived.Test.YtodbbfgkclkpgaaGreatDoorABK9
import Derived.Test.YtodbbfgkclkpgaaGreatDoorABK32
namespace Go.Proofs.YtodbbfgkclkpgaaGreatDoor
open Go Go.RowKit

theorem cut_head {p : UInt8 → Bool} {l : List UInt8} {c : UInt8} (h : (VP.cutBoth p l).head? = some c) : p c = false := VP.dropWhile_head p _ c h
theorem rtrim_last {p : UInt8 → Bool} {l : List UInt8} {c : UInt8} (h : (VP.rtrim p l).getLast? = some c) : p c = false := by
  unfold VP.rtrim at h
  rw [List.getLast?_reverse] at h
  exact VP.dropWhile_head p _ c h
theorem cut_last {p : UInt8 → Bool} {l : List UInt8} {c : UInt8} (h : (VP.cutBoth p l).getLast? = some c) : p c = false := rtrim_last (l := l) (VP.dropWhile_last p _ c h)
theorem rtrim_id {p : UInt8 → Bool} {l : List UInt8} (h : ∀ c, l.getLast? = some c → p c = false) : VP.rtrim p l = l := by
  unfold VP.rtrim
  rw [VP.dropWhile_id (fun c hc => h c (by rwa [List.head?_reverse] at hc)), List.reverse_reverse]
theorem cut_id {p : UInt8 → Bool} {l : List UInt8} (h0 : ∀ c, l.head? = some c → p c = false) (h1 : ∀ c, l.getLast? = some c → p c = false) : VP.cutBoth p l = l := by
  show (VP.rtrim p l).dropWhile p = l
  rw [rtrim_id h1]
  exact VP.dropWhile_id h0
end Go.Proofs.YtodbbfgkclkpgaaGreatDoor

namespace Go.Proofs.YtodbbfgkclkpgaaGreatDoor
open Go Go.RowKit

/-- the reference's variable Fine -/
def EnvF (w : World) : Prop := w.cell? ⟨0, 0, none⟩ = some (.int .i64 0) ∧ w.cell? ⟨0, 1, none⟩ = some (.int .i64 (-1))
theorem EnvF.below {w w' : World} (h : EnvF w) (hb : Below w.heap.size w w') : EnvF w' := ⟨kept hb h.1, kept hb h.2⟩
end Go.Proofs.YtodbbfgkclkpgaaGreatDoor

namespace Go.Proofs.YtodbbfgkclkpgaaGreatDoor
open Go Go.RowKit

/-- the result's box b, and the empty package's, b + 1 -/
def NilBoxes (b : Nat) (W : World) : Prop := PkBlk W b zeros ∧ PkBlk W (b + 1) zeros
theorem NilBoxes.keep {b : Nat} {W W' : World} (h : NilBoxes b W) (hb : Below W.heap.size W W') : NilBoxes b W' := ⟨h.1.keep hb, h.2.keep hb⟩

end Go.Proofs.YtodbbfgkclkpgaaGreatDoor

namespace Go.Proofs.YtodbbfgkclkpgaaGreatDoor
open Go Go.RowKit

theorem arcRead_calls (s : ByteArray) (w : World) (hE : Env w) (hS : EnvS w) (hA : EnvA w) (hs : s.size ≤ 6000) : Calls Tryz.prog 47 #[.string s] w (ArcRIs s w) := by
  by_cases h : 4000 < s.size
  · exact arcRead_big s w h hs
  · exact arcRead_small s w hE hS hA h
end Go.Proofs.YtodbbfgkclkpgaaGreatDoor

namespace Go.Proofs.YtodbbfgkclkpgaaGreatDoor
open Go Go.RowKit

theorem pieces_back : ∀ (l a : List UInt8) (r : List (List UInt8)), VP.pieces 10 l = a :: r → l = a ++ VP.linesOf r
  | [], a, r, h => by
    simp only [VP.pieces, List.cons.injEq] at h
    obtain ⟨rfl, rfl⟩ := h
    rfl
  | c :: l, a, r, h => by
    rcases hp : VP.pieces 10 l with _ | ⟨b, s⟩
    · exact absurd hp (VP.pieces_ne _ _)
    · have ih := pieces_back l b s hp
      by_cases hc : c = 10
      · subst hc
        rw [pieces_feed, hp] at h
        injection h with h1 h2
        subst h1 h2
        show 10 :: l = 10 :: (b ++ VP.linesOf s)
        rw [← ih]
      · have : VP.pieces 10 (c :: l) = (c :: b) :: s := by simp [VP.pieces, hp, hc]
        rw [this] at h
        injection h with h1 h2
        subst h1 h2
        rw [List.cons_append, ← ih]
def contL (s : List UInt8) : List UInt8 := 32 :: (if s.head? = some 46 then 46 :: s else s)
def headL (n a : List UInt8) : List UInt8 := n ++ 58 :: (if a = [] then [] else 32 :: a)
/-- the lines that a field is written as -/
def fieldLines (f : Fv) : List (List UInt8) := match VP.pieces 10 f.v.data.toList with
  | [] => []
  | a :: r => headL f.n.data.toList a :: r.map contL
def endL (x : List UInt8) : List UInt8 := x ++ [10]
theorem fieldL_lines (f : Fv) : VP.fieldL f.fd = (fieldLines f).flatMap endL := by
  unfold VP.fieldL fieldLines Fv.fd
  dsimp only
  rcases hp : VP.pieces 10 f.v.data.toList with _ | ⟨a, r⟩
  · exact absurd hp (VP.pieces_ne _ _)
  · dsimp only
    rw [List.flatMap_cons, List.flatMap_map]
    have e : r.flatMap VP.restL = r.flatMap (fun s => endL (contL s)) := by
      refine congrArg (fun g => r.flatMap g) (funext fun s => ?_)
      unfold VP.restL contL endL
      simp
    show f.n.data.toList ++ 58 :: (VP.firstL2 a ++ r.flatMap VP.restL) = _
    rw [e]
    unfold VP.firstL2 headL endL
    split <;> simp
theorem textL_lines (fs : List Fv) : VP.textL (fs.map Fv.fd) = (fs.flatMap fieldLines).flatMap endL := by
  unfold VP.textL
  rw [List.flatMap_map, List.flatMap_assoc]
  refine congrArg (fun g => fs.flatMap g) (funext fun f => ?_)
  exact fieldL_lines f
theorem ends_lines : ∀ (x : List UInt8) (xs : List (List UInt8)), (x :: xs).flatMap endL = x ++ VP.linesOf xs ++ [10]
  | x, [] => by simp [endL, VP.linesOf]
  | x, y :: ys => by
    rw [List.flatMap_cons, ends_lines y ys]
    simp [endL, VP.linesOf]

/-! each line, read -/
theorem bline (l : List UInt8) : (⟨l.toArray⟩ : ByteArray).data.toList = l := rfl
theorem fline_trim {s : List UInt8} (h : VP.flineP s = true) : VP.cutBoth VP.bl s = s := by
  unfold VP.flineP at h
  rw [Bool.and_eq_true, decide_eq_true_eq] at h
  exact h.2
theorem fline_ok {s : List UInt8} (h : VP.flineP s = true) : s.all VP.okL = true := by
  unfold VP.flineP at h
  rw [Bool.and_eq_true] at h
  exact h.1
theorem trim_head {s : List UInt8} (h : VP.cutBoth VP.bl s = s) : ∀ c, s.head? = some c → VP.bl c = false := fun c hc => cut_head (l := s) (by rw [h]; exact hc)
theorem trim_last {s : List UInt8} (h : VP.cutBoth VP.bl s = s) : ∀ c, s.getLast? = some c → VP.bl c = false := fun c hc => cut_last (l := s) (by rw [h]; exact hc)
/-- a blank ahead is trimmed -/
theorem cut_pad {s : List UInt8} (h : VP.cutBoth VP.bl s = s) : VP.cutBoth VP.bl (32 :: s) = s := by
  cases s with
  | nil => decide
  | cons a s =>
    have h1 : VP.rtrim VP.bl (32 :: a :: s) = 32 :: a :: s := rtrim_id (fun c hc => by
      rw [List.getLast?_cons_of_ne_nil (by simp)] at hc
      exact trim_last h c hc)
    show (VP.rtrim VP.bl (32 :: a :: s)).dropWhile VP.bl = a :: s
    rw [h1, List.dropWhile_cons_of_pos (by decide)]
    exact VP.dropWhile_id (trim_head h)
theorem fname_parts {n : List UInt8} (h : VP.fnameP n = true) : n.all VP.okN = true ∧ n ≠ [] ∧ n.length ≤ 24 ∧ n.head? ≠ some 35 := by
  unfold VP.fnameP at h
  simp only [Bool.and_eq_true, decide_eq_true_eq, Bool.not_eq_true', beq_eq_false_iff_ne] at h
  obtain ⟨⟨⟨⟨h1, h2⟩, h3⟩, h4⟩, _⟩ := h
  exact ⟨h1, by intro e; rw [e] at h2; simp at h2, h3, h4⟩
theorem okN_no {c : UInt8} (h : VP.okN c = true) : c ≠ 58 ∧ VP.bl c = false ∧ c ≠ 10 := by
  refine ⟨?_, ?_, ?_⟩
  · rintro rfl; revert h; decide
  · cases hb : VP.bl c with
    | false => rfl
    | true =>
      unfold VP.bl at hb
      rw [Bool.or_eq_true, beq_iff_eq, beq_iff_eq] at hb
      rcases hb with rfl | rfl <;> (revert h; decide)
  · rintro rfl; revert h; decide
theorem okL_no {c : UInt8} (h : VP.okL c = true) : c ≠ 10 := by rintro rfl; revert h; decide
theorem head_line {n a : List UInt8} (hn : VP.fnameP n = true) (ha : VP.flineP a = true) (st : PSt) (h40 : st.2.length < 40) (hno : st.2.any (fun g => sameN g.n ⟨n.toArray⟩) = false) :
    pstep st ⟨(headL n a).toArray⟩ = some (st.1, st.2 ++ [⟨⟨n.toArray⟩, ⟨a.toArray⟩⟩]) := by
  obtain ⟨h1, h2, h3, h4⟩ := fname_parts hn
  obtain ⟨c, m, rfl⟩ : ∃ c m, n = c :: m := by
    cases n with
    | nil => exact absurd rfl h2
    | cons c m => exact ⟨c, m, rfl⟩
  have hc : VP.okN c = true := by rw [List.all_cons, Bool.and_eq_true] at h1; exact h1.1
  have k1 : headIs (fun c => c == 35) ⟨(headL (c :: m) a).toArray⟩ = false := by
    show ((some c).map (fun c => c == 35)).getD false = false
    show (c == 35) = false
    rw [beq_eq_false_iff_ne]
    exact fun e => h4 (by rw [e]; rfl)
  have k3 : headIs VP.bl ⟨(headL (c :: m) a).toArray⟩ = false := (okN_no hc).2.1
  have k2 : VP.cutBoth VP.bl (⟨(headL (c :: m) a).toArray⟩ : ByteArray).data.toList ≠ [] := by
    obtain ⟨rest, hrest⟩ : ∃ rest, headL (c :: m) a = c :: rest := ⟨_, rfl⟩
    rw [bline, hrest]
    intro e
    have e' : (VP.rtrim VP.bl (c :: rest)).dropWhile VP.bl = [] := e
    rw [VP.rtrim_cons, if_neg (by rw [(okN_no hc).2.1]; simp), List.dropWhile_cons_of_neg (by rw [(okN_no hc).2.1]; simp)] at e'
    cases e'
  have k4 : fieldOf ⟨(headL (c :: m) a).toArray⟩ = some ⟨⟨(c :: m).toArray⟩, ⟨a.toArray⟩⟩ := by
    unfold fieldOf
    have h58 : (58 : UInt8) ∉ c :: m := fun hm => (okN_no (List.all_eq_true.1 h1 58 hm)).1 rfl
    rw [bline, show headL (c :: m) a = (c :: m) ++ 58 :: (if a = [] then [] else 32 :: a) from rfl, VP.cutAt_mid 58 _ _ h58]
    dsimp only
    have ht : VP.cutBoth VP.bl (if a = [] then [] else 32 :: a) = a := by
      split
      · rename_i e; rw [e]; rfl
      · exact cut_pad (fline_trim ha)
    rw [ht, hn, ha]
    rfl
  rw [pstep_field k1 k2 k3, k4]
  dsimp only
  rw [hno, decide_eq_false (by omega)]
  rfl
theorem cont_line {s : List UInt8} (hs : VP.flineP s = true) (hne : s ≠ []) (st : PSt) (hst : st.2 ≠ []) :
    pstep st ⟨(contL s).toArray⟩ = some (st.1, addLast st.2 ⟨s.toArray⟩) := by
  obtain ⟨t, ht⟩ : ∃ t, (if s.head? = some 46 then 46 :: s else s) = t := ⟨_, rfl⟩
  have hc : contL s = 32 :: t := by unfold contL; rw [ht]
  have htr := fline_trim hs
  have htt : VP.cutBoth VP.bl t = t := by
    rw [← ht]
    split
    · exact cut_id (fun c hc => by rw [← Option.some.inj hc]; decide) (fun c hc => trim_last htr c (by rwa [List.getLast?_cons_of_ne_nil hne] at hc))
    · exact htr
  have hok : t.all VP.okL = true := by
    rw [← ht]
    split
    · rw [List.all_cons, fline_ok hs]; decide
    · exact fline_ok hs
  have hft : VP.flineP t = true := by unfold VP.flineP; rw [hok, htt, decide_eq_true rfl]; rfl
  have htn : t ≠ [] := by
    rw [← ht]
    split
    · simp
    · exact hne
  have hcut : VP.cutBoth VP.bl (contL s) = t := by rw [hc]; exact cut_pad htt
  have k1 : headIs (fun c => c == 35) ⟨(contL s).toArray⟩ = false := by rw [hc]; rfl
  have k3 : headIs VP.bl ⟨(contL s).toArray⟩ = true := by rw [hc]; rfl
  rw [pstep_cont k1 (by rw [bline, hcut]; exact htn) k3, if_neg hst]
  have hb : trimB ⟨(contL s).toArray⟩ = ⟨t.toArray⟩ := by unfold trimB; rw [bline, hcut]
  rw [hb]
  have hcont : contOf ⟨t.toArray⟩ = some ⟨s.toArray⟩ := by
    unfold contOf
    rw [bline, hft, if_pos rfl]
    by_cases h46 : s.head? = some 46
    · rw [if_pos h46] at ht
      rw [← ht, List.head?_cons, if_pos rfl, List.tail_cons, if_pos h46]
    · rw [if_neg h46] at ht
      rw [← ht, if_neg h46]
  rw [hcont]
  rfl
def bls (ls : List (List UInt8)) : List ByteArray := ls.map fun l => ⟨l.toArray⟩
theorem pfold_ok {n : Nat} {xs ys : List ByteArray} {st st' : PSt} (h : pfold n xs st = .ok st') : pfold n (xs ++ ys) st = pfold (n + xs.length) ys st' := by
  rw [pfold_append, h]
theorem conts_fold (L : List (List Fv)) (cur : List Fv) (n : ByteArray) : ∀ (r : List (List UInt8)) (k : Nat) (v : List UInt8), (∀ s ∈ r, VP.flineP s = true ∧ s ≠ []) →
    pfold k (bls (r.map contL)) (L, cur ++ [⟨n, ⟨v.toArray⟩⟩]) = .ok (L, cur ++ [⟨n, ⟨(v ++ VP.linesOf r).toArray⟩⟩])
  | [], k, v, _ => by simp [bls, VP.linesOf, pfold]
  | s :: r, k, v, h => by
    have h0 := h s (List.mem_cons_self)
    have hstep := cont_line h0.1 h0.2 (L, cur ++ [⟨n, ⟨v.toArray⟩⟩]) (by simp)
    have hadd : addLast (cur ++ [⟨n, ⟨v.toArray⟩⟩]) ⟨s.toArray⟩ = cur ++ [⟨n, ⟨(v ++ 10 :: s).toArray⟩⟩] := by
      unfold addLast
      rw [List.getLast?_concat]
      dsimp only
      rw [List.dropLast_concat]
    show (match pstep (L, cur ++ [⟨n, ⟨v.toArray⟩⟩]) ⟨(contL s).toArray⟩ with | none => Except.error k | some st' => pfold (k + 1) (bls (r.map contL)) st') = _
    rw [hstep]
    dsimp only
    rw [hadd, conts_fold L cur n r (k + 1) (v ++ 10 :: s) (fun x hx => h x (List.mem_cons_of_mem _ hx))]
    have : v ++ 10 :: s ++ VP.linesOf r = v ++ VP.linesOf (s :: r) := by simp [VP.linesOf]
    rw [this]
/-- a field, read -/
theorem field_fold {f : Fv} (hn : VP.fnameP f.n.data.toList = true) (hv : VP.valueP f.v.data.toList = true) (k : Nat) (L : List (List Fv)) (cur : List Fv) (h40 : cur.length < 40) (hno : cur.any (fun g => sameN g.n f.n) = false) :
    pfold k (bls (fieldLines f)) (L, cur) = .ok (L, cur ++ [f]) := by
  unfold VP.valueP at hv
  unfold fieldLines
  rcases hp : VP.pieces 10 f.v.data.toList with _ | ⟨a, r⟩
  · exact absurd hp (VP.pieces_ne _ _)
  · rw [hp] at hv
    dsimp only at hv ⊢
    rw [Bool.and_eq_true, List.all_eq_true] at hv
    have hstep := head_line hn hv.1 (L, cur) h40 (by rw [mk_data]; exact hno)
    show (match pstep (L, cur) ⟨(headL f.n.data.toList a).toArray⟩ with | none => Except.error k | some st' => pfold (k + 1) (bls (r.map contL)) st') = _
    rw [hstep]
    dsimp only
    rw [conts_fold L cur _ r (k + 1) a (fun s hs => by
      have := hv.2 s hs
      rw [Bool.and_eq_true, Bool.not_eq_true', List.isEmpty_eq_false_iff] at this
      exact this), ← pieces_back _ _ _ hp, mk_data, mk_data]
theorem fields_fold (L : List (List Fv)) : ∀ (fs cur : List Fv) (k : Nat), cur.length + fs.length ≤ 40 → (∀ i f, fs[i]? = some f → VP.fnameP f.n.data.toList = true ∧ VP.valueP f.v.data.toList = true ∧ (cur ++ fs.take i).any (fun g => sameN g.n f.n) = false) →
    pfold k (bls (fs.flatMap fieldLines)) (L, cur) = .ok (L, cur ++ fs)
  | [], cur, k, _, _ => by simp [bls, pfold]
  | f :: fs, cur, k, hl, h => by
    obtain ⟨h1, h2, h3⟩ := h 0 f rfl
    have h0 := field_fold h1 h2 k L cur (by simp at hl; omega) (by simpa using h3)
    have e : bls ((f :: fs).flatMap fieldLines) = bls (fieldLines f) ++ bls (fs.flatMap fieldLines) := by unfold bls; rw [List.flatMap_cons, List.map_append]
    rw [e, pfold_ok h0, fields_fold L fs (cur ++ [f]) _ (by simp at hl ⊢; omega) (fun i g hg => by
      obtain ⟨g1, g2, g3⟩ := h (i + 1) g hg
      refine ⟨g1, g2, ?_⟩
      rw [List.take_succ_cons] at g3
      simpa using g3)]
    simp
end Go.Proofs.YtodbbfgkclkpgaaGreatDoor

/- RecordBack, plain: what a package says, as fields, read again; other fields besides. · keep.flat, keep.terms: is what is asked for short enough to be held. -/
import Derived.Test.YtodbbfgkclkpgaaGreatDoorABK29
import Derived.Test.YtodbbfgkclkpgaaGreatDoorABK7
import Derived.Test.YtodbbfgkclkpgaaGreatDoorABK6
import Derived.Deep.QuietTactic
import Derived.BigQuiet
import Derived.Deep.RegionHeld3
namespace Go.Proofs.YtodbbfgkclkpgaaGreatDoor
open Go Go.RowKit

def optV (v : ByteArray) : Option ByteArray := if v.size = 0 then none else some v
theorem getB_append (a b : List Fv) (s : ByteArray) : getB (a ++ b) s = (getB a s).or (getB b s) := by
  unfold getB
  rw [List.find?_append]
  cases a.find? fun f => sameN f.n s <;> rfl
theorem getB_optY {n s : ByteArray} (h : sameN n s = true) (v : ByteArray) : getB (optF n v) s = optV v := by
  unfold getB optF optV
  by_cases hv : v.size = 0
  · rw [if_pos hv, if_pos hv]; rfl
  · rw [if_neg hv, if_neg hv]; simp [h]
theorem getB_optN {n s : ByteArray} (h : sameN n s = false) (v : ByteArray) : getB (optF n v) s = none := by
  unfold getB optF
  by_cases hv : v.size = 0
  · rw [if_pos hv]; rfl
  · rw [if_neg hv]; simp [h]
theorem getB_two0 {a b s : ByteArray} (h : sameN a s = true) (v u : ByteArray) : getB [⟨a, v⟩, ⟨b, u⟩] s = some v := by
  unfold getB
  simp [h]
theorem getB_two1 {a b s : ByteArray} (h : sameN a s = false) (h1 : sameN b s = true) (v u : ByteArray) : getB [⟨a, v⟩, ⟨b, u⟩] s = some u := by
  unfold getB
  simp [h, h1]
theorem getB_two2 {a b s : ByteArray} (h : sameN a s = false) (h1 : sameN b s = false) (v u : ByteArray) : getB [⟨a, v⟩, ⟨b, u⟩] s = none := by
  unfold getB
  simp [h, h1]
/-- fields of none of the ten names -/
structure NoneOf (m : List Fv) : Prop where
  hPackage : getB m nPackage = none
  hVersion : getB m nVersion = none
  hDepends : getB m nDepends = none
  hPre : getB m nPre = none
  hConflicts : getB m nConflicts = none
  hBreaks : getB m nBreaks = none
  hReplaces : getB m nReplaces = none
  hProvides : getB m nProvides = none
  hConffiles : getB m nConffiles = none
  hTriggers : getB m nTriggers = none
theorem noneOf_nil : NoneOf [] := ⟨rfl, rfl, rfl, rfl, rfl, rfl, rfl, rfl, rfl, rfl⟩
theorem fldB_Package (p : Pv) {m : List Fv} (h : NoneOf m) : getB (fldB p ++ m) nPackage = some p.n := by
  unfold fldB fld7 fld6 fld5 fld4 fld3 fld2 fld1 fld0
  rw [getB_append, getB_append, getB_append, getB_append, getB_append, getB_append, getB_append, getB_append, getB_append, h.hPackage]
  rw [getB_two0 (show sameN nPackage nPackage = true by decide), getB_optN (show sameN nDepends nPackage = false by decide), getB_optN (show sameN nPre nPackage = false by decide), getB_optN (show sameN nConflicts nPackage = false by decide), getB_optN (show sameN nBreaks nPackage = false by decide), getB_optN (show sameN nReplaces nPackage = false by decide), getB_optN (show sameN nProvides nPackage = false by decide), getB_optN (show sameN nConffiles nPackage = false by decide), getB_optN (show sameN nTriggers nPackage = false by decide)]
  first | rfl | (unfold optV; split <;> rfl)
theorem fldB_Version (p : Pv) {m : List Fv} (h : NoneOf m) : getB (fldB p ++ m) nVersion = some (versS p) := by
  unfold fldB fld7 fld6 fld5 fld4 fld3 fld2 fld1 fld0
  rw [getB_append, getB_append, getB_append, getB_append, getB_append, getB_append, getB_append, getB_append, getB_append, h.hVersion]
  rw [getB_two1 (show sameN nPackage nVersion = false by decide) (show sameN nVersion nVersion = true by decide), getB_optN (show sameN nDepends nVersion = false by decide), getB_optN (show sameN nPre nVersion = false by decide), getB_optN (show sameN nConflicts nVersion = false by decide), getB_optN (show sameN nBreaks nVersion = false by decide), getB_optN (show sameN nReplaces nVersion = false by decide), getB_optN (show sameN nProvides nVersion = false by decide), getB_optN (show sameN nConffiles nVersion = false by decide), getB_optN (show sameN nTriggers nVersion = false by decide)]
  first | rfl | (unfold optV; split <;> rfl)
theorem fldB_Depends (p : Pv) {m : List Fv} (h : NoneOf m) : getB (fldB p ++ m) nDepends = optV (wholeS p.dep) := by
  unfold fldB fld7 fld6 fld5 fld4 fld3 fld2 fld1 fld0
  rw [getB_append, getB_append, getB_append, getB_append, getB_append, getB_append, getB_append, getB_append, getB_append, h.hDepends]
  rw [getB_two2 (show sameN nPackage nDepends = false by decide) (show sameN nVersion nDepends = false by decide), getB_optY (show sameN nDepends nDepends = true by decide), getB_optN (show sameN nPre nDepends = false by decide), getB_optN (show sameN nConflicts nDepends = false by decide), getB_optN (show sameN nBreaks nDepends = false by decide), getB_optN (show sameN nReplaces nDepends = false by decide), getB_optN (show sameN nProvides nDepends = false by decide), getB_optN (show sameN nConffiles nDepends = false by decide), getB_optN (show sameN nTriggers nDepends = false by decide)]
  first | rfl | (unfold optV; split <;> rfl)
theorem fldB_Pre (p : Pv) {m : List Fv} (h : NoneOf m) : getB (fldB p ++ m) nPre = optV (wholeS p.ahead) := by
  unfold fldB fld7 fld6 fld5 fld4 fld3 fld2 fld1 fld0
  rw [getB_append, getB_append, getB_append, getB_append, getB_append, getB_append, getB_append, getB_append, getB_append, h.hPre]
  rw [getB_two2 (show sameN nPackage nPre = false by decide) (show sameN nVersion nPre = false by decide), getB_optN (show sameN nDepends nPre = false by decide), getB_optY (show sameN nPre nPre = true by decide), getB_optN (show sameN nConflicts nPre = false by decide), getB_optN (show sameN nBreaks nPre = false by decide), getB_optN (show sameN nReplaces nPre = false by decide), getB_optN (show sameN nProvides nPre = false by decide), getB_optN (show sameN nConffiles nPre = false by decide), getB_optN (show sameN nTriggers nPre = false by decide)]
  first | rfl | (unfold optV; split <;> rfl)
theorem fldB_Conflicts (p : Pv) {m : List Fv} (h : NoneOf m) : getB (fldB p ++ m) nConflicts = optV (singS p.ag) := by
  unfold fldB fld7 fld6 fld5 fld4 fld3 fld2 fld1 fld0
  rw [getB_append, getB_append, getB_append, getB_append, getB_append, getB_append, getB_append, getB_append, getB_append, h.hConflicts]
  rw [getB_two2 (show sameN nPackage nConflicts = false by decide) (show sameN nVersion nConflicts = false by decide), getB_optN (show sameN nDepends nConflicts = false by decide), getB_optN (show sameN nPre nConflicts = false by decide), getB_optY (show sameN nConflicts nConflicts = true by decide), getB_optN (show sameN nBreaks nConflicts = false by decide), getB_optN (show sameN nReplaces nConflicts = false by decide), getB_optN (show sameN nProvides nConflicts = false by decide), getB_optN (show sameN nConffiles nConflicts = false by decide), getB_optN (show sameN nTriggers nConflicts = false by decide)]
  first | rfl | (unfold optV; split <;> rfl)
theorem fldB_Breaks (p : Pv) {m : List Fv} (h : NoneOf m) : getB (fldB p ++ m) nBreaks = optV (singS p.br) := by
  unfold fldB fld7 fld6 fld5 fld4 fld3 fld2 fld1 fld0
  rw [getB_append, getB_append, getB_append, getB_append, getB_append, getB_append, getB_append, getB_append, getB_append, h.hBreaks]
  rw [getB_two2 (show sameN nPackage nBreaks = false by decide) (show sameN nVersion nBreaks = false by decide), getB_optN (show sameN nDepends nBreaks = false by decide), getB_optN (show sameN nPre nBreaks = false by decide), getB_optN (show sameN nConflicts nBreaks = false by decide), getB_optY (show sameN nBreaks nBreaks = true by decide), getB_optN (show sameN nReplaces nBreaks = false by decide), getB_optN (show sameN nProvides nBreaks = false by decide), getB_optN (show sameN nConffiles nBreaks = false by decide), getB_optN (show sameN nTriggers nBreaks = false by decide)]
  first | rfl | (unfold optV; split <;> rfl)
theorem fldB_Replaces (p : Pv) {m : List Fv} (h : NoneOf m) : getB (fldB p ++ m) nReplaces = optV (singS p.re) := by
  unfold fldB fld7 fld6 fld5 fld4 fld3 fld2 fld1 fld0
  rw [getB_append, getB_append, getB_append, getB_append, getB_append, getB_append, getB_append, getB_append, getB_append, h.hReplaces]
  rw [getB_two2 (show sameN nPackage nReplaces = false by decide) (show sameN nVersion nReplaces = false by decide), getB_optN (show sameN nDepends nReplaces = false by decide), getB_optN (show sameN nPre nReplaces = false by decide), getB_optN (show sameN nConflicts nReplaces = false by decide), getB_optN (show sameN nBreaks nReplaces = false by decide), getB_optY (show sameN nReplaces nReplaces = true by decide), getB_optN (show sameN nProvides nReplaces = false by decide), getB_optN (show sameN nConffiles nReplaces = false by decide), getB_optN (show sameN nTriggers nReplaces = false by decide)]
  first | rfl | (unfold optV; split <;> rfl)
theorem fldB_Provides (p : Pv) {m : List Fv} (h : NoneOf m) : getB (fldB p ++ m) nProvides = optV (singS p.pr) := by
  unfold fldB fld7 fld6 fld5 fld4 fld3 fld2 fld1 fld0
  rw [getB_append, getB_append, getB_append, getB_append, getB_append, getB_append, getB_append, getB_append, getB_append, h.hProvides]
  rw [getB_two2 (show sameN nPackage nProvides = false by decide) (show sameN nVersion nProvides = false by decide), getB_optN (show sameN nDepends nProvides = false by decide), getB_optN (show sameN nPre nProvides = false by decide), getB_optN (show sameN nConflicts nProvides = false by decide), getB_optN (show sameN nBreaks nProvides = false by decide), getB_optN (show sameN nReplaces nProvides = false by decide), getB_optY (show sameN nProvides nProvides = true by decide), getB_optN (show sameN nConffiles nProvides = false by decide), getB_optN (show sameN nTriggers nProvides = false by decide)]
  first | rfl | (unfold optV; split <;> rfl)
theorem fldB_Conffiles (p : Pv) {m : List Fv} (h : NoneOf m) : getB (fldB p ++ m) nConffiles = optV (linesS p.se) := by
  unfold fldB fld7 fld6 fld5 fld4 fld3 fld2 fld1 fld0
  rw [getB_append, getB_append, getB_append, getB_append, getB_append, getB_append, getB_append, getB_append, getB_append, h.hConffiles]
  rw [getB_two2 (show sameN nPackage nConffiles = false by decide) (show sameN nVersion nConffiles = false by decide), getB_optN (show sameN nDepends nConffiles = false by decide), getB_optN (show sameN nPre nConffiles = false by decide), getB_optN (show sameN nConflicts nConffiles = false by decide), getB_optN (show sameN nBreaks nConffiles = false by decide), getB_optN (show sameN nReplaces nConffiles = false by decide), getB_optN (show sameN nProvides nConffiles = false by decide), getB_optY (show sameN nConffiles nConffiles = true by decide), getB_optN (show sameN nTriggers nConffiles = false by decide)]
  first | rfl | (unfold optV; split <;> rfl)
theorem fldB_Triggers (p : Pv) {m : List Fv} (h : NoneOf m) : getB (fldB p ++ m) nTriggers = optV (linesS p.li) := by
  unfold fldB fld7 fld6 fld5 fld4 fld3 fld2 fld1 fld0
  rw [getB_append, getB_append, getB_append, getB_append, getB_append, getB_append, getB_append, getB_append, getB_append, h.hTriggers]
  rw [getB_two2 (show sameN nPackage nTriggers = false by decide) (show sameN nVersion nTriggers = false by decide), getB_optN (show sameN nDepends nTriggers = false by decide), getB_optN (show sameN nPre nTriggers = false by decide), getB_optN (show sameN nConflicts nTriggers = false by decide), getB_optN (show sameN nBreaks nTriggers = false by decide), getB_optN (show sameN nReplaces nTriggers = false by decide), getB_optN (show sameN nProvides nTriggers = false by decide), getB_optN (show sameN nConffiles nTriggers = false by decide), getB_optY (show sameN nTriggers nTriggers = true by decide)]
  first | rfl | (unfold optV; split <;> rfl)
theorem optV_get (v : ByteArray) : (optV v).getD ⟨#[]⟩ = v := by
  unfold optV
  by_cases hv : v.size = 0
  · rw [if_pos hv, eq_empty v hv]; rfl
  · rw [if_neg hv]; rfl
theorem readT_whole {L : List (List Tv)} (h : VP.askedP (tmL L) = true) : readT (wholeS L) = .ok L := readT_ok (show VP.termsP (wholeS L).data.toList = .ok (tmL L) from VP.termsP_print ((VP.askedP_iff _).1 h))
theorem tmL_sing (ts : List Tv) : tmL (ts.map fun t => [t]) = (ts.map Tv.tm).map fun t => [t] := by
  unfold tmL
  rw [List.map_map, List.map_map]
  exact List.map_congr_left fun t _ => rfl
theorem flatten_sing {α : Type} (l : List α) : (l.map fun t => [t]).flatten = l := by
  induction l with
  | nil => rfl
  | cons a l ih => rw [List.map_cons, List.flatten_cons, ih]; rfl
theorem readS_sing {ts : List Tv} (h : VP.flatP (ts.map Tv.tm) = true) : readS (singS ts) = .ok ts := by
  have h1 : VP.askedP (tmL (ts.map fun t => [t])) = true := by rw [tmL_sing]; exact h
  have hT : VP.termsP (singS ts).data.toList = .ok (tmL (ts.map fun t => [t])) := VP.termsP_print ((VP.askedP_iff _).1 h1)
  refine readS_ok ?_
  unfold VP.listP
  rw [hT]
  dsimp only
  rw [tmL_sing, if_pos (by rw [List.all_eq_true]; intro x hx; obtain ⟨t, _, rfl⟩ := List.mem_map.1 hx; rfl), flatten_sing]
theorem pieces_lines : ∀ (l : List (List UInt8)) (s : List UInt8), (10 : UInt8) ∉ s → (∀ x ∈ l, (10 : UInt8) ∉ x) → VP.pieces 10 (s ++ VP.linesOf l) = s :: l
  | [], s, hs, _ => by rw [show VP.linesOf [] = [] from rfl, List.append_nil]; exact VP.pieces_one 10 s hs
  | t :: l, s, hs, hl => by
    have e : VP.linesOf (t :: l) = 10 :: (t ++ VP.linesOf l) := rfl
    rw [e, VP.pieces_mid 10 s _ hs, pieces_lines l t (hl t (List.mem_cons_self)) (fun x hx => hl x (List.mem_cons_of_mem _ hx))]
theorem paths_no {ss : List ByteArray} (h : pathsB ss = true) : ∀ s ∈ ss, (10 : UInt8) ∉ s.data.toList := by
  intro s hs hc
  obtain ⟨i, hi⟩ := List.mem_iff_getElem?.1 hs
  unfold pathsB VP.pathsP at h
  rw [Bool.and_eq_true, VP.allAt_iff] at h
  have h1 := h.1 i (by rw [List.length_map]; exact (List.getElem?_eq_some_iff.1 hi).1)
  rw [pathOk_at hi, Bool.and_eq_true] at h1
  have h2 := h1.1
  unfold VP.pathP at h2
  simp only [Bool.and_eq_true] at h2
  have h3 := List.all_eq_true.1 h2.1.1.1.1 10 hc
  revert h3
  decide
theorem linesS_pos (s : ByteArray) (ss : List ByteArray) : ¬ (linesS (s :: ss)).size = 0 := by
  rw [size_eq_length]
  show ¬ (VP.linesOf ((s :: ss).map (·.data.toList))).length = 0
  simp [VP.linesOf]
theorem lines_get {fs : List Fv} {n : ByteArray} {ss : List ByteArray} (hg : getB fs n = optV (linesS ss)) (h : pathsB ss = true) : linesV fs n = ss ∧ linesOk fs n = true := by
  have hno := paths_no h
  cases ss with
  | nil =>
    rw [show optV (linesS []) = none from rfl] at hg
    unfold linesV linesOk
    rw [hg]
    exact ⟨rfl, rfl⟩
  | cons s ss =>
    have hv : optV (linesS (s :: ss)) = some (linesS (s :: ss)) := by unfold optV; rw [if_neg (linesS_pos s ss)]
    have hp : piecesB 10 (linesS (s :: ss)) = ⟨#[]⟩ :: s :: ss := by
      unfold piecesB
      have := pieces_lines ((s :: ss).map (·.data.toList)) [] (by simp) (fun x hx => by
        obtain ⟨t, ht, rfl⟩ := List.mem_map.1 hx
        exact hno t ht)
      rw [show (linesS (s :: ss)).data.toList = [] ++ VP.linesOf ((s :: ss).map (·.data.toList)) from rfl, this, List.map_cons, List.map_map]
      refine congrArg _ ?_
      conv => rhs; rw [← List.map_id (s :: ss)]
      exact List.map_congr_left fun t _ => mk_data t
    rw [hv] at hg
    unfold linesV linesOk
    rw [hg]
    dsimp only
    rw [hp]
    exact ⟨rfl, by simp⟩

/-- the package without its files -/
def noFiles (p : Pv) : Pv := { p with fi := [] }
theorem says_noFiles (p : Pv) : saysOk (noFiles p) = saysOk p := rfl
theorem read_back (p : Pv) {m : List Fv} (hm : NoneOf m) (hp : saysOk p = true) : readP (fldB p ++ m) = .ok (noFiles p) := by
  have hy := hp
  rw [says_prog] at hy
  simp only [Bool.and_eq_true] at hy
  obtain ⟨_, _, hv, hd, ha, hg, hb, hr, ho, hse, hli⟩ := hy
  have e0 := fldB_Package p hm
  have e1 := fldB_Version p hm
  obtain ⟨v8, k8⟩ := lines_get (fldB_Conffiles p hm) hse
  obtain ⟨v9, k9⟩ := lines_get (fldB_Triggers p hm) hli
  have s2 : sayF (fldB p ++ m) nDepends = wholeS p.dep := by unfold sayF; rw [fldB_Depends p hm, optV_get]
  have s3 : sayF (fldB p ++ m) nPre = wholeS p.ahead := by unfold sayF; rw [fldB_Pre p hm, optV_get]
  have s4 : sayF (fldB p ++ m) nConflicts = singS p.ag := by unfold sayF; rw [fldB_Conflicts p hm, optV_get]
  have s5 : sayF (fldB p ++ m) nBreaks = singS p.br := by unfold sayF; rw [fldB_Breaks p hm, optV_get]
  have s6 : sayF (fldB p ++ m) nReplaces = singS p.re := by unfold sayF; rw [fldB_Replaces p hm, optV_get]
  have s7 : sayF (fldB p ++ m) nProvides = singS p.pr := by unfold sayF; rw [fldB_Provides p hm, optV_get]
  have s0 : sayF (fldB p ++ m) nPackage = p.n := by unfold sayF; rw [e0]; rfl
  have s1 : sayF (fldB p ++ m) nVersion = versS p := by unfold sayF; rw [e1]; rfl
  rw [readP_six (e := p.e) (u := p.u) (r := p.r) (by rw [e0, e1]; rfl) (by rw [s1]; exact VP.parse_print hv)]
  have h6 : rdTo (fldB p ++ m) (rdP1 (fldB p ++ m) p.e p.u p.r) 6 = .ok { pack0 with n := p.n, e := p.e, u := p.u, r := p.r, dep := p.dep, ahead := p.ahead, ag := p.ag, br := p.br, re := p.re, pr := p.pr } := by
    unfold rdP1
    rw [s0]
    unfold rdTo rdTo rdTo rdTo rdTo rdTo rdTo rdK
    simp only [s2, s3, s4, s5, s6, s7, readT_whole hd, readT_whole ha, readS_sing hg, readS_sing hb, readS_sing hr, readS_sing ho, Except.map]
  rw [h6]
  dsimp only
  have he : rdEnd (fldB p ++ m) { pack0 with n := p.n, e := p.e, u := p.u, r := p.r, dep := p.dep, ahead := p.ahead, ag := p.ag, br := p.br, re := p.re, pr := p.pr } = noFiles p := by
    unfold rdEnd noFiles
    rw [v8, v9]
    rfl
  rw [he, k8, k9, says_noFiles, hp]
  rfl
end Go.Proofs.YtodbbfgkclkpgaaGreatDoor

namespace Go.Proofs.YtodbbfgkclkpgaaGreatDoor
open Go.RowKit

set_option maxHeartbeats 1000000 in
set_option maxRecDepth 100000 in
theorem keepFlat_calls (v : Value) (ts : List Tv) (w : World) (h : TermsAt w v ts) : Calls Tryz.prog 114 #[v] w (BoolIs (flatB ts) w) := by
  obtain ⟨A, c, rfl, hc, hm, hr⟩ := h
  obtain ⟨len, hlen⟩ : ∃ len, ts.length = len := ⟨_, rfl⟩
  have HL := Lib.hid hlen
  rw [hlen] at hc hm ⊢
  clear hlen
  by_cases h40 : 40 < len
  · have F := Lib.hid (show flatB ts = false by unfold flatB; rw [HL.out]; simp; omega)
    clear hr
    go_enter Tryz.func114, Tryz.ntmps114
    go_wp2
    go_ret
    exact ⟨ret_bool F.out.symm, Below.refl _ _⟩
  · have F := Lib.hid (show flatB ts = ts.all flatT by unfold flatB; rw [HL.out, decide_eq_true (by omega)]; rfl)
    have HR := Lib.hid hr
    clear hr
    go_enter Tryz.func114, Tryz.ntmps114
    go_wp2_with fail
    go_loopw [3] (fun i wr => ∃ k : Nat, k ≤ len ∧ i = .int .i64 k ∧ Hid ((ts.take k).all flatT = true) ∧ Below w.heap.size w wr) (fun i _ => len - (intOf i).toNat)
    case atStart => exact ⟨0, Nat.zero_le _, rfl, rfl, Below.refl _ _⟩
    case round =>
      obtain ⟨k, hk, rfl, hall, hB⟩ := hrel
      by_cases hlt : k < len
      · have hne : ts ≠ [] := by
          intro e
          have := HL.out
          rw [e] at this
          simp at this
          omega
        obtain ⟨t, ht⟩ : ∃ t, ts[k]? = some t := ⟨ts[k]'(by have := HL.out; omega), List.getElem?_eq_getElem _⟩
        obtain ⟨b, off, rfl, hi⟩ := HR.out hne
        obtain ⟨hT0, hok⟩ := hi k t ht
        clear hi hne
        have hT := hT0.below hB
        obtain ⟨c0, c1, c2, c3, c4⟩ := hT
        have HT := Lib.hid ht
        clear ht hT0 hok
        by_cases hn : 60 < t.n.size
        · have HF := Lib.hid (show flatT t = false by unfold flatT; rw [decide_eq_false (by omega)]; rfl)
          go_wp2_with fail
          go_ret
          exact ⟨ret_bool (by rw [F.out, all_stop HT.out HF.out]), hB⟩
        · have HF := Lib.hid (show flatT t = shortB t.u t.r by unfold flatT; rw [decide_eq_true (by omega)]; rfl)
          go_wp2_with fail
          refine (short_calls t.e t.u t.r _).mono ?_
          rintro E w1 ⟨rfl, hb⟩
          have hB := step_below hB hb
          clear hb c0 c1 c2 c3 c4
          have hs : shortB t.u t.r = true ∨ shortB t.u t.r = false := by cases shortB t.u t.r <;> simp
          rcases hs with hs | hs
          · have HS := Lib.hid hs
            rw [hs]
            clear hs
            go_wp2_with fail
            go_roundw
            case rel => exact ⟨k + 1, by omega, by go_num, Lib.hid (all_take_succ hall.out HT.out (by rw [HF.out, HS.out])), hB⟩
            case measure => simp [intOf]; omega
          · have HS := Lib.hid hs
            rw [hs]
            clear hs
            go_wp2_with fail
            go_ret
            exact ⟨ret_bool (by rw [F.out, all_stop HT.out (by rw [HF.out, HS.out])]), hB⟩
      · obtain rfl : k = len := by omega
        go_wp2_with fail
        go_ret
        exact ⟨ret_bool (by rw [F.out]; have := hall.out; rw [← HL.out] at this; exact (all_done this).symm), hB⟩

set_option maxHeartbeats 1000000 in
set_option maxRecDepth 100000 in
theorem keepTerms_calls (v : Value) (L : List (List Tv)) (w : World) (h : AskedAt w v L) : Calls Tryz.prog 113 #[v] w (BoolIs (termsB L) w) := by
  obtain ⟨A, c, rfl, hc, hm, hr⟩ := h
  obtain ⟨len, hlen⟩ : ∃ len, L.length = len := ⟨_, rfl⟩
  have HL := Lib.hid hlen
  rw [hlen] at hc hm ⊢
  clear hlen
  by_cases h40 : 40 < len
  · have F := Lib.hid (show termsB L = false by unfold termsB; rw [HL.out]; simp; omega)
    clear hr
    go_enter Tryz.func113, Tryz.ntmps113
    go_wp2
    go_ret
    exact ⟨ret_bool F.out.symm, Below.refl _ _⟩
  · have F := Lib.hid (show termsB L = L.all flatB by unfold termsB; rw [HL.out, decide_eq_true (by omega)]; rfl)
    have HR := Lib.hid hr
    clear hr
    go_enter Tryz.func113, Tryz.ntmps113
    go_wp2_with fail
    go_loopw [3] (fun i wr => ∃ k : Nat, k ≤ len ∧ i = .int .i64 k ∧ Hid ((L.take k).all flatB = true) ∧ Below w.heap.size w wr) (fun i _ => len - (intOf i).toNat)
    case atStart => exact ⟨0, Nat.zero_le _, rfl, rfl, Below.refl _ _⟩
    case round =>
      obtain ⟨k, hk, rfl, hall, hB⟩ := hrel
      by_cases hlt : k < len
      · have hne : L ≠ [] := by
          intro e
          have := HL.out
          rw [e] at this
          simp at this
          omega
        obtain ⟨x, hx⟩ : ∃ x, L[k]? = some x := ⟨L[k]'(by have := HL.out; omega), List.getElem?_eq_getElem _⟩
        obtain ⟨b, off, rfl, hi⟩ := HR.out hne
        obtain ⟨vx, hc0, hT⟩ := hi k x hx
        clear hi hne
        have hT1 := Lib.hid (hT.below hB)
        have c0 := kept hB hc0
        have HT := Lib.hid hx
        clear hx hc0 hT
        go_wp2_with fail
        refine (keepFlat_calls vx x _ hT1.out).mono ?_
        rintro E w1 ⟨rfl, hb⟩
        have hB := step_below hB hb
        clear hb c0
        have hs : flatB x = true ∨ flatB x = false := by cases flatB x <;> simp
        rcases hs with hs | hs
        · have HS := Lib.hid hs
          rw [hs]
          clear hs
          go_wp2_with fail
          go_roundw
          case rel => exact ⟨k + 1, by omega, by go_num, Lib.hid (all_take_succ hall.out HT.out HS.out), hB⟩
          case measure => simp [intOf]; omega
        · have HS := Lib.hid hs
          rw [hs]
          clear hs
          go_wp2_with fail
          go_ret
          exact ⟨ret_bool (by rw [F.out, all_stop HT.out HS.out]), hB⟩
      · obtain rfl : k = len := by omega
        go_wp2_with fail
        go_ret
        exact ⟨ret_bool (by rw [F.out]; have := hall.out; rw [← HL.out] at this; exact (all_done this).symm), hB⟩
end Go.Proofs.YtodbbfgkclkpgaaGreatDoor

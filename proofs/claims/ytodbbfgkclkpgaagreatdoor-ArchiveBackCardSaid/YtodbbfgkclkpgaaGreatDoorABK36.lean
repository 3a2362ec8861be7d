/- What a package is written as reads as that package; cut within its last file it is none: plain. · What the walks read of strconv's two errors, and of the reference's Fine, out of the row's list. · ArchiveBack's fact: a package with a file is read; text, pick. -/
import Derived.Test.YtodbbfgkclkpgaaGreatDoorABK35
import Derived.Test.YtodbbfgkclkpgaaGreatDoorABK28
import Derived.Test.YtodbbfgkclkpgaaGreatDoorABK31
import Derived.LaidLaws
namespace Go.Proofs.YtodbbfgkclkpgaaGreatDoor
open Go Go.RowKit

/-! no two line feeds together -/
def npair : List UInt8 → Prop
  | [] => True
  | [_] => True
  | c :: d :: l => ¬ (c = 10 ∧ d = 10) ∧ npair (d :: l)
theorem npair_line : ∀ (x y : List UInt8), (10 : UInt8) ∉ x → npair y → npair (x ++ y)
  | [], y, _, hy => hy
  | [c], [], _, _ => trivial
  | [c], d :: y, hx, hy => ⟨fun h => hx (by rw [h.1]; exact List.mem_cons_self), hy⟩
  | c :: d :: x, y, hx, hy => ⟨fun h => hx (by rw [h.1]; exact List.mem_cons_self), npair_line (d :: x) y (fun h => hx (List.mem_cons_of_mem _ h)) hy⟩
theorem npair_lines : ∀ (xs : List (List UInt8)), (∀ x ∈ xs, (10 : UInt8) ∉ x ∧ x ≠ []) → npair (VP.linesOf xs ++ [10])
  | [], _ => trivial
  | z :: zs, h => by
    obtain ⟨h1, h2⟩ := h z List.mem_cons_self
    have ih := npair_lines zs (fun x hx => h x (List.mem_cons_of_mem _ hx))
    have e : VP.linesOf (z :: zs) ++ [10] = 10 :: (z ++ (VP.linesOf zs ++ [10])) := by simp [VP.linesOf]
    rw [e]
    cases z with
    | nil => exact absurd rfl h2
    | cons c z =>
      exact ⟨fun hc => h1 (by rw [hc.2]; exact List.mem_cons_self), npair_line (c :: z) _ h1 ih⟩
theorem index_pair : ∀ (t u : List UInt8), npair (t ++ [10]) → Lib.index (t ++ 10 :: 10 :: u) [10, 10] = (t.length : Int)
  | [], u, _ => by
    show (if ([10, 10] : List UInt8).isPrefixOf (10 :: 10 :: u) then (0 : Int) else _) = 0
    rw [if_pos (by simp [List.isPrefixOf])]
  | c :: t, u, h => by
    have hn : npair (t ++ [10]) ∧ ¬ ([10, 10] : List UInt8).isPrefixOf (c :: (t ++ 10 :: 10 :: u)) = true := by
      cases t with
      | nil => exact ⟨trivial, by
          intro hp
          simp [List.isPrefixOf] at hp
          exact h.1 ⟨hp.symm, rfl⟩⟩
      | cons d t => exact ⟨h.2, by
          intro hp
          simp [List.isPrefixOf] at hp
          exact h.1 ⟨hp.1.symm, hp.2.symm⟩⟩
    have ih := index_pair t u hn.1
    show (if ([10, 10] : List UInt8).isPrefixOf (c :: (t ++ 10 :: 10 :: u)) then (0 : Int) else if Lib.index (t ++ 10 :: 10 :: u) [10, 10] == -1 then -1 else Lib.index (t ++ 10 :: 10 :: u) [10, 10] + 1) = _
    rw [if_neg hn.2, ih, if_neg (by rw [beq_iff_eq]; omega)]
    simp
theorem head_back (x : List UInt8) (xs : List (List UInt8)) (u : List UInt8) (h : ∀ y ∈ x :: xs, (10 : UInt8) ∉ y ∧ y ≠ []) : headP ⟨(x ++ VP.linesOf xs ++ [10] ++ 10 :: u).toArray⟩ = some (⟨(x ++ VP.linesOf xs).toArray⟩, ⟨u.toArray⟩) := by
  have hi := index_pair (x ++ VP.linesOf xs) u (by rw [List.append_assoc]; exact npair_line x _ (h x List.mem_cons_self).1 (npair_lines xs (fun y hy => h y (List.mem_cons_of_mem _ hy))))
  have e : x ++ VP.linesOf xs ++ [10] ++ 10 :: u = (x ++ VP.linesOf xs) ++ 10 :: 10 :: u := by simp
  unfold headP
  rw [bline, e]
  have hc : Lib.cut ((x ++ VP.linesOf xs) ++ 10 :: 10 :: u) [10, 10] = (x ++ VP.linesOf xs, u, true) := by
    unfold Lib.cut
    rw [if_pos (by rw [hi]; omega), hi, Int.toNat_natCast]
    have e2 : (x ++ VP.linesOf xs) ++ 10 :: 10 :: u = ((x ++ VP.linesOf xs) ++ [10, 10]) ++ u := by simp
    rw [List.take_left, e2, show (x ++ VP.linesOf xs).length + ([10, 10] : List UInt8).length = ((x ++ VP.linesOf xs) ++ [10, 10]).length from (List.length_append ..).symm, List.drop_left]
  rw [hc]
  rfl
/-! the stanza -/
theorem line_facts {f : Fv} (hn : VP.fnameP f.n.data.toList = true) (hv : VP.valueP f.v.data.toList = true) : fieldLines f ≠ [] ∧ ∀ y ∈ fieldLines f, (10 : UInt8) ∉ y ∧ y ≠ [] := by
  unfold VP.valueP at hv
  unfold fieldLines
  rcases hp : VP.pieces 10 f.v.data.toList with _ | ⟨a, r⟩
  · exact absurd hp (VP.pieces_ne _ _)
  · rw [hp] at hv
    dsimp only at hv ⊢
    rw [Bool.and_eq_true, List.all_eq_true] at hv
    have ha := fline_ok hv.1
    obtain ⟨h1, h2, _, _⟩ := fname_parts hn
    refine ⟨by simp, fun y hy => ?_⟩
    rcases List.mem_cons.1 hy with rfl | hy
    · refine ⟨fun hm => ?_, by unfold headL; simp⟩
      unfold headL at hm
      rcases List.mem_append.1 hm with hm | hm
      · exact (okN_no (List.all_eq_true.1 h1 10 hm)).2.2 rfl
      · rcases List.mem_cons.1 hm with hm | hm
        · revert hm; decide
        · split at hm
          · cases hm
          · rcases List.mem_cons.1 hm with hm | hm
            · revert hm; decide
            · exact okL_no (List.all_eq_true.1 ha 10 hm) rfl
    · obtain ⟨s, hs, rfl⟩ := List.mem_map.1 hy
      have h3 := hv.2 s hs
      rw [Bool.and_eq_true] at h3
      have h4 := fline_ok h3.1
      refine ⟨fun hm => ?_, by unfold contL; simp⟩
      unfold contL at hm
      rcases List.mem_cons.1 hm with hm | hm
      · revert hm; decide
      · split at hm
        · rcases List.mem_cons.1 hm with hm | hm
          · revert hm; decide
          · exact okL_no (List.all_eq_true.1 h4 10 hm) rfl
        · exact okL_no (List.all_eq_true.1 h4 10 hm) rfl
theorem stanza_facts {fs : List Fv} (h : stanzaB fs = true) : 1 ≤ fs.length ∧ fs.length ≤ 40 ∧ ∀ i f, fs[i]? = some f → VP.fnameP f.n.data.toList = true ∧ VP.valueP f.v.data.toList = true ∧ (fs.take i).any (fun g => sameN g.n f.n) = false := by
  unfold stanzaB VP.stanzaP at h
  simp only [Bool.and_eq_true, decide_eq_true_eq, List.length_map] at h
  obtain ⟨⟨⟨h1, h2⟩, h3⟩, _⟩ := h
  refine ⟨h1, h2, fun i f hf => ?_⟩
  have h4 := VP.allAt_iff.1 h3 i (List.getElem?_eq_some_iff.1 hf).1
  rw [fieldOk_at hf] at h4
  simp only [Bool.and_eq_true, Bool.not_eq_true'] at h4
  exact ⟨h4.1.1, h4.2, h4.1.2⟩
/-- the lines of a stanza -/
theorem stanza_lines {fs : List Fv} (h : stanzaB fs = true) : ∃ x xs, fs.flatMap fieldLines = x :: xs ∧ (∀ y ∈ x :: xs, (10 : UInt8) ∉ y ∧ y ≠ []) ∧ VP.textL (fs.map Fv.fd) = x ++ VP.linesOf xs ++ [10] ∧ parseS ⟨(x ++ VP.linesOf xs).toArray⟩ = .ok [fs] := by
  obtain ⟨h1, h2, h3⟩ := stanza_facts h
  have hall : ∀ y ∈ fs.flatMap fieldLines, (10 : UInt8) ∉ y ∧ y ≠ [] := fun y hy => by
    obtain ⟨f, hf, hy⟩ := List.mem_flatMap.1 hy
    obtain ⟨i, hi⟩ := List.mem_iff_getElem?.1 hf
    obtain ⟨k1, k2, _⟩ := h3 i f hi
    exact (line_facts k1 k2).2 y hy
  have hne : fs.flatMap fieldLines ≠ [] := by
    cases fs with
    | nil => simp at h1
    | cons f fs =>
      obtain ⟨k1, k2, _⟩ := h3 0 f rfl
      have := (line_facts k1 k2).1
      simp [this]
  cases hl : fs.flatMap fieldLines with
  | nil => exact absurd hl hne
  | cons x xs =>
    rw [hl] at hall
    refine ⟨x, xs, rfl, hall, by rw [textL_lines, hl, ends_lines], ?_⟩
    have hp : piecesB 10 ⟨(x ++ VP.linesOf xs).toArray⟩ = bls (x :: xs) := by
      unfold piecesB bls
      rw [bline, pieces_lines xs x (hall x List.mem_cons_self).1 (fun y hy => (hall y (List.mem_cons_of_mem _ hy)).1)]
    have hf := fields_fold [] fs [] 0 (by simpa using h2) (fun i f hf => by
      obtain ⟨k1, k2, k3⟩ := h3 i f hf
      exact ⟨k1, k2, by simpa using k3⟩)
    rw [hl, List.nil_append] at hf
    unfold parseS
    rw [hp, hf]
    have : fs ≠ [] := by intro e; rw [e] at h1; simp at h1
    show Except.ok (flushP ([], fs)).1 = _
    rw [flush_cons this]
    rfl
/-! the files -/
theorem fileL_eq (f : Fv) : fileL f = f.n.data.toList ++ 32 :: (Lib.decDigits f.v.size ++ 10 :: (f.v.data.toList ++ [10])) := by
  unfold fileL fileS itoaS
  rw [append_data, append_data, append_data, append_data, append_data, bline, VP.itoa_dec]
  simp
theorem path_no {l : List UInt8} (h : VP.pathP l = true) : (10 : UInt8) ∉ l ∧ (32 : UInt8) ∉ l := by
  unfold VP.pathP at h
  simp only [Bool.and_eq_true] at h
  have h1 := List.all_eq_true.1 h.1.1.1.1
  exact ⟨fun hc => by have := h1 10 hc; revert this; decide, fun hc => by have := h1 32 hc; revert this; decide⟩
theorem dec_no (n : Nat) : (10 : UInt8) ∉ Lib.decDigits n := fun h => by
  have := List.all_eq_true.1 (VP.val_decDigits n).2.1 10 h
  revert this
  decide
theorem fileP_open {n d u : List UInt8} {k : Nat} (hn : VP.pathP n = true) (hk : k < 1000000) (hd : d = Lib.decDigits k) : fileP ⟨(n ++ 32 :: (d ++ 10 :: u)).toArray⟩ = if u[k]? = some 10 then some (⟨⟨n.toArray⟩, ⟨(u.take k).toArray⟩⟩, ⟨(u.drop (k + 1)).toArray⟩) else none := by
  obtain ⟨h10, h32⟩ := path_no hn
  have e : n ++ 32 :: (d ++ 10 :: u) = (n ++ 32 :: d) ++ 10 :: u := by simp
  have hno : (10 : UInt8) ∉ n ++ 32 :: d := fun h => by
    rcases List.mem_append.1 h with h | h
    · exact h10 h
    · rcases List.mem_cons.1 h with h | h
      · revert h; decide
      · rw [hd] at h; exact dec_no k h
  unfold fileP
  rw [bline, e, VP.cutAt_mid 10 _ _ hno]
  dsimp only
  rw [VP.cutAt_mid 32 n d h32]
  dsimp only
  rw [hd, VP.number_decDigits k 6 (by omega) (by omega)]
theorem fileP_back {f : Fv} (hn : VP.pathP f.n.data.toList = true) (hk : f.v.size < 1000000) (u : List UInt8) : fileP ⟨(fileL f ++ u).toArray⟩ = some (f, ⟨u.toArray⟩) := by
  have e : fileL f ++ u = f.n.data.toList ++ 32 :: (Lib.decDigits f.v.size ++ 10 :: (f.v.data.toList ++ 10 :: u)) := by rw [fileL_eq]; simp
  rw [e, fileP_open hn hk rfl]
  have hl : f.v.size = f.v.data.toList.length := size_eq_length _
  rw [if_pos (by rw [hl]; simp)]
  have e1 : (f.v.data.toList ++ 10 :: u).take f.v.size = f.v.data.toList := by rw [hl, List.take_left]
  have e2 : (f.v.data.toList ++ 10 :: u).drop (f.v.size + 1) = u := by
    rw [show f.v.data.toList ++ 10 :: u = (f.v.data.toList ++ [10]) ++ u by simp, hl, show f.v.data.toList.length + 1 = (f.v.data.toList ++ [(10 : UInt8)]).length by simp, List.drop_left]
  rw [e1, e2, mk_data, mk_data]
theorem mk_size (l : List UInt8) : (⟨l.toArray⟩ : ByteArray).size = l.length := by rw [size_eq_length]
theorem fileL_pos (f : Fv) (u : List UInt8) : ¬ (⟨(fileL f ++ u).toArray⟩ : ByteArray).size = 0 := by
  rw [mk_size, fileL_eq]
  simp
theorem filesP_back : ∀ (fs : List Fv) (u : List UInt8) (r : Option (List Fv)), (∀ f ∈ fs, VP.pathP f.n.data.toList = true ∧ f.v.size < 1000000) → filesP ⟨u.toArray⟩ = r → filesP ⟨(fs.flatMap fileL ++ u).toArray⟩ = r.map (fs ++ ·)
  | [], u, r, _, hr => by
    show filesP ⟨u.toArray⟩ = _
    rw [hr]
    cases r <;> rfl
  | f :: fs, u, r, h, hr => by
    obtain ⟨h1, h2⟩ := h f List.mem_cons_self
    have ih := filesP_back fs u r (fun g hg => h g (List.mem_cons_of_mem _ hg)) hr
    rw [List.flatMap_cons, List.append_assoc, filesP_some (fileL_pos f _) (fileP_back h1 h2 _), ih]
    cases r <;> simp
/-- cut behind the first part -/
theorem take_within (a v : List UInt8) (n : Nat) {k : Nat} (hc : k ≤ n) (hl : n = v.length) : (a ++ (v ++ [10])).take ((a ++ (v ++ [10])).length - 1 - k) = a ++ v.take (n - k) := by
  have hlen : (a ++ (v ++ [10])).length - 1 - k = a.length + (n - k) := by
    simp only [List.length_append, List.length_cons, List.length_nil]
    omega
  have h2 : n - k ≤ v.length := by omega
  rw [hlen, List.take_length_add_append, List.take_append_of_le_length h2]
theorem take_last (a b : List UInt8) {k : Nat} (h : k + 1 ≤ b.length) : (a ++ b).take ((a ++ b).length - 1 - k) = a ++ b.take (b.length - 1 - k) := by
  have hlen : (a ++ b).length - 1 - k = a.length + (b.length - 1 - k) := by
    rw [List.length_append]
    omega
  rw [hlen, List.take_length_add_append]
/-- the last file, cut -/
theorem fileP_cut {f : Fv} (hn : VP.pathP f.n.data.toList = true) (hk : f.v.size < 1000000) {k : Nat} (hc : k ≤ f.v.size) : filesP ⟨((fileL f).take ((fileL f).length - 1 - k)).toArray⟩ = none := by
  have hl : f.v.size = f.v.data.toList.length := size_eq_length _
  have e : (fileL f).take ((fileL f).length - 1 - k) = f.n.data.toList ++ 32 :: (Lib.decDigits f.v.size ++ 10 :: f.v.data.toList.take (f.v.size - k)) := by
    rw [fileL_eq]
    have e0 : f.n.data.toList ++ 32 :: (Lib.decDigits f.v.size ++ 10 :: (f.v.data.toList ++ [10])) = (f.n.data.toList ++ 32 :: (Lib.decDigits f.v.size ++ [10])) ++ (f.v.data.toList ++ [10]) := by simp
    rw [e0, take_within _ _ _ hc hl]
    simp
  rw [e]
  refine filesP_none (by rw [mk_size]; simp) ?_
  rw [fileP_open hn hk rfl, if_neg]
  rw [List.getElem?_eq_none (by rw [List.length_take]; omega)]
  simp
theorem files_paths {fs : List Fv} (h : filesOk fs = true) : ∀ f ∈ fs, VP.pathP f.n.data.toList = true := by
  intro f hf
  obtain ⟨i, hi⟩ := List.mem_iff_getElem?.1 hf
  have h1 := VP.allAt_iff.1 h i (List.getElem?_eq_some_iff.1 hi).1
  cases hp : VP.pathP f.n.data.toList with
  | true => rfl
  | false => rw [fileAt_path hi hp] at h1; cases h1
theorem withFiles_back (p : Pv) : withFiles (noFiles p) p.fi = p := rfl
theorem arc_facts {p : Pv} (h : arcOk p = true) : archB p = true ∧ saysOk p = true ∧ stanzaB (fldB p) = true ∧ (bodyL p).length ≤ 4000 ∧ (∀ f ∈ p.fi, VP.pathP f.n.data.toList = true) ∧ arcS p = ⟨(bodyL p).toArray⟩ := by
  have ha := h
  unfold arcOk at ha
  simp only [Bool.and_eq_true, decide_eq_true_eq] at ha
  obtain ⟨h1, h2, h3⟩ := ha
  have h4 := h1
  unfold archB at h4
  simp only [Bool.and_eq_true, decide_eq_true_eq] at h4
  exact ⟨h1, h4.1, h2, h3, files_paths h4.2.2.1, by unfold arcS; rw [if_pos h]⟩
theorem file_small {p : Pv} (h : (bodyL p).length ≤ 4000) : ∀ f ∈ p.fi, f.n.size ≤ 4000 ∧ f.v.size < 1000000 ∧ f.v.size ≤ 4000 := by
  intro f hf
  have h1 : (fileL f).length ≤ (p.fi.flatMap fileL).length := by
    obtain ⟨a, b, hab⟩ := List.append_of_mem hf
    rw [hab]
    simp only [List.flatMap_append, List.flatMap_cons, List.length_append]
    omega
  have h2 : (fileL f).length ≤ 4000 := by
    unfold bodyL at h
    simp only [List.length_append] at h
    omega
  rw [fileL_eq] at h2
  simp only [List.length_append, List.length_cons] at h2
  rw [size_eq_length, size_eq_length]
  omega
/-- written, and read -/
theorem arc_back {p : Pv} (h : arcOk p = true) : arcP (arcS p) = .ok p := by
  obtain ⟨h1, h2, h3, h4, h5, h6⟩ := arc_facts h
  obtain ⟨x, xs, _, hxs, ht, hp⟩ := stanza_lines h3
  have hb : bodyL p = x ++ VP.linesOf xs ++ [10] ++ 10 :: (p.fi.flatMap fileL) := by
    unfold bodyL textS
    rw [ht]
    rfl
  have hs := file_small h4
  have hf := filesP_back p.fi [] (some []) (fun f hf => ⟨h5 f hf, (hs f hf).2.1⟩) (filesP_empty rfl)
  rw [List.append_nil] at hf
  rw [h6]
  have hh : headP ⟨(bodyL p).toArray⟩ = some (⟨(x ++ VP.linesOf xs).toArray⟩, ⟨(p.fi.flatMap fileL).toArray⟩) := by rw [hb]; exact head_back x xs _ hxs
  have hr : readP (fldB p) = .ok (noFiles p) := by have := read_back p noneOf_nil h2; rwa [List.append_nil] at this
  rw [arc_one (by rw [mk_size]; omega) hh hp, hr]
  dsimp only
  rw [hf]
  show (if archB (withFiles (noFiles p) (p.fi ++ [])) then Except.ok (withFiles (noFiles p) (p.fi ++ [])) else Except.error 1) = _
  rw [List.append_nil, withFiles_back, h1]
  rfl
/-- written, cut within the last file, and read -/
theorem arc_cut {p : Pv} (h : arcOk p = true) {fs : List Fv} {f : Fv} (hfs : p.fi = fs ++ [f]) {k : Nat} (hk : k ≤ f.v.size) : arcP ⟨((bodyL p).take ((bodyL p).length - 1 - k)).toArray⟩ = .error 3 := by
  obtain ⟨h1, h2, h3, h4, h5, h6⟩ := arc_facts h
  obtain ⟨x, xs, _, hxs, ht, hp⟩ := stanza_lines h3
  have hs := file_small h4
  have hlen : k + 1 ≤ (fileL f).length := by
    rw [fileL_eq]
    have := size_eq_length f.v
    simp only [List.length_append, List.length_cons]
    omega
  have hb : (bodyL p).take ((bodyL p).length - 1 - k) = x ++ VP.linesOf xs ++ [10] ++ 10 :: (fs.flatMap fileL ++ (fileL f).take ((fileL f).length - 1 - k)) := by
    have e : bodyL p = (x ++ VP.linesOf xs ++ [10] ++ 10 :: fs.flatMap fileL) ++ fileL f := by
      unfold bodyL textS
      rw [ht, hfs, List.flatMap_append]
      simp
    rw [e, take_last _ _ hlen]
    simp
  have hmem : f ∈ p.fi := by rw [hfs]; simp
  have hf := filesP_back fs _ none (fun g hg => by
    have : g ∈ p.fi := by rw [hfs]; simp [hg]
    exact ⟨h5 g this, (hs g this).2.1⟩) (fileP_cut (h5 f hmem) (hs f hmem).2.1 hk)
  have hh : headP ⟨((bodyL p).take ((bodyL p).length - 1 - k)).toArray⟩ = some (⟨(x ++ VP.linesOf xs).toArray⟩, ⟨(fs.flatMap fileL ++ (fileL f).take ((fileL f).length - 1 - k)).toArray⟩) := by rw [hb]; exact head_back x xs _ hxs
  have hr : readP (fldB p) = .ok (noFiles p) := by have := read_back p noneOf_nil h2; rwa [List.append_nil] at this
  rw [arc_one (by rw [mk_size, List.length_take]; omega) hh hp, hr]
  dsimp only
  rw [hf]
  rfl
end Go.Proofs.YtodbbfgkclkpgaaGreatDoor

namespace Go.Proofs.YtodbbfgkclkpgaaGreatDoor
open Go.RowKit Go.ChangeShapes Go.WideShapes Go.ChangeAt Go.Joins

theorem errSyntaxIs : Tryz.prog.globalNamed "strconv.ErrSyntax" = some 5 := by kernel_rfl
theorem errRangeIs : Tryz.prog.globalNamed "strconv.ErrRange" = some 6 := by kernel_rfl
theorem errSyntaxType : (Tryz.prog.globals[5]?).map (·.type) = some 36 := by kernel_rfl
theorem errRangeType : (Tryz.prog.globals[6]?).map (·.type) = some 36 := by kernel_rfl
theorem iface_reads {W : World} {n name : String} {g : Nat} {d : DataW Unit} (hn : Tryz.prog.globalNamed n = some g) (hty : (Tryz.prog.globals[g]?).map (·.type) = some 36) (h : Lib.VarReads Tryz.prog W n (.iface name d)) : ∃ t p, W.cell? ⟨g, 0, none⟩ = some (.iface t p) := by
  obtain ⟨g', t, cs, fuel, p, hg, ht, hvar, hd⟩ := h
  obtain rfl := Option.some.inj (hn.symm.trans hg)
  obtain rfl := Option.some.inj (hty.symm.trans ht)
  obtain ⟨_, u, v, hcs, _, _⟩ := iface_of_trod Tryz.underlying36 hd
  refine ⟨u, v, ?_⟩
  rw [World.var?_cell hn hvar 0, ← Array.getElem?_toList, hcs]
  rfl
theorem envA_at {W : World} {laid : List (String × DataW Unit)} (hL : laidMetH Tryz.prog laid W) (hm : ("strconv.ErrSyntax", (Rows.laid_strconv_ErrSyntax : DataW Unit)) ∈ laid) (hm2 : ("strconv.ErrRange", (Rows.laid_strconv_ErrRange : DataW Unit)) ∈ laid) : EnvA W :=
  ⟨iface_reads errSyntaxIs errSyntaxType (Lib.laidMet.reads (laidMetH_iff.1 hL).1 (List.mem_filter.2 ⟨hm, rfl⟩)), iface_reads errRangeIs errRangeType (Lib.laidMet.reads (laidMetH_iff.1 hL).1 (List.mem_filter.2 ⟨hm2, rfl⟩))⟩
end Go.Proofs.YtodbbfgkclkpgaaGreatDoor

namespace Go.Proofs.YtodbbfgkclkpgaaGreatDoor
open Go Go.RowKit

def wrapB : ByteArray := ⟨#[80, 97, 99, 107, 97, 103, 101, 58, 32, 97, 97, 10, 86, 101, 114, 115, 105, 111, 110, 58, 32, 49, 10, 10, 98, 105, 110, 47, 120, 32, 51, 10, 97, 10, 98, 10]⟩
def wrapH : ByteArray := ⟨#[80, 97, 99, 107, 97, 103, 101, 58, 32, 97, 97, 10, 86, 101, 114, 115, 105, 111, 110, 58, 32, 49]⟩
def wrapR : ByteArray := ⟨#[98, 105, 110, 47, 120, 32, 51, 10, 97, 10, 98, 10]⟩
def wrapF : List Fv := [⟨nPackage, ⟨#[97, 97]⟩⟩, ⟨nVersion, ⟨#[49]⟩⟩]
def wrapP : Pv := { pack0 with n := ⟨#[97, 97]⟩, u := ⟨#[49]⟩ }
def wrapL : List Fv := [⟨⟨#[98, 105, 110, 47, 120]⟩, ⟨#[97, 10, 98]⟩⟩]
theorem wrap_head : headP wrapB = some (wrapH, wrapR) := by kernel_rfl
theorem wrap_parse : parseS wrapH = .ok [wrapF] := by kernel_rfl
theorem wrap_read : readP wrapF = .ok wrapP := by kernel_rfl
theorem wrap_file : fileP wrapR = some (⟨⟨#[98, 105, 110, 47, 120]⟩, ⟨#[97, 10, 98]⟩⟩, ⟨#[]⟩) := by kernel_rfl
theorem wrap_files : filesP wrapR = some wrapL := by
  rw [filesP_some (by decide) wrap_file, filesP_empty rfl]
  rfl
theorem wrap_arc : arcP wrapB = .ok (withFiles wrapP wrapL) := by
  rw [arc_one (by decide) wrap_head wrap_parse, wrap_read]
  dsimp only
  rw [wrap_files]
  dsimp only
  rw [if_pos (by kernel_rfl)]

set_option maxHeartbeats 2000000 in
set_option maxRecDepth 100000 in
theorem wrapped_holds (w : World) (hE : Env w) (hS : EnvS w) (hA : EnvA w) : Calls Tryz.prog 48 #[] w (BoolIs true w) := by
  have C1 := Lib.hid (arcRead_calls wrapB w hE hS hA (by decide))
  clear hE hS hA
  go_enter Tryz.func48, Tryz.ntmps48
  go_wp2_with fail
  refine C1.out.mono ?_
  rintro E w2 ⟨y, rfl, hy, hb2⟩
  rw [(ar_ok wrap_arc).1]
  rw [(ar_ok wrap_arc).2] at hy
  obtain ⟨v1, v2, v3, v4, v5, v6, v7, v8, v9, rfl, hyr⟩ := hy
  obtain ⟨E1, e1, f1, rfl⟩ := ask_slice hyr.1
  obtain ⟨E2, e2, f2, rfl⟩ := ask_slice hyr.2.1
  obtain ⟨E3, e3, f3, rfl⟩ := term_slice hyr.2.2.1
  obtain ⟨E4, e4, f4, rfl⟩ := term_slice hyr.2.2.2.1
  obtain ⟨E5, e5, f5, rfl⟩ := term_slice hyr.2.2.2.2.1
  obtain ⟨E6, e6, f6, rfl⟩ := term_slice hyr.2.2.2.2.2.1
  obtain ⟨E7, e7, f7, rfl⟩ := slc_sl hyr.2.2.2.2.2.2.1
  obtain ⟨E8, e8, f8, rfl⟩ := slc_sl hyr.2.2.2.2.2.2.2.1
  obtain ⟨E9, f9, rfl, _, _, h9⟩ := FieldsAt.open hyr.2.2.2.2.2.2.2.2.1
  obtain ⟨b9, o9, rfl, hi9⟩ := h9 (by simp [withFiles, wrapL])
  have d9 := hi9 0 ⟨⟨#[98, 105, 110, 47, 120]⟩, ⟨#[97, 10, 98]⟩⟩ rfl
  rw [Nat.zero_mul, Nat.add_zero] at d9
  have HB2 := Lib.hid hb2
  clear hyr h9 hi9 hb2 C1
  have d9a : ∀ o, (w2.alloc o).cell? ⟨b9, o9, none⟩ = some (.string ⟨#[98, 105, 110, 47, 120]⟩) := fun o => kept (below_alloc _ o) d9.1
  have d9b : ∀ o, (w2.alloc o).cell? ⟨b9, o9 + 1, none⟩ = some (.string ⟨#[97, 10, 98]⟩) := fun o => kept (below_alloc _ o) d9.2
  have ez : errV 0 = .nilIface := rfl
  rw [ez]
  rw [show (withFiles wrapP wrapL).n = ⟨#[97, 97]⟩ from rfl, show (withFiles wrapP wrapL).fi.length = 1 from rfl]
  go_wp2_with fail
  go_ret
  exact ⟨rfl, step_below HB2.out (below_alloc _ _)⟩
end Go.Proofs.YtodbbfgkclkpgaaGreatDoor

/- Whose paths are: what Put and Drop make of it. Plain. -/
import Derived.Test.YtofogjfemlhffaaGreatDoorSPK22
namespace Go.Proofs.YtofogjfemlhffaaGreatDoor
open Go Go.RowKit Go.Maps

/-- texts that are lines -/
def OkL (l : List ByteArray) : Prop := ∀ x ∈ l, x.size ≠ 0 ∧ (10 : UInt8) ∉ x.data.toList
theorem OkL.sub {l L : List ByteArray} (h : OkL L) (hs : ∀ x ∈ l, x ∈ L) : OkL l := fun x hx => h x (hs x hx)
theorem pathsM_set {M : Fm} {n : ByteArray} {l : List ByteArray} (h : OkL l) (m : ByteArray) : pathsM (setM M n l) m = if m = n then l else pathsM M m := by
  unfold setM pathsM
  by_cases hl : l = []
  · rw [if_pos hl, getF_del]
    by_cases e : m = n
    · rw [if_pos (by rw [e]), if_pos e, hl]
    · rw [if_neg fun h => e (cat_inj.1 h), if_neg e]
  · rw [if_neg hl, getF_put]
    by_cases e : m = n
    · rw [if_pos (by rw [e]), if_pos e]
      exact lines_back hl h
    · rw [if_neg fun h => e (cat_inj.1 h), if_neg e]
theorem setM_get {M : Fm} {n k : ByteArray} (l : List ByteArray) (h : k ≠ owP ++ n) : getF (setM M n l) k = getF M k := by
  unfold setM
  split
  · rw [getF_del, if_neg h]
  · rw [getF_put, if_neg h]
theorem pathsM_same {M N : Fm} {n : ByteArray} (h : getF M (owP ++ n) = getF N (owP ++ n)) : pathsM M n = pathsM N n := by
  unfold pathsM
  rw [h]

/-! the files -/
theorem putNM_th (M : Fm) (f : Fv) : getF (putNM M f) (thP ++ f.n) = some f.v := by
  unfold putNM
  rw [getF_del, if_neg (thsp _ _), getF_put, if_pos rfl]
theorem putNM_sp (M : Fm) (f : Fv) : getF (putNM M f) (spP ++ f.n) = none := by
  unfold putNM
  rw [getF_del, if_pos rfl]
theorem putSM_sp (M : Fm) (f : Fv) (c : Nat) : getF (putSM M f c) (spP ++ f.n) = some f.v := by
  unfold putSM
  rw [getF_put, if_pos rfl]
theorem not_key {r : List Fv} {f : Fv} (h : f.n ∉ r.map (·.n)) : ∀ g ∈ r, (thP ++ f.n ≠ thP ++ g.n ∧ thP ++ f.n ≠ spP ++ g.n) ∧ (spP ++ f.n ≠ thP ++ g.n ∧ spP ++ f.n ≠ spP ++ g.n) := fun g hg => by
  have hne : f.n ≠ g.n := fun e => h (List.mem_map.2 ⟨g, hg, e.symm⟩)
  exact ⟨⟨fun e => hne (cat_inj.1 e), thsp _ _⟩, Ne.symm (thsp _ _), fun e => hne (cat_inj.1 e)⟩
theorem putLM_new (se : List ByteArray) : ∀ (l : List Fv) (a : List Bool) (M : Fm), (l.map (·.n)).Nodup → ∀ f ∈ l, hasB se f.n = false → getF (putLM se l a M) (thP ++ f.n) = some f.v ∧ getF (putLM se l a M) (spP ++ f.n) = none
  | [], _, _, _, f, hf, _ => by cases hf
  | g :: r, a, M, hd, f, hf, hs => by
    rw [List.map_cons, List.nodup_cons] at hd
    rw [putLM]
    rcases List.mem_cons.1 hf with rfl | hf
    · rw [if_neg (by rw [hs]; decide), putLM_get se _ r a _ fun g hg => (not_key hd.1 g hg).1, putLM_get se _ r a _ fun g hg => (not_key hd.1 g hg).2]
      exact ⟨putNM_th M _, putNM_sp M _⟩
    · split
      · exact putLM_new se r _ _ hd.2 f hf hs
      · exact putLM_new se r _ _ hd.2 f hf hs
theorem putLM_set (se : List ByteArray) : ∀ (l : List Fv) (a : List Bool) (M : Fm), (l.map (·.n)).Nodup → ∀ f ∈ l, hasB se f.n = true → getF (putLM se l a M) (spP ++ f.n) = some f.v
  | [], _, _, _, f, hf, _ => by cases hf
  | g :: r, a, M, hd, f, hf, hs => by
    rw [List.map_cons, List.nodup_cons] at hd
    rw [putLM]
    rcases List.mem_cons.1 hf with rfl | hf
    · rw [if_pos hs, putLM_get se _ r _ _ fun g hg => (not_key hd.1 g hg).2]
      exact putSM_sp M _ _
    · split
      · exact putLM_set se r _ _ hd.2 f hf hs
      · exact putLM_set se r _ _ hd.2 f hf hs
theorem putLM_sp (se : List ByteArray) (l : List Fv) (a : List Bool) (M : Fm) {q : ByteArray} (h : q ∉ l.map (·.n)) : getF (putLM se l a M) (spP ++ q) = getF M (spP ++ q) :=
  putLM_get se _ l a M fun g hg => ⟨Ne.symm (thsp _ _), fun e => h (List.mem_map.2 ⟨g, hg, (cat_inj.1 e).symm⟩)⟩
/-- the files lie there already: all stays as it is -/
theorem putLM_same (se : List ByteArray) {M : Fm} (hM : RisF M) : ∀ l : List Fv, (∀ f ∈ l, if hasB se f.n = true then getF M (spP ++ f.n) = some f.v else getF M (thP ++ f.n) = some f.v ∧ getF M (spP ++ f.n) = none) → putLM se l [] M = M
  | [], _ => rfl
  | f :: r, h => by
    have hf := h f (List.mem_cons_self ..)
    have hr := putLM_same se hM r fun g hg => h g (List.mem_cons_of_mem _ hg)
    rw [putLM]
    by_cases hs : hasB se f.n = true
    · rw [if_pos hs] at hf ⊢
      have hc : choM M f ≠ 0 := by
        unfold choM
        rw [hf]
        unfold choiceD
        cases hn : getF M (thP ++ f.n) with
        | none =>
          simp only
          rw [show sameO none (some f.v) = false from rfl]
          simp
        | some x =>
          simp only
          split
          · decide
          · simp
      have hp : putSM M f (whatD (choM M f) []).1 = M := by
        unfold putSM
        rw [if_neg (show ¬ (whatD (choM M f) []).1 = 0 from hc)]
        exact put_same hM hf
      rw [hp]
      exact hr
    · rw [if_neg hs] at hf ⊢
      have hp : putNM M f = M := by
        unfold putNM
        rw [put_same hM hf.1, del_none hf.2]
      rw [hp]
      exact hr

/-! the others -/
theorem filter_len {p : ByteArray → Bool} {l : List ByteArray} (h : (l.filter p).length = l.length) : l.filter p = l :=
  List.filter_eq_self.2 (List.length_filter_eq_length_iff.1 h)
theorem leftM_set {M : Fm} {ps : List ByteArray} {n : ByteArray} (h : OkL (pathsM M n)) (m : ByteArray) : pathsM (setM M n (leftM M ps n)) m = if m = n then leftM M ps n else pathsM M m :=
  pathsM_set (h.sub fun _ hx => (List.mem_filter.1 hx).1) m
theorem own1M_get (pn : ByteArray) (ps : List ByteArray) (k : ByteArray) (hk : ∀ n, k ≠ owP ++ n) : ∀ (l : List ByteArray) (M : Fm), getF (own1M pn ps l M) k = getF M k
  | [], _ => rfl
  | n :: r, M => by
    rw [own1M]
    split
    · exact own1M_get pn ps k hk r M
    · rw [own1M_get pn ps k hk r _, setM_get _ (hk n)]
theorem own1M_paths (pn : ByteArray) (ps : List ByteArray) (m : ByteArray) : ∀ (l : List ByteArray) (M : Fm), (∀ n, OkL (pathsM M n)) → (m ∈ l → m ≠ pn → pathsM (own1M pn ps l M) m = leftM M ps m) ∧ ((m ∉ l ∨ m = pn) → pathsM (own1M pn ps l M) m = pathsM M m)
  | [], _, _ => ⟨fun h => (by cases h), fun _ => rfl⟩
  | n :: r, M, hok => by
    rw [own1M]
    split
    · rename_i hc
      obtain ⟨h1, h2⟩ := own1M_paths pn ps m r M hok
      refine ⟨fun hm hp => ?_, fun hm => h2 (hm.imp (fun h h' => h (List.mem_cons_of_mem _ h')) id)⟩
      by_cases hr : m ∈ r
      · exact h1 hr hp
      · rw [h2 (.inl hr)]
        have e : m = n := by
          rcases List.mem_cons.1 hm with e | e
          · exact e
          · exact absurd e hr
        subst e
        rcases hc with hc | hc
        · exact absurd hc hp
        · exact (filter_len hc).symm
    · rename_i hc
      have hnp : n ≠ pn := fun e => hc (.inl e)
      obtain ⟨h1, h2⟩ := own1M_paths pn ps m r (setM M n (leftM M ps n)) fun k => by
        rw [leftM_set (hok n)]
        split
        · exact (hok n).sub fun _ hx => (List.mem_filter.1 hx).1
        · exact hok k
      have hl : leftM (setM M n (leftM M ps n)) ps m = leftM M ps m := by
        unfold leftM
        rw [show pathsM (setM M n ((pathsM M n).filter fun q => !hasB ps q)) m = if m = n then (pathsM M n).filter (fun q => !hasB ps q) else pathsM M m from leftM_set (hok n) m]
        split
        · rename_i e
          rw [List.filter_filter, e]
          simp
        · rfl
      rw [hl] at h1
      rw [leftM_set (hok n)] at h2
      refine ⟨fun hm hp => ?_, fun hm => ?_⟩
      · by_cases hr : m ∈ r
        · exact h1 hr hp
        · have e : m = n := by
            rcases List.mem_cons.1 hm with e | e
            · exact e
            · exact absurd e hr
          rw [h2 (.inl hr), if_pos e, e]
      · have e : m ≠ n := fun e => by
          rcases hm with hm | hm
          · exact hm (by rw [e]; exact List.mem_cons_self ..)
          · exact hnp (by rw [← e, hm])
        rw [h2 (hm.imp (fun h h' => h (List.mem_cons_of_mem _ h')) id), if_neg e]
/-- whose paths are behind the first loop -/
theorem own1M_all (pn : ByteArray) (ps : List ByteArray) (M : Fm) (hok : ∀ n, OkL (pathsM M n)) (m : ByteArray) : pathsM (own1M pn ps (ownersM M) M) m = if m = pn then pathsM M m else leftM M ps m := by
  obtain ⟨h1, h2⟩ := own1M_paths pn ps m (ownersM M) M hok
  by_cases e : m = pn
  · rw [h2 (.inr e), if_pos e]
  · rw [if_neg e]
    by_cases h : m ∈ ownersM M
    · exact h1 h e
    · rw [h2 (.inl h)]
      have : pathsM M m = [] := by
        unfold pathsM
        cases hg : getF M (owP ++ m) with
        | none => rfl
        | some t => exact absurd (mem_owners.2 (by rw [hg]; simp)) h
      unfold leftM
      rw [this]
      rfl

/-! its own -/
theorem hasB_app {ps : List ByteArray} {q x : ByteArray} (h : x ≠ q) : hasB (ps ++ [q]) x = hasB ps x := by
  unfold hasB
  rw [List.any_append, List.any_cons, List.any_nil, decide_eq_false (Ne.symm h), Bool.or_false, Bool.or_false]
/-- those of its own paths that are no more in it, and stay: settings -/
def keptQ (M : Fm) (ps : List ByteArray) (q : ByteArray) : Bool := !hasB ps q && (getF M (spP ++ q)).isSome
theorem own2M_ps : ∀ (l ps : List ByteArray) (M : Fm), l.Nodup → (own2M l ps M).2 = ps ++ l.filter (keptQ M ps)
  | [], ps, _, _ => (List.append_nil ps).symm
  | q :: r, ps, M, hd => by
    obtain ⟨hq, hd⟩ := List.nodup_cons.1 hd
    rw [own2M, List.filter_cons]
    by_cases h1 : hasB ps q = true
    · rw [if_pos h1, own2M_ps r ps M hd]
      have : keptQ M ps q = false := by unfold keptQ; rw [h1]; rfl
      rw [this, if_neg (by decide)]
    · have h1' : hasB ps q = false := by simpa using h1
      rw [if_neg h1]
      by_cases h2 : (getF M (spP ++ q)).isNone = true
      · have : keptQ M ps q = false := by
          unfold keptQ
          rw [h1']
          cases hg : getF M (spP ++ q) with
          | none => rfl
          | some s => rw [hg] at h2; cases h2
        rw [if_pos h2, this, if_neg (by decide), own2M_ps r ps _ hd]
        congr 1
        refine List.filter_congr fun x _ => ?_
        unfold keptQ
        rw [getF_del, if_neg (Ne.symm (thsp q x))]
      · have : keptQ M ps q = true := by
          unfold keptQ
          rw [h1']
          cases hg : getF M (spP ++ q) with
          | none => rw [hg] at h2; exact absurd rfl h2
          | some s => rfl
        rw [if_neg h2, this, if_pos rfl, own2M_ps r _ M hd, List.append_assoc]
        congr 1
        show q :: _ = q :: _
        congr 1
        refine List.filter_congr fun x hx => ?_
        unfold keptQ
        rw [hasB_app fun e => hq (by rw [← e]; exact hx)]
theorem own2M_get (k : ByteArray) : ∀ (l ps : List ByteArray) (M : Fm), (∀ q ∈ l, k = thP ++ q → hasB ps q = true ∨ (getF M (spP ++ q)).isSome = true) → getF (own2M l ps M).1 k = getF M k
  | [], _, _, _ => rfl
  | q :: r, ps, M, h => by
    have hr : ∀ x ∈ r, k = thP ++ x → hasB ps x = true ∨ (getF M (spP ++ x)).isSome = true := fun x hx => h x (List.mem_cons_of_mem _ hx)
    rw [own2M]
    by_cases h1 : hasB ps q = true
    · rw [if_pos h1]
      exact own2M_get k r ps M hr
    · rw [if_neg h1]
      by_cases h2 : (getF M (spP ++ q)).isNone = true
      · have hk : k ≠ thP ++ q := fun e => by
          rcases h q (List.mem_cons_self ..) e with h' | h'
          · exact h1 h'
          · cases hg : getF M (spP ++ q) with
            | none => rw [hg] at h'; cases h'
            | some s => rw [hg] at h2; cases h2
        rw [if_pos h2, own2M_get k r ps _ fun x hx e => by
          rw [getF_del, if_neg (Ne.symm (thsp q x))]
          exact hr x hx e, getF_del, if_neg hk]
      · rw [if_neg h2]
        refine own2M_get k r _ M fun x hx e => ?_
        rcases hr x hx e with h' | h'
        · refine .inl ?_
          rw [hasB_iff] at h' ⊢
          exact List.mem_append_left _ h'
        · exact .inr h'
theorem own2M_same (l ps : List ByteArray) (M : Fm) (h : ∀ q ∈ l, hasB ps q = true ∨ (getF M (spP ++ q)).isSome = true) : (own2M l ps M).1 = M := by
  induction l generalizing ps with
  | nil => rfl
  | cons q r ih =>
    rw [own2M]
    by_cases h1 : hasB ps q = true
    · rw [if_pos h1]
      exact ih ps fun x hx => h x (List.mem_cons_of_mem _ hx)
    · rw [if_neg h1, if_neg (by
        rcases h q (List.mem_cons_self ..) with h' | h'
        · exact absurd h' h1
        · cases hg : getF M (spP ++ q) with
          | none => rw [hg] at h'; cases h'
          | some s => simp)]
      refine ih _ fun x hx => ?_
      rcases h x (List.mem_cons_of_mem _ hx) with h' | h'
      · refine .inl ?_
        rw [hasB_iff] at h' ⊢
        exact List.mem_append_left _ h'
      · exact .inr h'

/-! sorted -/
theorem sortB_mem {l : List ByteArray} {x : ByteArray} : x ∈ sortB l ↔ x ∈ l := (sortB_perm l).mem_iff
theorem le_trans_b (a b c : List UInt8) (h1 : decide (a ≤ b) = true) (h2 : decide (b ≤ c) = true) : decide (a ≤ c) = true := decide_eq_true (List.le_trans (of_decide_eq_true h1) (of_decide_eq_true h2))
theorem le_total_b (a b : List UInt8) : (decide (a ≤ b) || decide (b ≤ a)) = true := by
  rcases List.le_total a b with h | h
  · rw [decide_eq_true h]; rfl
  · rw [decide_eq_true h, Bool.or_true]
theorem sortB_eq {l L : List ByteArray} (h : l.Perm L) : sortB l = sortB L := by
  unfold sortB
  congr 1
  refine List.Perm.eq_of_pairwise (le := fun x y => decide (x ≤ y) = true) ?_ (List.pairwise_mergeSort le_trans_b le_total_b _) (List.pairwise_mergeSort le_trans_b le_total_b _) (((List.mergeSort_perm _ _).trans (h.map _)).trans (List.mergeSort_perm _ _).symm)
  intro a b _ _ h1 h2
  exact List.le_antisymm (of_decide_eq_true h1) (of_decide_eq_true h2)
theorem OkL.sort {l : List ByteArray} (h : OkL l) : OkL (sortB l) := h.sub fun _ hx => sortB_mem.1 hx

/-! whose they are: the law -/
/-- what is so of whose paths are -/
structure OwnInv (M : Fm) : Prop where
  ris : RisF M
  small : ∀ n ∈ ownersM M, n.size ≤ 60 ∧ n.size ≠ 0 ∧ pathsM M n ≠ []
  path : ∀ n, ∀ q ∈ pathsM M n, VP.pathP q.data.toList = true
  nodup : ∀ n, (pathsM M n).Nodup
  one : ∀ n m q, n ≠ m → q ∈ pathsM M n → q ∉ pathsM M m
  apart : ∀ n m p q, n ≠ m → p ∈ pathsM M n → q ∈ pathsM M m → hasP (p ++ slB) q = false
theorem OwnInv.ok {M : Fm} (h : OwnInv M) (n : ByteArray) : OkL (pathsM M n) := fun x hx => ⟨(path_no (h.path n x hx)).1, (path_no (h.path n x hx)).2.2⟩
theorem ownInv_nil : OwnInv [] := by
  refine ⟨ris_nil, fun n hn => ?_, fun n q hq => ?_, fun n => List.nodup_nil, fun n m q _ hq => ?_, fun n m p q _ hp => ?_⟩
  · exact absurd rfl (mem_owners.1 hn)
  · cases hq
  · cases hq
  · cases hp

theorem leftM_mem {M : Fm} {ps : List ByteArray} {n q : ByteArray} : q ∈ leftM M ps n ↔ q ∈ pathsM M n ∧ q ∉ ps := by
  unfold leftM
  rw [List.mem_filter]
  constructor
  · rintro ⟨h1, h2⟩
    exact ⟨h1, fun h => by rw [hasB_iff.2 h] at h2; cases h2⟩
  · rintro ⟨h1, h2⟩
    refine ⟨h1, ?_⟩
    cases hb : hasB ps q with
    | false => rfl
    | true => exact absurd (hasB_iff.1 hb) h2
theorem keptQ_put {se : List ByteArray} {l : List Fv} {a : List Bool} {M : Fm} (q : ByteArray) : keptQ (putLM se l a M) (l.map (·.n)) q = keptQ M (l.map (·.n)) q := by
  unfold keptQ
  cases hb : hasB (l.map (·.n)) q with
  | true => rfl
  | false =>
    rw [putLM_sp se l a M fun h => by rw [hasB_iff.2 h] at hb; cases hb]
/-- its own paths behind Put -/
def minePs (M : Fm) (pn : ByteArray) (ps : List ByteArray) : List ByteArray := ps ++ (pathsM M pn).filter (keptQ M ps)
theorem put_paths {M : Fm} (hI : ∀ n, OkL (pathsM M n)) {pn : ByteArray} (hd : (pathsM M pn).Nodup) (se : List ByteArray) {fi : List Fv} (a : List Bool) (hf : OkL (fi.map (·.n))) (m : ByteArray) :
    pathsM (putM M pn se fi a) m = if m = pn then sortB (minePs M pn (fi.map (·.n))) else leftM M (fi.map (·.n)) m := by
  have h0 : ∀ n, pathsM (putLM se fi a M) n = pathsM M n := fun n => pathsM_same (putLM_ow se fi a M n)
  have h1 := own1M_all pn (fi.map (·.n)) (putLM se fi a M) (fun n => by rw [h0]; exact hI n)
  have h1p := h1 pn
  rw [if_pos rfl, h0] at h1p
  have h2 : (own2M (pathsM (own1M pn (fi.map (·.n)) (ownersM (putLM se fi a M)) (putLM se fi a M)) pn) (fi.map (·.n)) (own1M pn (fi.map (·.n)) (ownersM (putLM se fi a M)) (putLM se fi a M))).2 = minePs M pn (fi.map (·.n)) := by
    rw [h1p, own2M_ps _ _ _ hd]
    unfold minePs
    congr 1
    refine List.filter_congr fun x _ => ?_
    have h3 := keptQ_put (se := se) (l := fi) (a := a) (M := M) x
    rw [← h3]
    unfold keptQ
    rw [own1M_get pn (fi.map (·.n)) (spP ++ x) (fun n => spow x n) (ownersM (putLM se fi a M)) (putLM se fi a M)]
  have hok : OkL (sortB (minePs M pn (fi.map (·.n)))) := OkL.sort fun x hx => by
    rcases List.mem_append.1 hx with h | h
    · exact hf x h
    · exact hI pn x (List.mem_filter.1 h).1
  unfold putM ownedM
  rw [h2, pathsM_set hok]
  by_cases e : m = pn
  · rw [if_pos e, if_pos e]
  · rw [if_neg e, if_neg e]
    rw [show pathsM (own2M (pathsM (own1M pn (fi.map (·.n)) (ownersM (putLM se fi a M)) (putLM se fi a M)) pn) (fi.map (·.n)) (own1M pn (fi.map (·.n)) (ownersM (putLM se fi a M)) (putLM se fi a M))).1 m = pathsM (own1M pn (fi.map (·.n)) (ownersM (putLM se fi a M)) (putLM se fi a M)) m from
      pathsM_same (own2M_get _ _ _ _ fun q _ hk => absurd hk.symm (thow q m))]
    rw [h1, if_neg e]
    unfold leftM
    rw [h0]
/-- what was shipped, behind Put -/
theorem put_sp {M : Fm} (pn : ByteArray) (se : List ByteArray) (fi : List Fv) (a : List Bool) (q : ByteArray) : getF (putM M pn se fi a) (spP ++ q) = getF (putLM se fi a M) (spP ++ q) := by
  unfold putM ownedM
  rw [setM_get _ (spow q pn), own2M_get _ _ _ _ (fun x _ hk => absurd hk.symm (thsp x q)), own1M_get pn _ _ (fun n => spow q n)]
/-- what lies at a path of its own, behind Put -/
theorem put_th {M : Fm} (pn : ByteArray) (se : List ByteArray) (fi : List Fv) (a : List Bool) {q : ByteArray} (h : q ∈ fi.map (·.n)) : getF (putM M pn se fi a) (thP ++ q) = getF (putLM se fi a M) (thP ++ q) := by
  unfold putM ownedM
  rw [setM_get _ (thow q pn), own2M_get _ _ _ _ (fun x _ hk => .inl (hasB_iff.2 (by rw [← cat_inj.1 hk]; exact h))), own1M_get pn _ _ (fun n => thow q n)]
theorem putM_ris {M : Fm} (h : RisF M) (pn : ByteArray) (se : List ByteArray) (fi : List Fv) (a : List Bool) : RisF (putM M pn se fi a) := by
  have hs : ∀ {M : Fm} (_ : RisF M) n l, RisF (setM M n l) := fun h n l => by
    unfold setM
    split
    · exact ris_del h _
    · exact ris_put h _ _
  have hL : ∀ (l : List Fv) (a : List Bool) (M : Fm), RisF M → RisF (putLM se l a M) := by
    intro l
    induction l with
    | nil => exact fun _ _ h => h
    | cons f r ih =>
      intro a M h
      rw [putLM]
      split
      · refine ih _ _ ?_
        unfold putSM
        refine ris_put ?_ _ _
        split
        · exact ris_put h _ _
        · exact h
      · refine ih _ _ ?_
        unfold putNM
        exact ris_del (ris_put h _ _) _
  have h1 : ∀ (ps l : List ByteArray) (M : Fm), RisF M → RisF (own1M pn ps l M) := by
    intro ps l
    induction l with
    | nil => exact fun _ h => h
    | cons n r ih =>
      intro M h
      rw [own1M]
      split
      · exact ih M h
      · exact ih _ (hs h _ _)
  have h2 : ∀ (l ps : List ByteArray) (M : Fm), RisF M → RisF (own2M l ps M).1 := by
    intro l
    induction l with
    | nil => exact fun _ _ h => h
    | cons q r ih =>
      intro ps M h
      rw [own2M]
      split
      · exact ih _ M h
      · split
        · exact ih _ _ (ris_del h _)
        · exact ih _ M h
  unfold putM ownedM
  exact hs (h2 _ _ _ (h1 _ _ _ (hL _ _ _ h))) _ _
theorem pathsM_owner {M : Fm} {n q : ByteArray} (h : q ∈ pathsM M n) : n ∈ ownersM M := mem_owners.2 fun e => by
  unfold pathsM at h
  rw [e] at h
  cases h

/-- files that may be put -/
structure FilesFit (fi : List Fv) : Prop where
  nodup : (fi.map (·.n)).Nodup
  path : ∀ f ∈ fi, VP.pathP f.n.data.toList = true
theorem FilesFit.ok {fi : List Fv} (h : FilesFit fi) : OkL (fi.map (·.n)) := fun x hx => by
  obtain ⟨f, hf, rfl⟩ := List.mem_map.1 hx
  exact ⟨(path_no (h.path f hf)).1, (path_no (h.path f hf)).2.2⟩
theorem clash_none {own : List ByteArray} {hit : ByteArray → ByteArray → Bool} : ∀ {fi : List Fv} {i : Nat}, ¬ 0 ≤ (clashF own hit fi i).1 → ∀ f ∈ fi, ∀ n ∈ own, hit f.n n = false
  | [], _, _, f, hf, _, _ => by cases hf
  | g :: r, i, h, f, hf, n, hn => by
    rw [clashF] at h
    cases ho : own.find? (hit g.n) with
    | some m =>
      rw [ho] at h
      exact absurd (show (0 : Int) ≤ (i : Int) by omega) h
    | none =>
      rw [ho] at h
      rcases List.mem_cons.1 hf with rfl | hf
      · exact by simpa using List.find?_eq_none.1 ho n hn
      · exact clash_none h f hf n hn
/-- nothing of another one lies above or beneath -/
def FreeOf (M : Fm) (pn : ByteArray) (fi : List Fv) : Prop := ∀ f ∈ fi, ∀ n, n ≠ pn → ∀ q ∈ pathsM M n, aboveB q f.n = false
theorem free_of {M : Fm} {pn : ByteArray} {tk : ByteArray → Bool} {fi : List Fv} {D : Dk} (hD : D.now = M) (h : ¬ 0 ≤ (clashD D pn tk fi).1) : FreeOf M pn fi := fun f hf n hn q hq => by
  subst hD
  have := clash_none h f hf n (pathsM_owner hq)
  unfold hitN at this
  rw [decide_eq_false hn, Bool.not_false, Bool.true_and] at this
  have := List.any_eq_false.1 this q hq
  unfold hitQ at this
  cases ha : aboveB q f.n with
  | false => rfl
  | true => rw [ha] at this; exact absurd rfl this
/-- who owns has paths -/
def Full (M : Fm) : Prop := ∀ n, getF M (owP ++ n) ≠ none → pathsM M n ≠ []
theorem Full.same {M N : Fm} (h : Full M) (e : ∀ n, getF N (owP ++ n) = getF M (owP ++ n)) : Full N := fun n hn => by
  rw [pathsM_same (e n)]
  exact h n (by rw [← e]; exact hn)
theorem full_set {M : Fm} (h : Full M) {k : ByteArray} {l : List ByteArray} (hl : OkL l) : Full (setM M k l) := fun n hn => by
  rw [pathsM_set hl]
  have := (owners_set (M := M) (k := k) (l := l) (n := n)).1 (mem_owners.2 hn)
  by_cases e : n = k
  · rw [if_pos e] at this ⊢
    exact this
  · rw [if_neg e] at this ⊢
    exact h n (mem_owners.1 this)
theorem full_own1 (pn : ByteArray) (ps : List ByteArray) : ∀ (l : List ByteArray) (M : Fm), Full M → (∀ n, OkL (pathsM M n)) → Full (own1M pn ps l M)
  | [], _, h, _ => h
  | n :: r, M, h, hok => by
    rw [own1M]
    split
    · exact full_own1 pn ps r M h hok
    · have hl : OkL (leftM M ps n) := (hok n).sub fun _ hx => (List.mem_filter.1 hx).1
      refine full_own1 pn ps r _ (full_set h hl) fun k => ?_
      rw [leftM_set (hok n)]
      split
      · exact hl
      · exact hok k
theorem full_put {M : Fm} (h : Full M) (hI : ∀ n, OkL (pathsM M n)) {pn : ByteArray} (hd : (pathsM M pn).Nodup) (se : List ByteArray) {fi : List Fv} (a : List Bool) (hf : OkL (fi.map (·.n))) : Full (putM M pn se fi a) := by
  have h0 : ∀ n, pathsM (putLM se fi a M) n = pathsM M n := fun n => pathsM_same (putLM_ow se fi a M n)
  have hF0 : Full (putLM se fi a M) := h.same fun n => putLM_ow se fi a M n
  have hok0 : ∀ n, OkL (pathsM (putLM se fi a M) n) := fun n => by rw [h0]; exact hI n
  have hF1 := full_own1 pn (fi.map (·.n)) (ownersM (putLM se fi a M)) _ hF0 hok0
  have h1p := own1M_all pn (fi.map (·.n)) (putLM se fi a M) hok0 pn
  rw [if_pos rfl, h0] at h1p
  unfold putM ownedM
  refine full_set (hF1.same fun n => own2M_get _ _ _ _ fun q _ hk => absurd hk.symm (thow q n)) (OkL.sort ?_)
  rw [h1p, own2M_ps _ _ _ hd]
  intro x hx
  rcases List.mem_append.1 hx with h | h
  · exact hf x h
  · exact hI pn x (List.mem_filter.1 h).1
theorem put_inv {M : Fm} (hI : OwnInv M) {pn : ByteArray} (hp : pn.size ≤ 60 ∧ pn.size ≠ 0) (se : List ByteArray) {fi : List Fv} (a : List Bool) (hf : FilesFit fi) (hc : FreeOf M pn fi) : OwnInv (putM M pn se fi a) := by
  have hP := put_paths hI.ok (hI.nodup pn) se a hf.ok
  have hmine : ∀ q ∈ minePs M pn (fi.map (·.n)), q ∈ fi.map (·.n) ∨ q ∈ pathsM M pn := fun q hq => by
    rcases List.mem_append.1 hq with h | h
    · exact .inl h
    · exact .inr (List.mem_filter.1 h).1
  have hap : ∀ n p q, n ≠ pn → p ∈ leftM M (fi.map (·.n)) n → q ∈ minePs M pn (fi.map (·.n)) → p ≠ q ∧ hasP (p ++ slB) q = false ∧ hasP (q ++ slB) p = false := fun n p q hn hp hq => by
    obtain ⟨h1, h2⟩ := leftM_mem.1 hp
    rcases hmine q hq with h | h
    · obtain ⟨f, hf, rfl⟩ := List.mem_map.1 h
      have ha := hc f hf n hn p h1
      unfold aboveB at ha
      rw [Bool.or_eq_false_iff] at ha
      exact ⟨fun e => h2 (by rw [e]; exact h), ha.2, ha.1⟩
    · exact ⟨fun e => hI.one n pn p hn h1 (by rw [e]; exact h), hI.apart n pn p q hn h1 h, hI.apart pn n q p (Ne.symm hn) h h1⟩
  refine ⟨putM_ris hI.ris pn se fi a, fun n hn => ?_, fun n q hq => ?_, fun n => ?_, fun n m q hnm hq hq2 => ?_, fun n m p q hnm hp hq => ?_⟩
  · have hne := full_put (fun n hn => (hI.small n (mem_owners.2 hn)).2.2) hI.ok (hI.nodup pn) se a hf.ok n (mem_owners.1 hn)
    by_cases e : n = pn
    · exact ⟨by rw [e]; exact hp.1, by rw [e]; exact hp.2, hne⟩
    · have h2 := hne
      rw [hP, if_neg e] at h2
      cases hl : leftM M (fi.map (·.n)) n with
      | nil => exact absurd hl h2
      | cons q r =>
        have hq : q ∈ leftM M (fi.map (·.n)) n := by rw [hl]; exact List.mem_cons_self ..
        have := hI.small n (pathsM_owner (leftM_mem.1 hq).1)
        exact ⟨this.1, this.2.1, hne⟩
  · rw [hP] at hq
    split at hq
    · rcases hmine q (sortB_mem.1 hq) with h | h
      · obtain ⟨f, hff, rfl⟩ := List.mem_map.1 h
        exact hf.path f hff
      · exact hI.path pn q h
    · exact hI.path n q (leftM_mem.1 hq).1
  · rw [hP]
    split
    · refine ((sortB_perm _).nodup_iff).2 ?_
      unfold minePs
      refine List.nodup_append.2 ⟨hf.nodup, (hI.nodup pn).filter _, fun x hx y hy e => ?_⟩
      have := (List.mem_filter.1 hy).2
      unfold keptQ at this
      rw [← e, hasB_iff.2 hx] at this
      cases this
    · exact (hI.nodup n).filter _
  · rw [hP] at hq hq2
    by_cases e1 : n = pn
    · rw [if_pos e1] at hq
      rw [if_neg fun e => hnm (by rw [e1, e])] at hq2
      exact (hap m q q (fun e => hnm (by rw [e1, e])) hq2 (sortB_mem.1 hq)).1 rfl
    · rw [if_neg e1] at hq
      by_cases e2 : m = pn
      · rw [if_pos e2] at hq2
        exact (hap n q q e1 hq (sortB_mem.1 hq2)).1 rfl
      · rw [if_neg e2] at hq2
        exact hI.one n m q hnm (leftM_mem.1 hq).1 (leftM_mem.1 hq2).1
  · rw [hP] at hp hq
    by_cases e1 : n = pn
    · rw [if_pos e1] at hp
      rw [if_neg fun e => hnm (by rw [e1, e])] at hq
      exact (hap m q p (fun e => hnm (by rw [e1, e])) hq (sortB_mem.1 hp)).2.2
    · rw [if_neg e1] at hp
      by_cases e2 : m = pn
      · rw [if_pos e2] at hq
        exact (hap n p q e1 hp (sortB_mem.1 hq)).2.1
      · rw [if_neg e2] at hq
        exact hI.apart n m p q hnm (leftM_mem.1 hp).1 (leftM_mem.1 hq).1

/-! put again -/
theorem put_settled {M : Fm} (pn : ByteArray) (se : List ByteArray) {fi : List Fv} (a : List Bool) (hd : (fi.map (·.n)).Nodup) : ∀ f ∈ fi, if hasB se f.n = true then getF (putM M pn se fi a) (spP ++ f.n) = some f.v else getF (putM M pn se fi a) (thP ++ f.n) = some f.v ∧ getF (putM M pn se fi a) (spP ++ f.n) = none := fun f hf => by
  have hm : f.n ∈ fi.map (·.n) := List.mem_map.2 ⟨f, hf, rfl⟩
  rw [put_sp, put_th pn se fi a hm]
  by_cases hs : hasB se f.n = true
  · rw [if_pos hs]
    exact putLM_set se fi a M hd f hf hs
  · rw [if_neg hs]
    exact putLM_new se fi a M hd f hf (by simpa using hs)
theorem put_again {M : Fm} (hI : OwnInv M) {pn : ByteArray} (se : List ByteArray) {fi : List Fv} (hf : FilesFit fi) (hI2 : OwnInv (putM M pn se fi [])) : putM (putM M pn se fi []) pn se fi [] = putM M pn se fi [] := by
  have hP := put_paths hI.ok (hI.nodup pn) se [] hf.ok
  have hset := put_settled (M := M) pn se [] hf.nodup
  have hspm : ∀ q, q ∉ fi.map (·.n) → getF (putM M pn se fi []) (spP ++ q) = getF M (spP ++ q) := fun q hq => by rw [put_sp, putLM_sp se fi [] M hq]
  have hPn := hP pn
  rw [if_pos rfl] at hPn
  obtain ⟨N, hN⟩ : ∃ N, putM M pn se fi [] = N := ⟨_, rfl⟩
  rw [hN] at hset hI2 hP hspm hPn ⊢
  have e0 : putLM se fi [] N = N := putLM_same se hI2.ris fi hset
  have e1 : own1M pn (fi.map (·.n)) (ownersM N) N = N := own1M_same pn _ N _ fun n _ => by
    by_cases e : n = pn
    · exact .inl e
    · refine .inr ?_
      have h1 : leftM N (fi.map (·.n)) n = (pathsM N n).filter fun q => !hasB (fi.map (·.n)) q := rfl
      rw [h1, hP n, if_neg e]
      unfold leftM
      rw [List.filter_filter]
      simp
  have hkeep : ∀ q ∈ pathsM N pn, hasB (fi.map (·.n)) q = true ∨ (getF N (spP ++ q)).isSome = true := fun q hq => by
    rw [hPn] at hq
    rcases List.mem_append.1 (sortB_mem.1 hq) with h | h
    · exact .inl (hasB_iff.2 h)
    · have hk := (List.mem_filter.1 h).2
      unfold keptQ at hk
      rw [Bool.and_eq_true] at hk
      refine .inr ?_
      rw [hspm q fun h => by rw [hasB_iff.2 h] at hk; cases hk.1]
      exact hk.2
  have e2 : (own2M (pathsM N pn) (fi.map (·.n)) N).1 = N := own2M_same _ _ N hkeep
  have e3 : sortB (own2M (pathsM N pn) (fi.map (·.n)) N).2 = pathsM N pn := by
    rw [own2M_ps _ _ _ (hI2.nodup pn), hPn]
    refine sortB_eq (List.Perm.append_left _ ?_)
    refine ((sortB_perm _).filter _).trans ?_
    unfold minePs
    rw [List.filter_append]
    have h1 : (fi.map (·.n)).filter (keptQ N (fi.map (·.n))) = [] := List.filter_eq_nil_iff.2 fun x hx => by
      unfold keptQ
      rw [hasB_iff.2 hx]
      simp
    rw [h1, List.nil_append, List.filter_filter]
    have h2 : (fun a => keptQ N (fi.map (·.n)) a && keptQ M (fi.map (·.n)) a) = keptQ M (fi.map (·.n)) := by
      funext q
      unfold keptQ
      cases hb : hasB (fi.map (·.n)) q with
      | true => rfl
      | false => rw [hspm q fun h => by rw [hasB_iff.2 h] at hb; cases hb]; simp
    rw [h2]
  unfold putM ownedM
  rw [e0, e1, e2, e3]
  unfold setM
  by_cases hne : pathsM N pn = []
  · rw [if_pos hne]
    refine del_none ?_
    cases hg : getF N (owP ++ pn) with
    | none => rfl
    | some t => exact absurd hne (hI2.small pn (mem_owners.2 (by rw [hg]; simp))).2.2
  · rw [if_neg hne]
    refine put_same hI2.ris ?_
    cases hg : getF N (owP ++ pn) with
    | none => exact absurd (by unfold pathsM; rw [hg]) hne
    | some t =>
      have e : pathsM N pn = pathsT t := by unfold pathsM; rw [hg]
      rw [e]
      unfold pathsT
      split
      · rename_i h0
        rw [e] at hne
        exact absurd (by unfold pathsT; rw [if_pos h0]) hne
      · rw [lines_pieces]
/-! Drop -/
theorem dropLM_get (all : Bool) (k : ByteArray) : ∀ (l left : List ByteArray) (M : Fm), (∀ q ∈ l, k ≠ thP ++ q ∧ k ≠ spP ++ q) → getF (dropLM all l left M).1 k = getF M k
  | [], _, _, _ => rfl
  | q :: r, left, M, h => by
    have hr : ∀ x ∈ r, k ≠ thP ++ x ∧ k ≠ spP ++ x := fun x hx => h x (List.mem_cons_of_mem _ hx)
    have hq := h q (List.mem_cons_self ..)
    rw [dropLM]
    split
    · exact dropLM_get all k r _ M hr
    · rw [dropLM_get all k r left _ hr, getF_del, if_neg hq.2, getF_del, if_neg hq.1]
theorem dropLM_sub (all : Bool) : ∀ (l left : List ByteArray) (M : Fm), ∃ K, K.Sublist l ∧ (dropLM all l left M).2 = left ++ K ∧ (all = true → K = [])
  | [], left, _ => ⟨[], List.Sublist.slnil, (List.append_nil _).symm, fun _ => rfl⟩
  | q :: r, left, M => by
    rw [dropLM]
    split
    · rename_i hc
      obtain ⟨K, h1, h2, h3⟩ := dropLM_sub all r (left ++ [q]) M
      refine ⟨q :: K, h1.cons_cons q, by rw [h2, List.append_assoc]; rfl, fun ha => ?_⟩
      rw [ha] at hc
      simp at hc
    · obtain ⟨K, h1, h2, h3⟩ := dropLM_sub all r left (delF (delF M (thP ++ q)) (spP ++ q))
      exact ⟨K, h1.cons q, h2, h3⟩
theorem dropLM_ris (all : Bool) : ∀ (l left : List ByteArray) (M : Fm), RisF M → RisF (dropLM all l left M).1
  | [], _, _, h => h
  | q :: r, left, M, h => by
    rw [dropLM]
    split
    · exact dropLM_ris all r _ M h
    · exact dropLM_ris all r left _ (ris_del (ris_del h _) _)
/-- whose paths are behind Drop -/
theorem drop_paths {M : Fm} (hI : OwnInv M) (n : ByteArray) (all : Bool) : ∃ K, K.Sublist (pathsM M n) ∧ (all = true → K = []) ∧ (∀ m, pathsM (dropM M n all) m = if m = n then K else pathsM M m) ∧ OwnInv (dropM M n all) := by
  obtain ⟨K, h1, h2, h3⟩ := dropLM_sub all (pathsM M n) [] M
  rw [List.nil_append] at h2
  have hokK : OkL K := (hI.ok n).sub fun _ hx => h1.subset hx
  have hg : ∀ m, getF (dropLM all (pathsM M n) [] M).1 (owP ++ m) = getF M (owP ++ m) := fun m => dropLM_get all _ _ _ _ fun q _ => ⟨Ne.symm (thow q m), Ne.symm (spow q m)⟩
  have hp : ∀ m, pathsM (dropM M n all) m = if m = n then K else pathsM M m := fun m => by
    unfold dropM
    rw [h2, pathsM_set hokK, pathsM_same (hg m)]
  have hsub : ∀ m q, q ∈ pathsM (dropM M n all) m → q ∈ pathsM M m := fun m q hq => by
    rw [hp] at hq
    split at hq
    · rename_i e
      rw [e]
      exact h1.subset hq
    · exact hq
  refine ⟨K, h1, h3, hp, ⟨?_, fun m hm => ?_, fun m q hq => hI.path m q (hsub m q hq), fun m => ?_, fun a b q hab hq hq2 => hI.one a b q hab (hsub a q hq) (hsub b q hq2), fun a b p q hab hp' hq => hI.apart a b p q hab (hsub a p hp') (hsub b q hq)⟩⟩
  · have hs : ∀ {M : Fm} (_ : RisF M) n l, RisF (setM M n l) := fun h n l => by
      unfold setM
      split
      · exact ris_del h _
      · exact ris_put h _ _
    unfold dropM
    exact hs (dropLM_ris all _ _ _ hI.ris) _ _
  · have hF : Full (dropM M n all) := by
      unfold dropM
      rw [h2]
      exact full_set ((show Full M from fun n hn => (hI.small n (mem_owners.2 hn)).2.2).same hg) hokK
    have hne := hF m (mem_owners.1 hm)
    cases hl : pathsM (dropM M n all) m with
    | nil => exact absurd hl hne
    | cons q r =>
      have := hI.small m (pathsM_owner (hsub m q (by rw [hl]; exact List.mem_cons_self ..)))
      exact ⟨this.1, this.2.1, by simp⟩
  · rw [hp]
    split
    · exact (hI.nodup n).sublist h1
    · exact hI.nodup m
end Go.Proofs.YtofogjfemlhffaaGreatDoor

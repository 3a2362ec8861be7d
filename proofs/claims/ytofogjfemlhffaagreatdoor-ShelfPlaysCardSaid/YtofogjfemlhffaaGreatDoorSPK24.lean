/- The shelf and the reference's: what they have in common, and that each call keeps it. Plain. · The reference's shelf in memory: three maps; what a call on it leaves. -/
import Derived.Test.YtofogjfemlhffaaGreatDoorSPK23
import Derived.Test.YtofogjfemlhffaaGreatDoorSPK8
namespace Go.Proofs.YtofogjfemlhffaaGreatDoor
open Go Go.RowKit Go.Maps

def SrtB (l : List ByteArray) : Prop := l.Pairwise fun a b => befB a b = true
theorem SrtB.nodup {l : List ByteArray} (h : SrtB l) : l.Nodup := h.imp fun h => befB_ne h
theorem srt_ext : ∀ {l L : List ByteArray}, SrtB l → SrtB L → (∀ x, x ∈ l ↔ x ∈ L) → l = L
  | [], [], _, _, _ => rfl
  | [], y :: L, _, _, h => by have := (h y).2 (List.mem_cons_self ..); cases this
  | x :: l, [], _, _, h => by have := (h x).1 (List.mem_cons_self ..); cases this
  | x :: l, y :: L, h1, h2, h => by
    obtain ⟨hx, k1⟩ := List.pairwise_cons.1 h1
    obtain ⟨hy, k2⟩ := List.pairwise_cons.1 h2
    have e : x = y := by
      rcases List.mem_cons.1 ((h x).1 (List.mem_cons_self ..)) with e | hm
      · exact e
      · rcases List.mem_cons.1 ((h y).2 (List.mem_cons_self ..)) with e | hm2
        · exact e.symm
        · have a := hy x hm
          rw [befB_asym (hx y hm2)] at a
          cases a
    subst e
    refine congrArg (x :: ·) (srt_ext k1 k2 fun z => ⟨fun hz => ?_, fun hz => ?_⟩)
    · rcases List.mem_cons.1 ((h z).1 (List.mem_cons_of_mem _ hz)) with e | hm
      · exact absurd (hx z hz) (by rw [e, befB_irr]; decide)
      · exact hm
    · rcases List.mem_cons.1 ((h z).2 (List.mem_cons_of_mem _ hz)) with e | hm
      · exact absurd (hy z hz) (by rw [e, befB_irr]; decide)
      · exact hm
theorem srt_sort {l : List ByteArray} (h : l.Nodup) : SrtB (sortB l) := by
  have h1 := List.pairwise_mergeSort le_trans_b le_total_b (l.map fun s => s.data.toList)
  have h2 : (sortB l).Nodup := (sortB_perm l).nodup_iff.2 h
  unfold sortB at h2 ⊢
  unfold SrtB
  rw [List.pairwise_map] at *
  rw [List.Nodup, List.pairwise_map] at h2
  refine List.Pairwise.imp₂ (fun a b h3 h4 => ?_) h1 h2
  rw [befB_iff]
  refine Std.lt_of_le_of_ne (of_decide_eq_true h3) fun e => h4 ?_
  show (⟨a.toArray⟩ : ByteArray) = ⟨b.toArray⟩
  rw [show a = b from e]

/-! the reference's maps -/
def pathsR (W : Fm) (n : ByteArray) : List ByteArray := (W.filter fun p => decide (p.2 = n)).map (·.1)
theorem mem_pathsR {W : Fm} (h : RisF W) {n q : ByteArray} : q ∈ pathsR W n ↔ getF W q = some n := by
  unfold pathsR
  rw [List.mem_map, ← getF_mem h]
  constructor
  · rintro ⟨p, hp, rfl⟩
    obtain ⟨h1, h2⟩ := List.mem_filter.1 hp
    rw [← of_decide_eq_true h2]
    exact h1
  · intro hm
    exact ⟨(q, n), List.mem_filter.2 ⟨hm, decide_eq_true rfl⟩, rfl⟩
theorem srt_pathsR {W : Fm} (h : RisF W) (n : ByteArray) : SrtB (pathsR W n) := by
  unfold pathsR SrtB
  rw [List.pairwise_map]
  exact List.Pairwise.sublist List.filter_sublist h
/-- all that have paths -/
def OwnersR (W : Fm) (l : List ByteArray) : Prop := SrtB l ∧ ∀ n, n ∈ l ↔ ∃ q, getF W q = some n

/-- the shelf's map, and the reference's three -/
structure RelS (M W D S : Fm) : Prop where
  inv : OwnInv M
  srt : ∀ n, SrtB (pathsM M n)
  w : RisF W
  d : RisF D
  s : RisF S
  th : ∀ p, getF M (thP ++ p) = getF D p
  sp : ∀ p, getF M (spP ++ p) = getF S p
  ow : ∀ n q, q ∈ pathsM M n ↔ getF W q = some n
theorem relS_nil : RelS [] [] [] [] := by
  refine ⟨ownInv_nil, fun n => List.Pairwise.nil, ris_nil, ris_nil, ris_nil, fun _ => rfl, fun _ => rfl, fun n q => ⟨fun h => ?_, fun h => ?_⟩⟩
  · cases h
  · cases h
theorem RelS.paths {M W D S : Fm} (h : RelS M W D S) (n : ByteArray) : pathsM M n = pathsR W n :=
  srt_ext (h.srt n) (srt_pathsR h.w n) fun q => by rw [h.ow, mem_pathsR h.w]
theorem lt_of_app : ∀ (a : List UInt8) {x y : List UInt8}, a ++ x < a ++ y → x < y
  | [], _, _, h => h
  | c :: a, x, y, h => by
    rw [List.cons_append, List.cons_append, List.cons_lt_cons_iff] at h
    rcases h with h | ⟨_, h⟩
    · exact absurd h (UInt8.lt_irrefl c)
    · exact lt_of_app a h
theorem srt_names {M : Fm} (h : RisF M) (p : ByteArray) : SrtB (namesL p (keysF M)) := by
  have h1 := keys_ris h
  unfold namesL SrtB
  rw [List.pairwise_map]
  have h2 := List.Pairwise.sublist (List.filter_sublist (p := hasP p)) h1
  refine List.Pairwise.imp_of_mem (fun {a b} ha hb hab => ?_) h2
  obtain ⟨x, rfl⟩ := (hasP_iff p a).1 (List.mem_filter.1 ha).2
  obtain ⟨y, rfl⟩ := (hasP_iff p b).1 (List.mem_filter.1 hb).2
  rw [rest_cat, rest_cat]
  rw [befB_iff] at hab ⊢
  rw [append_data, append_data] at hab
  exact lt_of_app _ hab
theorem RelS.owners {M W D S : Fm} (h : RelS M W D S) : OwnersR W (ownersM M) := by
  refine ⟨srt_names h.inv.ris owP, fun n => ⟨fun hn => ?_, fun ⟨q, hq⟩ => pathsM_owner ((h.ow n q).2 hq)⟩⟩
  have hne := (h.inv.small n hn).2.2
  cases hl : pathsM M n with
  | nil => exact absurd hl hne
  | cons q r => exact ⟨q, (h.ow n q).1 (by rw [hl]; exact List.mem_cons_self ..)⟩
theorem OwnersR.eq {W : Fm} {l L : List ByteArray} (h1 : OwnersR W l) (h2 : OwnersR W L) : l = L := srt_ext h1.1 h2.1 fun n => by rw [h1.2, h2.2]

/-! Put -/
def rputL (se : List ByteArray) : List Fv → List Bool → Fm → Fm → Fm × Fm
  | [], _, D, S => (D, S)
  | f :: r, a, D, S => if hasB se f.n then rputL se r (whatD (choiceD (getF S f.n) (getF D f.n) f.v) a).2 (if (whatD (choiceD (getF S f.n) (getF D f.n) f.v) a).1 = 0 then putF D f.n f.v else D) (putF S f.n f.v) else rputL se r a (putF D f.n f.v) (delF S f.n)
theorem rputL_rel (se : List ByteArray) : ∀ (l : List Fv) (a : List Bool) (M D S : Fm), RisF D → RisF S → (∀ p, getF M (thP ++ p) = getF D p) → (∀ p, getF M (spP ++ p) = getF S p) →
    RisF (rputL se l a D S).1 ∧ RisF (rputL se l a D S).2 ∧ (∀ p, getF (putLM se l a M) (thP ++ p) = getF (rputL se l a D S).1 p) ∧ ∀ p, getF (putLM se l a M) (spP ++ p) = getF (rputL se l a D S).2 p
  | [], _, _, _, _, hD, hS, h1, h2 => ⟨hD, hS, h1, h2⟩
  | f :: r, a, M, D, S, hD, hS, h1, h2 => by
    rw [putLM, rputL]
    by_cases hs : hasB se f.n = true
    · rw [if_pos hs, if_pos hs]
      have hc : choM M f = choiceD (getF S f.n) (getF D f.n) f.v := by unfold choM; rw [h1, h2]
      rw [hc]
      refine rputL_rel se r _ _ _ _ (by split; exact ris_put hD _ _; exact hD) (ris_put hS _ _) (fun p => ?_) fun p => ?_
      · unfold putSM
        rw [getF_put, if_neg (thsp p f.n)]
        split
        · rw [getF_put, getF_put, h1]
          by_cases e : p = f.n
          · rw [if_pos (by rw [e]), if_pos e]
          · rw [if_neg fun h => e (cat_inj.1 h), if_neg e]
        · exact h1 p
      · unfold putSM
        rw [getF_put, getF_put]
        by_cases e : p = f.n
        · rw [if_pos (by rw [e]), if_pos e]
        · rw [if_neg fun h => e (cat_inj.1 h), if_neg e]
          split
          · rw [getF_put, if_neg (Ne.symm (thsp f.n p)), h2]
          · exact h2 p
    · rw [if_neg hs, if_neg hs]
      refine rputL_rel se r _ _ _ _ (ris_put hD _ _) (ris_del hS _) (fun p => ?_) fun p => ?_
      · unfold putNM
        rw [getF_del, if_neg (thsp p f.n), getF_put, getF_put, h1]
        by_cases e : p = f.n
        · rw [if_pos (by rw [e]), if_pos e]
        · rw [if_neg fun h => e (cat_inj.1 h), if_neg e]
      · unfold putNM
        rw [getF_del, getF_del, getF_put, if_neg (Ne.symm (thsp f.n p)), h2]
        by_cases e : p = f.n
        · rw [if_pos (by rw [e]), if_pos e]
        · rw [if_neg fun h => e (cat_inj.1 h), if_neg e]
/-- what is no more in it goes -/
def rgoneL (ps : List ByteArray) (S : Fm) : List ByteArray → Fm → Fm → Fm × Fm
  | [], D, W => (D, W)
  | q :: r, D, W => if (!hasB ps q && (getF S q).isNone) = true then rgoneL ps S r (delF D q) (delF W q) else rgoneL ps S r D W
theorem rgoneL_ris (ps : List ByteArray) (S : Fm) : ∀ (l : List ByteArray) (D W : Fm), RisF D → RisF W → RisF (rgoneL ps S l D W).1 ∧ RisF (rgoneL ps S l D W).2
  | [], _, _, h1, h2 => ⟨h1, h2⟩
  | q :: r, D, W, h1, h2 => by
    rw [rgoneL]
    split
    · exact rgoneL_ris ps S r _ _ (ris_del h1 _) (ris_del h2 _)
    · exact rgoneL_ris ps S r _ _ h1 h2
theorem rgoneL_get (ps : List ByteArray) (S : Fm) (k : ByteArray) : ∀ (l : List ByteArray) (D W : Fm), (k ∈ l → hasB ps k = false → (getF S k).isNone = true → getF (rgoneL ps S l D W).1 k = none ∧ getF (rgoneL ps S l D W).2 k = none) ∧
    ((k ∉ l ∨ hasB ps k = true ∨ (getF S k).isNone = false) → getF (rgoneL ps S l D W).1 k = getF D k ∧ getF (rgoneL ps S l D W).2 k = getF W k)
  | [], _, _ => ⟨fun h => (by cases h), fun _ => ⟨rfl, rfl⟩⟩
  | q :: r, D, W => by
    rw [rgoneL]
    by_cases hc : (!hasB ps q && (getF S q).isNone) = true
    · rw [if_pos hc]
      rw [Bool.and_eq_true] at hc
      obtain ⟨h1, h2⟩ := rgoneL_get ps S k r (delF D q) (delF W q)
      by_cases e : k = q
      · subst e
        refine ⟨fun _ ha hb => ?_, fun h => ?_⟩
        · by_cases hr : k ∈ r
          · exact h1 hr ha hb
          · have := h2 (.inl hr)
            rw [this.1, this.2, getF_del, getF_del, if_pos rfl, if_pos rfl]
            exact ⟨rfl, rfl⟩
        · rcases h with h | h | h
          · exact absurd (List.mem_cons_self ..) h
          · rw [h] at hc; exact absurd hc.1 (by decide)
          · rw [h] at hc; exact absurd hc.2 (by decide)
      · refine ⟨fun hm ha hb => ?_, fun h => ?_⟩
        · rcases List.mem_cons.1 hm with e' | hm
          · exact absurd e' e
          · exact h1 hm ha hb
        · have := h2 (h.imp (fun h h' => h (List.mem_cons_of_mem _ h')) id)
          rw [this.1, this.2, getF_del, getF_del, if_neg e, if_neg e]
          exact ⟨rfl, rfl⟩
    · rw [if_neg hc]
      obtain ⟨h1, h2⟩ := rgoneL_get ps S k r D W
      refine ⟨fun hm ha hb => ?_, fun h => ?_⟩
      · rcases List.mem_cons.1 hm with e' | hm
        · subst e'
          rw [ha, hb] at hc
          exact absurd rfl hc
        · exact h1 hm ha hb
      · by_cases hr : k ∈ r
        · rcases h with h | h
          · exact absurd (List.mem_cons_of_mem _ hr) h
          · exact h2 (.inr h)
        · exact h2 (.inl hr)
/-- what lay there is the program's: what owned takes away -/
theorem own2M_th (q : ByteArray) : ∀ (l ps : List ByteArray) (M : Fm), q ∈ l → hasB ps q = false → (getF M (spP ++ q)).isNone = true → l.Nodup → getF (own2M l ps M).1 (thP ++ q) = none
  | [], _, _, h, _, _, _ => by cases h
  | x :: r, ps, M, hm, hp, hs, hd => by
    obtain ⟨hx, hd⟩ := List.nodup_cons.1 hd
    rw [own2M]
    by_cases e : q = x
    · subst e
      rw [if_neg (by rw [hp]; decide), if_pos hs, own2M_get _ r ps _ fun y hy h => absurd hy (by rw [← cat_inj.1 h]; exact hx), getF_del, if_pos rfl]
    · have hr : q ∈ r := by
        rcases List.mem_cons.1 hm with h | h
        · exact absurd h e
        · exact h
      split
      · exact own2M_th q r ps M hr hp hs hd
      · split
        · exact own2M_th q r ps _ hr hp (by rw [getF_del, if_neg (Ne.symm (thsp x q))]; exact hs) hd
        · exact own2M_th q r _ M hr (by rw [hasB_app e]; exact hp) hs hd
theorem put_th_gone {M : Fm} (hI : ∀ n, OkL (pathsM M n)) {pn : ByteArray} (hd : (pathsM M pn).Nodup) (se : List ByteArray) (fi : List Fv) (a : List Bool) (q : ByteArray) :
    getF (putM M pn se fi a) (thP ++ q) = if hasB (pathsM M pn) q = true ∧ hasB (fi.map (·.n)) q = false ∧ (getF M (spP ++ q)).isNone = true then none else getF (putLM se fi a M) (thP ++ q) := by
  have h0 : ∀ n, pathsM (putLM se fi a M) n = pathsM M n := fun n => pathsM_same (putLM_ow se fi a M n)
  have h1 := own1M_all pn (fi.map (·.n)) (putLM se fi a M) (fun n => by rw [h0]; exact hI n) pn
  rw [if_pos rfl, h0] at h1
  have hsp : ∀ x, hasB (fi.map (·.n)) x = false → getF (own1M pn (fi.map (·.n)) (ownersM (putLM se fi a M)) (putLM se fi a M)) (spP ++ x) = getF M (spP ++ x) := fun x hx => by
    rw [own1M_get pn _ _ (fun n => spow x n), putLM_sp se fi a M fun h => by rw [hasB_iff.2 h] at hx; cases hx]
  unfold putM ownedM
  rw [setM_get _ (thow q pn), h1]
  by_cases hc : hasB (pathsM M pn) q = true ∧ hasB (fi.map (·.n)) q = false ∧ (getF M (spP ++ q)).isNone = true
  · rw [if_pos hc]
    exact own2M_th q _ _ _ (hasB_iff.1 hc.1) hc.2.1 (by rw [hsp q hc.2.1]; exact hc.2.2) hd
  · rw [if_neg hc, own2M_get _ _ _ _ fun x hx e => ?_, own1M_get pn _ _ (fun n => thow q n)]
    have e := cat_inj.1 e
    subst e
    cases hb : hasB (fi.map (·.n)) q with
    | true => exact .inl rfl
    | false =>
      refine .inr ?_
      rw [hsp q hb]
      cases hg : getF M (spP ++ q) with
      | some s => rfl
      | none => exact absurd ⟨hasB_iff.2 hx, hb, by rw [hg]; rfl⟩ hc
/-- each call keeps what they have in common: Put -/
theorem relS_put {M W D S W2 : Fm} (h : RelS M W D S) {pn : ByteArray} (hp : pn.size ≤ 60 ∧ pn.size ≠ 0) (se : List ByteArray) {fi : List Fv} (a : List Bool) (hf : FilesFit fi) (hc : FreeOf M pn fi)
    (hW : RisF W2) (hG : ∀ k, getF W2 k = if hasB (fi.map (·.n)) k = true then some pn else getF (rgoneL (fi.map (·.n)) (rputL se fi a D S).2 (pathsR W pn) (rputL se fi a D S).1 W).2 k) :
    RelS (putM M pn se fi a) W2 (rgoneL (fi.map (·.n)) (rputL se fi a D S).2 (pathsR W pn) (rputL se fi a D S).1 W).1 (rputL se fi a D S).2 := by
  obtain ⟨r1, r2, r3, r4⟩ := rputL_rel se fi a M D S h.d h.s h.th h.sp
  have hP := put_paths h.inv.ok (h.inv.nodup pn) se a hf.ok
  have hsps : ∀ q, hasB (fi.map (·.n)) q = false → getF (rputL se fi a D S).2 q = getF M (spP ++ q) := fun q hq => by
    rw [← r4, putLM_sp se fi a M fun h => by rw [hasB_iff.2 h] at hq; cases hq]
  have hgo := fun q => rgoneL_get (fi.map (·.n)) (rputL se fi a D S).2 q (pathsR W pn) (rputL se fi a D S).1 W
  have hri := rgoneL_ris (fi.map (·.n)) (rputL se fi a D S).2 (pathsR W pn) (rputL se fi a D S).1 W r1 h.w
  have hnd : (minePs M pn (fi.map (·.n))).Nodup := by
    unfold minePs
    refine List.nodup_append.2 ⟨hf.nodup, (h.inv.nodup pn).filter _, fun x hx y hy e => ?_⟩
    have := (List.mem_filter.1 hy).2
    unfold keptQ at this
    rw [← e, hasB_iff.2 hx] at this
    cases this
  refine ⟨put_inv h.inv hp se a hf hc, fun n => ?_, hW, hri.1, r2, fun q => ?_, fun q => by rw [put_sp, r4], fun n q => ?_⟩
  · rw [hP]
    split
    · exact srt_sort hnd
    · exact List.Pairwise.sublist List.filter_sublist (h.srt n)
  · rw [put_th_gone h.inv.ok (h.inv.nodup pn), r3, h.paths]
    by_cases hq : hasB (pathsR W pn) q = true ∧ hasB (fi.map (·.n)) q = false ∧ (getF M (spP ++ q)).isNone = true
    · rw [if_pos hq]
      exact ((hgo q).1 (hasB_iff.1 hq.1) hq.2.1 (by rw [hsps q hq.2.1]; exact hq.2.2)).1.symm
    · rw [if_neg hq]
      refine ((hgo q).2 ?_).1.symm
      by_cases h1 : q ∈ pathsR W pn
      · refine .inr ?_
        cases hb : hasB (fi.map (·.n)) q with
        | true => exact .inl rfl
        | false =>
          refine .inr ?_
          rw [hsps q hb]
          cases hg : getF M (spP ++ q) with
          | some s => rfl
          | none => exact absurd ⟨hasB_iff.2 h1, hb, by rw [hg]; rfl⟩ hq
      · exact .inl h1
  · rw [hP, hG]
    by_cases hb : hasB (fi.map (·.n)) q = true
    · rw [if_pos hb]
      by_cases e : n = pn
      · rw [if_pos e, sortB_mem, e]
        exact ⟨fun _ => rfl, fun _ => List.mem_append_left _ (hasB_iff.1 hb)⟩
      · rw [if_neg e, leftM_mem]
        exact ⟨fun h' => absurd (hasB_iff.1 hb) h'.2, fun h' => absurd (Option.some.inj h').symm e⟩
    · rw [if_neg hb]
      have hb' : hasB (fi.map (·.n)) q = false := by simpa using hb
      have hnm : q ∉ fi.map (·.n) := fun h' => hb (hasB_iff.2 h')
      by_cases e : n = pn
      · subst e
        rw [if_pos rfl, sortB_mem]
        unfold minePs
        rw [List.mem_append, List.mem_filter, h.paths]
        by_cases hq : q ∈ pathsR W n
        · cases hs : (getF M (spP ++ q)).isNone with
          | true =>
            have := ((hgo q).1 hq hb' (by rw [hsps q hb']; exact hs)).2
            rw [this]
            constructor
            · rintro (h' | ⟨_, h'⟩)
              · exact absurd h' hnm
              · unfold keptQ at h'
                rw [hb'] at h'
                cases hg : getF M (spP ++ q) with
                | none => rw [hg] at h'; cases h'
                | some s => rw [hg] at hs; cases hs
            · intro h'; cases h'
          | false =>
            have := ((hgo q).2 (.inr (.inr (by rw [hsps q hb']; exact hs)))).2
            rw [this, (mem_pathsR h.w).1 hq]
            refine ⟨fun _ => rfl, fun _ => .inr ⟨hq, ?_⟩⟩
            unfold keptQ
            rw [hb']
            cases hg : getF M (spP ++ q) with
            | none => rw [hg] at hs; cases hs
            | some s => rfl
        · have := ((hgo q).2 (.inl hq)).2
          rw [this, ← mem_pathsR h.w]
          constructor
          · rintro (h' | h')
            · exact absurd h' hnm
            · exact h'.1
          · intro h'; exact absurd h' hq
      · rw [if_neg e, leftM_mem, h.ow]
        have hk : q ∈ pathsR W pn → getF W q ≠ some n := fun h1 h2 => by
          rw [(mem_pathsR h.w).1 h1] at h2
          exact e (Option.some.inj h2).symm
        by_cases hq : q ∈ pathsR W pn
        · have hne := hk hq
          constructor
          · rintro ⟨h', _⟩; exact absurd h' hne
          · intro h'
            exfalso
            cases hs : (getF M (spP ++ q)).isNone with
            | true =>
              rw [((hgo q).1 hq hb' (by rw [hsps q hb']; exact hs)).2] at h'
              cases h'
            | false =>
              rw [((hgo q).2 (.inr (.inr (by rw [hsps q hb']; exact hs)))).2] at h'
              exact hne h'
        · rw [((hgo q).2 (.inl hq)).2]
          exact ⟨fun h' => h'.1, fun h' => ⟨h', hnm⟩⟩

/-! Drop -/
def rdropL (all : Bool) : List ByteArray → Fm → Fm → Fm → Fm × Fm × Fm
  | [], W, D, S => (W, D, S)
  | q :: r, W, D, S => if (!(getF S q).isNone && !all) = true then rdropL all r W D S else rdropL all r (delF W q) (delF D q) (delF S q)
theorem hasB_cons (x : ByteArray) (l : List ByteArray) (q : ByteArray) : hasB (x :: l) q = (decide (x = q) || hasB l q) := by
  unfold hasB
  rw [List.any_cons]
theorem hasB_no {l : List ByteArray} {q : ByteArray} (h : q ∉ l) : hasB l q = false := by
  cases hb : hasB l q with
  | false => rfl
  | true => exact absurd (hasB_iff.1 hb) h
theorem rdropL_ris (all : Bool) : ∀ (l : List ByteArray) (W D S : Fm), RisF W → RisF D → RisF S → RisF (rdropL all l W D S).1 ∧ RisF (rdropL all l W D S).2.1 ∧ RisF (rdropL all l W D S).2.2
  | [], _, _, _, h1, h2, h3 => ⟨h1, h2, h3⟩
  | q :: r, W, D, S, h1, h2, h3 => by
    rw [rdropL]
    split
    · exact rdropL_ris all r _ _ _ h1 h2 h3
    · exact rdropL_ris all r _ _ _ (ris_del h1 _) (ris_del h2 _) (ris_del h3 _)
/-- the paths that stay, on both sides -/
theorem rdropL_rel (all : Bool) : ∀ (l left : List ByteArray) (M W D S : Fm), l.Nodup → (∀ p, getF M (thP ++ p) = getF D p) → (∀ p, getF M (spP ++ p) = getF S p) →
    (∀ p, getF (dropLM all l left M).1 (thP ++ p) = getF (rdropL all l W D S).2.1 p) ∧ (∀ p, getF (dropLM all l left M).1 (spP ++ p) = getF (rdropL all l W D S).2.2 p) ∧
    ∃ K, K.Sublist l ∧ (dropLM all l left M).2 = left ++ K ∧ (∀ q, getF (rdropL all l W D S).1 q = if (hasB l q && !hasB K q) = true then none else getF W q)
  | [], left, _, _, _, _, _, h1, h2 => ⟨h1, h2, [], List.Sublist.slnil, (List.append_nil _).symm, fun q => rfl⟩
  | x :: r, left, M, W, D, S, hd, h1, h2 => by
    obtain ⟨hx, hd⟩ := List.nodup_cons.1 hd
    rw [dropLM, rdropL, h2]
    split
    · obtain ⟨a, b, K, k1, k2, k3⟩ := rdropL_rel all r (left ++ [x]) M W D S hd h1 h2
      refine ⟨a, b, x :: K, k1.cons_cons x, by rw [k2, List.append_assoc]; rfl, fun q => ?_⟩
      rw [k3, hasB_cons, hasB_cons]
      by_cases e : q = x
      · subst e
        rw [show hasB r q = false from hasB_no hx, decide_eq_true rfl]
        simp
      · rw [decide_eq_false (Ne.symm e), Bool.false_or, Bool.false_or]
    · obtain ⟨a, b, K, k1, k2, k3⟩ := rdropL_rel all r left (delF (delF M (thP ++ x)) (spP ++ x)) (delF W x) (delF D x) (delF S x) hd (fun p => by
          rw [getF_del, if_neg (thsp p x), getF_del, getF_del, h1]
          by_cases e : p = x
          · rw [if_pos (by rw [e]), if_pos e]
          · rw [if_neg fun h => e (cat_inj.1 h), if_neg e]) (fun p => by
          rw [getF_del, getF_del, getF_del, if_neg (Ne.symm (thsp x p)), h2]
          by_cases e : p = x
          · rw [if_pos (by rw [e]), if_pos e]
          · rw [if_neg fun h => e (cat_inj.1 h), if_neg e])
      refine ⟨a, b, K, k1.cons x, k2, fun q => ?_⟩
      rw [k3, getF_del, hasB_cons]
      by_cases e : q = x
      · subst e
        rw [if_pos rfl, show hasB K q = false from hasB_no fun h => hx (k1.subset h), decide_eq_true rfl]
        simp
      · rw [decide_eq_false (Ne.symm e), Bool.false_or, if_neg e]
theorem relS_drop {M W D S : Fm} (h : RelS M W D S) (n : ByteArray) (all : Bool) : RelS (dropM M n all) (rdropL all (pathsR W n) W D S).1 (rdropL all (pathsR W n) W D S).2.1 (rdropL all (pathsR W n) W D S).2.2 := by
  obtain ⟨r1, r2, r3⟩ := rdropL_ris all (pathsR W n) W D S h.w h.d h.s
  obtain ⟨K', hK1, hK2, hK3, hK4⟩ := drop_paths h.inv n all
  obtain ⟨a, b, K, k1, k2, k3⟩ := rdropL_rel all (pathsM M n) [] M W D S (h.inv.nodup n) h.th h.sp
  rw [List.nil_append] at k2
  have hok : OkL K := (h.inv.ok n).sub fun _ hx => k1.subset hx
  have hp : ∀ m, pathsM (dropM M n all) m = if m = n then K else pathsM M m := fun m => by
    unfold dropM
    rw [k2, pathsM_set hok, pathsM_same (dropLM_get all _ _ _ _ fun q _ => ⟨Ne.symm (thow q m), Ne.symm (spow q m)⟩)]
  rw [← h.paths n] at r1 r2 r3 ⊢
  refine ⟨hK4, fun m => ?_, r1, r2, r3, fun p => ?_, fun p => ?_, fun m q => ?_⟩
  · rw [hp]
    split
    · exact List.Pairwise.sublist k1 (h.srt n)
    · exact h.srt m
  · unfold dropM
    rw [setM_get _ (thow p n)]
    exact a p
  · unfold dropM
    rw [setM_get _ (spow p n)]
    exact b p
  · rw [hp, k3]
    by_cases e : m = n
    · subst e
      rw [if_pos rfl]
      by_cases hK : q ∈ K
      · rw [hasB_iff.2 hK, Bool.not_true, Bool.and_false, if_neg (by decide)]
        exact ⟨fun h' => (h.ow m q).1 (k1.subset h'), fun _ => hK⟩
      · rw [hasB_no hK, Bool.not_false, Bool.and_true]
        by_cases hq : q ∈ pathsM M m
        · rw [if_pos (hasB_iff.2 hq)]
          exact ⟨fun h' => absurd h' hK, fun h' => (by cases h')⟩
        · rw [if_neg fun h' => hq (hasB_iff.1 h')]
          exact ⟨fun h' => absurd h' hK, fun h' => absurd ((h.ow m q).2 h') hq⟩
    · rw [if_neg e, h.ow]
      by_cases hq : (hasB (pathsM M n) q && !hasB K q) = true
      · rw [if_pos hq]
        refine ⟨fun h' => ?_, fun h' => (by cases h')⟩
        rw [Bool.and_eq_true] at hq
        rw [(h.ow n q).1 (hasB_iff.1 hq.1)] at h'
        exact absurd (Option.some.inj h').symm e
      · rw [if_neg hq]

/-! Edit -/
theorem relS_edit {M W D S : Fm} (h : RelS M W D S) (p s : ByteArray) : RelS (putF M (thP ++ p) s) W (putF D p s) S := by
  have hg : ∀ n, getF (putF M (thP ++ p) s) (owP ++ n) = getF M (owP ++ n) := fun n => by rw [getF_put, if_neg (Ne.symm (thow p n))]
  have hp : ∀ n, pathsM (putF M (thP ++ p) s) n = pathsM M n := fun n => pathsM_same (hg n)
  refine ⟨⟨ris_put h.inv.ris _ _, fun n hn => ?_, fun n q hq => h.inv.path n q (by rw [← hp]; exact hq), fun n => by rw [hp]; exact h.inv.nodup n, fun n m q hnm hq => by rw [hp] at hq ⊢; exact h.inv.one n m q hnm hq, fun n m q r hnm hq hr => h.inv.apart n m q r hnm (by rw [← hp]; exact hq) (by rw [← hp]; exact hr)⟩,
    fun n => by rw [hp]; exact h.srt n, h.w, ris_put h.d _ _, h.s, fun q => ?_, fun q => by rw [getF_put, if_neg (Ne.symm (thsp p q)), h.sp], fun n q => by rw [hp]; exact h.ow n q⟩
  · rw [hp]
    exact h.inv.small n (mem_owners.2 (by rw [← hg]; exact mem_owners.1 hn))
  · rw [getF_put, getF_put, h.th]
    by_cases e : q = p
    · rw [if_pos (by rw [e]), if_pos e]
    · rw [if_neg fun h => e (cat_inj.1 h), if_neg e]
theorem relS_strike {M W D S : Fm} (h : RelS M W D S) (p : ByteArray) : RelS (delF M (thP ++ p)) W (delF D p) S := by
  have hg : ∀ n, getF (delF M (thP ++ p)) (owP ++ n) = getF M (owP ++ n) := fun n => by rw [getF_del, if_neg (Ne.symm (thow p n))]
  have hp : ∀ n, pathsM (delF M (thP ++ p)) n = pathsM M n := fun n => pathsM_same (hg n)
  refine ⟨⟨ris_del h.inv.ris _, fun n hn => ?_, fun n q hq => h.inv.path n q (by rw [← hp]; exact hq), fun n => by rw [hp]; exact h.inv.nodup n, fun n m q hnm hq => by rw [hp] at hq ⊢; exact h.inv.one n m q hnm hq, fun n m q r hnm hq hr => h.inv.apart n m q r hnm (by rw [← hp]; exact hq) (by rw [← hp]; exact hr)⟩,
    fun n => by rw [hp]; exact h.srt n, h.w, ris_del h.d _, h.s, fun q => ?_, fun q => by rw [getF_del, if_neg (Ne.symm (thsp p q)), h.sp], fun n q => by rw [hp]; exact h.ow n q⟩
  · rw [hp]
    exact h.inv.small n (mem_owners.2 (by rw [← hg]; exact mem_owners.1 hn))
  · rw [getF_del, getF_del, h.th]
    by_cases e : q = p
    · rw [if_pos (by rw [e]), if_pos e]
    · rw [if_neg fun h => e (cat_inj.1 h), if_neg e]
/-- whose a path is -/
theorem RelS.owner {M W D S : Fm} (h : RelS M W D S) (p : ByteArray) : ((ownersM M).find? fun n => hasB (pathsM M n) p) = getF W p := by
  cases hf : (ownersM M).find? fun n => hasB (pathsM M n) p with
  | some n =>
    have := List.find?_some hf
    exact ((h.ow n p).1 (hasB_iff.1 this)).symm
  | none =>
    cases hg : getF W p with
    | none => rfl
    | some n =>
      have hp := (h.ow n p).2 hg
      exact absurd (hasB_iff.2 hp) (List.find?_eq_none.1 hf n (pathsM_owner hp))
end Go.Proofs.YtofogjfemlhffaaGreatDoor

namespace Go.Proofs.YtofogjfemlhffaaGreatDoor
open Go Go.RowKit Go.Maps

structure RShAt (W : World) (r b0 b1 b2 : Nat) (Wm Dm Sm : Fm) : Prop where
  bx : Blk 66 W r #[.map (some b0), .map (some b1), .map (some b2)]
  m0 : MapAt W b0 Wm
  m1 : MapAt W b1 Dm
  m2 : MapAt W b2 Sm
  d01 : b0 ≠ b1
  d02 : b0 ≠ b2
  d12 : b1 ≠ b2
/-- all below n but the three maps is as it was -/
structure ROff (n b0 b1 b2 : Nat) (w w' : World) : Prop where
  os : w'.os = w.os
  tape : w'.tape = w.tape
  output : w'.output = w.output
  size : w.heap.size ≤ w'.heap.size
  block : ∀ i, i < n → i ≠ b0 → i ≠ b1 → i ≠ b2 → w'.heap[i]? = w.heap[i]?
theorem ROff.of {n b0 b1 b2 : Nat} {w w' : World} (h : Below n w w') : ROff n b0 b1 b2 w w' := ⟨h.os, h.tape, h.output, h.size, fun i hi _ _ _ => h.block i hi⟩
theorem ROff.refl (n b0 b1 b2 : Nat) (w : World) : ROff n b0 b1 b2 w w := .of (Below.refl _ _)
theorem ROff.trans {n b0 b1 b2 : Nat} {a b c : World} (h : ROff n b0 b1 b2 a b) (k : ROff n b0 b1 b2 b c) : ROff n b0 b1 b2 a c :=
  ⟨k.os.trans h.os, k.tape.trans h.tape, k.output.trans h.output, Nat.le_trans h.size k.size, fun i hi h0 h1 h2 => (k.block i hi h0 h1 h2).trans (h.block i hi h0 h1 h2)⟩
theorem ROff.mono {n m b0 b1 b2 : Nat} {w w' : World} (h : ROff n b0 b1 b2 w w') (hm : m ≤ n) : ROff m b0 b1 b2 w w' := ⟨h.os, h.tape, h.output, h.size, fun i hi => h.block i (by omega)⟩
theorem ROff.go {n b0 b1 b2 : Nat} {a b c : World} (h : ROff n b0 b1 b2 a b) (hb : Below b.heap.size b c) (hn : n ≤ b.heap.size) : ROff n b0 b1 b2 a c := h.trans (.of (hb.mono hn))
theorem ROff.turn {n b0 b1 b2 b : Nat} {w w' : World} (ht : w.mapTurned w' b) (hb : b = b0 ∨ b = b1 ∨ b = b2) : ROff n b0 b1 b2 w w' := by
  obtain ⟨h1, h2, h3⟩ := turned_os ht
  refine ⟨h1, h2, h3, by rw [turned_size ht]; exact Nat.le_refl _, fun i _ k0 k1 k2 => turned_block ht fun e => ?_⟩
  rcases hb with h | h | h
  · exact k0 (e.trans h)
  · exact k1 (e.trans h)
  · exact k2 (e.trans h)
theorem rblk_map {T : TypeId} {W : World} {g b : Nat} {cs : Array Value} {M : Fm} (h : Blk T W g cs) (hm : MapAt W b M) : g ≠ b := by
  rintro rfl
  obtain ⟨⟨es, clock, hh, _⟩, _⟩ := hm
  have h2 : W.heap[g]? = some (.cells cs T (0, 0)) := h
  rw [h2] at hh
  cases hh
theorem RShAt.keep {W W' : World} {r b0 b1 b2 : Nat} {Wm Dm Sm : Fm} (h : RShAt W r b0 b1 b2 Wm Dm Sm) (hb : Below W.heap.size W W') : RShAt W' r b0 b1 b2 Wm Dm Sm :=
  ⟨h.bx.keep hb, h.m0.keep (hb.block _ h.m0.lt), h.m1.keep (hb.block _ h.m1.lt), h.m2.keep (hb.block _ h.m2.lt), h.d01, h.d02, h.d12⟩
theorem RShAt.turn0 {W W' : World} {r b0 b1 b2 : Nat} {Wm Dm Sm M : Fm} (h : RShAt W r b0 b1 b2 Wm Dm Sm) (ht : W.mapTurned W' b0) (hm : MapAt W' b0 M) : RShAt W' r b0 b1 b2 M Dm Sm :=
  ⟨(turned_block ht (rblk_map h.bx h.m0)).trans h.bx, hm, h.m1.keep (turned_block ht (Ne.symm h.d01)), h.m2.keep (turned_block ht (Ne.symm h.d02)), h.d01, h.d02, h.d12⟩
theorem RShAt.turn1 {W W' : World} {r b0 b1 b2 : Nat} {Wm Dm Sm M : Fm} (h : RShAt W r b0 b1 b2 Wm Dm Sm) (ht : W.mapTurned W' b1) (hm : MapAt W' b1 M) : RShAt W' r b0 b1 b2 Wm M Sm :=
  ⟨(turned_block ht (rblk_map h.bx h.m1)).trans h.bx, h.m0.keep (turned_block ht h.d01), hm, h.m2.keep (turned_block ht (Ne.symm h.d12)), h.d01, h.d02, h.d12⟩
theorem RShAt.turn2 {W W' : World} {r b0 b1 b2 : Nat} {Wm Dm Sm M : Fm} (h : RShAt W r b0 b1 b2 Wm Dm Sm) (ht : W.mapTurned W' b2) (hm : MapAt W' b2 M) : RShAt W' r b0 b1 b2 Wm Dm M :=
  ⟨(turned_block ht (rblk_map h.bx h.m2)).trans h.bx, h.m0.keep (turned_block ht h.d02), h.m1.keep (turned_block ht h.d12), hm, h.d01, h.d02, h.d12⟩
/-- what a map's turn leaves alone -/
theorem map_cell {W W' : World} {b : Nat} {M : Fm} (h : MapAt W b M) (ht : W.mapTurned W' b) {a : Addr} {v : Value} (hc : W.cell? a = some v) : W'.cell? a = some v := by
  by_cases e : a.block = b
  · obtain ⟨⟨es, clock, hm, _⟩, _⟩ := h
    unfold World.cell? at hc
    rw [e, hm] at hc
    simp at hc
  · unfold World.cell? at hc ⊢
    rw [turned_block ht e]
    exact hc
theorem strs_cells {W W' : World} {v : Value} {l : List ByteArray} (h : StrsAt W v l) (hc : ∀ (a : Addr) (u : Value), W.cell? a = some u → W'.cell? a = some u) : StrsAt W' v l := by
  obtain ⟨A, c, hv, h1, h2, h3⟩ := h
  refine ⟨A, c, hv, h1, h2, fun hn => ?_⟩
  obtain ⟨b, off, hA, hi⟩ := h3 hn
  exact ⟨b, off, hA, fun j u hj => hc _ _ (hi j u hj)⟩
theorem RShAt.c0 {W : World} {r b0 b1 b2 : Nat} {Wm Dm Sm : Fm} (h : RShAt W r b0 b1 b2 Wm Dm Sm) : W.cell? ⟨r, 0, none⟩ = some (.map (some b0)) := h.bx.cell rfl
theorem RShAt.c1 {W : World} {r b0 b1 b2 : Nat} {Wm Dm Sm : Fm} (h : RShAt W r b0 b1 b2 Wm Dm Sm) : W.cell? ⟨r, 1, none⟩ = some (.map (some b1)) := h.bx.cell rfl
theorem RShAt.c2 {W : World} {r b0 b1 b2 : Nat} {Wm Dm Sm : Fm} (h : RShAt W r b0 b1 b2 Wm Dm Sm) : W.cell? ⟨r, 2, none⟩ = some (.map (some b2)) := h.bx.cell rfl
end Go.Proofs.YtofogjfemlhffaaGreatDoor

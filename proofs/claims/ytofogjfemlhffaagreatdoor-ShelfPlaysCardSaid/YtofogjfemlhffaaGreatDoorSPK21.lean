/- The shelf's Put: plain; what owned keeps. · What the shelf's steps make of the map on the disk, where there is power and room: plain. -/
import Derived.Test.YtofogjfemlhffaaGreatDoorSPK20
namespace Go.Proofs.YtofogjfemlhffaaGreatDoor
open Go Go.RowKit Go.Maps

theorem ownedD_fit {X Z : Nat} {D : Dk} (h : FitD X D) (pn : ByteArray) (ps : List ByteArray) (hz : (linesT ps).size ≤ Z) : FitD (X + Z + 2) (ownedD D pn ps).2 := by
  unfold ownedD thenD
  have h1 := own1_fit pn ps (ownersD D) D h
  generalize own1 pn ps (ownersD D) D = r at h1 ⊢
  obtain ⟨e, D1⟩ := r
  dsimp only at h1 ⊢
  split
  · obtain ⟨K, k1, k2⟩ := own2_sub (pathsD D1 pn) ps D1
    have h2 := own2_fit (pathsD D1 pn) ps D1 h1
    split
    · refine setD_fit (h2.mono (by omega)) pn _ ?_
      rw [lines_sort, k2]
      have h3 := lines_app ps K
      have h4 := lines_sub k1
      have h5 := lines_paths h1 pn
      omega
    · exact h2.mono (by omega)
  · exact h1.mono (by omega)

/-- what is done with a setting, the answers being asked -/
def whatD (c : Nat) (a : List Bool) : Nat × List Bool := match a with
  | [] => (c, [])
  | b :: r => if c = 2 then (if b then 0 else 2, r) else (c, b :: r)
def putS (D : Dk) (f : Fv) (c : Nat) : Int × Dk := thenD (if c = 0 then comesD D f.n f.v else (0, D)) fun D => keepsD D (spP ++ f.n) f.v
def putN (D : Dk) (f : Fv) : Int × Dk := thenD (comesD D f.n f.v) fun D => goneD D (spP ++ f.n)
def choD (D : Dk) (f : Fv) : Nat := choiceD (getF D.now (spP ++ f.n)) (getF D.now (thP ++ f.n)) f.v
def putL (se : List ByteArray) : List Fv → List Bool → Dk → Int × Dk
  | [], _, D => (0, D)
  | f :: r, a, D => if hasB se f.n then thenD (putS D f (whatD (choD D f) a).1) (putL se r (whatD (choD D f) a).2) else thenD (putN D f) (putL se r a)
/-- all the files put, and what is owned -/
def putFD (D : Dk) (pn : ByteArray) (se : List ByteArray) (fi : List Fv) (a : List Bool) : Int × Dk := thenD (putL se fi a D) fun D => ownedD D pn (fi.map (·.n))
theorem putS_fit {X : Nat} {D : Dk} (h : FitD X D) (f : Fv) (c : Nat) (hv : f.v.size ≤ X) : FitD X (putS D f c).2 := thenD_fit (by split; exact comesD_fit h _ _ hv; exact h) fun _ h => keepsD_fit h _ _ hv
theorem putN_fit {X : Nat} {D : Dk} (h : FitD X D) (f : Fv) (hv : f.v.size ≤ X) : FitD X (putN D f).2 := thenD_fit (comesD_fit h _ _ hv) fun _ h => goneD_fit h _
theorem putL_fit {X : Nat} (se : List ByteArray) : ∀ (l : List Fv) (a : List Bool) (D : Dk), (∀ f ∈ l, f.v.size ≤ X) → FitD X D → FitD X (putL se l a D).2
  | [], _, _, _, h => h
  | f :: r, a, D, hv, h => by
    rw [putL]
    split
    · exact thenD_fit (putS_fit h f _ (hv f (List.mem_cons_self ..))) fun D h => putL_fit se r _ D (fun g hg => hv g (List.mem_cons_of_mem _ hg)) h
    · exact thenD_fit (putN_fit h f (hv f (List.mem_cons_self ..))) fun D h => putL_fit se r _ D (fun g hg => hv g (List.mem_cons_of_mem _ hg)) h
theorem putFD_fit {X Z : Nat} {D : Dk} (h : FitD X D) (pn : ByteArray) (se : List ByteArray) (fi : List Fv) (a : List Bool) (hv : ∀ f ∈ fi, f.v.size ≤ X) (hz : (linesT (fi.map (·.n))).size ≤ Z) : FitD (X + Z + 2) (putFD D pn se fi a).2 := by
  unfold putFD thenD
  have h1 := putL_fit se fi a D hv h
  split
  · exact ownedD_fit h1 pn _ hz
  · exact h1.mono (by omega)
theorem putL_set {se : List ByteArray} {fi : List Fv} {a a' : List Bool} {D : Dk} {k c : Nat} {f : Fv} (hx : fi[k]? = some f) (h : hasB se f.n = true) (hw : whatD (choD D f) a = (c, a')) : putL se (fi.drop k) a D = thenD (putS D f c) (putL se (fi.drop (k + 1)) a') := by
  rw [dropL_cons hx, putL, if_pos h, hw]
theorem putL_new {se : List ByteArray} {fi : List Fv} {a : List Bool} {D : Dk} {k : Nat} {f : Fv} (hx : fi[k]? = some f) (h : hasB se f.n = false) : putL se (fi.drop k) a D = thenD (putN D f) (putL se (fi.drop (k + 1)) a) := by
  rw [dropL_cons hx, putL, if_neg (by rw [h]; decide)]
theorem putL_end {se : List ByteArray} {fi : List Fv} {a : List Bool} {D : Dk} {k : Nat} (h : fi.length ≤ k) : putL se (fi.drop k) a D = (0, D) := by
  rw [List.drop_of_length_le h]; rfl
end Go.Proofs.YtofogjfemlhffaaGreatDoor

namespace Go.Proofs.YtofogjfemlhffaaGreatDoor
open Go Go.RowKit Go.Maps

/-! keys -/
theorem cat_inj {a p q : ByteArray} : a ++ p = a ++ q ↔ p = q :=
  ⟨fun h => data_inj ((List.append_right_inj a.data.toList).1 (by rw [← append_data, ← append_data, h])), fun h => by rw [h]⟩
theorem cat_assoc (a b c : ByteArray) : a ++ b ++ c = a ++ (b ++ c) := data_inj (by rw [append_data, append_data, append_data, append_data, List.append_assoc])
theorem head_cat {a p : ByteArray} {x : UInt8} {r : List UInt8} (ha : a.data.toList = x :: r) : (a ++ p).data.toList.head? = some x := by rw [append_data, ha]; rfl
theorem thsp (p q : ByteArray) : thP ++ p ≠ spP ++ q := fun e => by
  have h1 := head_cat (a := thP) (p := p) (x := 102) (r := [47]) rfl
  rw [e, head_cat (a := spP) (p := q) (x := 111) (r := [47]) rfl] at h1
  exact absurd h1 (by decide)
theorem thow (p q : ByteArray) : thP ++ p ≠ owP ++ q := fun e => by
  have h1 := head_cat (a := thP) (p := p) (x := 102) (r := [47]) rfl
  rw [e, head_cat (a := owP) (p := q) (x := 119) (r := [47]) rfl] at h1
  exact absurd h1 (by decide)
theorem spow (p q : ByteArray) : spP ++ p ≠ owP ++ q := fun e => by
  have h1 := head_cat (a := spP) (p := p) (x := 111) (r := [47]) rfl
  rw [e, head_cat (a := owP) (p := q) (x := 119) (r := [47]) rfl] at h1
  exact absurd h1 (by decide)
theorem cmth (p q : ByteArray) : cmP ++ p ≠ thP ++ q := fun e => by
  have h1 := head_cat (a := cmP) (p := p) (x := 110) (r := [47]) rfl
  rw [e, head_cat (a := thP) (p := q) (x := 102) (r := [47]) rfl] at h1
  exact absurd h1 (by decide)
theorem cmsp (p q : ByteArray) : cmP ++ p ≠ spP ++ q := fun e => by
  have h1 := head_cat (a := cmP) (p := p) (x := 110) (r := [47]) rfl
  rw [e, head_cat (a := spP) (p := q) (x := 111) (r := [47]) rfl] at h1
  exact absurd h1 (by decide)
theorem cmow (p q : ByteArray) : cmP ++ p ≠ owP ++ q := fun e => by
  have h1 := head_cat (a := cmP) (p := p) (x := 110) (r := [47]) rfl
  rw [e, head_cat (a := owP) (p := q) (x := 119) (r := [47]) rfl] at h1
  exact absurd h1 (by decide)
theorem cw_eq (n : ByteArray) : cwP ++ n = cmP ++ (owP ++ n) := by
  rw [← cat_assoc]
  exact congrArg (· ++ n) (data_inj (by rw [append_data]; rfl))

/-! maps -/
theorem del_put {M : Fm} (hM : RisF M) {k v : ByteArray} (h : getF M k = none) : delF (putF M k v) k = M :=
  fm_ext (ris_del (ris_put hM k v) k) hM fun k' => by
    rw [getF_del, getF_put]
    by_cases e : k' = k
    · rw [if_pos e, e, h]
    · rw [if_neg e, if_neg e]
theorem put_same {M : Fm} (hM : RisF M) {k v : ByteArray} (h : getF M k = some v) : putF M k v = M :=
  fm_ext (ris_put hM k v) hM fun k' => by
    rw [getF_put]
    by_cases e : k' = k
    · rw [if_pos e, e, h]
    · rw [if_neg e]

/-! single steps -/
/-- a disk with power, of which nothing is about to come -/
structure Calm (D : Dk) : Prop where
  ok : DkOk D
  on : D.cut = false
  no : ∀ p, getF D.now (cmP ++ p) = none
  save : D.safe = D.now
theorem on_power {D : Dk} (h : D.cut = false) : powerD D = true := by unfold powerD; rw [h]; rfl
theorem step_same {D : Dk} (h : D.cut = false) : stepD D = D := by
  cases D
  simp only at h
  subst h
  rfl
theorem write_go {D : Dk} (h : D.cut = false) {f : ByteArray} (hn : nameD f = true) (hl : D.now.length < 5000) (s : ByteArray) : writeD D f s = (0, { D with now := putF D.now f s }) := by
  unfold writeD
  rw [if_neg (by rw [hn]; decide), if_neg (by rw [on_power h]; decide), if_neg (by rintro ⟨_, h⟩; omega), step_same h]
theorem sync_go {D : Dk} (h : D.cut = false) {f s : ByteArray} (hg : getF D.now f = some s) : syncD D f = (0, { D with safe := putF D.safe f s }) := by
  unfold syncD
  rw [hg]
  simp only
  rw [if_neg (by rw [on_power h]; decide), step_same h]
theorem move_go {D : Dk} (h : D.cut = false) {f g s : ByteArray} (hn : nameD g = true) (hg : getF D.now f = some s) : moveD D f g = (0, { D with now := putF (delF D.now f) g s, safe := movedS D.safe f g }) := by
  unfold moveD
  rw [if_neg (by rw [hn]; decide), hg]
  simp only
  rw [if_neg (by rw [on_power h]; decide), step_same h]
theorem remove_go {D : Dk} (h : D.cut = false) {f s : ByteArray} (hg : getF D.now f = some s) : removeD D f = (0, { D with now := delF D.now f, safe := delF D.safe f }) := by
  unfold removeD
  rw [hg]
  simp only
  rw [if_neg (by rw [on_power h]; decide), step_same h]

/-- a step answers none, and the map is so behind it -/
structure Goes (r : Int × Dk) (M : Fm) : Prop where
  none : r.1 = 0
  now : r.2.now = M
  calm : Calm r.2
theorem Goes.ris {r : Int × Dk} {M : Fm} (h : Goes r M) : RisF M := h.now ▸ h.calm.ok.ris
theorem Goes.same {D : Dk} (h : Calm D) : Goes (0, D) D.now := ⟨rfl, rfl, h⟩
theorem Goes.then_ {r : Int × Dk} {M M' : Fm} {k : Dk → Int × Dk} (h : Goes r M) (hk : ∀ D', Calm D' → D'.now = M → Goes (k D') M') : Goes (thenD r k) M' := by
  unfold thenD
  rw [if_pos h.none]
  exact hk _ h.calm h.now
theorem keeps_eq {D : Dk} (h : D.cut = false) {f : ByteArray} (hn : nameD f = true) (hl : D.now.length < 5000) (s : ByteArray) : ∃ S, S = putF D.safe f s ∧ keepsD D f s = (0, { D with now := putF D.now f s, safe := S }) := by
  unfold keepsD
  rw [write_go h hn hl, thenD_go, sync_go (D := { D with now := putF D.now f s }) (s := s) h (by rw [getF_put, if_pos rfl])]
  exact ⟨_, rfl, rfl⟩
theorem moved_put {M : Fm} (hM : RisF M) {f g s : ByteArray} (hf : getF M f = none) : movedS (putF M f s) f g = putF M g s :=
  fm_ext (ris_moved (ris_put hM f s) f g) (ris_put hM g s) fun k => by
    rw [getF_moved, getF_put, getF_put, getF_put, if_pos rfl]
    by_cases h1 : k = g
    · rw [if_pos h1, if_pos h1]
    · rw [if_neg h1, if_neg h1]
      by_cases h2 : k = f
      · rw [if_pos h2, h2, hf]
      · rw [if_neg h2, if_neg h2]
theorem keeps_goes {D : Dk} (h : Calm D) {f : ByteArray} (hn : nameD f = true) (hl : D.now.length < 5000) (hf : ∀ p, cmP ++ p ≠ f) (s : ByteArray) : Goes (keepsD D f s) (putF D.now f s) := by
  obtain ⟨S, hS, e⟩ := keeps_eq h.on hn hl s
  have ok := keepsD_ok h.ok f s
  rw [e] at ok ⊢
  exact ⟨rfl, rfl, ok, h.on, fun p => by show getF (putF D.now f s) _ = _; rw [getF_put, if_neg (hf p)]; exact h.no p, by show S = _; rw [hS, h.save]⟩
theorem comes_goes {D : Dk} (h : Calm D) {p : ByteArray} (h1 : nameD (cmP ++ p) = true) (h2 : nameD (thP ++ p) = true) (hl : D.now.length < 5000) (s : ByteArray) : Goes (comesD D p s) (putF D.now (thP ++ p) s) := by
  obtain ⟨S, hS, e⟩ := keeps_eq h.on h1 hl s
  have ok := comesD_ok h.ok p s
  have e2 : comesD D p s = (0, { D with now := putF D.now (thP ++ p) s, safe := movedS S (cmP ++ p) (thP ++ p) }) := by
    unfold comesD
    rw [e, thenD_go, move_go (D := { D with now := putF D.now (cmP ++ p) s, safe := S }) (s := s) h.on h2 (by rw [getF_put, if_pos rfl])]
    simp only
    rw [del_put h.ok.ris (h.no p)]
  rw [e2] at ok ⊢
  exact ⟨rfl, rfl, ok, h.on, fun q => by show getF (putF D.now (thP ++ p) s) _ = _; rw [getF_put, if_neg (cmth q p)]; exact h.no q, by show movedS S _ _ = _; rw [hS, h.save]; exact moved_put h.ok.ris (h.no p)⟩
theorem gone_goes {D : Dk} (h : Calm D) (f : ByteArray) : Goes (goneD D f) (delF D.now f) := by
  have ok := goneD_ok h.ok f
  unfold goneD at ok ⊢
  cases hg : getF D.now f with
  | none =>
    rw [if_pos rfl, del_none hg]
    exact Goes.same h
  | some s =>
    rw [hg] at ok
    rw [if_neg (by simp)] at ok ⊢
    rw [remove_go h.on hg] at ok ⊢
    exact ⟨rfl, rfl, ok, h.on, fun q => by show getF (delF D.now f) _ = _; rw [getF_del, h.no q]; split <;> rfl, by show delF D.safe f = _; rw [h.save]⟩
def setM (M : Fm) (n : ByteArray) (l : List ByteArray) : Fm := if l = [] then delF M (owP ++ n) else putF M (owP ++ n) (linesT l)
theorem set_goes {D : Dk} (h : Calm D) {n : ByteArray} (h1 : nameD (cwP ++ n) = true) (h2 : nameD (owP ++ n) = true) (hl : D.now.length < 5000) (l : List ByteArray) : Goes (setD D n l) (setM D.now n l) := by
  unfold setM
  by_cases hl0 : l = []
  · rw [if_pos hl0]
    unfold setD
    rw [if_pos hl0]
    exact gone_goes h _
  · rw [if_neg hl0]
    obtain ⟨S, hS, e⟩ := keeps_eq h.on h1 hl (linesT l)
    have ok := setD_ok h.ok n l
    have e2 : setD D n l = (0, { D with now := putF D.now (owP ++ n) (linesT l), safe := movedS S (cwP ++ n) (owP ++ n) }) := by
      unfold setD
      rw [if_neg hl0, e, thenD_go, move_go (D := { D with now := putF D.now (cwP ++ n) (linesT l), safe := S }) (s := linesT l) h.on h2 (by rw [getF_put, if_pos rfl])]
      simp only
      rw [del_put h.ok.ris (by rw [cw_eq]; exact h.no _)]
    rw [e2] at ok ⊢
    exact ⟨rfl, rfl, ok, h.on, fun q => by show getF (putF D.now (owP ++ n) _) _ = _; rw [getF_put, if_neg (cmow q n)]; exact h.no q, by show movedS S _ _ = _; rw [hS, h.save]; exact moved_put h.ok.ris (by rw [cw_eq]; exact h.no _)⟩

/-! names -/
theorem nameD_of {a p : ByteArray} (ha : 0 < a.size) (h : a.size + p.size ≤ 80) : nameD (a ++ p) = true := by
  unfold nameD
  rw [cat_size, decide_eq_true (by omega), decide_eq_true h]
  rfl
theorem name_th {p : ByteArray} (h : p.size ≤ 60) : nameD (thP ++ p) = true := nameD_of (by decide) (by show 2 + _ ≤ _; omega)
theorem name_sp {p : ByteArray} (h : p.size ≤ 60) : nameD (spP ++ p) = true := nameD_of (by decide) (by show 2 + _ ≤ _; omega)
theorem name_cm {p : ByteArray} (h : p.size ≤ 60) : nameD (cmP ++ p) = true := nameD_of (by decide) (by show 2 + _ ≤ _; omega)
theorem name_ow {p : ByteArray} (h : p.size ≤ 60) : nameD (owP ++ p) = true := nameD_of (by decide) (by show 2 + _ ≤ _; omega)
theorem name_cw {p : ByteArray} (h : p.size ≤ 60) : nameD (cwP ++ p) = true := nameD_of (by decide) (by show 4 + _ ≤ _; omega)

/-! Put -/
def choM (M : Fm) (f : Fv) : Nat := choiceD (getF M (spP ++ f.n)) (getF M (thP ++ f.n)) f.v
def putSM (M : Fm) (f : Fv) (c : Nat) : Fm := putF (if c = 0 then putF M (thP ++ f.n) f.v else M) (spP ++ f.n) f.v
def putNM (M : Fm) (f : Fv) : Fm := delF (putF M (thP ++ f.n) f.v) (spP ++ f.n)
def putLM (se : List ByteArray) : List Fv → List Bool → Fm → Fm
  | [], _, M => M
  | f :: r, a, M => if hasB se f.n then putLM se r (whatD (choM M f) a).2 (putSM M f (whatD (choM M f) a).1) else putLM se r a (putNM M f)
theorem putS_goes {D : Dk} (h : Calm D) (f : Fv) (c : Nat) (hz : f.n.size ≤ 60) (hl : D.now.length + 2 ≤ 5000) : Goes (putS D f c) (putSM D.now f c) := by
  unfold putS putSM
  by_cases hc : c = 0
  · rw [if_pos hc, if_pos hc]
    refine (comes_goes h (name_cm hz) (name_th hz) (by omega) f.v).then_ fun D' h' e => ?_
    rw [← e]
    refine keeps_goes h' (name_sp hz) ?_ (fun p => cmsp p _) f.v
    rw [e]
    have := len_put_le D.now (thP ++ f.n) f.v
    omega
  · rw [if_neg hc, if_neg hc]
    refine (Goes.same h).then_ fun D' h' e => ?_
    rw [← e]
    exact keeps_goes h' (name_sp hz) (by rw [e]; omega) (fun p => cmsp p _) f.v
theorem putN_goes {D : Dk} (h : Calm D) (f : Fv) (hz : f.n.size ≤ 60) (hl : D.now.length + 2 ≤ 5000) : Goes (putN D f) (putNM D.now f) := by
  unfold putN putNM
  refine (comes_goes h (name_cm hz) (name_th hz) (by omega) f.v).then_ fun D' h' e => ?_
  rw [← e]
  exact gone_goes h' _
theorem putSM_len (M : Fm) (f : Fv) (c : Nat) : (putSM M f c).length ≤ M.length + 2 := by
  unfold putSM
  have h1 := len_put_le (if c = 0 then putF M (thP ++ f.n) f.v else M) (spP ++ f.n) f.v
  have h2 := len_put_le M (thP ++ f.n) f.v
  have h3 : (if c = 0 then putF M (thP ++ f.n) f.v else M).length ≤ M.length + 1 := by split <;> omega
  omega
theorem putNM_len (M : Fm) (f : Fv) : (putNM M f).length ≤ M.length + 2 := by
  unfold putNM
  have h1 := len_del_le (putF M (thP ++ f.n) f.v) (spP ++ f.n)
  have h2 := len_put_le M (thP ++ f.n) f.v
  omega
theorem putL_goes (se : List ByteArray) : ∀ (l : List Fv) (a : List Bool) (D : Dk), Calm D → (∀ f ∈ l, f.n.size ≤ 60) → D.now.length + 2 * l.length ≤ 5000 → Goes (putL se l a D) (putLM se l a D.now)
  | [], _, D, h, _, _ => Goes.same h
  | f :: r, a, D, h, hz, hl => by
    have hl' : D.now.length + 2 * r.length + 2 ≤ 5000 := by rw [List.length_cons] at hl; omega
    have hf := hz f (List.mem_cons_self ..)
    have hr : ∀ g ∈ r, g.n.size ≤ 60 := fun g hg => hz g (List.mem_cons_of_mem _ hg)
    rw [putL, putLM]
    show Goes (if hasB se f.n = true then thenD (putS D f (whatD (choM D.now f) a).1) (putL se r (whatD (choM D.now f) a).2) else _) _
    split
    · refine (putS_goes h f _ hf (by omega)).then_ fun D' h' e => ?_
      rw [← e]
      refine putL_goes se r _ D' h' hr ?_
      rw [e]
      have := putSM_len D.now f (whatD (choM D.now f) a).1
      omega
    · refine (putN_goes h f hf (by omega)).then_ fun D' h' e => ?_
      rw [← e]
      refine putL_goes se r _ D' h' hr ?_
      rw [e]
      have := putNM_len D.now f
      omega
theorem putLM_len (se : List ByteArray) : ∀ (l : List Fv) (a : List Bool) (M : Fm), (putLM se l a M).length ≤ M.length + 2 * l.length
  | [], _, _ => Nat.le_refl _
  | f :: r, a, M => by
    rw [putLM, List.length_cons]
    split
    · have := putLM_len se r (whatD (choM M f) a).2 (putSM M f (whatD (choM M f) a).1)
      have := putSM_len M f (whatD (choM M f) a).1
      omega
    · have := putLM_len se r a (putNM M f)
      have := putNM_len M f
      omega

/-! owned -/
def pathsM (M : Fm) (n : ByteArray) : List ByteArray := match getF M (owP ++ n) with | some t => pathsT t | none => []
def ownersM (M : Fm) : List ByteArray := namesL owP (keysF M)
def leftM (M : Fm) (ps : List ByteArray) (n : ByteArray) : List ByteArray := (pathsM M n).filter fun q => !hasB ps q
def own1M (pn : ByteArray) (ps : List ByteArray) : List ByteArray → Fm → Fm
  | [], M => M
  | n :: r, M => if n = pn ∨ (leftM M ps n).length = (pathsM M n).length then own1M pn ps r M else own1M pn ps r (setM M n (leftM M ps n))
def own2M : List ByteArray → List ByteArray → Fm → Fm × List ByteArray
  | [], ps, M => (M, ps)
  | q :: r, ps, M => if hasB ps q then own2M r ps M else if (getF M (spP ++ q)).isNone then own2M r ps (delF M (thP ++ q)) else own2M r (ps ++ [q]) M
def ownedM (M : Fm) (pn : ByteArray) (ps : List ByteArray) : Fm := setM (own2M (pathsM (own1M pn ps (ownersM M) M) pn) ps (own1M pn ps (ownersM M) M)).1 pn (sortB (own2M (pathsM (own1M pn ps (ownersM M) M) pn) ps (own1M pn ps (ownersM M) M)).2)
def putM (M : Fm) (pn : ByteArray) (se : List ByteArray) (fi : List Fv) (a : List Bool) : Fm := ownedM (putLM se fi a M) pn (fi.map (·.n))
theorem pathsD_M (D : Dk) (n : ByteArray) : pathsD D n = pathsM D.now n := rfl
theorem leftO_M (D : Dk) (ps : List ByteArray) (n : ByteArray) : leftO D ps n = leftM D.now ps n := rfl

theorem pathsM_ne {M : Fm} {n : ByteArray} (h : pathsM M n ≠ []) : getF M (owP ++ n) ≠ none := fun e => h (by unfold pathsM; rw [e])
theorem setM_len {M : Fm} {n : ByteArray} (h : getF M (owP ++ n) ≠ none) (l : List ByteArray) : (setM M n l).length ≤ M.length := by
  unfold setM
  split
  · exact len_del_le _ _
  · exact len_put_old h _
theorem setM_len1 (M : Fm) (n : ByteArray) (l : List ByteArray) : (setM M n l).length ≤ M.length + 1 := by
  unfold setM
  split
  · have := len_del_le M (owP ++ n); omega
  · exact len_put_le _ _ _
theorem own1_goes (pn : ByteArray) (ps : List ByteArray) : ∀ (l : List ByteArray) (D : Dk), Calm D → (∀ n ∈ l, n.size ≤ 60) → D.now.length < 5000 → Goes (own1 pn ps l D) (own1M pn ps l D.now)
  | [], _, h, _, _ => Goes.same h
  | n :: r, D, h, hz, hl => by
    have hr : ∀ g ∈ r, g.size ≤ 60 := fun g hg => hz g (List.mem_cons_of_mem _ hg)
    rw [own1, own1M, leftO_M, pathsD_M]
    by_cases hc : n = pn ∨ (leftM D.now ps n).length = (pathsM D.now n).length
    · rw [if_pos hc, if_pos hc]
      exact own1_goes pn ps r D h hr hl
    · rw [if_neg hc, if_neg hc]
      have hn := hz n (List.mem_cons_self ..)
      refine (set_goes h (name_cw hn) (name_ow hn) hl _).then_ fun D' h' e => ?_
      rw [← e]
      refine own1_goes pn ps r D' h' hr ?_
      rw [e]
      have hne : pathsM D.now n ≠ [] := fun e => hc (.inr (by unfold leftM; rw [e]; rfl))
      exact Nat.lt_of_le_of_lt (setM_len (pathsM_ne hne) _) hl
theorem own1M_len (pn : ByteArray) (ps : List ByteArray) : ∀ (l : List ByteArray) (M : Fm), (own1M pn ps l M).length ≤ M.length
  | [], _ => Nat.le_refl _
  | n :: r, M => by
    rw [own1M]
    split
    · exact own1M_len pn ps r M
    · rename_i hc
      have hne : pathsM M n ≠ [] := fun e => hc (.inr (by unfold leftM; rw [e]; rfl))
      exact Nat.le_trans (own1M_len pn ps r _) (setM_len (pathsM_ne hne) _)
theorem own2_goes : ∀ (l ps : List ByteArray) (D : Dk), Calm D → Goes ((own2 l ps D).1, (own2 l ps D).2.1) (own2M l ps D.now).1 ∧ (own2 l ps D).2.2 = (own2M l ps D.now).2
  | [], _, _, h => ⟨Goes.same h, rfl⟩
  | q :: r, ps, D, h => by
    rw [own2, own2M]
    by_cases hh : hasB ps q = true
    · rw [if_pos hh, if_pos hh]
      exact own2_goes r ps D h
    · rw [if_neg hh, if_neg hh]
      show Goes ((if (getF D.now (spP ++ q)).isNone = true then _ else _ : Int × Dk × List ByteArray).1, _) _ ∧ _
      by_cases hn : (getF D.now (spP ++ q)).isNone = true
      · have hn' : noSet D q = true := hn
        rw [if_pos hn, if_pos hn]
        have hg := gone_goes h (thP ++ q)
        rw [if_pos hg.none]
        have := own2_goes r ps _ hg.calm
        rw [hg.now] at this
        rw [if_pos hn'] at *
        exact this
      · have hn' : ¬ noSet D q = true := hn
        rw [if_neg hn, if_neg hn]
        rw [if_neg hn']
        exact own2_goes r _ D h
theorem own2M_len : ∀ (l ps : List ByteArray) (M : Fm), (own2M l ps M).1.length ≤ M.length
  | [], _, _ => Nat.le_refl _
  | q :: r, ps, M => by
    rw [own2M]
    split
    · exact own2M_len r ps M
    · split
      · exact Nat.le_trans (own2M_len r ps _) (len_del_le _ _)
      · exact own2M_len r _ M
theorem owned_goes {D : Dk} (h : Calm D) {pn : ByteArray} (ps : List ByteArray) (hp : pn.size ≤ 60) (hz : ∀ n ∈ ownersM D.now, n.size ≤ 60) (hl : D.now.length < 5000) : Goes (ownedD D pn ps) (ownedM D.now pn ps) := by
  unfold ownedD ownedM
  refine (own1_goes pn ps _ D h hz hl).then_ fun D' h' e => ?_
  have h2 := own2_goes (pathsM D'.now pn) ps D' h'
  have hl2 := own2M_len (pathsM D'.now pn) ps D'.now
  have hl1 := own1M_len pn ps (ownersM D.now) D.now
  rw [← e] at hl1 ⊢
  have hn : (own2 (pathsD D' pn) ps D').1 = 0 := h2.1.none
  rw [if_pos hn, pathsD_M, h2.2]
  have hnow : (own2 (pathsM D'.now pn) ps D').2.1.now = (own2M (pathsM D'.now pn) ps D'.now).1 := h2.1.now
  rw [← hnow]
  exact set_goes h2.1.calm (name_cw hp) (name_ow hp) (by rw [hnow]; omega) _
theorem ownedM_len (M : Fm) (pn : ByteArray) (ps : List ByteArray) : (ownedM M pn ps).length ≤ M.length + 1 := by
  unfold ownedM
  refine Nat.le_trans (setM_len1 _ _ _) ?_
  have h2 := own2M_len (pathsM (own1M pn ps (ownersM M) M) pn) ps (own1M pn ps (ownersM M) M)
  have h1 := own1M_len pn ps (ownersM M) M
  omega
theorem putM_len (M : Fm) (pn : ByteArray) (se : List ByteArray) (fi : List Fv) (a : List Bool) : (putM M pn se fi a).length ≤ M.length + 2 * fi.length + 1 := by
  unfold putM
  have h1 := ownedM_len (putLM se fi a M) pn (fi.map (·.n))
  have h2 := putLM_len se fi a M
  omega

/-! who owns: the keys -/
theorem hasP_iff (p s : ByteArray) : hasP p s = true ↔ ∃ n, s = p ++ n := by
  unfold hasP Lib.hasPrefix
  rw [List.isPrefixOf_iff_prefix]
  constructor
  · rintro ⟨r, hr⟩
    exact ⟨⟨r.toArray⟩, data_inj (by rw [append_data]; simpa using hr.symm)⟩
  · rintro ⟨n, rfl⟩
    exact ⟨n.data.toList, (append_data p n).symm⟩
theorem rest_cat (p n : ByteArray) : restB p (p ++ n) = n := by
  unfold restB
  refine data_inj ?_
  show (Lib.trimPrefix (p ++ n).data.toList p.data.toList) = _
  have h : Lib.hasPrefix (p ++ n).data.toList p.data.toList = true := (hasP_iff p (p ++ n)).2 ⟨n, rfl⟩
  unfold Lib.trimPrefix
  rw [if_pos h, append_data, List.drop_left]
theorem mem_names {M : Fm} {p n : ByteArray} : n ∈ namesL p (keysF M) ↔ getF M (p ++ n) ≠ none := by
  unfold namesL
  rw [List.mem_map, ← mem_keys]
  constructor
  · rintro ⟨k, hk, rfl⟩
    obtain ⟨h1, h2⟩ := List.mem_filter.1 hk
    obtain ⟨m, rfl⟩ := (hasP_iff p k).1 h2
    rw [rest_cat]
    exact h1
  · intro h
    exact ⟨p ++ n, List.mem_filter.2 ⟨h, (hasP_iff _ _).2 ⟨n, rfl⟩⟩, rest_cat p n⟩
theorem mem_owners {M : Fm} {n : ByteArray} : n ∈ ownersM M ↔ getF M (owP ++ n) ≠ none := mem_names
theorem owners_set {M : Fm} {k : ByteArray} {l : List ByteArray} {n : ByteArray} : n ∈ ownersM (setM M k l) ↔ if n = k then l ≠ [] else n ∈ ownersM M := by
  rw [mem_owners]
  unfold setM
  by_cases hl : l = []
  · rw [if_pos hl, getF_del]
    by_cases e : n = k
    · rw [if_pos (by rw [e]), if_pos e]; simp [hl]
    · rw [if_neg fun h => e (cat_inj.1 h), if_neg e, mem_owners]
  · rw [if_neg hl, getF_put]
    by_cases e : n = k
    · rw [if_pos (by rw [e]), if_pos e]; simp [hl]
    · rw [if_neg fun h => e (cat_inj.1 h), if_neg e, mem_owners]

/-! all of Put -/
theorem putSM_get (M : Fm) (f : Fv) (c : Nat) (k : ByteArray) (h1 : k ≠ thP ++ f.n) (h2 : k ≠ spP ++ f.n) : getF (putSM M f c) k = getF M k := by
  unfold putSM
  rw [getF_put, if_neg h2]
  split
  · rw [getF_put, if_neg h1]
  · rfl
theorem putNM_get (M : Fm) (f : Fv) (k : ByteArray) (h1 : k ≠ thP ++ f.n) (h2 : k ≠ spP ++ f.n) : getF (putNM M f) k = getF M k := by
  unfold putNM
  rw [getF_del, if_neg h2, getF_put, if_neg h1]
theorem putLM_get (se : List ByteArray) (k : ByteArray) : ∀ (l : List Fv) (a : List Bool) (M : Fm), (∀ f ∈ l, k ≠ thP ++ f.n ∧ k ≠ spP ++ f.n) → getF (putLM se l a M) k = getF M k
  | [], _, _, _ => rfl
  | f :: r, a, M, h => by
    have hf := h f (List.mem_cons_self ..)
    have hr : ∀ g ∈ r, k ≠ thP ++ g.n ∧ k ≠ spP ++ g.n := fun g hg => h g (List.mem_cons_of_mem _ hg)
    rw [putLM]
    split
    · rw [putLM_get se k r _ _ hr, putSM_get M f _ k hf.1 hf.2]
    · rw [putLM_get se k r _ _ hr, putNM_get M f k hf.1 hf.2]
theorem putLM_ow (se : List ByteArray) (l : List Fv) (a : List Bool) (M : Fm) (n : ByteArray) : getF (putLM se l a M) (owP ++ n) = getF M (owP ++ n) :=
  putLM_get se _ l a M fun f _ => ⟨Ne.symm (thow f.n n), Ne.symm (spow f.n n)⟩
theorem put_goes {D : Dk} (h : Calm D) {pn : ByteArray} (se : List ByteArray) {fi : List Fv} (a : List Bool) (hp : pn.size ≤ 60) (hz : ∀ f ∈ fi, f.n.size ≤ 60) (ho : ∀ n ∈ ownersM D.now, n.size ≤ 60) (hl : D.now.length + 2 * fi.length < 5000) : Goes (putFD D pn se fi a) (putM D.now pn se fi a) := by
  unfold putFD putM
  refine (putL_goes se fi a D h hz (by omega)).then_ fun D' h' e => ?_
  rw [← e]
  refine owned_goes h' _ hp (fun n hn => ho n ?_) ?_
  · rw [mem_owners, e, putLM_ow] at hn
    exact mem_owners.2 hn
  · have := putLM_len se fi a D.now
    rw [e]
    omega

/-! Drop -/
def dropLM (all : Bool) : List ByteArray → List ByteArray → Fm → Fm × List ByteArray
  | [], left, M => (M, left)
  | q :: r, left, M => if (!(getF M (spP ++ q)).isNone && !all) = true then dropLM all r (left ++ [q]) M else dropLM all r left (delF (delF M (thP ++ q)) (spP ++ q))
def dropM (M : Fm) (n : ByteArray) (all : Bool) : Fm := setM (dropLM all (pathsM M n) [] M).1 n (dropLM all (pathsM M n) [] M).2
theorem dropQ_goes {D : Dk} (h : Calm D) (q : ByteArray) : Goes (dropQ D q) (delF (delF D.now (thP ++ q)) (spP ++ q)) := by
  unfold dropQ
  refine (gone_goes h _).then_ fun D' h' e => ?_
  rw [← e]
  exact gone_goes h' _
theorem dropL_goes (all : Bool) : ∀ (l left : List ByteArray) (D : Dk), Calm D → Goes ((dropL all l left D).1, (dropL all l left D).2.1) (dropLM all l left D.now).1 ∧ (dropL all l left D).2.2 = (dropLM all l left D.now).2
  | [], _, _, h => ⟨Goes.same h, rfl⟩
  | q :: r, left, D, h => by
    rw [dropL, dropLM]
    by_cases hc : (!(getF D.now (spP ++ q)).isNone && !all) = true
    · have hc' : (!noSet D q && !all) = true := hc
      rw [if_pos hc, if_pos hc']
      exact dropL_goes all r _ D h
    · have hc' : ¬ (!noSet D q && !all) = true := hc
      have hg := dropQ_goes h q
      rw [if_neg hc, if_neg hc', if_pos hg.none]
      have := dropL_goes all r left _ hg.calm
      rw [hg.now] at this
      exact this
theorem dropLM_len (all : Bool) : ∀ (l left : List ByteArray) (M : Fm), (dropLM all l left M).1.length ≤ M.length
  | [], _, _ => Nat.le_refl _
  | q :: r, left, M => by
    rw [dropLM]
    split
    · exact dropLM_len all r _ M
    · exact Nat.le_trans (dropLM_len all r _ _) (Nat.le_trans (len_del_le _ _) (len_del_le _ _))
theorem drop_goes {D : Dk} (h : Calm D) {n : ByteArray} (all : Bool) (hn : n.size ≤ 60) (hl : D.now.length < 5000) : Goes (dropD D n all) (dropM D.now n all) := by
  unfold dropD dropM
  have h2 := dropL_goes all (pathsM D.now n) [] D h
  have hnn : (dropL all (pathsD D n) [] D).1 = 0 := h2.1.none
  have hl2 := dropLM_len all (pathsM D.now n) [] D.now
  rw [if_pos hnn, pathsD_M, h2.2]
  have hnow : (dropL all (pathsM D.now n) [] D).2.1.now = (dropLM all (pathsM D.now n) [] D.now).1 := h2.1.now
  rw [← hnow]
  exact set_goes h2.1.calm (name_cw hn) (name_ow hn) (by rw [hnow]; omega) _
end Go.Proofs.YtofogjfemlhffaaGreatDoor

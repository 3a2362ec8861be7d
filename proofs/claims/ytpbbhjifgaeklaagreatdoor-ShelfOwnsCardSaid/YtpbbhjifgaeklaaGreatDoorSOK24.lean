/- The shelf's Put: plain; what owned keeps. -/
import Derived.Test.YtpbbhjifgaeklaaGreatDoorSOK23
namespace Go.Proofs.YtpbbhjifgaeklaaGreatDoor
open Go Go.RowKit Go.Maps

theorem ownedD_fit {X Z : Nat} {D : Dk} (h : FitD X D) (pn : ByteArray) (ps : List ByteArray) (hz : (linesT ps).size ≤ Z) : FitD (X + Z + 2) (ownedD D pn ps).2 := by
  unfold ownedD thenD
  have h1 := own1_fit pn ps (ownersD D) D h
  generalize own1 pn ps (ownersD D) D = r at h1 ⊢
  obtain ⟨e, D1⟩ := r
  dsimp only at h1 ⊢
  split
  · obtain ⟨K, k1, k2⟩ := own2_sub (pathsD D1 pn) ps D1
    have h2 := own2_fit (pathsD D1 pn) ps D1 h1
    split
    · refine setD_fit (h2.mono (by omega)) pn _ ?_
      rw [lines_sort, k2]
      have h3 := lines_app ps K
      have h4 := lines_sub k1
      have h5 := lines_paths h1 pn
      omega
    · exact h2.mono (by omega)
  · exact h1.mono (by omega)

/-- what is done with a setting, the answers being asked -/
def whatD (c : Nat) (a : List Bool) : Nat × List Bool := match a with
  | [] => (c, [])
  | b :: r => if c = 2 then (if b then 0 else 2, r) else (c, b :: r)
def putS (D : Dk) (f : Fv) (c : Nat) : Int × Dk := thenD (if c = 0 then comesD D f.n f.v else (0, D)) fun D => keepsD D (spP ++ f.n) f.v
def putN (D : Dk) (f : Fv) : Int × Dk := thenD (comesD D f.n f.v) fun D => goneD D (spP ++ f.n)
def choD (D : Dk) (f : Fv) : Nat := choiceD (getF D.now (spP ++ f.n)) (getF D.now (thP ++ f.n)) f.v
def putL (se : List ByteArray) : List Fv → List Bool → Dk → Int × Dk
  | [], _, D => (0, D)
  | f :: r, a, D => if hasB se f.n then thenD (putS D f (whatD (choD D f) a).1) (putL se r (whatD (choD D f) a).2) else thenD (putN D f) (putL se r a)
/-- all the files put, and what is owned -/
def putFD (D : Dk) (pn : ByteArray) (se : List ByteArray) (fi : List Fv) (a : List Bool) : Int × Dk := thenD (putL se fi a D) fun D => ownedD D pn (fi.map (·.n))
theorem putS_fit {X : Nat} {D : Dk} (h : FitD X D) (f : Fv) (c : Nat) (hv : f.v.size ≤ X) : FitD X (putS D f c).2 := thenD_fit (by split; exact comesD_fit h _ _ hv; exact h) fun _ h => keepsD_fit h _ _ hv
theorem putN_fit {X : Nat} {D : Dk} (h : FitD X D) (f : Fv) (hv : f.v.size ≤ X) : FitD X (putN D f).2 := thenD_fit (comesD_fit h _ _ hv) fun _ h => goneD_fit h _
theorem putL_fit {X : Nat} (se : List ByteArray) : ∀ (l : List Fv) (a : List Bool) (D : Dk), (∀ f ∈ l, f.v.size ≤ X) → FitD X D → FitD X (putL se l a D).2
  | [], _, _, _, h => h
  | f :: r, a, D, hv, h => by
    rw [putL]
    split
    · exact thenD_fit (putS_fit h f _ (hv f (List.mem_cons_self ..))) fun D h => putL_fit se r _ D (fun g hg => hv g (List.mem_cons_of_mem _ hg)) h
    · exact thenD_fit (putN_fit h f (hv f (List.mem_cons_self ..))) fun D h => putL_fit se r _ D (fun g hg => hv g (List.mem_cons_of_mem _ hg)) h
theorem putFD_fit {X Z : Nat} {D : Dk} (h : FitD X D) (pn : ByteArray) (se : List ByteArray) (fi : List Fv) (a : List Bool) (hv : ∀ f ∈ fi, f.v.size ≤ X) (hz : (linesT (fi.map (·.n))).size ≤ Z) : FitD (X + Z + 2) (putFD D pn se fi a).2 := by
  unfold putFD thenD
  have h1 := putL_fit se fi a D hv h
  split
  · exact ownedD_fit h1 pn _ hz
  · exact h1.mono (by omega)
theorem putL_set {se : List ByteArray} {fi : List Fv} {a a' : List Bool} {D : Dk} {k c : Nat} {f : Fv} (hx : fi[k]? = some f) (h : hasB se f.n = true) (hw : whatD (choD D f) a = (c, a')) : putL se (fi.drop k) a D = thenD (putS D f c) (putL se (fi.drop (k + 1)) a') := by
  rw [dropL_cons hx, putL, if_pos h, hw]
theorem putL_new {se : List ByteArray} {fi : List Fv} {a : List Bool} {D : Dk} {k : Nat} {f : Fv} (hx : fi[k]? = some f) (h : hasB se f.n = false) : putL se (fi.drop k) a D = thenD (putN D f) (putL se (fi.drop (k + 1)) a) := by
  rw [dropL_cons hx, putL, if_neg (by rw [h]; decide)]
theorem putL_end {se : List ByteArray} {fi : List Fv} {a : List Bool} {D : Dk} {k : Nat} (h : fi.length ≤ k) : putL se (fi.drop k) a D = (0, D) := by
  rw [List.drop_of_length_le h]; rfl
end Go.Proofs.YtpbbhjifgaeklaaGreatDoor

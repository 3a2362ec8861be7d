/- version.part: two parts of versions, by turns what is no digit and numbers: its order is partC. · What the statements on versions share: short and read. · A new shelf; one package of one file on it; the statements' fact on it. -/
import Derived.Test.YtpbbhjifgaeklaaGreatDoorSOK3
import Derived.Test.YtpbbhjifgaeklaaGreatDoorSOK2
import Derived.Test.YtpbbhjifgaeklaaGreatDoorSOK6
import Derived.Deep.RegionHeld3
import Derived.Test.YtpbbhjifgaeklaaGreatDoorSOK29
import Derived.Test.YtpbbhjifgaeklaaGreatDoorSOK26
namespace Go.Proofs.YtpbbhjifgaeklaaGreatDoor
open Go.RowKit

/-- what is known at the head of either loop -/
structure PartIn (A B : ByteArray) (w0 : World) (n : Nat) (a b : ByteArray) (w : World) : Prop where
  same : VP.partC a.data.toList b.data.toList = VP.partC A.data.toList B.data.toList
  size : a.size + b.size ≤ n
  below : Below w0.heap.size w0 w

end Go.Proofs.YtpbbhjifgaeklaaGreatDoor

namespace Go.Proofs.YtpbbhjifgaeklaaGreatDoor
open Go.RowKit

/-- the version that a text is; none: no letter of one -/
def readP (l : List UInt8) : Int × List UInt8 × List UInt8 := (VP.parseP l).getD (0, [], [])

def ReadIs (s : ByteArray) (w : World) (E : Ending) (w' : World) : Prop :=
  Below w.heap.size w w' ∧ ∃ (e : Int) (u r : ByteArray), readP s.data.toList = (e, u.data.toList, r.data.toList) ∧ E = .returned (.agg #[.int .i64 e, .string u, .string r])

set_option maxRecDepth 100000 in
theorem read_calls (s : ByteArray) (w : World) (hE : Env w) : Calls Tryz.prog 27 #[.string s] w (ReadIs s w) := by
  have hb0 := below_alloc w (.cells #[.int .i64 0, .string ⟨#[]⟩, .string ⟨#[]⟩] 23)
  have hE1 := hE.below hb0
  clear hE
  go_enter Tryz.func27, Tryz.ntmps27
  go_wp2_with fail
  refine (parse_calls s _ hE1).mono ?_
  rintro E w1 ⟨hb, hP⟩
  have hsz : w.heap.size < w1.heap.size := by have := hb.size; simp at this; omega
  have k0 := kept hb (p := ⟨w.heap.size, 0, none⟩) (v := .int .i64 0) (by go_cell)
  have k1 := kept hb (p := ⟨w.heap.size, 1, none⟩) (v := .string ⟨#[]⟩) (by go_cell)
  have k2 := kept hb (p := ⟨w.heap.size, 2, none⟩) (v := .string ⟨#[]⟩) (by go_cell)
  have f0 := keptf hb (p := ⟨w.heap.size, 0, none⟩) (by simp) (by simp [go_sem])
  have f1 := keptf hb (p := ⟨w.heap.size, 1, none⟩) (by simp) (by simp [go_sem])
  have f2 := keptf hb (p := ⟨w.heap.size, 2, none⟩) (by simp) (by simp [go_sem])
  have hB := step_below hb0 hb
  clear hb hb0 hE1
  rcases hP with ⟨hp, rfl⟩ | ⟨e, u, r, hp, rfl⟩
  · have HP := Lib.hid hp
    clear hp
    unfold noVersion
    go_wp2_with fail
    exact bodyPost_ret (v := .agg #[.int .i64 0, .string ⟨#[]⟩, .string ⟨#[]⟩]) (by simp [results, Tryz.results27, go_sem, World.cell?_alloc_lt, hsz, k0, k1, k2]) rfl ⟨by go_grown, 0, ⟨#[]⟩, ⟨#[]⟩, by unfold readP; rw [HP.out]; rfl, rfl⟩
  · have HP := Lib.hid hp
    clear hp
    go_wp2_with fail
    exact bodyPost_ret (v := .agg #[.int .i64 e, .string u, .string r]) (by simp [results, Tryz.results27, go_sem, World.cell?_alloc_lt, hsz, k0, k1, k2]) rfl ⟨by go_grown, e, u, r, by unfold readP; rw [HP.out]; rfl, rfl⟩

/-- a version that may be is read as it is written -/
theorem read_right {e : Int} {u r : List UInt8} (h : VP.RightP e u r) : readP (VP.printP e u r) = (e, u, r) := by
  unfold readP
  rw [VP.parse_print ((VP.rightP_iff e u r).2 h)]
  rfl

theorem read_0 (u r : List UInt8) (hs : VP.startsDig u = true) (ha : u.all (VP.ok1 0) = true) (hr : r.all VP.ok0 = true) (hd : r ≠ [] ∨ 45 ∉ u) (hl : (VP.printP 0 u r).length ≤ 40) : readP (VP.printP 0 u r) = (0, u, r) :=
  read_right ⟨by decide, by decide, hs, ha, hr, hd, hl⟩
theorem read_const (s : ByteArray) (e : Int) (u r : ByteArray) (h : readP s.data.toList = (e, u.data.toList, r.data.toList)) (w : World) (hE : Env w) :
    Calls Tryz.prog 27 #[.string s] w fun E w' => E = .returned (.agg #[.int .i64 e, .string u, .string r]) ∧ Below w.heap.size w w' :=
  (read_calls s w hE).mono fun E w' ⟨hb, e', u', r', h', he⟩ => by
    rw [h] at h'
    simp only [Prod.mk.injEq] at h'
    obtain ⟨h1, h2, h3⟩ := h'
    refine ⟨?_, hb⟩
    rw [he, h1, data_inj h2, data_inj h3]

end Go.Proofs.YtpbbhjifgaeklaaGreatDoor

namespace Go.Proofs.YtpbbhjifgaeklaaGreatDoor
open Go Go.RowKit Go.Maps

/-! plain: one package, one file -/
def oneM (p a d : ByteArray) : Fm := putF (putF [] (thP ++ p) d) (owP ++ a) p
theorem oneM_get (p a d k : ByteArray) : getF (oneM p a d) k = if k = owP ++ a then some p else if k = thP ++ p then some d else none := by
  unfold oneM
  rw [getF_put, getF_put, getF_nil]
theorem put_one (p a d : ByteArray) : putM [] a [] [⟨p, d⟩] [] = oneM p a d := by
  unfold putM
  have e1 : putLM [] [⟨p, d⟩] [] [] = putF [] (thP ++ p) d := by
    rw [putLM, show hasB [] (⟨p, d⟩ : Fv).n = false from rfl, if_neg (by decide), putLM]
    unfold putNM
    exact del_none (by rw [getF_put, if_neg (Ne.symm (thsp p p)), getF_nil])
  rw [e1, show ([(⟨p, d⟩ : Fv)].map (·.n)) = [p] from rfl]
  refine ownedM_one (fun n hn => ?_) fun q hq => ?_
  · rw [mem_owners, getF_put, if_neg (Ne.symm (thow _ _)), getF_nil] at hn
    exact absurd rfl hn
  · unfold pathsM at hq
    rw [getF_put, if_neg (Ne.symm (thow _ _)), getF_nil] at hq
    cases hq
theorem oneM_owners {p a d n : ByteArray} (h : n ∈ ownersM (oneM p a d)) : n = a := by
  rw [mem_owners, oneM_get] at h
  by_cases e : owP ++ n = owP ++ a
  · exact cat_inj.1 e
  · rw [if_neg e, if_neg (Ne.symm (thow p n))] at h
    exact absurd rfl h
theorem oneM_paths {p a d : ByteArray} (hp : VP.pathP p.data.toList = true) : pathsM (oneM p a d) a = [p] := by
  unfold pathsM
  rw [oneM_get, if_pos rfl]
  have := lines_back (l := [p]) (by simp) fun x hx => by rw [List.mem_singleton.1 hx]; exact ⟨(path_no hp).1, (path_no hp).2.2⟩
  rwa [lines_one] at this
theorem oneM_owner {p a d : ByteArray} (hp : VP.pathP p.data.toList = true) {D : Dk} (hD : D.now = oneM p a d) (q : ByteArray) : ownerD D q = if q = p then a else ⟨#[]⟩ := by
  unfold ownerD
  rw [ownersD_M, hD]
  have hP : ∀ n, pathsD D n = pathsM (oneM p a d) n := fun n => by rw [pathsD_M, hD]
  simp only [hP]
  by_cases e : q = p
  · subst e
    rw [if_pos rfl]
    cases hf : (ownersM (oneM q a d)).find? (fun n => hasB (pathsM (oneM q a d) n) q) with
    | some n => rw [oneM_owners (List.mem_of_find?_eq_some hf)]; rfl
    | none =>
      have := List.find?_eq_none.1 hf a (mem_owners.2 (by rw [oneM_get, if_pos rfl]; simp))
      rw [oneM_paths hp] at this
      exact absurd (hasB_iff.2 (List.mem_singleton.2 rfl)) this
  · rw [if_neg e, List.find?_eq_none.2 fun n hn => ?_]
    · rfl
    · rw [oneM_owners hn, oneM_paths hp]
      intro h
      exact e (List.mem_singleton.1 (hasB_iff.1 h))

/-! a new shelf -/
def D0 : Dk := ⟨[], [], 0, false, 0⟩
theorem calm0 : Calm D0 := ⟨⟨by decide, by decide, by decide, ris_nil, ris_nil, fun _ h => h⟩, rfl, fun _ => rfl⟩
theorem fit0 (X : Nat) : FitD X D0 := fun _ _ h => by cases h
/-- from world w on: what lay below n is as it was, and the disk lies above -/
structure Trk (w : World) (n d : Nat) (W : World) : Prop where
  below : Below n w W
  low : Low n W d
theorem Trk.env {w : World} {d : Nat} {W : World} (h : Trk w w.heap.size d W) (hE : Env w) : EnvD w.heap.size d W := ⟨w, hE, Nat.le_refl _, h.below, h.low⟩
theorem Trk.go {w : World} {n m d : Nat} {W W' : World} (h : Trk w n d W) (ho : OffN m d W W') (hm : n ≤ m) : Trk w n d W' where
  below := ⟨ho.os.trans h.below.os, ho.tape.trans h.below.tape, ho.output.trans h.below.output, Nat.le_trans h.below.size ho.size, fun i hi => (ho.block i (by omega) fun hf => by have := h.low i hf; omega).trans (h.below.block i hi)⟩
  low := fun i hi => by
    rcases ho.foot i hi with h' | h'
    · exact h.low i h'
    · omega
theorem Trk.step {w : World} {n d : Nat} {W W' : World} (h : Trk w n d W) (hb : Below W.heap.size W W') (hd : d < W.heap.size) (hn : n ≤ W.heap.size) : Trk w n d W' :=
  h.go (OffN.of (n := W.heap.size) (Off.of_below hb hd) (Nat.le_refl _)) hn
theorem newShelf (w : World) : ShAt ((w.alloc (.cells #[.map none, .map none, .int .i64 0, .bool false, .int .i64 0, .bool false] 58)).alloc (.cells #[.pointer (some ⟨w.heap.size, 0, none⟩)] 132)) (w.heap.size + 1) w.heap.size D0 ∧
    Trk w w.heap.size w.heap.size ((w.alloc (.cells #[.map none, .map none, .int .i64 0, .bool false, .int .i64 0, .bool false] 58)).alloc (.cells #[.pointer (some ⟨w.heap.size, 0, none⟩)] 132)) ∧
    Below w.heap.size w ((w.alloc (.cells #[.map none, .map none, .int .i64 0, .bool false, .int .i64 0, .bool false] 58)).alloc (.cells #[.pointer (some ⟨w.heap.size, 0, none⟩)] 132)) := by
  have hb1 := below_alloc w (.cells #[.map none, .map none, .int .i64 0, .bool false, .int .i64 0, .bool false] 58)
  have hb2 := below_alloc (w.alloc (.cells #[.map none, .map none, .int .i64 0, .bool false, .int .i64 0, .bool false] 58)) (.cells #[.pointer (some ⟨w.heap.size, 0, none⟩)] 132)
  have hbb := step_below hb1 hb2
  have k0 := blk_new 58 w #[.map none, .map none, .int .i64 0, .bool false, .int .i64 0, .bool false]
  have k1 := k0.keep hb2
  have hs : (w.alloc (.cells #[.map none, .map none, .int .i64 0, .bool false, .int .i64 0, .bool false] 58)).heap.size = w.heap.size + 1 := World.size_alloc _ _
  have k2 := blk_new 132 (w.alloc (.cells #[.map none, .map none, .int .i64 0, .bool false, .int .i64 0, .bool false] 58)) #[.pointer (some ⟨w.heap.size, 0, none⟩)]
  rw [hs] at k2
  have hf : ∀ i, foot ((w.alloc (.cells #[.map none, .map none, .int .i64 0, .bool false, .int .i64 0, .bool false] 58)).alloc (.cells #[.pointer (some ⟨w.heap.size, 0, none⟩)] 132)) w.heap.size i → i = w.heap.size := fun i hi => by
    rcases hi with h | h | h
    · exact h
    · have := (k1.cell (i := 0) rfl).symm.trans h
      injection this with this
      injection this with this
      cases this
    · have := (k1.cell (i := 1) rfl).symm.trans h
      injection this with this
      injection this with this
      cases this
  refine ⟨⟨k2.cell (i := 0) rfl, fun h => by have := hf _ h; omega, ⟨_, _, k1, .inl ⟨rfl, rfl, rfl, rfl⟩⟩⟩, ⟨hbb, fun i hi => by rw [hf i hi]; exact Nat.le_refl _⟩, hbb⟩
theorem EnvD.mono {n m d : Nat} {W : World} (h : EnvD n d W) (hn : n ≤ m) : EnvD m d W := by
  obtain ⟨w0, a, b, c, e⟩ := h
  exact ⟨w0, a, Nat.le_trans b hn, c, e⟩
theorem Blk.offN {T : TypeId} {W W' : World} {n d g : Nat} {cs : Array Value} (h : Blk T W g cs) (ho : OffN n d W W') (hg : g < n) (hf : ¬ foot W d g) : Blk T W' g cs := (ho.block g hg hf).trans h

/-! small rows -/
theorem askN (w : World) : AskedAt w (.slice none 0 0) [] := ⟨none, 0, rfl, Nat.le_refl _, by simp, fun h => absurd rfl h⟩
theorem terN (w : World) : TermsAt w (.slice none 0 0) [] := ⟨none, 0, rfl, Nat.le_refl _, by simp, fun h => absurd rfl h⟩
theorem fields_one {W : World} {g : Nat} {f : Fv} (h : Blk 62 W g #[.string f.n, .string f.v]) : FieldsAt W (.slice (some ⟨g, 0, none⟩) 1 1) [f] :=
  ⟨_, 1, rfl, Nat.le_refl _, by show 1 ≤ _; omega, fun _ => ⟨g, 0, rfl, fun j u hj => by
    rw [Nat.zero_add]
    refine h.cell ?_
    rw [List.getElem?_toArray]
    exact hj⟩⟩
theorem bools_nil (W : World) : BoolsAt W (.slice none 0 0) [] := ⟨none, 0, rfl, Nat.le_refl _, by omega, fun h => absurd rfl h⟩
def aaB : ByteArray := ⟨#[97, 97]⟩
def oneB : ByteArray := ⟨#[49]⟩
def onePk (p d : ByteArray) (se : List ByteArray) : Pv := ⟨aaB, 0, oneB, ⟨#[]⟩, [], [], [], [], [], [], se, [], [⟨p, d⟩]⟩
theorem onePk_right {p : ByteArray} (d : ByteArray) {se : List ByteArray} (hp : VP.pathP p.data.toList = true) (hs : se = [] ∨ se = [p]) : archB (onePk p d se) = true := by
  have h1 : saysOk (onePk p d se) = true := by
    rw [says_prog]
    have e1 : (onePk p d se).pr.all provT = true := rfl
    have e2 : VP.nameP (onePk p d se).n.data.toList = true := (by decide +kernel : VP.nameP aaB.data.toList = true)
    have e3 : VP.rightP (onePk p d se).e (onePk p d se).u.data.toList (onePk p d se).r.data.toList = true := (by decide +kernel : VP.rightP 0 oneB.data.toList [] = true)
    have e4 : VP.askedP (tmL (onePk p d se).dep) = true := (by decide +kernel : VP.askedP (tmL []) = true)
    have e5 : VP.askedP (tmL (onePk p d se).ahead) = true := (by decide +kernel : VP.askedP (tmL []) = true)
    have e6 : VP.flatP ((onePk p d se).ag.map Tv.tm) = true := (by decide +kernel : VP.flatP [] = true)
    have e7 : VP.flatP ((onePk p d se).br.map Tv.tm) = true := (by decide +kernel : VP.flatP [] = true)
    have e8 : VP.flatP ((onePk p d se).re.map Tv.tm) = true := (by decide +kernel : VP.flatP [] = true)
    have e9 : VP.flatP ((onePk p d se).pr.map Tv.tm) = true := (by decide +kernel : VP.flatP [] = true)
    have e10 : pathsB (onePk p d se).se = true := by
      show pathsB se = true
      rcases hs with rfl | rfl
      · decide +kernel
      · unfold pathsB VP.pathsP
        rw [Bool.and_eq_true]
        refine ⟨VP.allAt_true fun i hi => ?_, rfl⟩
        obtain rfl : i = 0 := by simp at hi; omega
        unfold VP.pathOk
        show (VP.pathP p.data.toList && !(([p].map (·.data.toList)).take 0).any _) = true
        rw [hp]
        rfl
    have e11 : pathsB (onePk p d se).li = true := (by decide +kernel : pathsB [] = true)
    rw [e1, e2, e3, e4, e5, e6, e7, e8, e9, e10, e11]
    rfl
  unfold archB
  rw [h1, Bool.true_and, Bool.and_eq_true, Bool.and_eq_true]
  refine ⟨rfl, VP.allAt_true fun i hi => ?_, ?_⟩
  · obtain rfl : i = 0 := by have : i < 1 := hi; omega
    unfold fileAt
    show (VP.pathP p.data.toList && VP.allAt 1 _) = true
    rw [hp, Bool.true_and]
    refine VP.allAt_true fun k hk => ?_
    obtain rfl : k = 0 := by omega
    rfl
  · unfold setOk
    show se.all (hasFile [⟨p, d⟩]) = true
    rcases hs with rfl | rfl
    · rfl
    · rw [List.all_cons, List.all_nil, Bool.and_true]
      unfold hasFile
      rw [List.any_cons, decide_eq_true rfl]
      rfl
theorem onePk_fit {p d : ByteArray} {se : List ByteArray} (hs : ∀ s ∈ se, s.size ≤ 1000000) : (onePk p d se).Fit := by
  refine ⟨show aaB.size ≤ 1000000 by decide, show oneB.size ≤ 1000 by decide, show (⟨#[]⟩ : ByteArray).size ≤ 1000 by decide, ?_, ?_, ?_, ?_, ?_, Nat.zero_le _, ?_, Nat.zero_le _, ?_, Nat.zero_le _, ?_, Nat.zero_le _, hs, ?_⟩
  all_goals (intro x hx; cases hx)
theorem onePk_at {W : World} {p d : ByteArray} {se : List ByteArray} {v7 : Value} {g : Nat} (h7 : StrsAt W v7 se) (h : Blk 62 W g #[.string p, .string d]) :
    PackAt W (.agg #[.string aaB, .int .i64 0, .string oneB, .string ⟨#[]⟩, .slice none 0 0, .slice none 0 0, .slice none 0 0, .slice none 0 0, .slice none 0 0, .slice none 0 0, v7, .slice none 0 0, .slice (some ⟨g, 0, none⟩) 1 1]) (onePk p d se) :=
  ⟨_, _, _, _, _, _, _, _, _, rfl, askN W, askN W, terN W, terN W, terN W, terN W, h7, SlC.nil _ _ _, fields_one (f := ⟨p, d⟩) h, by show (-9223372036854775808 : Int) ≤ 0; omega, by show (0 : Int) ≤ 9223372036854775807; omega⟩
/-- nothing clashes with what is of no other one -/
theorem clash_own {D : Dk} {pn : ByteArray} (tk : ByteArray → Bool) (fi : List Fv) (h : ∀ n ∈ ownersM D.now, n = pn) : clashD D pn tk fi = (-1, ⟨#[]⟩) := by
  unfold clashD
  have key : ∀ (own : List ByteArray), (∀ n ∈ own, n = pn) → ∀ (fi : List Fv) (i : Nat), clashF own (hitN D pn tk) fi i = (-1, ⟨#[]⟩) := by
    intro own ho fi
    induction fi with
    | nil => exact fun _ => rfl
    | cons f r ih =>
      intro i
      rw [clashF, List.find?_eq_none.2 fun n hn => by unfold hitN; rw [decide_eq_true (ho n hn)]; simp]
      exact ih _
  exact key _ h fi 0
/-- what Put answers where all goes well -/
theorem PutDone.goes {sh d n : Nat} {D : Dk} {p : Pv} {tk : ByteArray → Bool} {a : List Bool} {w w' : World} {E : Ending} {M : Fm} (h : PutDone sh d n D p tk a w E w') (h1 : archB p = true) (h2 : ¬ 0 ≤ (clashD D p.n tk p.fi).1) (h3 : Goes (putFD D p.n p.se p.fi a) M) : E = .returned .nilIface ∧ ∃ D', D'.now = M ∧ Calm D' ∧ D' = (putFD D p.n p.se p.fi a).2 ∧ ShAt w' sh d D' ∧ OffN n d w w' := by
  unfold PutDone at h
  rw [if_neg (by rw [h1]; decide), if_neg h2] at h
  obtain ⟨he, hs, ho⟩ := h
  rw [h3.none] at he
  exact ⟨he, _, h3.now, h3.calm, rfl, hs, ho⟩

/-! the fact: a file that lies there -/
def binX : ByteArray := ⟨#[98, 105, 110, 47, 120]⟩
def binY : ByteArray := ⟨#[98, 105, 110, 47, 121]⟩
def oneA : ByteArray := ⟨#[97]⟩
theorem binX_path : VP.pathP binX.data.toList = true := by decide +kernel
theorem shelvedF_calls (W : World) (s : ByteArray) : Calls Tryz.prog 82 #[.string s] W (BoolIs false W) := by
  go_enter Tryz.func82, Tryz.ntmps82
  go_wp2_with fail
  go_ret
  exact ⟨rfl, Below.refl _ _⟩
/-- what is read is read of one world -/
theorem read1_calls (W : World) (hE : Env W) : Calls Tryz.prog 27 #[.string oneB] W fun E w' => E = .returned (.agg #[.int .i64 0, .string oneB, .string ⟨#[]⟩]) ∧ Below W.heap.size W w' :=
  read_const oneB 0 oneB ⟨#[]⟩ (read_0 [49] [] (by decide) (by decide) (by decide) (by decide) (by decide)) W hE
set_option maxHeartbeats 2000000 in
set_option maxRecDepth 100000 in
theorem shelved_calls (w : World) (hE : Env w) : Calls Tryz.prog 24 #[] w (BoolIs true w) := by
  obtain ⟨hS0, hT0, hB0⟩ := newShelf w
  have HS0 := Lib.hid hS0
  have HE0 := Lib.hid (hT0.env hE)
  have HT0 := Lib.hid hT0
  have HB0 := Lib.hid hB0
  have CO := Lib.hid (over_calls w.heap.size (w.alloc (.cells #[.map none, .map none, .int .i64 0, .bool false, .int .i64 0, .bool false] 58)))
  clear hS0 hT0 hB0 hE
  go_enter Tryz.func24, Tryz.ntmps24
  go_wp2_with fail
  refine CO.out.mono ?_
  rintro E w1 ⟨rfl, rfl⟩
  rw [World.size_alloc]
  obtain ⟨d, hd⟩ : ∃ d, w.heap.size = d := ⟨_, rfl⟩
  rw [hd] at HS0 HE0 HB0 HT0 ⊢
  generalize (w.alloc (.cells #[.map none, .map none, .int .i64 0, .bool false, .int .i64 0, .bool false] 58)).alloc (.cells #[.pointer (some ⟨d, 0, none⟩)] 132) = W1 at HS0 HE0 HB0 HT0 ⊢
  have HB0 : Hid (Below w.heap.size w W1) := Lib.hid (by have := HB0.out; rwa [← hd] at this)
  have HDD := Lib.hid hd
  clear CO hd
  have RD := Lib.hid (read1_calls W1 HE0.out.env)
  unfold oneB at RD
  go_wp2_with fail
  refine RD.out.mono ?_
  rintro E w2 ⟨rfl, hb2⟩
  have HS2 := Lib.hid (HS0.out.keep hb2)
  have HE2 := Lib.hid (HE0.out.offN (OffN.of (Off.of_below hb2 HS0.out.dk.lt) (by have := HS0.out.dk.lt; omega)))
  have HB2 := Lib.hid (step_below HB0.out hb2)
  have HT2 := Lib.hid (HT0.out.step hb2 HS0.out.dk.lt (by have := HS0.out.dk.lt; omega))
  clear hb2 RD HS0 HE0 HB0 HT0
  obtain ⟨g, hg⟩ : ∃ g, w2.heap.size = g := ⟨_, rfl⟩
  have hb3 := below_alloc w2 (.cells #[.string binX, .string oneA] 62)
  have HS3 := Lib.hid (HS2.out.keep hb3)
  have HB3 := Lib.hid (step_below HB2.out hb3)
  have HLW := Lib.hid (HT2.out.step hb3 HS2.out.dk.lt (by have := HS2.out.dk.lt; omega))
  have HLW2 := Lib.hid (show d ≤ w2.heap.size by have := HS2.out.dk.lt; omega)
  have hsz3 := World.size_alloc w2 (.cells #[.string binX, .string oneA] 62)
  have HE3 := Lib.hid ((HE2.out.offN (OffN.of (n := d) (Off.of_below hb3 HS2.out.dk.lt) (by have := HS2.out.dk.lt; omega))).mono (m := g + 1) (by have := HS2.out.dk.lt; omega))
  have HK := Lib.hid (blk_new 62 w2 #[.string binX, .string oneA])
  have HF := Lib.hid (new_not_foot HS2.out.dk hb3 (Nat.le_refl _))
  rw [hg] at hsz3 HK HF HLW2
  obtain ⟨W3, hW3⟩ : ∃ W, w2.alloc (.cells #[.string binX, .string oneA] 62) = W := ⟨_, rfl⟩
  rw [hW3] at HS3 HB3 hsz3 HE3 HK HF HLW
  have HG := Lib.hid (put_goes (D := D0) calm0 (pn := aaB) [] (fi := [⟨binX, oneA⟩]) [] (by decide) (fun f hf => by rw [List.mem_singleton.1 hf]; decide) (fun n hn => absurd rfl (mem_owners.1 hn)) (by decide))
  have hgo : Goes (putFD D0 aaB [] [⟨binX, oneA⟩] []) (oneM binX aaB oneA) := by have := HG.out; rwa [show putM D0.now aaB [] [⟨binX, oneA⟩] [] = oneM binX aaB oneA from put_one _ _ _] at this
  have PC := put_calls (d + 1) d (g + 1) 1 D0 (onePk binX oneA []) (fun _ => false) (.slice none 0 0) (.slice none 0 0) (.slice none 0 0) (.slice none 0 0) (.slice none 0 0) (.slice none 0 0) (.slice none 0 0) (.slice none 0 0) (.slice (some ⟨g, 0, none⟩) 1 1) (.func (.func 82) #[] #[]) (.slice none 0 0) [] W3
    HE3.out HS3.out calm0.ok (fit0 1) (by decide) (by omega) (fun W hW => onePk_at (SlC.nil _ _ _) (HK.out.offN hW (Nat.lt_succ_self _) HF.out)) (onePk_fit fun s hs => by cases hs) (by decide)
    (fun f hf => by rw [List.mem_singleton.1 hf]; decide) (fun f hf => by rw [List.mem_singleton.1 hf]; decide) (by decide) (by decide) (fun W _ => bools_nil W)
    (fun W hb => clashF_calls (d + 1) d D0 (onePk binX oneA []) (fun _ => false) _ _ _ _ _ _ _ _ _ W (HE3.out.env.below hb) (HS3.out.keep hb) calm0.ok (fit0 _) (fields_one (f := ⟨binX, oneA⟩) (HK.out.keep hb)) (fun f hf => by rw [List.mem_singleton.1 hf]; decide) fun W s _ => shelvedF_calls W s)
  have PC := Lib.hid (PC.mono fun E w' h => h.goes (onePk_right oneA binX_path (.inl rfl)) (by rw [clash_own _ _ fun n hn => absurd rfl (mem_owners.1 hn)]; decide) hgo)
  have HFIT := Lib.hid (putFD_fit (Z := 1000) (fit0 1) aaB [] [⟨binX, oneA⟩] [] (fun f hf => by rw [List.mem_singleton.1 hf]; decide) (by decide))
  have HSZ := Lib.hid hsz3
  clear hb3 hgo HG HS2 HB2 HE2
  unfold onePk aaB oneB at PC
  simp only at PC
  go_wp2_with fail
  (try rw [hg])
  rw [show w2.alloc (.cells #[.string ⟨#[98, 105, 110, 47, 120]⟩, .string ⟨#[97]⟩] 62) = W3 from hW3]
  refine PC.out.mono ?_
  rintro E w4 ⟨rfl, D', hD', hC', hDe, hS4, hO4⟩
  have HFD : Hid (FitD 1000000 D') := Lib.hid (by rw [hDe]; exact HFIT.out.mono (by omega))
  have HE4 := Lib.hid (HE3.out.offN hO4)
  have HBW : Hid (Below w.heap.size w w4) := Lib.hid (by have := (HLW.out.go hO4 (by have := HLW2.out; omega)).below; rwa [← HDD.out] at this)
  have CR := Lib.hid (shread_calls (d + 1) d D' binX w4 hS4 (by decide))
  unfold readV at CR
  rw [hD', oneM_get, if_neg (thow _ _), if_pos rfl] at CR
  have CO1 := Lib.hid (owner_calls (d + 1) d D' binX w4 HE4.out.env hS4 hC'.ok HFD.out)
  rw [oneM_owner binX_path hD', if_pos rfl] at CO1
  have CO2 := Lib.hid (fun (W : World) (hb : Below w4.heap.size w4 W) => owner_calls (d + 1) d D' binY W (HE4.out.env.below hb) (hS4.keep hb) hC'.ok HFD.out)
  simp only [oneM_owner binX_path hD' binY, if_neg (show ¬ binY = binX by decide)] at CO2
  unfold binX aaB oneA at *
  unfold binY at CO2
  clear hS4 hO4 hDe hC' hD' HFIT PC HS3 HE3 HB3 hW3 HK HF
  go_wp2_with fail
  refine CR.out.mono ?_
  rintro E w5 ⟨rfl, rfl⟩
  go_wp2_with fail
  refine CO1.out.mono ?_
  rintro E w5 ⟨rfl, hb5⟩
  have HB5 := Lib.hid hb5
  clear hb5 CO1
  go_wp2_with fail
  refine (CO2.out _ HB5.out).mono ?_
  rintro E w6 ⟨rfl, hb6⟩
  have HB6 := Lib.hid (step_below (step_below HBW.out HB5.out) hb6)
  clear hb6 CO2
  go_wp2_with fail
  go_ret
  exact ⟨rfl, HB6.out⟩
end Go.Proofs.YtpbbhjifgaeklaaGreatDoor

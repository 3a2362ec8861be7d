/- append(dst, src...) on a row of the call's own, from a slice that may be nil; slices of packages that are there, put together. -/
import Derived.Test.YtlkmmejlnohjhaaDoorDepOwn
import Derived.Test.YtlkmmejlnohjhaaDoorMeets
import Derived.Deep.AppendSrc
namespace Go.Proofs.YtlkmmejlnohjhaaDoor
open Go Go.RowKit

/-- this value is a slice of m elements that yields these cells -/
def SrcIs (w : World) (y : Value) (m : Nat) (news : List Value) : Prop := ∃ A c, y = .slice A m c ∧ (m ≠ 0 → ∃ b off, A = some ⟨b, off, none⟩ ∧ ∀ j u, news[j]? = some u → w.cell? ⟨b, off + j, none⟩ = some u)
theorem SrcIs.below {w w' : World} {y : Value} {m : Nat} {news : List Value} (h : SrcIs w y m news) (hb : Below w.heap.size w w') : SrcIs w' y m news := by
  obtain ⟨A, c, hy, h1⟩ := h
  refine ⟨A, c, hy, fun hm => ?_⟩
  obtain ⟨b, off, hA, hc⟩ := h1 hm
  exact ⟨b, off, hA, fun j u hj => kept hb (hc j u hj)⟩

section
variable {P : Program} (w : World)
theorem setCells_nil (b off : Nat) : w.setCells b off [] = w := rfl

/-- appended whatever comes: a row of the call's own -/
theorem wpList_append_src {ops : Array Oper} {rest : List Oper} {o : Oper} {a : Act} {Q : Exit → Act → World → Prop} (hgd : o.guard = none) (s x : Operand) (t : TypeId)
    (ho : o.op = .call { callee := .builtin .append, args := #[s, x], argTypes := #[t, t] })
    (base : Nat) (e : TypeId) (i : TypeInfo) (z : Value) (size bytes : Nat) (ht : P.underlying t = some (.slice e)) (hi : P.info? e = some i) (hz : i.zero = some z)
    (hsize : i.size = size) (hby : i.bytes = bytes) (hzs : z.cells.size = size) (hsz : 0 < size)
    (v : Value) (n : Nat) (xs : List Value) (hs : a.eval s = v) (hown : w.ownsRow base e size v n xs)
    (y : Value) (m : Nat) (news : List Value) (hx : a.eval x = y) (hsrc : SrcIs w y m news) (hl : news.length = m * size) (h1 : ∀ u ∈ news, u.oneCell' = true)
    (h63 : n + m ≤ maxLen) (hbytes : (n + m) * bytes ≤ 140737488355328) (hbase : base ≤ w.heap.size)
    (h : ∀ v' w', w'.ownsRow base e size v' (n + m) (xs ++ news) → w.grownBy w' v.ownBlock → wpList P ops Q rest (a.put o.dst v') w') : wpList P ops Q (o :: rest) a w := by
  obtain ⟨A, c, hy, hc⟩ := hsrc
  cases A with
  | some ad =>
    refine wpList_append_own w hgd s x t ho base e i z size bytes ht hi hz hsize hby hzs hsz v n xs hs hown ad m c news (hx.trans hy) hl ?_ h1 h63 hbytes hbase fun v' w' h2 h3 _ => h v' w' h2 h3
    intro j u hj
    by_cases hm : m = 0
    · subst hm
      rw [Nat.zero_mul] at hl
      rw [List.eq_nil_of_length_eq_zero hl] at hj
      cases hj
    · obtain ⟨b, off, hA, hcc⟩ := hc hm
      obtain rfl := Option.some.inj hA
      rw [Go.WideShapes.add_plain]
      exact hcc j u hj
  | none =>
    have hm0 : m = 0 := by
      by_cases hm : m = 0
      · exact hm
      · obtain ⟨b, off, hA, _⟩ := hc hm
        cases hA
    subst hm0
    rw [Nat.zero_mul] at hl
    obtain rfl := List.eq_nil_of_length_eq_zero hl
    rcases id hown.2 with ⟨rfl, rfl⟩ | ⟨g, cap, cur, rfl, hbg, hg, hnc, hcm, hcs, htake⟩
    · refine wpList_plain hgd fun K hK => ?_
      have hr : (Builtin.append_ #[t, t] o.type #[.slice none 0 0, .slice none 0 c]).run P w = .ok (.slice none 0 0) w := by
        simp [Builtin.append_, run_underlying ht, sizeOf, typeInfo, hi, Builtin.lenOf, Builtin.firstCells]
      unfold Oper.wp execOp
      simp only [ho, resolve, invoke, builtin, Sem.run_bind, Sem.run_pure, Result.andThen_ok, List.map_toArray, List.map_cons, List.map_nil, hs, hx.trans hy, hr]
      refine hK _ _ (h _ _ ?_ (World.grownBy.refl _ _))
      rw [List.append_nil]; exact hown
    · refine wpList_plain hgd fun K hK => ?_
      have hr := run_append_room_src (P := P) w t t o.type e i ht hi g 0 n cap (.slice none 0 c) 0 [] (Src.ofNil w ht c) (by omega) (fun j hj => by cases hj) (fun j hj => by cases hj)
      rw [setCells_nil] at hr
      unfold Oper.wp execOp
      simp only [ho, resolve, invoke, builtin, Sem.run_bind, Sem.run_pure, Result.andThen_ok, List.map_toArray, List.map_cons, List.map_nil, hs, hx.trans hy, hr]
      refine hK _ _ (h _ _ ?_ (World.grownBy.refl _ _))
      rw [List.append_nil]; exact hown
end

/-- cells that read as packages that are there -/
def OffersRow (w : World) (os : List Ov) (xs : List Value) : Prop := xs.length = os.length * 5 ∧ ∀ (i : Nat) (o : Ov), os[i]? = some o →
  ∃ vp, xs[i * 5]? = some (.string o.n) ∧ xs[i * 5 + 1]? = some (.int .i64 o.e) ∧ xs[i * 5 + 2]? = some (.string o.u) ∧ xs[i * 5 + 3]? = some (.string o.r) ∧ xs[i * 5 + 4]? = some vp ∧ TermsAt w vp o.ps
theorem OffersRow.below {w w' : World} {os : List Ov} {xs : List Value} (h : OffersRow w os xs) (hb : Below w.heap.size w w') : OffersRow w' os xs :=
  ⟨h.1, fun i o ho => by
    obtain ⟨vp, h0, h1, h2, h3, h4, h5⟩ := h.2 i o ho
    exact ⟨vp, h0, h1, h2, h3, h4, h5.below hb⟩⟩
theorem OffersRow.append {w : World} {a b : List Ov} {xs ys : List Value} (h : OffersRow w a xs) (k : OffersRow w b ys) : OffersRow w (a ++ b) (xs ++ ys) := by
  refine ⟨by rw [List.length_append, List.length_append, h.1, k.1, Nat.add_mul], fun i o ho => ?_⟩
  by_cases hi : i < a.length
  · rw [List.getElem?_append_left hi] at ho
    obtain ⟨vp, h0, h1, h2, h3, h4, h5⟩ := h.2 i o ho
    have hlen := h.1
    refine ⟨vp, ?_, ?_, ?_, ?_, ?_, h5⟩ <;> (rw [List.getElem?_append_left (by omega)]; assumption)
  · rw [List.getElem?_append_right (by omega)] at ho
    obtain ⟨vp, h0, h1, h2, h3, h4, h5⟩ := k.2 _ o ho
    have hlen := h.1
    have e : (i - a.length) * 5 = i * 5 - xs.length := by rw [hlen, Nat.sub_mul]
    have hge : xs.length ≤ i * 5 := by omega
    refine ⟨vp, ?_, ?_, ?_, ?_, ?_, h5⟩
    · rw [List.getElem?_append_right (by omega), ← e]; exact h0
    · rw [List.getElem?_append_right (by omega), show i * 5 + 1 - xs.length = (i - a.length) * 5 + 1 by omega]; exact h1
    · rw [List.getElem?_append_right (by omega), show i * 5 + 2 - xs.length = (i - a.length) * 5 + 2 by omega]; exact h2
    · rw [List.getElem?_append_right (by omega), show i * 5 + 3 - xs.length = (i - a.length) * 5 + 3 by omega]; exact h3
    · rw [List.getElem?_append_right (by omega), show i * 5 + 4 - xs.length = (i - a.length) * 5 + 4 by omega]; exact h4

theorem OffersRow.one {w : World} {os : List Ov} {xs : List Value} (h : OffersRow w os xs) : ∀ u ∈ xs, u.oneCell' = true := by
  intro u hu
  obtain ⟨j, hj⟩ := List.mem_iff_getElem?.1 hu
  have hlt := (List.getElem?_eq_some_iff.1 hj).1
  rw [h.1] at hlt
  obtain ⟨vp, h0, h1, h2, h3, h4, A, c, hv, _⟩ := h.2 (j / 5) _ (List.getElem?_eq_getElem (by omega))
  obtain hr | hr | hr | hr | hr : j = j / 5 * 5 ∨ j = j / 5 * 5 + 1 ∨ j = j / 5 * 5 + 2 ∨ j = j / 5 * 5 + 3 ∨ j = j / 5 * 5 + 4 := by omega
  · rw [hr, h0] at hj; rw [← Option.some.inj hj]; rfl
  · rw [hr, h1] at hj; rw [← Option.some.inj hj]; rfl
  · rw [hr, h2] at hj; rw [← Option.some.inj hj]; rfl
  · rw [hr, h3] at hj; rw [← Option.some.inj hj]; rfl
  · rw [hr, h4] at hj; rw [← Option.some.inj hj, hv]; rfl

/-- what a slice of packages yields -/
theorem OffersAt.src {w : World} {v : Value} {os : List Ov} (h : OffersAt w v os) : ∃ xs, SrcIs w v os.length xs ∧ OffersRow w os xs := by
  obtain ⟨A, c, rfl, hc, hm, hr⟩ := h
  by_cases hn : os = []
  · subst hn
    exact ⟨[], ⟨A, c, rfl, fun h => absurd rfl h⟩, rfl, fun i o ho => by cases ho⟩
  · obtain ⟨b, off, rfl, hi⟩ := hr hn
    have at_ : ∀ i r, r < 5 → i < os.length → ∃ u, w.cell? ⟨b, off + (i * 5 + r), none⟩ = some u := by
      intro i r h5 hlt
      obtain ⟨vp, h0, h1, h2, h3, h4, _⟩ := hi i _ (List.getElem?_eq_getElem hlt)
      obtain rfl | rfl | rfl | rfl | rfl : r = 0 ∨ r = 1 ∨ r = 2 ∨ r = 3 ∨ r = 4 := by omega
      · exact ⟨_, h0⟩
      · exact ⟨_, by rw [← Nat.add_assoc]; exact h1⟩
      · exact ⟨_, by rw [← Nat.add_assoc]; exact h2⟩
      · exact ⟨_, by rw [← Nat.add_assoc]; exact h3⟩
      · exact ⟨_, by rw [← Nat.add_assoc]; exact h4⟩
    have get : ∀ j u, w.cell? ⟨b, off + j, none⟩ = some u → j < os.length * 5 → ((List.range (os.length * 5)).map fun j => (w.cell? ⟨b, off + j, none⟩).getD .nilIface)[j]? = some u := by
      intro j u hu hj
      rw [List.getElem?_map, List.getElem?_range hj, Option.map_some, hu]
      rfl
    refine ⟨(List.range (os.length * 5)).map fun j => (w.cell? ⟨b, off + j, none⟩).getD .nilIface, ⟨_, c, rfl, fun _ => ⟨b, off, rfl, fun j u hj => ?_⟩⟩, by simp, fun i o ho => ?_⟩
    · rw [List.getElem?_map] at hj
      by_cases hlt : j < os.length * 5
      · rw [List.getElem?_range hlt, Option.map_some] at hj
        have hj' := Option.some.inj hj
        obtain ⟨u', hu'⟩ := at_ (j / 5) (j % 5) (Nat.mod_lt _ (by omega)) (by omega)
        rw [show j / 5 * 5 + j % 5 = j by omega] at hu'
        rw [hu'] at hj'
        rw [hu', ← hj']
        rfl
      · rw [List.getElem?_eq_none (by rw [List.length_range]; omega)] at hj
        cases hj
    · obtain ⟨vp, h0, h1, h2, h3, h4, h5⟩ := hi i o ho
      have hlt : i < os.length := (List.getElem?_eq_some_iff.1 ho).1
      refine ⟨vp, get _ _ h0 (by omega), get _ _ (by rw [← Nat.add_assoc]; exact h1) (by omega), get _ _ (by rw [← Nat.add_assoc]; exact h2) (by omega), get _ _ (by rw [← Nat.add_assoc]; exact h3) (by omega), get _ _ (by rw [← Nat.add_assoc]; exact h4) (by omega), h5⟩

theorem offers_of_own {w : World} {base : Nat} {v : Value} {n : Nat} {xs : List Value} {os : List Ov} (h : w.ownsRow base 51 5 v n xs) (hn : n = os.length) (hb : n ≤ 9223372036854775807) (hr : OffersRow w os xs) : OffersAt w v os := by
  subst hn
  rcases h.2 with ⟨rfl, h0⟩ | ⟨g, cap, cur, rfl, hg, hk, hc, hm, hs, ht⟩
  · refine ⟨none, 0, by rw [h0], by omega, hb, fun hne => ?_⟩
    exact absurd (List.eq_nil_of_length_eq_zero h0) hne
  · refine ⟨some ⟨g, 0, none⟩, cap, rfl, hc, hb, fun _ => ⟨g, 0, rfl, fun i o ho => ?_⟩⟩
    obtain ⟨vp, h0, h1, h2, h3, h4, h5⟩ := hr.2 i o ho
    have cell : ∀ j u, xs[j]? = some u → w.cell? ⟨g, 0 + j, none⟩ = some u := fun j u hj => by
      have := h.cells (g := g) rfl j u hj
      rwa [Go.WideShapes.add_plain] at this
    refine ⟨vp, cell _ _ h0, ?_, ?_, ?_, ?_, h5⟩
    · rw [Nat.add_assoc]; exact cell _ _ h1
    · rw [Nat.add_assoc]; exact cell _ _ h2
    · rw [Nat.add_assoc]; exact cell _ _ h3
    · rw [Nat.add_assoc]; exact cell _ _ h4

/-- cells that read as lists of terms -/
def AskedRow (w : World) (L : List (List Tv)) (xs : List Value) : Prop := xs.length = L.length ∧ ∀ (i : Nat) (x : List Tv), L[i]? = some x → ∃ vx, xs[i]? = some vx ∧ TermsAt w vx x
theorem AskedRow.below {w w' : World} {L : List (List Tv)} {xs : List Value} (h : AskedRow w L xs) (hb : Below w.heap.size w w') : AskedRow w' L xs :=
  ⟨h.1, fun i x hx => by
    obtain ⟨vx, h0, h1⟩ := h.2 i x hx
    exact ⟨vx, h0, h1.below hb⟩⟩
theorem AskedRow.append {w : World} {L M : List (List Tv)} {xs ys : List Value} (h : AskedRow w L xs) (k : AskedRow w M ys) : AskedRow w (L ++ M) (xs ++ ys) := by
  refine ⟨by rw [List.length_append, List.length_append, h.1, k.1], fun i x hx => ?_⟩
  have hlen := h.1
  by_cases hi : i < L.length
  · rw [List.getElem?_append_left hi] at hx
    obtain ⟨vx, h0, h1⟩ := h.2 i x hx
    exact ⟨vx, by rw [List.getElem?_append_left (by omega)]; exact h0, h1⟩
  · rw [List.getElem?_append_right (by omega)] at hx
    obtain ⟨vx, h0, h1⟩ := k.2 _ x hx
    exact ⟨vx, by rw [List.getElem?_append_right (by omega), hlen]; exact h0, h1⟩
theorem AskedRow.one {w : World} {L : List (List Tv)} {xs : List Value} (h : AskedRow w L xs) : ∀ u ∈ xs, u.oneCell' = true := by
  intro u hu
  obtain ⟨j, hj⟩ := List.mem_iff_getElem?.1 hu
  have hlt := (List.getElem?_eq_some_iff.1 hj).1
  rw [h.1] at hlt
  obtain ⟨vx, h0, A, c, hv, _⟩ := h.2 j _ (List.getElem?_eq_getElem (by omega))
  rw [h0] at hj
  rw [← Option.some.inj hj, hv]; rfl
theorem AskedAt.src {w : World} {v : Value} {L : List (List Tv)} (h : AskedAt w v L) : ∃ xs, SrcIs w v L.length xs ∧ AskedRow w L xs := by
  obtain ⟨A, c, rfl, hc, hm, hr⟩ := h
  by_cases hn : L = []
  · subst hn
    exact ⟨[], ⟨A, c, rfl, fun h => absurd rfl h⟩, rfl, fun i o ho => by cases ho⟩
  · obtain ⟨b, off, rfl, hi⟩ := hr hn
    refine ⟨(List.range L.length).map fun j => (w.cell? ⟨b, off + j, none⟩).getD .nilIface, ⟨_, c, rfl, fun _ => ⟨b, off, rfl, fun j u hj => ?_⟩⟩, by simp, fun i x hx => ?_⟩
    · rw [List.getElem?_map] at hj
      by_cases hlt : j < L.length
      · rw [List.getElem?_range hlt, Option.map_some] at hj
        have hj' := Option.some.inj hj
        obtain ⟨u', hu', _⟩ := hi j _ (List.getElem?_eq_getElem hlt)
        rw [hu'] at hj'
        rw [hu', ← hj']
        rfl
      · rw [List.getElem?_eq_none (by rw [List.length_range]; omega)] at hj
        cases hj
    · obtain ⟨vx, h0, h1⟩ := hi i x hx
      have hlt : i < L.length := (List.getElem?_eq_some_iff.1 hx).1
      exact ⟨vx, by rw [List.getElem?_map, List.getElem?_range hlt, Option.map_some, h0]; rfl, h1⟩

theorem info_offer : (Tryd.prog.info? 51).map (fun i => (i.zero, i.size, i.bytes)) = some (some (.agg #[.string ⟨#[]⟩, .int .i64 0, .string ⟨#[]⟩, .string ⟨#[]⟩, .slice none 0 0]), 5, 80) := by kernel_rfl

theorem below_grown {w0 w w' : World} {e : TypeId} {size n : Nat} {v : Value} {xs : List Value} (hB : Below w0.heap.size w0 w) (ho : w.ownsRow w0.heap.size e size v n xs) (hg : w.grownBy w' v.ownBlock) : Below w0.heap.size w0 w' :=
  hB.grown hg hB.size (fun g e => (ho.lt g e).1)
theorem made_at (w : World) (e : TypeId) (size : Nat) : (w.alloc (.cells #[] e)).ownsRow w.heap.size e size (.slice (some ⟨w.heap.size, 0, none⟩) 0 0) 0 [] := World.ownsRow_made w #[] 0 (Nat.le_refl _) (by decide) (by simp)

/-! the plain law -/
theorem met_mono {L : List (List Tv)} {a b : List Ov} (hab : ∀ o ∈ a, o ∈ b) (h : metB L a = true) : metB L b = true := by
  unfold metB at h ⊢
  rw [List.all_eq_true] at h ⊢
  intro x hx
  have h1 := h x hx
  unfold metX at h1 ⊢
  rw [List.any_eq_true] at h1 ⊢
  obtain ⟨t, ht, h2⟩ := h1
  rw [List.any_eq_true] at h2
  obtain ⟨o, ho, h3⟩ := h2
  exact ⟨t, ht, List.any_eq_true.2 ⟨o, hab o ho, h3⟩⟩
theorem met_comm (L : List (List Tv)) (a b : List Ov) : metB L (a ++ b) = metB L (b ++ a) := by
  have key : ∀ a b, metB L (a ++ b) = true → metB L (b ++ a) = true := fun a b h => met_mono (fun o ho => by
    rcases List.mem_append.1 ho with h | h
    · exact List.mem_append_right _ h
    · exact List.mem_append_left _ h) h
  cases h : metB L (a ++ b) with
  | true => exact (key a b h).symm
  | false =>
    cases h' : metB L (b ++ a) with
    | false => rfl
    | true => rw [key b a h'] at h; cases h
theorem met_append (L M : List (List Tv)) (os : List Ov) : metB (L ++ M) os = (metB L os && metB M os) := by
  unfold metB; rw [List.all_append]

def askN (n : ByteArray) : Tv := ⟨n, 0, 0, ⟨#[]⟩, ⟨#[]⟩⟩
def askV (o : Ov) : Tv := ⟨o.n, 3, o.e, o.u, o.r⟩
theorem meets_name (o : Ov) : meetsB o (askN o.n) = true := by
  unfold meetsB isB VP.isOp askN
  simp
theorem meets_same (o : Ov) : meetsB o (askV o) = true := by
  have h : VP.cmpV o.e o.u.data.toList o.r.data.toList o.e o.u.data.toList o.r.data.toList = 0 := by
    unfold VP.cmpV
    have r : ∀ a, VP.partC a a = 0 := fun a => by have := VP.row_partC.anti a a; omega
    rw [r, r]
    simp [VP.cmpI, VP.orc]
  unfold meetsB isB VP.isOp askV
  simp [h]
theorem meets_prov (o : Ov) (t : Tv) (ht : t ∈ o.ps) : meetsB o (askN t.n) = true := by
  unfold meetsB
  have : o.ps.any (provB (askN t.n)) = true := List.any_eq_true.2 ⟨t, ht, by unfold provB askN; simp⟩
  rw [this, Bool.or_true]
end Go.Proofs.YtlkmmejlnohjhaaDoor

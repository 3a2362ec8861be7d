/- VersionReads: for every text and every version the call returns true, and its arguments read as before: the row, and its tied card. Conditions: none of ours; the row lists six of the library's tables, tied to the program's text. -/
import Derived.Test.YtlkmmejlnohjhaaDoorReadsLaw
import Derived.Test.YtlkmmejlnohjhaaDoorHandle
import Derived.Test.YtlkmmejlnohjhaaDoorTie
import Derived.Test.YtlkmmejlnohjhaaDoorCards
namespace Go.Proofs.YtlkmmejlnohjhaaDoor
open Go.RowKit Go.ChangeShapes Go.WideShapes Go.ChangeAt Go.Joins

theorem reads_calls (s : ByteArray) (e : Int) (u r : ByteArray) (w : World) (hE : Env w) (hG : EnvE w) (h0 : -9223372036854775808 ≤ e) (h1 : e ≤ 9223372036854775807) :
    Calls Tryd.prog 4 #[.string s, .agg #[.int .i64 e, .string u, .string r]] w (BoolIs true w) := by
  by_cases hs : 200 < s.size
  · exact reads_long s e u r w hs
  have hs' : s.size ≤ 200 := by omega
  cases hsh : shortB u r with
  | false => exact reads_short s e u r w hs' (fun W _ => by have := lawShort_calls e u r W; rw [hsh] at this; exact this)
  | true =>
  have hz : u.size ≤ 100 ∧ r.size ≤ 100 := by unfold shortB at hsh; simpa using hsh
  obtain ⟨e', u', r', n, p1, p2⟩ := parse_both s hE
  refine reads_main s e u r w hs' (fun W _ => by have := lawShort_calls e u r W; rw [hsh] at this; exact this) e' u' r' n (errV n) p1 p2
    (fun W hb => (bare_calls n n W (hG.below hb)).mono fun E W' h => ⟨by rw [h.1]; exact ret_bool (by simp), h.2⟩)
    (VP.rightP e u.data.toList r.data.toList) (fun W hb => right_calls e u r W (hE.below hb) (by omega) (by omega)) (fun W hb => refRight_calls e u r W (hE.below hb) h0 h1 (by omega) (by omega))
    ⟨(VP.printP e u.data.toList r.data.toList).toArray⟩ (fun W hb => (print_calls e u r W (hE.below hb) h0 h1 (by omega) (by omega)).mono fun E W' ⟨t, he, ht, hb'⟩ => ⟨by rw [he, ← ht, mk_data], hb'⟩)
    (fun W hb => (refPrint_calls e u r W (hE.below hb) h0 h1 (by omega) (by omega)).mono fun E W' ⟨t, he, ht, hb'⟩ => ⟨by rw [he, ← ht, mk_data], hb'⟩)

set_option maxRecDepth 100000 in
/-- A version that comes in, with its epoch's bounds. -/
theorem open_vers_b {H : Type} {enc : TypeId × Value → H} {W : World} {base b0 : Nat} {spare : Nat → Bool} {held : Bool} {r : Reach} {v : Value} {d : DataW H} {p : List MemPlace}
    (hv : Value.okWide Tryd.prog W r b0 23 v) (h : DataW.Trod enc Tryd.prog W base spare held 23 v d p) :
    ∃ (e : Int) (u s : ByteArray), v = .agg #[.int .i64 e, .string u, .string s] ∧ p = [] ∧ -9223372036854775808 ≤ e ∧ e ≤ 9223372036854775807 := by
  obtain ⟨c0, c1, c2, y0, y1, y2, m, rfl, _, rfl, hy0, hy1, hy2⟩ := open_agg3 Tryd.underlying23 (by kernel_rfl) (by kernel_rfl) hv h
  obtain ⟨e, e0, rfl, we⟩ := DataW.trod_int Tryd.underlying3 hy0
  obtain ⟨u, e1, rfl, _⟩ := DataW.trod_string Tryd.underlying9 hy1
  obtain ⟨s, e2, rfl, _⟩ := DataW.trod_string Tryd.underlying9 hy2
  simp at e0 e1 e2
  subst e0 e1 e2
  have hw := we
  simp [Lit.wf, IntKind.min, IntKind.max, IntKind.bits, IntKind.signed] at hw
  exact ⟨e, u, s, rfl, rfl, by omega, by omega⟩

set_option maxRecDepth 100000 in
theorem reads_lifted (os : Os) (started : os.Started) (H : Type) (enc : TypeId × Value → H) :
    ReturnsInHanded {} Tryd.checked os 4 .any (fun w args => (Rows.versionReadsSpec.pre enc Tryd.prog Tryd.f4 [] false w args ∧ laidMetH Tryd.prog Rows.versionReadsRow.laid w) ∧ sizedMet enc Tryd.prog Tryd.f4 (OpenSpec.ofChange Rows.versionReadsSpec) false w args)
      (Rows.versionReadsSpec.post enc Tryd.prog Tryd.f4 false true false false) := by
  refine returnsInHanded_listed_shaped (C := Tryd.checked) (X := fun w _ => laidMetH Tryd.prog Rows.versionReadsRow.laid w) (fun _ _ _ hh h => h.of_heap hh) own started (by kernel_rfl) Tryd.func4
    (ChangeSpec.witness_shaped (enc := enc) (C := Tryd.checked) (os := os) (X := fun w _ => laidMetH Tryd.prog Rows.versionReadsRow.laid w) false (handWorld os Rows.versionReadsRow.laid) #[.string ⟨#[]⟩, .agg #[.int .i64 0, .string ⟨#[]⟩, .string ⟨#[]⟩]] 8 (handWorld_os _ _)
      (World.shaped_of_ZipB (by kernel_rfl) (by kernel_rfl)) (by kernel_rfl) (by kernel_rfl) (by kernel_rfl)
      (handWorld_met _ (by kernel_rfl) (by kernel_rfl) (by kernel_rfl))) ?_
  intro W base args ds gs before hval0 hW _ _ hL hsh _
  have hval : ∀ (j : Nat) t v, Tryd.f4.params[j]? = some t → args[j]? = some v → Value.okWide Tryd.prog W .any base t v := hval0
  have hW' := hW
  obtain ⟨p, q, hA0, hV, rfl, _, _⟩ := hW
  have hA : DataW.TrodAll enc Tryd.prog W 0 (fun _ => true) true Tryd.f4.params.toList args.toList ds p := hA0
  rw [Tryd.params4] at hA hval
  obtain ⟨v0, v1, d0, d1, p0, p1, rfl, rfl, rfl, h0, h1⟩ := trodAll_two hA
  obtain ⟨rfl, rfl⟩ := trodVars_none hV
  obtain ⟨s, rfl, rfl, rfl, _⟩ := ChangeMaps.open_string Tryd.underlying9 (hval 0 9 v0 rfl rfl) h0
  obtain ⟨e, u, r, rfl, rfl, b0, b1⟩ := open_vers_b (hval 1 23 v1 rfl rfl) h1
  have hE : Env W := env_handed hL (.tail _ (.tail _ (.head _))) hsh
  have hG : EnvE W := envE_at hL (.tail _ (.tail _ (.tail _ (.tail _ (.head _)))))
  refine (reads_calls s e u r W hE hG b0 b1).mono fun e W' ⟨he, hb⟩ => ?_
  subst he
  have hargs := below_trodAll (enc := enc) laidOut hb (by kernel_rfl) hA (by intro x hx; simp at hx)
  exact ⟨_, rfl, _, _, _, [], _, [], hW', trodAll_mk1 (shut_bool Tryd.underlying4 _), hargs, rfl, hb.frame _, fun h => by cases h⟩

theorem reads_holds : Rows.VersionReadsSaid :=
  OpenClaim.holds_of_wide 4 Tryd.f4 rfl rfl rfl rfl rfl rfl rfl ⟨rfl, rfl, rfl, rfl, rfl⟩ rfl rfl rfl rfl rfl (by kernel_rfl) Tryd.func4 (by kernel_rfl)
    (of_decide_eq_true (by kernel_rfl)) (by unfold Func.isWrapper; first | (rw [if_pos (by decide +kernel)]; kernel_rfl) | (rw [if_neg (by decide +kernel)]; exact ⟨rfl, rfl⟩))
    (fun os started H enc _ => reads_lifted os started H enc)

theorem reads_card : Rows.VersionReadsCardSaid :=
  Claim7.holds_tied_plain_at .later [] [.data, .data, .data, .data, .handle, .pinned] true Rows.versionReadsCard.stood.harness true
    reads_holds (fun _ h => by cases h) (by kernel_rfl) (fun _ h => by cases h) versionReads_row_tie rfl ⟨rfl, rfl⟩ (by kernel_rfl) rfl
    (fun f fn hf hfn => by
      obtain rfl : f = 4 := Option.some.inj ((show Tryd.prog.funcNamed "stevedore/stevedorelaw.VersionReads" = some 4 by kernel_rfl).symm.trans hf) |>.symm
      obtain rfl : fn = Tryd.f4 := (Option.some.inj (Tryd.func4.symm.trans hfn)).symm
      exact ⟨by kernel_rfl, fun j t ht => by
        rw [Tryd.params4] at ht
        have hm : t ∈ [9, 23] := by simpa using Array.mem_of_getElem? ht
        have hall : ([9, 23].all fun u => !Tryd.prog.wantsStandIn u) = true := by kernel_rfl
        exact (show Tryd.prog.wantsStandIn t = false by simpa using List.all_eq_true.1 hall t hm)⟩)
    (by kernel_rfl)
#print axioms reads_card
end Go.Proofs.YtlkmmejlnohjhaaDoor

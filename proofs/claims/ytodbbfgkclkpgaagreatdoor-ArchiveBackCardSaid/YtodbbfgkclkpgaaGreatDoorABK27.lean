/- The reference's Terms. · depend.List and the reference's List. · The package that fields are: plain: what is read, step by step. -/
import Derived.Test.YtodbbfgkclkpgaaGreatDoorABK7
import Derived.Test.YtodbbfgkclkpgaaGreatDoorABK2
import Derived.Test.YtodbbfgkclkpgaaGreatDoorABK20
import Derived.Test.YtodbbfgkclkpgaaGreatDoorABK8
import Derived.Deep.RegionHeld3
import Derived.Test.YtodbbfgkclkpgaaGreatDoorABK12
import Derived.Test.YtodbbfgkclkpgaaGreatDoorABK19
import Derived.Test.YtodbbfgkclkpgaaGreatDoorABK17
import Derived.Test.YtodbbfgkclkpgaaGreatDoorABK25
import Derived.Test.YtodbbfgkclkpgaaGreatDoorABK5
import Derived.Test.YtodbbfgkclkpgaaGreatDoorABK21
namespace Go.Proofs.YtodbbfgkclkpgaaGreatDoor
open Go.RowKit

end Go.Proofs.YtodbbfgkclkpgaaGreatDoor

namespace Go.Proofs.YtodbbfgkclkpgaaGreatDoor
open Go.RowKit

theorem termsAt_own {W : World} {base : Nat} {v : Value} {ts : List Tv} (h : W.ownsRow base 99 5 v ts.length (ts.flatMap Tv.cells)) (hm : ts.length ≤ 9223372036854775807) (hok : ∀ t ∈ ts, t.ok) : TermsAt W v ts := (termsIn_own (B := base) h (Nat.le_refl _) hm hok).1

/-- what holds of what was read -/
structure ReadL (L : List (List Tv)) : Prop where
  ne : ∀ x ∈ L, x ≠ []
  sum : L.flatten.length ≤ 30
theorem readL {l : List UInt8} {L : List (List Tv)} (h : VP.termsP l = .ok (tmL L)) : ReadL L := by
  have ha := VP.termsP_asked h
  refine ⟨fun x hx e => (ha.each (x.map Tv.tm) (List.mem_map.2 ⟨x, hx, rfl⟩)).1 (by rw [e]; rfl), ?_⟩
  have h2 : VP.total (tmL L) ≤ 30 := ha.few
  unfold VP.total tmL at h2
  rw [List.map_map] at h2
  rw [List.length_flatten]
  have e : (L.map (List.length ∘ fun x => x.map Tv.tm)) = L.map List.length := List.map_congr_left fun x _ => List.length_map _
  rw [e] at h2
  exact h2
theorem tmL_flatten (L : List (List Tv)) : (tmL L).flatten = L.flatten.map Tv.tm := by unfold tmL; rw [List.map_flatten]
theorem take_flatten_len {L : List (List Tv)} (k : Nat) : (L.take k).flatten.length ≤ L.flatten.length := by
  conv => rhs; rw [← List.take_append_drop k L]
  rw [List.flatten_append, List.length_append]
  omega
theorem take_flatten_succ {L : List (List Tv)} {k : Nat} {x : List Tv} (h : L[k]? = some x) : (L.take (k + 1)).flatten = (L.take k).flatten ++ x := by
  rw [List.take_add_one, h, List.flatten_append]
  simp
theorem flat_ne (L : List (List Tv)) (h : ∀ x ∈ L, x ≠ []) : L.length ≤ L.flatten.length := by
  induction L with
  | nil => simp
  | cons x L ih =>
    have h1 := ih fun y hy => h y (.tail _ hy)
    have h2 : 0 < x.length := List.length_pos_iff.2 (h x (.head _))
    rw [List.flatten_cons, List.length_append, List.length_cons]
    omega
def ListFIs (s : ByteArray) (w : World) (E : Ending) (w' : World) : Prop :=
  Below w.heap.size w w' ∧ ((∃ ts v, E = .returned (.tuple #[v, .nilIface]) ∧ VP.listP s.data.toList = .ok (ts.map Tv.tm) ∧ TermsAt w' v ts ∧ SlFr w.heap.size v) ∨
    (∃ e, E = .returned (.tuple #[.slice none 0 0, .iface 32 (.int .i64 e)]) ∧ VP.listP s.data.toList = .error e ∧ (e = 3 ∨ e = 4)))

set_option maxHeartbeats 4000000 in
set_option maxRecDepth 100000 in
theorem depListF_calls (s : ByteArray) (w : World) (hE : Env w) (hS : EnvS w) (hs : s.size ≤ 200000) : Calls Tryz.prog 98 #[.string s] w (ListFIs s w) := by
  obtain ⟨i0, hi, hz0, hz1, hz2⟩ := info_parts info_term
  have HC := Lib.hid (terms_walk s w hE hS hs)
  clear hE hS
  go_enter Tryz.func98, Tryz.ntmps98
  go_wp2_with fail
  refine HC.out.mono ?_
  rintro E w1 ⟨hb1, ⟨L, v, rfl, hok, hA, hsm⟩ | ⟨e, rfl, herr, he⟩⟩
  · have HB1 := Lib.hid hb1
    have hRL := readL hok
    have HRL := Lib.hid hRL
    have HSM := Lib.hid hsm
    have HOK := Lib.hid (show VP.listP s.data.toList = if (tmL L).all (fun x => decide (x.length ≤ 1)) then .ok (L.flatten.map Tv.tm) else .error 3 by unfold VP.listP; rw [hok]; simp only; rw [tmL_flatten])
    have HALL := Lib.hid (show (tmL L).all (fun x => decide (x.length ≤ 1)) = L.all (fun x => decide (x.length ≤ 1)) by
      unfold tmL
      rw [List.all_map]
      congr 1
      funext x
      simp)
    have hsum := hRL.sum
    have hlL := flat_ne L hRL.ne
    obtain ⟨A, c, rfl, hc, hm, hr⟩ := hA
    have HR := Lib.hid hr
    obtain ⟨len, hlen⟩ : ∃ len, L.length = len := ⟨_, rfl⟩
    have HL := Lib.hid hlen
    rw [hlen] at hc hm hlL ⊢
    clear hlen hr hok hsm hRL hb1
    go_wp2_with fail
    go_loopw [6, 19] (fun v6 i wr => ∃ k : Nat, k ≤ len ∧ i = .int .i64 k ∧ Hid ((L.take k).all (fun x => decide (x.length ≤ 1)) = true) ∧ wr.ownsRow w1.heap.size 99 5 v6 (L.take k).flatten.length ((L.take k).flatten.flatMap Tv.cells) ∧ Below w1.heap.size w1 wr) (fun _ i _ => len - (intOf i).toNat)
    case atStart => exact ⟨0, Nat.zero_le _, rfl, rfl, World.ownsRow_nil _ _ _ _, Below.refl _ _⟩
    case round =>
      obtain ⟨k, hk, rfl, hall, hown, hB⟩ := hrel
      by_cases hlt : k < len
      · obtain ⟨x, hx⟩ : ∃ x, L[k]? = some x := ⟨L[k]'(by have := HL.out; omega), List.getElem?_eq_getElem _⟩
        have hne : L ≠ [] := fun e => by rw [e] at hx; cases hx
        obtain ⟨b, off, rfl, hi'⟩ := HR.out hne
        obtain ⟨vx, hc0, hT⟩ := hi' k x hx
        have hT1 := hT.below hB
        have c0 := kept hB hc0
        have hxne := HRL.out.ne x (List.mem_of_getElem? hx)
        obtain ⟨A', c', rfl, hc', hm', hr'⟩ := hT1
        obtain ⟨b', off', rfl, hi2⟩ := hr' hxne
        have HXM := Lib.hid hx
        have HX := Lib.hid (take_flatten_succ hx)
        have hfl := take_flatten_len (L := L) (k + 1)
        rw [HX.out, List.length_append] at hfl
        have hsz := hB.size
        clear hi' hne hc0 hT hx hr'
        by_cases hlong : 1 < x.length
        · have HN := Lib.hid (show VP.listP s.data.toList = .error 3 by
            rw [HOK.out, HALL.out, if_neg]
            rw [all_stop HXM.out (decide_eq_false (by omega))]
            simp)
          have HBF := Lib.hid (step_below HB1.out hB)
          clear hi2 hxne hown
          go_wp2_with fail
          exact bodyPost_ret (v := .tuple #[.slice none 0 0, .iface 32 (.int .i64 3)]) (by simp [results, Tryz.results98, go_sem]) rfl ⟨HBF.out, .inr ⟨3, rfl, HN.out, .inl rfl⟩⟩
        · obtain ⟨t, rfl⟩ : ∃ t, x = [t] := by
            rcases x with _ | ⟨t, _ | ⟨u, x⟩⟩
            · exact absurd rfl hxne
            · exact ⟨t, rfl⟩
            · simp at hlong
          have HAL := Lib.hid (all_take_succ (p := fun x : List Tv => decide (x.length ≤ 1)) hall.out HXM.out rfl)
          obtain ⟨t0, t1, t2, t3, t4⟩ := (hi2 0 t rfl).1
          rw [Nat.zero_mul, Nat.add_zero] at t0 t1 t2 t3 t4
          have HO := Lib.hid hown
          rw [List.length_singleton] at hc' hm' hfl c0
          clear hi2 hxne hlong
          go_wp2_with (at_builtin; refine wpList_append_own _ rfl _ _ 25 rfl w1.heap.size 99 i0 (.agg #[.string ⟨#[]⟩, .int .i64 0, .int .i64 0, .string ⟨#[]⟩, .string ⟨#[]⟩]) 5 64 Tryz.underlying25 hi hz0 hz1 hz2 rfl (by decide) _ _ _ rfl (HO.out.alloc _) ⟨wr.heap.size, 0, none⟩ 1 1 (Tv.cells ⟨t.n, t.op, t.e, t.u, t.r⟩) rfl rfl (cells_new _ _ _ _ _ _ _ rfl) (by simp [Value.oneCell', Tv.cells]) (by simp only [maxLen]; omega) (by omega) (by simp; omega) ?_; intro v' w7 hown' hgrow _)
          have HOW := Lib.hid hown'
          have HG := Lib.hid hgrow
          clear hown' hgrow
          go_roundw
          case rel =>
            refine ⟨k + 1, by omega, by go_num, HAL, ?_, (hB.alloc hB.size _).grown HG.out (by simp; omega) (fun g e => (HO.out.lt g e).1)⟩
            rw [HX.out, List.length_append, List.flatMap_append]
            exact HOW.out
          case measure => simp [intOf]; omega
      · obtain rfl : k = len := by omega
        have hfull : L.take k = L := by rw [← HL.out, List.take_length]
        rw [hfull] at hown
        have HSF := Lib.hid (slFr_own (B := w.heap.size) hown (by have := HB1.out.size; omega))
        have HTA := Lib.hid (termsAt_own hown (by omega) (fun t ht => by
          obtain ⟨x, hx, htx⟩ := List.mem_flatten.1 ht
          exact (HSM.out x hx t htx).ok))
        obtain ⟨A2, kk2, c2, rfl⟩ := row_shape hown
        have HBF := Lib.hid (step_below HB1.out hB)
        have HN := Lib.hid (show VP.listP s.data.toList = .ok (L.flatten.map Tv.tm) by
          have h1 := hall.out
          rw [hfull] at h1
          rw [HOK.out, HALL.out, if_pos h1])
        clear hown hfull hB hall
        go_wp2_with fail
        exact bodyPost_ret (v := .tuple #[.slice A2 kk2 c2, .nilIface]) (by simp [results, Tryz.results98, go_sem]) rfl ⟨HBF.out, .inl ⟨L.flatten, _, rfl, HN.out, HTA.out, HSF.out⟩⟩
  · have HB1 := Lib.hid hb1
    have HN := Lib.hid (show VP.listP s.data.toList = .error e by unfold VP.listP; rw [herr])
    clear herr hb1
    go_wp2_with fail
    exact bodyPost_ret (v := .tuple #[.slice none 0 0, .iface 32 (.int .i64 e)]) (by simp [results, Tryz.results98, go_sem]) rfl ⟨HB1.out, .inr ⟨e, rfl, HN.out, he⟩⟩
end Go.Proofs.YtodbbfgkclkpgaaGreatDoor

namespace Go.Proofs.YtodbbfgkclkpgaaGreatDoor
open Go Go.RowKit

def tvOf (t : VP.Tm) : Tv := ⟨⟨t.n.toArray⟩, t.op, t.e, ⟨t.u.toArray⟩, ⟨t.r.toArray⟩⟩
theorem tvOf_tm (t : Tv) : tvOf t.tm = t := by
  obtain ⟨n, op, e, u, r⟩ := t
  unfold tvOf Tv.tm
  simp only [mk_data]
theorem tvs_tm (ts : List Tv) : (ts.map Tv.tm).map tvOf = ts := by
  rw [List.map_map]
  conv => rhs; rw [← List.map_id ts]
  exact List.map_congr_left fun t _ => tvOf_tm t
theorem tvL_tm (L : List (List Tv)) : (tmL L).map (fun x => x.map tvOf) = L := by
  unfold tmL
  rw [List.map_map]
  conv => rhs; rw [← List.map_id L]
  exact List.map_congr_left fun x _ => tvs_tm x

/-- what a field says, or nothing -/
def sayF (fs : List Fv) (n : ByteArray) : ByteArray := (getB fs n).getD ⟨#[]⟩
def readT (s : ByteArray) : Except Int (List (List Tv)) := match VP.termsP s.data.toList with
  | .error e => .error e
  | .ok M => .ok (M.map fun x => x.map tvOf)
def readS (s : ByteArray) : Except Int (List Tv) := match VP.listP s.data.toList with
  | .error e => .error e
  | .ok M => .ok (M.map tvOf)
theorem readT_ok {s : ByteArray} {L : List (List Tv)} (h : VP.termsP s.data.toList = .ok (tmL L)) : readT s = .ok L := by unfold readT; rw [h]; exact congrArg _ (tvL_tm L)
theorem readT_no {s : ByteArray} {e : Int} (h : VP.termsP s.data.toList = .error e) : readT s = .error e := by unfold readT; rw [h]
theorem readS_ok {s : ByteArray} {ts : List Tv} (h : VP.listP s.data.toList = .ok (ts.map Tv.tm)) : readS s = .ok ts := by unfold readS; rw [h]; exact congrArg _ (tvs_tm ts)
theorem readS_no {s : ByteArray} {e : Int} (h : VP.listP s.data.toList = .error e) : readS s = .error e := by unfold readS; rw [h]

/-- the k-th of the six -/
def rdK (fs : List Fv) (p : Pv) : Nat → Except Int Pv
  | 0 => (readT (sayF fs nDepends)).map fun L => { p with dep := L }
  | 1 => (readT (sayF fs nPre)).map fun L => { p with ahead := L }
  | 2 => (readS (sayF fs nConflicts)).map fun L => { p with ag := L }
  | 3 => (readS (sayF fs nBreaks)).map fun L => { p with br := L }
  | 4 => (readS (sayF fs nReplaces)).map fun L => { p with re := L }
  | 5 => (readS (sayF fs nProvides)).map fun L => { p with pr := L }
  | _ => .ok p
def rdTo (fs : List Fv) (p : Pv) : Nat → Except Int Pv
  | 0 => .ok p
  | k + 1 => match rdTo fs p k with
    | .error e => .error e
    | .ok q => rdK fs q k
theorem rdTo_error {fs : List Fv} {p : Pv} {k : Nat} {e : Int} (h : rdTo fs p k = .error e) : ∀ m, k ≤ m → rdTo fs p m = .error e := by
  intro m hm
  induction m with
  | zero => obtain rfl : k = 0 := by omega
            exact h
  | succ m ih =>
    rcases Nat.lt_or_ge m k with h1 | h1
    · obtain rfl : k = m + 1 := by omega
      exact h
    · unfold rdTo
      rw [ih h1]
def pack0 : Pv := ⟨⟨#[]⟩, 0, ⟨#[]⟩, ⟨#[]⟩, [], [], [], [], [], [], [], [], []⟩
/-- behind the six: the lines -/
def rdEnd (fs : List Fv) (q : Pv) : Pv := { q with se := linesV fs nConffiles, li := linesV fs nTriggers }
def readP (fs : List Fv) : Except Int Pv :=
  if (getB fs nPackage).isSome && (getB fs nVersion).isSome then
    match VP.parseP (sayF fs nVersion).data.toList with
    | none => .error 3
    | some (e, u, r) => match rdTo fs { pack0 with n := sayF fs nPackage, e := e, u := ⟨u.toArray⟩, r := ⟨r.toArray⟩ } 6 with
      | .error x => .error x
      | .ok q => if linesOk fs nConffiles && linesOk fs nTriggers then (if saysOk (rdEnd fs q) then .ok (rdEnd fs q) else .error 1) else .error 3
  else .error 7
def rdE (fs : List Fv) : Int := match readP fs with
  | .ok _ => 0
  | .error e => e
def rdV (fs : List Fv) : Pv := match readP fs with
  | .ok p => p
  | .error _ => pack0
theorem rd_error {fs : List Fv} {e : Int} (h : readP fs = .error e) : rdE fs = e ∧ rdV fs = pack0 := by unfold rdE rdV; rw [h]; exact ⟨rfl, rfl⟩
theorem rd_ok {fs : List Fv} {p : Pv} (h : readP fs = .ok p) : rdE fs = 0 ∧ rdV fs = p := by unfold rdE rdV; rw [h]; exact ⟨rfl, rfl⟩
theorem readP_missing {fs : List Fv} (h : ((getB fs nPackage).isSome && (getB fs nVersion).isSome) = false) : readP fs = .error 7 := by unfold readP; rw [h]; rfl
theorem readP_version {fs : List Fv} (h : ((getB fs nPackage).isSome && (getB fs nVersion).isSome) = true) (hv : VP.parseP (sayF fs nVersion).data.toList = none) : readP fs = .error 3 := by unfold readP; rw [h, hv]; rfl
def rdP1 (fs : List Fv) (e : Int) (u r : ByteArray) : Pv := { pack0 with n := sayF fs nPackage, e := e, u := u, r := r }
theorem readP_six {fs : List Fv} {e : Int} {u r : ByteArray} (h : ((getB fs nPackage).isSome && (getB fs nVersion).isSome) = true) (hv : VP.parseP (sayF fs nVersion).data.toList = some (e, u.data.toList, r.data.toList)) :
    readP fs = match rdTo fs (rdP1 fs e u r) 6 with
      | .error x => .error x
      | .ok q => if linesOk fs nConffiles && linesOk fs nTriggers then (if saysOk (rdEnd fs q) then .ok (rdEnd fs q) else .error 1) else .error 3 := by
  unfold readP rdP1
  rw [h, hv]
  dsimp only
  rw [mk_data, mk_data]
  rfl

/-! the box of a package that is being filled, and blocks that are none of its -/
/-- from B on all blocks are as they were -/
def FromAs (B : Nat) (W W' : World) : Prop := ∀ j, B ≤ j → j < W.heap.size → W'.heap[j]? = W.heap[j]?
theorem FromAs.of_below {B : Nat} {W W' : World} (hb : Below W.heap.size W W') : FromAs B W W' := fun j _ hj => hb.block j hj
theorem fromAs_set (W : World) (b i : Nat) (v : Value) : FromAs (b + 1) W (W.setCell ⟨b, i, none⟩ v) := fun j hj _ => by
  unfold World.setCell
  rw [Array.getElem?_modify, if_neg (by show ¬ b = j; omega)]
theorem FromAs.cell {B : Nat} {W W' : World} {a : Addr} {v : Value} (h : FromAs B W W') (hB : B ≤ a.block) (hc : W.cell? a = some v) : W'.cell? a = some v := by
  have := h a.block hB (cell_lt hc)
  unfold World.cell? at hc ⊢
  rw [this]; exact hc
def AskedIn (B : Nat) (W : World) (v : Value) (L : List (List Tv)) : Prop := AskedAt W v L ∧ AskedFr B W v L
theorem AskedIn.keep {B : Nat} {W W' : World} {v : Value} {L : List (List Tv)} (h : AskedIn B W v L) (k : FromAs B W W') : AskedIn B W' v L := by
  obtain ⟨⟨A, c, rfl, hc, hm, hr⟩, ht⟩ := h
  refine ⟨⟨A, c, rfl, hc, hm, fun hn => ?_⟩, ?_⟩
  · obtain ⟨b, off, rfl, hi⟩ := hr hn
    obtain ⟨t0, t1⟩ := ht b off _ _ rfl hn
    refine ⟨b, off, rfl, fun i x hx => ?_⟩
    obtain ⟨vx, h0, A', c', hv, hc', hm', hr'⟩ := hi i x hx
    refine ⟨vx, k.cell t0 h0, A', c', hv, hc', hm', fun hnx => ?_⟩
    obtain ⟨b', off', rfl, hi'⟩ := hr' hnx
    have t2 := t1 i x hx b' off' _ _ (by rw [h0, hv]) hnx
    refine ⟨b', off', rfl, fun q t hq => ?_⟩
    obtain ⟨⟨c0, c1, c2, c3, c4⟩, hok⟩ := hi' q t hq
    exact ⟨⟨k.cell t2 c0, k.cell t2 c1, k.cell t2 c2, k.cell t2 c3, k.cell t2 c4⟩, hok⟩
  · intro b off n c' hv hn
    obtain ⟨t0, t1⟩ := ht b off n c' hv hn
    refine ⟨t0, fun i x hx b' off' n' c'' hcell hnx => ?_⟩
    obtain ⟨b1, off1, hA, hi⟩ := hr hn
    injection hv with hv _ _
    rw [hA] at hv
    injection hv with hv
    injection hv with hb1 ho1 _
    subst hb1
    subst ho1
    obtain ⟨vx, h0, _⟩ := hi i x hx
    have h0' := k.cell t0 h0
    rw [hcell] at h0'
    have hvx := Option.some.inj h0'
    rw [← hvx] at h0
    exact t1 i x hx b' off' n' c'' h0 hnx
def TermsFrom (B : Nat) (W : World) (v : Value) (ts : List Tv) : Prop := TermsAt W v ts ∧ SlFr B v
theorem TermsFrom.keep {B : Nat} {W W' : World} {v : Value} {ts : List Tv} (h : TermsFrom B W v ts) (k : FromAs B W W') : TermsFrom B W' v ts := by
  obtain ⟨⟨A, c, rfl, hc, hm, hr⟩, ht⟩ := h
  refine ⟨⟨A, c, rfl, hc, hm, fun hn => ?_⟩, ht⟩
  obtain ⟨b, off, rfl, hi⟩ := hr hn
  have t0 := ht b off _ _ rfl
  refine ⟨b, off, rfl, fun q t hq => ?_⟩
  obtain ⟨⟨c0, c1, c2, c3, c4⟩, hok⟩ := hi q t hq
  exact ⟨⟨k.cell t0 c0, k.cell t0 c1, k.cell t0 c2, k.cell t0 c3, k.cell t0 c4⟩, hok⟩
def StrsFrom (B : Nat) (W : World) (v : Value) (ss : List ByteArray) : Prop := StrsAt W v ss ∧ SlFr B v
theorem StrsFrom.keep {B : Nat} {W W' : World} {v : Value} {ss : List ByteArray} (h : StrsFrom B W v ss) (k : FromAs B W W') : StrsFrom B W' v ss := by
  obtain ⟨⟨A, c, rfl, hc, hm, hr⟩, ht⟩ := h
  refine ⟨⟨A, c, rfl, hc, hm, fun hn => ?_⟩, ht⟩
  obtain ⟨b, off, rfl, hi⟩ := hr hn
  exact ⟨b, off, rfl, fun j u hj => k.cell (ht b off _ _ rfl) (hi j u hj)⟩
theorem askedIn_nil (B : Nat) (W : World) (n : Nat) : AskedIn B W (.slice none 0 n) [] := ⟨⟨none, n, rfl, Nat.zero_le _, by simp, fun h => absurd rfl h⟩, askedFr_nil _ _ _ _ _⟩
theorem termsFrom_nil (B : Nat) (W : World) (n : Nat) : TermsFrom B W (.slice none 0 n) [] := ⟨⟨none, n, rfl, Nat.zero_le _, by simp, fun h => absurd rfl h⟩, slFr_nil _ _ _⟩
theorem strsFrom_nil (B : Nat) (W : World) (n : Nat) : StrsFrom B W (.slice none 0 n) [] := ⟨SlC.nil _ _ _, slFr_nil _ _ _⟩
end Go.Proofs.YtodbbfgkclkpgaaGreatDoor

/- stevedorekeep.there: all that lies on a shelf, as one text: plain, and walked. -/
import Derived.Test.YtpbbhjifgaeklaaGreatDoorSOK30
namespace Go.Proofs.YtpbbhjifgaeklaaGreatDoor
open Go Go.RowKit Go.Maps

def lpB : ByteArray := ⟨#[40]⟩
def rpB : ByteArray := ⟨#[41]⟩
def eqB : ByteArray := ⟨#[61]⟩
def smB : ByteArray := ⟨#[59]⟩
def hyB : ByteArray := ⟨#[45]⟩
def joinK (l : List ByteArray) : ByteArray := ⟨(Lib.join (l.map (·.data.toList)) [44]).toArray⟩
def lineQ (M : Fm) (q : ByteArray) : ByteArray := ((q ++ eqB) ++ (getF M (thP ++ q)).getD hyB) ++ smB
def thereP (M : Fm) : List ByteArray → ByteArray → ByteArray
  | [], t => t
  | q :: r, t => thereP M r (t ++ lineQ M q)
def settingsM (M : Fm) (n : ByteArray) : List ByteArray := (pathsM M n).filter fun q => !(getF M (spP ++ q)).isNone
def headN (M : Fm) (n : ByteArray) (t : ByteArray) : ByteArray := thereP M (pathsM M n) (t ++ (n ++ lpB))
def thereN (M : Fm) : List ByteArray → ByteArray → ByteArray
  | [], t => t
  | n :: r, t => thereN M r (headN M n t ++ (joinK (settingsM M n) ++ rpB))
def thereM (M : Fm) : ByteArray := thereN M (ownersM M) ⟨#[]⟩
theorem thereP_cons {M : Fm} {L : List ByteArray} {k : Nat} {q : ByteArray} (h : L[k]? = some q) (t : ByteArray) : thereP M (L.drop k) t = thereP M (L.drop (k + 1)) (t ++ lineQ M q) := by
  rw [dropL_cons h, thereP]
theorem thereN_cons {M : Fm} {L : List ByteArray} {k : Nat} {n : ByteArray} (h : L[k]? = some n) (t : ByteArray) : thereN M (L.drop k) t = thereN M (L.drop (k + 1)) (headN M n t ++ (joinK (settingsM M n) ++ rpB)) := by
  rw [dropL_cons h, thereN]

/-! sizes -/
theorem lineQ_size {M : Fm} {X : Nat} (h : ∀ k v, getF M k = some v → v.size ≤ X) (q : ByteArray) : (lineQ M q).size ≤ q.size + X + 3 := by
  unfold lineQ
  rw [cat_size, cat_size, cat_size]
  have h1 : eqB.size = 1 := rfl
  have h2 : smB.size = 1 := rfl
  have h3 : hyB.size = 1 := rfl
  cases hg : getF M (thP ++ q) with
  | none => simp only [Option.getD_none]; omega
  | some v => have := h _ _ hg; simp only [Option.getD_some]; omega
theorem joinK_eq (l : List ByteArray) : (joinK l).size = (linesT l).size := by
  rw [size_eq_length, size_eq_length]
  show (Lib.join (l.map (·.data.toList)) [44]).length = (VP.joinP [10] (l.map (·.data.toList))).length
  rw [joinP_eq [44]]
  have key : ∀ L : List (List UInt8), (VP.joinP [44] L).length = (VP.joinP [10] L).length := by
    intro L
    induction L with
    | nil => rfl
    | cons x r ih =>
      cases r with
      | nil => rfl
      | cons y r =>
        rw [VP.joinP, VP.joinP, List.length_append, List.length_append, List.length_append, List.length_append, ih]
        rfl
  exact key _
theorem join_any (w : World) (v : Value) (ss : List ByteArray) (h : StrsAt w v ss) (hn : ss.length ≤ 1000000) (hl : (linesT ss).size ≤ 1000000) : Calls Tryz.prog 58 #[v, .string ⟨#[44]⟩] w fun E w' => E = .returned (.string (joinK ss)) ∧ Below w.heap.size w w' := by
  by_cases hne : ss = []
  · subst hne
    obtain ⟨A, c, rfl, _⟩ := h.open
    exact (Tryz.strings_Join_none A c ⟨#[44]⟩ w).mono fun E w' ⟨he, hw⟩ => ⟨he, by rw [hw]; exact Below.refl _ _⟩
  · refine call_joinAt w v ss ⟨#[44]⟩ h hne hn ?_
    have := joinK_eq ss
    rw [size_eq_length] at this
    show (Lib.join (ss.map (·.data.toList)) [44]).length ≤ 1000000
    have e : (joinK ss).data.toList = Lib.join (ss.map (·.data.toList)) [44] := rfl
    rw [← e]
    omega
theorem settings_lines {M : Fm} (n : ByteArray) : (linesT (settingsM M n)).size ≤ (linesT (pathsM M n)).size := lines_sub List.filter_sublist
theorem thereP_end {M : Fm} {L : List ByteArray} {k : Nat} (h : L.length ≤ k) (t : ByteArray) : thereP M (L.drop k) t = t := by
  rw [List.drop_of_length_le h]; rfl
theorem thereN_end {M : Fm} {L : List ByteArray} {k : Nat} (h : L.length ≤ k) (t : ByteArray) : thereN M (L.drop k) t = t := by
  rw [List.drop_of_length_le h]; rfl
/-- what is read of a path -/
def lookV (o : Option ByteArray) : Value := match o with | some s => .tuple #[.string s, .nilIface] | none => .tuple #[.string ⟨#[]⟩, .iface 43 (.int .i64 7)]
theorem readV_look (D : Dk) (f : ByteArray) : readV D f = lookV (getF D.now f) := rfl

set_option maxHeartbeats 4000000 in
set_option maxRecDepth 100000 in
theorem there_calls (sh d : Nat) (D : Dk) (w : World) (hE : Env w) (h : ShAt w sh d D) (hk : DkOk D) (hf : FitD 900000 D) (hP : ∀ n, ∀ q ∈ pathsD D n, q.size ≤ 60) : Calls Tryz.prog 41 #[.pointer (some ⟨sh, 0, none⟩)] w fun E w' => E = .returned (.string (thereM D.now)) ∧ Below w.heap.size w w' := by
  have CO := Lib.hid (owners_calls sh d D w h hk)
  have CP := Lib.hid (fun (W : World) (hb : Below w.heap.size w W) (n : ByteArray) (hn : n.size ≤ 80) => paths_row sh d D n W (hE.below hb) (h.keep hb) (hf.mono (by omega)) (by omega))
  have CS := Lib.hid (fun (W : World) (hb : Below w.heap.size w W) (n : ByteArray) (hn : n.size ≤ 80) => settings_calls sh d D n W (hE.below hb) (h.keep hb) hf (by omega))
  have CR := Lib.hid (fun (W : World) (hb : Below w.heap.size w W) (q : ByteArray) (hq : q.size ≤ 60) => shread_calls sh d D q W (h.keep hb) (by omega))
  have HON := Lib.hid (ownersD_size hf)
  have HOL := Lib.hid (ownersD_len hk)
  have HPL := Lib.hid (fun n => paths_few hf n)
  have HPP := Lib.hid hP
  have HV := Lib.hid (fun k v (hv : getF D.now k = some v) => (hf k v hv).2)
  have HLI := Lib.hid (fun n => Nat.le_trans (settings_lines (M := D.now) n) (lines_paths hf n))
  have HLN := Lib.hid (fun n => (show (settingsM D.now n).length ≤ (pathsD D n).length from List.length_filter_le _ _))
  obtain ⟨M, hM⟩ : ∃ M, D.now = M := ⟨_, rfl⟩
  have HST : Hid (∀ n, settingsD D n = settingsM M n) := Lib.hid (fun n => by rw [← hM]; rfl)
  have HPM : Hid (∀ n, pathsD D n = pathsM M n) := Lib.hid (fun n => by rw [← hM]; rfl)
  have HRD : Hid (∀ f, readV D f = lookV (getF M f)) := Lib.hid (fun f => by rw [← hM]; rfl)
  unfold thereM
  rw [show ownersM D.now = ownersD D from rfl] at *
  obtain ⟨own, hown⟩ : ∃ own, ownersD D = own := ⟨_, rfl⟩
  rw [hown] at CO HON HOL ⊢
  rw [hM] at HV HLI HLN ⊢
  clear hE h hk hf hP hown hM
  go_enter Tryz.func41, Tryz.ntmps41
  go_wp2_with fail
  refine CO.out.mono ?_
  rintro E w1 ⟨vo, rfl, hU, hb1⟩
  have HB1 := Lib.hid hb1
  obtain ⟨Ao, co, rfl, hco, hmo, hro⟩ := hU.1.open
  obtain ⟨len, hlen⟩ : ∃ l, own.length = l := ⟨_, rfl⟩
  have HL := Lib.hid hlen
  have HRO := Lib.hid hro
  rw [hlen] at hco hmo HOL ⊢
  clear hU hb1 CO hro hlen
  go_wp2_with fail
  go_loopw [3, 13] (fun v3 i wr => ∃ (k : Nat) (t : ByteArray), k ≤ len ∧ i = .int .i64 k ∧ v3 = .string t ∧ t.size ≤ k * 1000000000000 ∧ Hid (thereN M own ⟨#[]⟩ = thereN M (own.drop k) t) ∧ Below w1.heap.size w1 wr) (fun _ i _ => len - (intOf i).toNat)
  case atStart => exact ⟨0, ⟨#[]⟩, Nat.zero_le _, rfl, rfl, by show 0 ≤ _; omega, Lib.hid rfl, Below.refl _ _⟩
  case round =>
    obtain ⟨k, t, hk, rfl, rfl, hts, hth, hB⟩ := hrel
    by_cases hlt : k < len
    · obtain ⟨x, ht⟩ : ∃ x, own[k]? = some x := ⟨own[k]'(by have := HL.out; omega), List.getElem?_eq_getElem _⟩
      have hne : own ≠ [] := fun e => by rw [e] at ht; cases ht
      obtain ⟨bo, oo, rfl, hio⟩ := HRO.out hne
      have c0 := kept hB (hio k x ht)
      have hx80 := HON.out x (List.mem_of_getElem? ht)
      have HT := Lib.hid ht
      have HBW := Lib.hid (step_below HB1.out hB)
      have hl5 := HOL.out
      have C1 := Lib.hid (CP.out wr HBW.out x hx80)
      have HPX := Lib.hid (HPL.out x)
      have HTT : Hid (thereN M own ⟨#[]⟩ = thereN M (own.drop (k + 1)) (headN M x t ++ (joinK (settingsM M x) ++ rpB))) := Lib.hid (hth.out.trans (thereN_cons HT.out t))
      have HPQ := Lib.hid (HPP.out x)
      rw [HPM.out] at C1 HPX HPQ
      have hk5 : k * 1000000000000 ≤ 5000000000000000 := by omega
      have z1 : ¬ 9223372036854775807 < x.size + 1 := by omega
      have z2 : ¬ 9223372036854775807 < t.size + (x.size + 1) := by omega
      have C2 := Lib.hid (fun (W : World) (hb : Below w.heap.size w W) => CS.out W hb x hx80)
      have HSN := Lib.hid (And.intro (HLI.out x) (Nat.le_trans (HLN.out x) (by rw [HPM.out]; exact HPX.out)))
      obtain ⟨P, hPP⟩ : ∃ P, pathsM M x = P := ⟨_, rfl⟩
      have HHN : Hid (headN M x t = thereP M P (t ++ (x ++ lpB))) := Lib.hid (by rw [← hPP]; rfl)
      rw [hPP] at C1 HPX HPQ
      clear ht hio hne hth hPP
      go_wp2_with fail
      refine C1.out.mono ?_
      rintro E w2 ⟨v2, rfl, hro2, hb2⟩
      have hS2 := (hro2.strs (by have := HPX.out; omega)).1
      obtain ⟨A2, c2, rfl, hc2, hm2, hr2⟩ := hS2.open
      have HB2 := Lib.hid (step_below hB hb2)
      have HR2 := Lib.hid hr2
      obtain ⟨len2, hlen2⟩ : ∃ l, P.length = l := ⟨_, rfl⟩
      have HL2 := Lib.hid hlen2
      rw [hlen2] at hc2 hm2 HPX ⊢
      obtain ⟨t0, ht0⟩ : ∃ y, t ++ (x ++ lpB) = y := ⟨_, rfl⟩
      have hts0 : t0.size ≤ k * 1000000000000 + 100 := by rw [← ht0, cat_size, cat_size]; show _ + (_ + 1) ≤ _; omega
      rw [ht0] at HHN
      (try rw [show t ++ (x ++ (⟨#[40]⟩ : ByteArray)) = t0 from ht0])
      clear hS2 hro2 hb2 hr2 hlen2 C1 hts z1 z2 c0 ht0
      go_wp2_with fail
      (try rw [show t ++ (x ++ (⟨#[40]⟩ : ByteArray)) = t0 from ht0])
      go_loopw [3, 25] (fun v3 i wy => ∃ (k2 : Nat) (t2 : ByteArray), k2 ≤ len2 ∧ i = .int .i64 k2 ∧ v3 = .string t2 ∧ t2.size ≤ k * 1000000000000 + 100 + k2 * 1000000 ∧ Hid (thereP M P t0 = thereP M (P.drop k2) t2) ∧ Below w2.heap.size w2 wy) (fun _ i _ => len2 - (intOf i).toNat)
      case atStart => exact ⟨0, t0, Nat.zero_le _, rfl, rfl, by omega, Lib.hid rfl, Below.refl _ _⟩
      case round =>
        obtain ⟨k2, t2, hk2, rfl, rfl, hts2, htp, hBy⟩ := hrel
        by_cases hlt2 : k2 < len2
        · obtain ⟨q, hq⟩ : ∃ q, P[k2]? = some q := ⟨P[k2]'(by have := HL2.out; omega), List.getElem?_eq_getElem _⟩
          have hne : P ≠ [] := fun e => by rw [e] at hq; cases hq
          obtain ⟨b2, o2, rfl, hi2⟩ := HR2.out hne
          have c0 := kept hBy (hi2 k2 q hq)
          have hq60 := HPQ.out q (List.mem_of_getElem? hq)
          have HQ := Lib.hid hq
          have HBW2 := Lib.hid (step_below (step_below HB1.out HB2.out) hBy)
          have C3 := Lib.hid (CR.out wr HBW2.out q hq60)
          rw [HRD.out] at C3
          have HTP := Lib.hid (htp.out.trans (thereP_cons HQ.out t2))
          have HPX2 := HPX.out
          have HLQ : Hid ((lineQ M q).size ≤ q.size + 900000 + 3) := Lib.hid (lineQ_size HV.out q)
          have HVQ := Lib.hid (HV.out (thP ++ q))
          unfold lineQ at HTP HLQ
          obtain ⟨o, ho⟩ : ∃ o, getF M (thP ++ q) = o := ⟨_, rfl⟩
          rw [ho] at C3 HTP HLQ HVQ
          clear hq hi2 hne ho htp
          cases o with
          | none =>
            unfold lookV at C3
            simp only at C3
            simp only [Option.getD_none] at HTP HLQ
            have z1 : ¬ 9223372036854775807 < q.size + 1 := by omega
            have z3 : ¬ 9223372036854775807 < q.size + 1 + 1 + 1 := by omega
            have z2 : ¬ 9223372036854775807 < q.size + 1 + 1 := by omega
            have z4 : ¬ 9223372036854775807 < t2.size + (q.size + 1 + 1 + 1) := by omega
            go_wp2_with fail
            refine C3.out.mono ?_
            rintro E w3 ⟨rfl, rfl⟩
            clear C3
            go_wp2_with fail
            go_roundw
            case rel => first | exact ⟨k2 + 1, t2 ++ (q ++ eqB ++ hyB ++ smB), by omega, by go_num, rfl, (by rw [cat_size]; have := HLQ.out; omega), HTP, hBy⟩ | ((repeat apply Exists.intro); exact ⟨⟨k2 + 1, t2 ++ (q ++ eqB ++ hyB ++ smB), by omega, by go_num, rfl, (by rw [cat_size]; have := HLQ.out; omega), HTP, hBy⟩, rfl⟩)
            case measure => simp [intOf]; omega
          | some s =>
            have hs9 : s.size ≤ 900000 := HVQ.out s rfl
            unfold lookV at C3
            simp only at C3
            simp only [Option.getD_some] at HTP HLQ
            have z1 : ¬ 9223372036854775807 < q.size + 1 := by omega
            have z3 : ¬ 9223372036854775807 < q.size + 1 + s.size + 1 := by omega
            have z2 : ¬ 9223372036854775807 < q.size + 1 + s.size := by omega
            have z4 : ¬ 9223372036854775807 < t2.size + (q.size + 1 + s.size + 1) := by omega
            go_wp2_with fail
            refine C3.out.mono ?_
            rintro E w3 ⟨rfl, rfl⟩
            clear C3
            go_wp2_with fail
            go_roundw
            case rel => first | exact ⟨k2 + 1, t2 ++ (q ++ eqB ++ s ++ smB), by omega, by go_num, rfl, (by rw [cat_size]; have := HLQ.out; omega), HTP, hBy⟩ | ((repeat apply Exists.intro); exact ⟨⟨k2 + 1, t2 ++ (q ++ eqB ++ s ++ smB), by omega, by go_num, rfl, (by rw [cat_size]; have := HLQ.out; omega), HTP, hBy⟩, rfl⟩)
            case measure => simp [intOf]; omega
        · obtain rfl : k2 = len2 := by omega
          have HTP : Hid (headN M x t = t2) := Lib.hid (HHN.out.trans (htp.out.trans (thereP_end (by have := HL2.out; omega) t2)))
          have HBW2 := Lib.hid (step_below (step_below HB1.out HB2.out) hBy)
          have C4 := Lib.hid (C2.out wr HBW2.out)
          rw [HST.out] at C4
          obtain ⟨S, hSS⟩ : ∃ S, settingsM M x = S := ⟨_, rfl⟩
          rw [hSS] at C4 HSN HTT
          rw [HTP.out] at HTT
          have HPX2 := HPX.out
          clear hSS htp C2
          go_wp2_with fail
          refine C4.out.mono ?_
          rintro E w4 ⟨v4, rfl, hU4, hb4⟩
          have CJ := Lib.hid (join_any w4 v4 S hU4.1 (by have := HSN.out.2; omega) (by have := HSN.out.1; omega))
          have HB4 := Lib.hid (step_below (step_below HB2.out hBy) hb4)
          have HJ : Hid ((joinK S).size ≤ 900000) := Lib.hid (by rw [joinK_eq]; exact HSN.out.1)
          obtain ⟨A4, c4, rfl, -⟩ := hU4.1.open
          obtain ⟨ls, hls⟩ : ∃ l, S.length = l := ⟨_, rfl⟩
          obtain ⟨js, hjs⟩ : ∃ l, joinK S = l := ⟨_, rfl⟩
          rw [hls] at CJ ⊢
          rw [hjs] at CJ HJ HTT
          have hj9 := HJ.out
          have z1 : ¬ 9223372036854775807 < js.size + 1 := by omega
          have z2 : ¬ 9223372036854775807 < t2.size + (js.size + 1) := by omega
          clear hU4 hb4 C4 hls hjs
          go_wp2_with fail
          refine CJ.out.mono ?_
          rintro E w5 ⟨rfl, hb5⟩
          have HB5 := Lib.hid (step_below HB4.out hb5)
          clear hb5 CJ
          go_wp2_with fail
          go_roundw
          case rel => first | exact ⟨k + 1, t2 ++ (js ++ rpB), by omega, by go_num, rfl, (by rw [cat_size, cat_size, show rpB.size = 1 from rfl]; omega), HTT, HB5.out⟩ | ((repeat apply Exists.intro); exact ⟨⟨k + 1, t2 ++ (js ++ rpB), by omega, by go_num, rfl, (by rw [cat_size, cat_size, show rpB.size = 1 from rfl]; omega), HTT, HB5.out⟩, rfl⟩)
          case measure => simp [intOf]; omega
    · obtain rfl : k = len := by omega
      have HTE := Lib.hid (hth.out.trans (thereN_end (by have := HL.out; omega) t))
      go_wp2_with fail
      go_ret
      exact ⟨by rw [HTE.out]; rfl, step_below HB1.out hB⟩
end Go.Proofs.YtpbbhjifgaeklaaGreatDoor

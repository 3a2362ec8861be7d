/- depend.Meets and depend.Met. -/
import Derived.Test.YtpbbhjifgaeklaaGreatDoorCSK5
import Derived.Test.YtpbbhjifgaeklaaGreatDoorCSK7
namespace Go.Proofs.YtpbbhjifgaeklaaGreatDoor
open Go.RowKit

def isB (e1 : Int) (u1 r1 : ByteArray) (op e2 : Int) (u2 r2 : ByteArray) : Bool := VP.isOp op (VP.cmpV e1 u1.data.toList r1.data.toList e2 u2.data.toList r2.data.toList)
/-- does what is provided (p) do for what is asked for (t) -/
def provB (t p : Tv) : Bool := decide (p.n = t.n) && (decide (t.op = 0) || (decide (p.op = 3) && isB p.e p.u p.r t.op t.e t.u t.r))

/-- a version short enough to be read -/
structure Tv.vs (t : Tv) : Prop where
  u : t.u.size ≤ 1000
  r : t.r.size ≤ 1000
theorem Tv.small.vs {t : Tv} (h : t.small) : t.vs := ⟨h.u, h.r⟩

theorem toList_ne {a b : ByteArray} (h : ¬ a = b) : ¬ a.toList = b.toList := fun e => h (data_inj (by rwa [Lib.toList_data, Lib.toList_data] at e))

set_option maxHeartbeats 1000000 in
set_option maxRecDepth 100000 in
theorem prov_calls (t p : Tv) (b : Nat) (w : World) (hT : TermAt w b 0 t) (hts : t.vs) (hps : p.small) :
    Calls Tryz.prog 169 #[p.val, .pointer (some ⟨b, 0, none⟩)] w (BoolIs (provB t p) w) := by
  obtain ⟨pn, pop, pe, pu, pr⟩ := p
  have hb := below_alloc w (.cells #[.string pn, .int .i64 pop, .int .i64 pe, .string pu, .string pr] 143)
  have hlt : b < w.heap.size := cell_lt hT.c0
  obtain ⟨t0, t1, t2, t3, t4⟩ := hT
  rw [Nat.zero_add] at t1 t2 t3 t4
  have C := Lib.hid (fun (W : World) => is_calls pe pu pr t.op t.e t.u t.r W (by have : pu.size ≤ 1000 := hps.u; omega) (by have : pr.size ≤ 1000 := hps.r; omega) (by have := hts.u; omega) (by have := hts.r; omega))
  have HB := Lib.hid hb
  clear hts hps hb
  unfold Tv.val
  by_cases hn : pn = t.n
  · subst hn
    by_cases h0 : t.op = 0
    · have F := Lib.hid (show provB t ⟨t.n, pop, pe, pu, pr⟩ = true by unfold provB; simp [h0])
      have hob : (t.op == 0) = true := by rw [beq_iff_eq]; exact h0
      go_enter Tryz.func169, Tryz.ntmps169
      go_wp2_with fail
      go_ret
      exact ⟨ret_bool (by rw [F.out]), HB.out⟩
    · have hob : (t.op == 0) = false := by rw [beq_eq_false_iff_ne]; exact h0
      by_cases h3 : pop = 3
      · have hob3 : (pop == 3) = true := by rw [beq_iff_eq]; exact h3
        have F := Lib.hid (show provB t ⟨t.n, pop, pe, pu, pr⟩ = isB pe pu pr t.op t.e t.u t.r by unfold provB; simp [h0, h3])
        clear h0 h3
        go_enter Tryz.func169, Tryz.ntmps169
        go_wp2_with fail
        refine (C.out _).mono ?_
        rintro E w1 ⟨rfl, hb⟩
        have hB := Lib.hid (step_below HB.out hb)
        clear hb
        go_wp2_with fail
        go_ret
        exact ⟨ret_bool (by rw [F.out]; rfl), hB.out⟩
      · have hob3 : (pop == 3) = false := by rw [beq_eq_false_iff_ne]; exact h3
        have F := Lib.hid (show provB t ⟨t.n, pop, pe, pu, pr⟩ = false by unfold provB; simp [h0, h3])
        clear h0 h3
        go_enter Tryz.func169, Tryz.ntmps169
        go_wp2_with fail
        go_ret
        exact ⟨ret_bool (by rw [F.out]), HB.out⟩
  · have F := Lib.hid (show provB t ⟨pn, pop, pe, pu, pr⟩ = false by unfold provB; simp [hn])
    have hn' := toList_ne hn
    go_enter Tryz.func169, Tryz.ntmps169
    go_wp2_with fail
    go_ret
    exact ⟨ret_bool (by rw [F.out]), HB.out⟩

set_option maxHeartbeats 1000000 in
set_option maxRecDepth 100000 in
theorem idxProv_calls (v : Value) (ts : List Tv) (b : Nat) (p : Tv → Bool) (w : World) (h : TermsAt w v ts) (C : ∀ (W : World) (x : Tv), Below w.heap.size w W → x ∈ ts → Calls Tryz.prog 169 #[x.val, .pointer (some ⟨b, 0, none⟩)] W (BoolIs (p x) W)) :
    Calls Tryz.prog 167 #[v, .func (.func 169) #[] #[.pointer (some ⟨b, 0, none⟩)]] w (IdxIs (ts.any p) w) := by
  obtain ⟨A, c, rfl, hc, hm, hr⟩ := h
  obtain ⟨len, hlen⟩ : ∃ len, ts.length = len := ⟨_, rfl⟩
  have HL := Lib.hid hlen
  have HR := Lib.hid hr
  have HC := Lib.hid C
  rw [hlen] at hc hm ⊢
  clear hlen hr C
  go_enter Tryz.func167, Tryz.ntmps167
  go_wp2_with fail
  go_loopw [8] (fun i wr => ∃ k : Nat, k ≤ len ∧ i = .int .i64 k ∧ Hid ((ts.take k).any p = false) ∧ Below w.heap.size w wr) (fun i _ => len - (intOf i).toNat)
  case atStart => exact ⟨0, Nat.zero_le _, rfl, rfl, Below.refl _ _⟩
  case round =>
    obtain ⟨k, hk, rfl, hall, hB⟩ := hrel
    by_cases hlt : k < len
    · have hne : ts ≠ [] := by
        intro e
        have := HL.out
        rw [e] at this
        simp at this
        omega
      obtain ⟨t, ht⟩ : ∃ t, ts[k]? = some t := ⟨ts[k]'(by have := HL.out; omega), List.getElem?_eq_getElem _⟩
      obtain ⟨b', off, rfl, hi⟩ := HR.out hne
      obtain ⟨hT0, _⟩ := hi k t ht
      clear hi hne
      have hT := hT0.below hB
      obtain ⟨c0, c1, c2, c3, c4⟩ := hT
      have HT := Lib.hid ht
      have H := Lib.hid (HC.out wr t hB (List.mem_of_getElem? ht))
      unfold Tv.val at H
      obtain ⟨pb, hpb⟩ : ∃ pb, p t = pb := ⟨_, rfl⟩
      have HP := Lib.hid hpb
      rw [hpb] at H
      clear ht hT0 hpb
      go_wp2_with fail
      refine H.out.mono ?_
      rintro E w1 ⟨rfl, hb⟩
      have hB := step_below hB hb
      clear hb c0 c1 c2 c3 c4 H
      cases pb with
      | true =>
        go_wp2_with fail
        go_ret
        exact ⟨_, rfl, by rw [any_stop HT.out HP.out]; simp, hB⟩
      | false =>
        go_wp2_with fail
        go_roundw
        case rel => exact ⟨k + 1, by omega, by go_num, Lib.hid (any_take_succ hall.out HT.out HP.out), hB⟩
        case measure => simp [intOf]; omega
    · obtain rfl : k = len := by omega
      go_wp2_with fail
      go_ret
      exact ⟨_, rfl, by have := hall.out; rw [← HL.out] at this; rw [any_done this]; simp, hB⟩

set_option maxRecDepth 100000 in
theorem hasProv_calls (v : Value) (ts : List Tv) (b : Nat) (p : Tv → Bool) (w : World) (h : TermsAt w v ts) (C : ∀ (W : World) (x : Tv), Below w.heap.size w W → x ∈ ts → Calls Tryz.prog 169 #[x.val, .pointer (some ⟨b, 0, none⟩)] W (BoolIs (p x) W)) :
    Calls Tryz.prog 98 #[v, .func (.func 169) #[] #[.pointer (some ⟨b, 0, none⟩)]] w (BoolIs (ts.any p) w) := by
  have H := Lib.hid (idxProv_calls v ts b p w h C)
  clear h C
  go_enter Tryz.func98, Tryz.ntmps98
  go_wp2_with fail
  refine H.out.mono ?_
  rintro E w1 ⟨i, rfl, hi, hb⟩
  have HI := Lib.hid hi
  clear hi
  by_cases h0 : 0 ≤ i
  · go_wp2_with fail
    go_ret
    exact ⟨ret_bool (by rw [← HI.out]; simp [h0]), hb⟩
  · go_wp2_with fail
    go_ret
    exact ⟨ret_bool HI.out, hb⟩

set_option maxHeartbeats 1000000 in
set_option maxRecDepth 100000 in
theorem idxSome_calls (v : Value) (ts : List Tv) (b : Nat) (p : Tv → Bool) (w : World) (h : TermsAt w v ts) (C : ∀ (W : World) (x : Tv), Below w.heap.size w W → x ∈ ts → Calls Tryz.prog 111 #[x.val, .pointer (some ⟨b, 0, none⟩)] W (BoolIs (p x) W)) :
    Calls Tryz.prog 167 #[v, .func (.func 111) #[] #[.pointer (some ⟨b, 0, none⟩)]] w (IdxIs (ts.any p) w) := by
  obtain ⟨A, c, rfl, hc, hm, hr⟩ := h
  obtain ⟨len, hlen⟩ : ∃ len, ts.length = len := ⟨_, rfl⟩
  have HL := Lib.hid hlen
  have HR := Lib.hid hr
  have HC := Lib.hid C
  rw [hlen] at hc hm ⊢
  clear hlen hr C
  go_enter Tryz.func167, Tryz.ntmps167
  go_wp2_with fail
  go_loopw [8] (fun i wr => ∃ k : Nat, k ≤ len ∧ i = .int .i64 k ∧ Hid ((ts.take k).any p = false) ∧ Below w.heap.size w wr) (fun i _ => len - (intOf i).toNat)
  case atStart => exact ⟨0, Nat.zero_le _, rfl, rfl, Below.refl _ _⟩
  case round =>
    obtain ⟨k, hk, rfl, hall, hB⟩ := hrel
    by_cases hlt : k < len
    · have hne : ts ≠ [] := by
        intro e
        have := HL.out
        rw [e] at this
        simp at this
        omega
      obtain ⟨t, ht⟩ : ∃ t, ts[k]? = some t := ⟨ts[k]'(by have := HL.out; omega), List.getElem?_eq_getElem _⟩
      obtain ⟨b', off, rfl, hi⟩ := HR.out hne
      obtain ⟨hT0, _⟩ := hi k t ht
      clear hi hne
      have hT := hT0.below hB
      obtain ⟨c0, c1, c2, c3, c4⟩ := hT
      have HT := Lib.hid ht
      have H := Lib.hid (HC.out wr t hB (List.mem_of_getElem? ht))
      unfold Tv.val at H
      obtain ⟨pb, hpb⟩ : ∃ pb, p t = pb := ⟨_, rfl⟩
      have HP := Lib.hid hpb
      rw [hpb] at H
      clear ht hT0 hpb
      go_wp2_with fail
      refine H.out.mono ?_
      rintro E w1 ⟨rfl, hb⟩
      have hB := step_below hB hb
      clear hb c0 c1 c2 c3 c4 H
      cases pb with
      | true =>
        go_wp2_with fail
        go_ret
        exact ⟨_, rfl, by rw [any_stop HT.out HP.out]; simp, hB⟩
      | false =>
        go_wp2_with fail
        go_roundw
        case rel => exact ⟨k + 1, by omega, by go_num, Lib.hid (any_take_succ hall.out HT.out HP.out), hB⟩
        case measure => simp [intOf]; omega
    · obtain rfl : k = len := by omega
      go_wp2_with fail
      go_ret
      exact ⟨_, rfl, by have := hall.out; rw [← HL.out] at this; rw [any_done this]; simp, hB⟩

set_option maxRecDepth 100000 in
theorem hasSome_calls (v : Value) (ts : List Tv) (b : Nat) (p : Tv → Bool) (w : World) (h : TermsAt w v ts) (C : ∀ (W : World) (x : Tv), Below w.heap.size w W → x ∈ ts → Calls Tryz.prog 111 #[x.val, .pointer (some ⟨b, 0, none⟩)] W (BoolIs (p x) W)) :
    Calls Tryz.prog 98 #[v, .func (.func 111) #[] #[.pointer (some ⟨b, 0, none⟩)]] w (BoolIs (ts.any p) w) := by
  have H := Lib.hid (idxSome_calls v ts b p w h C)
  clear h C
  go_enter Tryz.func98, Tryz.ntmps98
  go_wp2_with fail
  refine H.out.mono ?_
  rintro E w1 ⟨i, rfl, hi, hb⟩
  have HI := Lib.hid hi
  clear hi
  by_cases h0 : 0 ≤ i
  · go_wp2_with fail
    go_ret
    exact ⟨ret_bool (by rw [← HI.out]; simp [h0]), hb⟩
  · go_wp2_with fail
    go_ret
    exact ⟨ret_bool HI.out, hb⟩

/-! a package that is there -/
structure Ov where
  n : ByteArray
  e : Int
  u : ByteArray
  r : ByteArray
  ps : List Tv
def Ov.val (o : Ov) (vp : Value) : Value := .agg #[.string o.n, .int .i64 o.e, .string o.u, .string o.r, vp]
structure Ov.small (o : Ov) : Prop where
  u : o.u.size ≤ 1000
  r : o.r.size ≤ 1000
  ps : ∀ t ∈ o.ps, t.small
theorem termAt_new (W : World) (t : Tv) : TermAt (W.alloc (.cells #[.string t.n, .int .i64 t.op, .int .i64 t.e, .string t.u, .string t.r] 143)) W.heap.size 0 t :=
  ⟨by go_cell, by go_cell, by go_cell, by go_cell, by go_cell⟩
def meetsB (o : Ov) (t : Tv) : Bool := (decide (o.n = t.n) && isB o.e o.u o.r t.op t.e t.u t.r) || o.ps.any (provB t)

set_option maxHeartbeats 1000000 in
set_option maxRecDepth 100000 in
theorem meets_calls (o : Ov) (vp : Value) (t : Tv) (w : World) (hP : TermsAt w vp o.ps) (hos : o.small) (hts : t.vs) :
    Calls Tryz.prog 100 #[o.val vp, t.val] w (BoolIs (meetsB o t) w) := by
  have C := Lib.hid (fun (W : World) => is_calls o.e o.u o.r t.op t.e t.u t.r W (by have := hos.u; omega) (by have := hos.r; omega) (by have := hts.u; omega) (by have := hts.r; omega))
  have D := Lib.hid (fun (W : World) (b : Nat) (hb : Below w.heap.size w W) (hT : TermAt W b 0 t) => hasProv_calls vp o.ps b (provB t) W (hP.below hb) (fun W' x hb' hx => prov_calls t x b W' (hT.below hb') hts (hos.ps x hx)))
  obtain ⟨A, c, rfl, _, _, _⟩ := hP
  obtain ⟨on, oe, ou, or, ops⟩ := o
  dsimp only at C D
  clear hos hts
  unfold Ov.val Tv.val
  dsimp only
  have HB2 : ∀ {n : ByteArray}, Hid (Below w.heap.size w ((w.alloc (.cells #[.string n, .int .i64 oe, .string ou, .string or, .slice A ops.length c] 84)).alloc (.cells #[.string t.n, .int .i64 t.op, .int .i64 t.e, .string t.u, .string t.r] 143))) := fun {_} => step_below (below_alloc w _) (below_alloc _ _)
  have HT2 : Hid (∀ (n : ByteArray), TermAt ((w.alloc (.cells #[.string n, .int .i64 oe, .string ou, .string or, .slice A ops.length c] 84)).alloc (.cells #[.string t.n, .int .i64 t.op, .int .i64 t.e, .string t.u, .string t.r] 143)) (w.heap.size + 1) 0 t) := fun n => by
    have := termAt_new (w.alloc (.cells #[.string n, .int .i64 oe, .string ou, .string or, .slice A ops.length c] 84)) t
    rwa [World.size_alloc] at this
  by_cases hn : on = t.n
  · subst hn
    obtain ⟨bi, hbi⟩ : ∃ bi, VP.isOp t.op (VP.cmpV oe ou.data.toList or.data.toList t.e t.u.data.toList t.r.data.toList) = bi := ⟨_, rfl⟩
    have HBI := Lib.hid hbi
    unfold IsIs at C
    rw [hbi] at C
    clear hbi
    have F := Lib.hid (show meetsB ⟨t.n, oe, ou, or, ops⟩ t = (bi || ops.any (provB t)) by unfold meetsB isB; dsimp only; rw [HBI.out]; simp)
    go_enter Tryz.func100, Tryz.ntmps100
    go_wp2_with fail
    refine (C.out _).mono ?_
    rintro E w1 ⟨rfl, hb⟩
    have hB := step_below HB2.out hb
    have hT1 := (HT2.out t.n).below hb
    have c4 := kept hb (p := ⟨w.heap.size, 4, none⟩) (v := .slice A ops.length c) (by go_cell)
    clear hb
    cases bi with
    | true =>
      go_wp2_with fail
      go_ret
      exact ⟨ret_bool (by rw [F.out]; rfl), hB⟩
    | false =>
      have D1 := Lib.hid (D.out _ _ hB hT1)
      go_wp2_with fail
      refine D1.out.mono ?_
      rintro E w2 ⟨rfl, hb⟩
      have hB2 := step_below hB hb
      clear hb
      go_wp2_with fail
      go_ret
      exact ⟨ret_bool (by rw [F.out]; rfl), hB2⟩
  · have hn' := toList_ne hn
    have F := Lib.hid (show meetsB ⟨on, oe, ou, or, ops⟩ t = ops.any (provB t) by unfold meetsB; simp [hn])
    have D1 := Lib.hid (D.out _ _ HB2.out (HT2.out on))
    go_enter Tryz.func100, Tryz.ntmps100
    go_wp2_with fail
    refine D1.out.mono ?_
    rintro E w2 ⟨rfl, hb⟩
    have hB2 := step_below HB2.out hb
    clear hb
    go_wp2_with fail
    go_ret
    exact ⟨ret_bool (by rw [F.out]), hB2⟩

/-- at this address lies this package -/
def OfferAt (w : World) (b off : Nat) (o : Ov) : Prop :=
  ∃ vp, w.cell? ⟨b, off, none⟩ = some (.string o.n) ∧ w.cell? ⟨b, off + 1, none⟩ = some (.int .i64 o.e) ∧ w.cell? ⟨b, off + 2, none⟩ = some (.string o.u) ∧ w.cell? ⟨b, off + 3, none⟩ = some (.string o.r) ∧ w.cell? ⟨b, off + 4, none⟩ = some vp ∧ TermsAt w vp o.ps
theorem OfferAt.below {w w' : World} {b off : Nat} {o : Ov} (h : OfferAt w b off o) (hb : Below w.heap.size w w') : OfferAt w' b off o := by
  obtain ⟨vp, h0, h1, h2, h3, h4, h5⟩ := h
  exact ⟨vp, kept hb h0, kept hb h1, kept hb h2, kept hb h3, kept hb h4, h5.below hb⟩
/-- this value is a slice that reads as these packages -/
def OffersAt (w : World) (v : Value) (os : List Ov) : Prop :=
  ∃ A c, v = .slice A os.length c ∧ os.length ≤ c ∧ os.length ≤ 9223372036854775807 ∧ (os ≠ [] → ∃ b off, A = some ⟨b, off, none⟩ ∧ ∀ i o, os[i]? = some o → OfferAt w b (off + i * 5) o)
theorem OffersAt.below {w w' : World} {v : Value} {os : List Ov} (h : OffersAt w v os) (hb : Below w.heap.size w w') : OffersAt w' v os := by
  obtain ⟨A, c, hv, hc, hm, h⟩ := h
  refine ⟨A, c, hv, hc, hm, fun hn => ?_⟩
  obtain ⟨b, off, hA, hi⟩ := h hn
  exact ⟨b, off, hA, fun i o ho => (hi i o ho).below hb⟩

set_option maxHeartbeats 1000000 in
set_option maxRecDepth 100000 in
theorem meetsIn_calls (o : Ov) (A : Option Addr) (n c : Nat) (t : Tv) (b : Nat) (w : World) (hP : TermsAt w (.slice A n c) o.ps) (hT : TermAt w b 0 t) (hos : o.small) (hts : t.small) :
    Calls Tryz.prog 113 #[o.val (.slice A n c), .pointer (some ⟨b, 0, none⟩)] w (BoolIs (meetsB o t) w) := by
  have hb := below_alloc w (.cells #[.string o.n, .int .i64 o.e, .string o.u, .string o.r, .slice A n c] 84)
  have hlt : b < w.heap.size := cell_lt hT.c0
  have D := Lib.hid (meets_calls o (.slice A n c) t _ (hP.below hb) hos hts.vs)
  have HB := Lib.hid hb
  obtain ⟨t0, t1, t2, t3, t4⟩ := hT
  rw [Nat.zero_add] at t1 t2 t3 t4
  clear hP hos hts hb
  unfold Ov.val at D ⊢
  unfold Tv.val at D
  go_enter Tryz.func113, Tryz.ntmps113
  go_wp2_with fail
  refine D.out.mono ?_
  rintro E w2 ⟨rfl, hb⟩
  have hB2 := step_below HB.out hb
  clear hb
  go_wp2_with fail
  go_ret
  exact ⟨rfl, hB2⟩

set_option maxHeartbeats 1000000 in
set_option maxRecDepth 100000 in
theorem idxOffer_calls (v : Value) (os : List Ov) (t : Tv) (b : Nat) (w : World) (h : OffersAt w v os) (hT : TermAt w b 0 t) (hos : ∀ o ∈ os, o.small) (hts : t.small) :
    Calls Tryz.prog 183 #[v, .func (.func 113) #[] #[.pointer (some ⟨b, 0, none⟩)]] w (IdxIs (os.any fun o => meetsB o t) w) := by
  obtain ⟨A, c, rfl, hc, hm, hr⟩ := h
  obtain ⟨len, hlen⟩ : ∃ len, os.length = len := ⟨_, rfl⟩
  have HL := Lib.hid hlen
  have HR := Lib.hid hr
  have HC := Lib.hid (fun (W : World) (o : Ov) (A' : Option Addr) (n' c' : Nat) (hb : Below w.heap.size w W) (ho : o ∈ os) (hP : TermsAt W (.slice A' n' c') o.ps) => meetsIn_calls o A' n' c' t b W hP (hT.below hb) (hos o ho) hts)
  rw [hlen] at hc hm ⊢
  clear hlen hr hT hos hts
  go_enter Tryz.func183, Tryz.ntmps183
  go_wp2_with fail
  go_loopw [8] (fun i wr => ∃ k : Nat, k ≤ len ∧ i = .int .i64 k ∧ Hid ((os.take k).any (fun o => meetsB o t) = false) ∧ Below w.heap.size w wr) (fun i _ => len - (intOf i).toNat)
  case atStart => exact ⟨0, Nat.zero_le _, rfl, rfl, Below.refl _ _⟩
  case round =>
    obtain ⟨k, hk, rfl, hall, hB⟩ := hrel
    by_cases hlt : k < len
    · have hne : os ≠ [] := by
        intro e
        have := HL.out
        rw [e] at this
        simp at this
        omega
      obtain ⟨o, ho⟩ : ∃ o, os[k]? = some o := ⟨os[k]'(by have := HL.out; omega), List.getElem?_eq_getElem _⟩
      obtain ⟨b', off, rfl, hi⟩ := HR.out hne
      have hO := (hi k o ho).below hB
      clear hi hne
      obtain ⟨vp, c0, c1, c2, c3, c4, hps⟩ := hO
      obtain ⟨A', c', hvp, _, _, _⟩ := id hps
      subst hvp
      have HO := Lib.hid ho
      have H := Lib.hid (HC.out wr o _ _ _ hB (List.mem_of_getElem? ho) hps)
      unfold Ov.val at H
      obtain ⟨pb, hpb⟩ : ∃ pb, meetsB o t = pb := ⟨_, rfl⟩
      have HP := Lib.hid hpb
      rw [hpb] at H
      clear ho hpb hps
      go_wp2_with fail
      refine H.out.mono ?_
      rintro E w1 ⟨rfl, hb⟩
      have hB := step_below hB hb
      clear hb c0 c1 c2 c3 c4 H
      cases pb with
      | true =>
        go_wp2_with fail
        go_ret
        exact ⟨_, rfl, by rw [any_stop (p := fun o => meetsB o t) HO.out HP.out]; simp, hB⟩
      | false =>
        go_wp2_with fail
        go_roundw
        case rel => exact ⟨k + 1, by omega, by go_num, Lib.hid (any_take_succ (p := fun o => meetsB o t) hall.out HO.out HP.out), hB⟩
        case measure => simp [intOf]; omega
    · obtain rfl : k = len := by omega
      go_wp2_with fail
      go_ret
      exact ⟨_, rfl, by have := hall.out; rw [← HL.out] at this; rw [any_done this]; simp, hB⟩

set_option maxRecDepth 100000 in
theorem hasOffer_calls (v : Value) (os : List Ov) (t : Tv) (b : Nat) (w : World) (h : OffersAt w v os) (hT : TermAt w b 0 t) (hos : ∀ o ∈ os, o.small) (hts : t.small) :
    Calls Tryz.prog 112 #[v, .func (.func 113) #[] #[.pointer (some ⟨b, 0, none⟩)]] w (BoolIs (os.any fun o => meetsB o t) w) := by
  have H := Lib.hid (idxOffer_calls v os t b w h hT hos hts)
  clear h hT hos hts
  go_enter Tryz.func112, Tryz.ntmps112
  go_wp2_with fail
  refine H.out.mono ?_
  rintro E w1 ⟨i, rfl, hi, hb⟩
  have HI := Lib.hid hi
  clear hi
  by_cases h0 : 0 ≤ i
  · go_wp2_with fail
    go_ret
    exact ⟨ret_bool (by rw [← HI.out]; simp [h0]), hb⟩
  · go_wp2_with fail
    go_ret
    exact ⟨ret_bool HI.out, hb⟩

set_option maxHeartbeats 1000000 in
set_option maxRecDepth 100000 in
theorem anyOffer_calls (t : Tv) (v : Value) (os : List Ov) (ob : Nat) (w : World) (hc : w.cell? ⟨ob, 0, none⟩ = some v) (h : OffersAt w v os) (hos : ∀ o ∈ os, o.small) (hts : t.small) :
    Calls Tryz.prog 111 #[t.val, .pointer (some ⟨ob, 0, none⟩)] w (BoolIs (os.any fun o => meetsB o t) w) := by
  have hb := below_alloc w (.cells #[.string t.n, .int .i64 t.op, .int .i64 t.e, .string t.u, .string t.r] 143)
  have hlt : ob < w.heap.size := cell_lt hc
  have D := Lib.hid (hasOffer_calls v os t w.heap.size _ (h.below hb) (termAt_new w t) hos hts)
  have HB := Lib.hid hb
  obtain ⟨A, c, rfl, _, _, _⟩ := h
  clear hos hts hb
  unfold Tv.val
  go_enter Tryz.func111, Tryz.ntmps111
  go_wp2_with fail
  refine D.out.mono ?_
  rintro E w2 ⟨rfl, hb⟩
  have hB2 := step_below HB.out hb
  clear hb
  go_wp2_with fail
  go_ret
  exact ⟨rfl, hB2⟩

/-- of each of what is asked for one is there -/
def metX (os : List Ov) (x : List Tv) : Bool := x.any fun t => os.any fun o => meetsB o t
def metB (L : List (List Tv)) (os : List Ov) : Bool := L.all (metX os)
def MetIs (b : Bool) (w : World) (E : Ending) (w' : World) : Prop := ∃ i : Int, E = .returned (.tuple #[.int .i64 i, .bool b]) ∧ Below w.heap.size w w'

set_option maxHeartbeats 1000000 in
set_option maxRecDepth 100000 in
theorem met_calls (v1 v2 : Value) (L : List (List Tv)) (os : List Ov) (w : World) (h1 : AskedAt w v1 L) (h2 : OffersAt w v2 os) (hL : ∀ x ∈ L, ∀ t ∈ x, Tv.small t) (hos : ∀ o ∈ os, o.small) :
    Calls Tryz.prog 38 #[v1, v2] w (MetIs (metB L os) w) := by
  obtain ⟨A2, c2, hv2, _, _, _⟩ := id h2
  subst hv2
  have hb := below_alloc w (.cells #[.slice A2 os.length c2] 82)
  have hc0 : (w.alloc (.cells #[.slice A2 os.length c2] 82)).cell? ⟨w.heap.size, 0, none⟩ = some (.slice A2 os.length c2) := by go_cell
  have HC := Lib.hid (fun (W : World) (x : List Tv) (vx : Value) (hB : Below (w.alloc (.cells #[.slice A2 os.length c2] 82)).heap.size (w.alloc (.cells #[.slice A2 os.length c2] 82)) W) (hx : x ∈ L) (hT : TermsAt W vx x) =>
    hasSome_calls vx x w.heap.size (fun t => os.any fun o => meetsB o t) W hT (fun W' t hB' ht => anyOffer_calls t _ os w.heap.size W' (kept hB' (kept hB hc0)) (((h2.below hb).below hB).below hB') hos (hL x hx t ht)))
  have h1' := h1.below hb
  have HB := Lib.hid hb
  obtain ⟨A, c, rfl, hc, hm, hr⟩ := h1'
  obtain ⟨len, hlen⟩ : ∃ len, L.length = len := ⟨_, rfl⟩
  have HL := Lib.hid hlen
  have HR := Lib.hid hr
  rw [hlen] at hc hm ⊢
  clear hlen hr h1 h2 hL hos hb hc0
  go_enter Tryz.func38, Tryz.ntmps38
  go_wp2_with fail
  generalize w.alloc (.cells #[.slice A2 os.length c2] 82) = W0 at HC HB HR ⊢
  go_loopw [11] (fun i wr => ∃ k : Nat, k ≤ len ∧ i = .int .i64 k ∧ Hid ((L.take k).all (metX os) = true) ∧ Below W0.heap.size W0 wr) (fun i _ => len - (intOf i).toNat)
  case atStart => exact ⟨0, Nat.zero_le _, rfl, rfl, Below.refl _ _⟩
  case round =>
    obtain ⟨k, hk, rfl, hall, hB⟩ := hrel
    by_cases hlt : k < len
    · obtain ⟨x, hx⟩ : ∃ x, L[k]? = some x := ⟨L[k]'(by have := HL.out; omega), List.getElem?_eq_getElem _⟩
      have hne : L ≠ [] := fun e => by rw [e] at hx; cases hx
      obtain ⟨b, off, rfl, hi'⟩ := HR.out hne
      obtain ⟨vx, hc0, hT⟩ := hi' k x hx
      have hT1 := hT.below hB
      have c0 := kept hB hc0
      have HX := Lib.hid hx
      have H := Lib.hid (HC.out wr x vx hB (List.mem_of_getElem? hx) hT1)
      obtain ⟨A', c', hvx, _, _, _⟩ := hT1
      subst hvx
      obtain ⟨pb, hpb⟩ : ∃ pb, (x.any fun t => os.any fun o => meetsB o t) = pb := ⟨_, rfl⟩
      have HP := Lib.hid (show metX os x = pb from hpb)
      rw [hpb] at H
      clear hi' hne hc0 hT hx hpb
      go_wp2_with fail
      refine H.out.mono ?_
      rintro E w1 ⟨rfl, hb⟩
      have hB := step_below hB hb
      clear hb c0 H
      cases pb with
      | true =>
        go_wp2_with fail
        go_roundw
        case rel => exact ⟨k + 1, by omega, by go_num, Lib.hid (all_take_succ hall.out HX.out HP.out), hB⟩
        case measure => simp [intOf]; omega
      | false =>
        have HF := Lib.hid (show metB L os = false from all_stop HX.out HP.out)
        have HBF := Lib.hid (step_below HB.out hB)
        go_wp2_with fail
        exact bodyPost_ret (v := .tuple #[.int .i64 k, .bool false]) (by simp [results, Tryz.results38, go_sem]) rfl ⟨_, by rw [HF.out], HBF.out⟩
    · obtain rfl : k = len := by omega
      have HF := Lib.hid (show metB L os = true by have := hall.out; rwa [← HL.out, List.take_length] at this)
      have HBF := Lib.hid (step_below HB.out hB)
      go_wp2_with fail
      exact bodyPost_ret (v := .tuple #[.int .i64 0, .bool true]) (by simp [results, Tryz.results38, go_sem]) rfl ⟨_, by rw [HF.out], HBF.out⟩
end Go.Proofs.YtpbbhjifgaeklaaGreatDoor

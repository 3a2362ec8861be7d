/- check.Line: the walk. -/
import Derived.Test.YtpbbhjifgaeklaaGreatDoorCSK20
import Derived.Test.YtpbbhjifgaeklaaGreatDoorCSK27
import Derived.Deep.RegionHeld
namespace Go.Proofs.YtpbbhjifgaeklaaGreatDoor
open Go Go.RowKit
open TJ (EdgeN lineT)

/-- it may start -/
def startsB (k : Kv) : Bool := decide (0 ≤ afterT 3 k.st.toNat)
def startsI (ks : List Kv) (i : Nat) : Bool := match ks[i]? with
  | some k => startsB k
  | none => false
def whichT (ks : List Kv) (j : Nat) : List Nat := (List.range j).filter (startsI ks)
def whichK (ks : List Kv) : List Nat := whichT ks ks.length
theorem which_succ (ks : List Kv) (j : Nat) : whichT ks (j + 1) = whichT ks j ++ (if startsI ks j then [j] else []) := by
  unfold whichT
  rw [List.range_succ, List.filter_append]
  congr 1
  by_cases h : startsI ks j = true
  · rw [if_pos h]; simp [h]
  · rw [if_neg h]; simp [h]
theorem which_lt {ks : List Kv} {j i : Nat} (h : i ∈ whichT ks j) : i < j := List.mem_range.1 (List.mem_filter.1 h).1
theorem which_len (ks : List Kv) (j : Nat) : (whichT ks j).length ≤ j := by
  have := List.length_filter_le (startsI ks) (List.range j)
  rwa [List.length_range] at this
def lineK (ks : List Kv) : List Nat := (lineT (whichK ks).length (edgesK ks (whichK ks) depK) (edgesK ks (whichK ks) ahK)).map fun j => (whichK ks).getD j 0

structure KsOk (ks : List Kv) : Prop where
  len : ks.length ≤ 40
  st : ∀ k, k ∈ ks → ∃ s : Nat, s ≤ 7 ∧ k.st = s
  os : ∀ k, k ∈ ks → k.offer.small
  dl : ∀ k, k ∈ ks → k.p.dep.length ≤ 40
  al : ∀ k, k ∈ ks → k.p.ahead.length ≤ 40
  dt : ∀ k, k ∈ ks → ∀ x, x ∈ depK k → ∀ t, t ∈ x → Tv.small t
  at_ : ∀ k, k ∈ ks → ∀ x, x ∈ ahK k → ∀ t, t ∈ x → Tv.small t
theorem sel_len {ks : List Kv} {sel : Kv → List (List Tv)} {m : Nat} (h : ∀ k, k ∈ ks → (sel k).length ≤ m) (i : Nat) : (selK ks sel i).length ≤ m := by
  unfold selK
  split
  · rename_i kv hk
    exact h kv (List.mem_of_getElem? hk)
  · exact Nat.zero_le _

set_option maxHeartbeats 8000000 in
set_option maxRecDepth 100000 in
theorem checkLine_calls (v : Value) (ks : List Kv) (w : World) (hN : EnvN w) (h : KnownsAt w v ks) (hok : KsOk ks) :
    Calls Tryz.prog 34 #[v] w fun E w' => ∃ v', E = .returned v' ∧ NatsAt w' v' (lineK ks) ∧ Below w.heap.size w w' := by
  obtain ⟨A, c, rfl, hc, hm, hr⟩ := h
  obtain ⟨kl, hkl⟩ : ∃ kl, ks.length = kl := ⟨_, rfl⟩
  have HKL := Lib.hid hkl
  have HR := Lib.hid hr
  have HOK := Lib.hid hok
  have HN := Lib.hid hN
  rw [hkl] at hc hm ⊢
  have hb1 := below_alloc w (.cells #[.slice A kl c] 73)
  have hx1 := blk_new 73 w #[.slice A kl c]
  obtain ⟨W1, hW1⟩ : ∃ W, w.alloc (.cells #[.slice A kl c] 73) = W := ⟨_, rfl⟩
  rw [hW1] at hb1 hx1
  have hs1 : W1.heap.size = w.heap.size + 1 := by rw [← hW1]; exact World.size_alloc _ _
  have hb2 := below_alloc W1 (.cells #[.slice none 0 0] 40)
  have hx2 := blk_new 40 W1 #[.slice none 0 0]
  rw [hs1] at hx2
  have hy2 := hx1.keep hb2
  obtain ⟨W2, hW2⟩ : ∃ W, W1.alloc (.cells #[.slice none 0 0] 40) = W := ⟨_, rfl⟩
  rw [hW2] at hb2 hx2 hy2
  have hs2 : W2.heap.size = w.heap.size + 2 := by rw [← hW2, World.size_alloc, hs1]
  have HB2 := Lib.hid (hb1.trans (hb2.mono hb1.size))
  have HX2 := Lib.hid hx2
  have HY2 := Lib.hid hy2
  have HS2 := Lib.hid hs2
  have k0 : W2.cell? ⟨w.heap.size, 0, none⟩ = some (.slice A kl c) := hy2.cell rfl
  clear hkl hr hok hN hb1 hx1 hb2 hx2 hy2 hs2
  go_enter Tryz.func34, Tryz.ntmps34
  go_wp2_with fail
  clear hW1 hW2 hs1
  go_loopw [14] (fun i wr => ∃ (k1 c' : Nat) (A' : Option Addr), k1 ≤ kl ∧ i = .int .i64 k1 ∧ Hid (Blk 40 wr (w.heap.size + 1) #[.slice A' (whichT ks k1).length c']) ∧ Hid (wr.ownsRow (w.heap.size + 2) 3 1 (.slice A' (whichT ks k1).length c') (whichT ks k1).length ((whichT ks k1).flatMap natC)) ∧ Hid (Blk 73 wr w.heap.size #[.slice A kl c]) ∧ Hid (Below w.heap.size w wr) ∧ Hid (w.heap.size + 2 ≤ wr.heap.size)) (fun i _ => kl - (intOf i).toNat)
  case atStart => exact ⟨0, 0, none, Nat.zero_le _, rfl, HX2, Lib.hid (World.ownsRow_nil _ _ _ _), HY2, HB2, Lib.hid (Nat.le_of_eq HS2.out.symm)⟩
  case round =>
    obtain ⟨k1, c', A', hk1, rfl, hx, hrow, hy, hB, hsz⟩ := hrel
    by_cases hlt : k1 < kl
    · obtain ⟨kv, hkv⟩ : ∃ kv, ks[k1]? = some kv := ⟨ks[k1]'(by have := HKL.out; omega), List.getElem?_eq_getElem _⟩
      have hneK : ks ≠ [] := fun e => by rw [e] at hkv; simp at hkv
      obtain ⟨bk, ok, rfl, hki⟩ := HR.out hneK
      have hka := (hki k1 kv hkv).below hB.out
      obtain ⟨Aw, At, A1, A2, A3, A4, A5, A6, A7, A8, A9, nw, nt, cw, ct, c1, c2, c3, c4, c5, c6, c7, c8, c9, hcs, _⟩ := hka.cells
      obtain ⟨s, hs7, hst⟩ := HOK.out.st kv (List.mem_of_getElem? hkv)
      have hsI : startsI ks k1 = decide (0 ≤ afterT 3 s) := by unfold startsI; rw [hkv]; show decide (0 ≤ afterT 3 kv.st.toNat) = _; rw [hst, Int.toNat_natCast]
      have hws := which_succ ks k1
      rw [hsI] at hws
      have HWS := Lib.hid hws
      have CM := Lib.hid (fun (W : World) (hb : Below w.heap.size w W) => may_calls 3 s (by omega) (by omega) hs7 W (HN.out.below hb))
      obtain ⟨cs, hcsd⟩ : ∃ cs : List Value, (kvC kv (.slice Aw nw cw) (.slice At nt ct) (.slice A1 kv.p.dep.length c1) (.slice A2 kv.p.ahead.length c2) (.slice A3 kv.p.ag.length c3) (.slice A4 kv.p.br.length c4) (.slice A5 kv.p.re.length c5) (.slice A6 kv.p.pr.length c6) (.slice A7 kv.p.se.length c7) (.slice A8 kv.p.li.length c8) (.slice A9 kv.p.fi.length c9)).toList = cs := ⟨_, rfl⟩
      have HRANGE := Lib.hid (show wr.rangeAt bk (ok + k1 * 20) cs from fun j u hj => hcs j u (by rw [← Array.getElem?_toList, hcsd]; exact hj))
      have HLEN := Lib.hid (show cs.length = 20 from by rw [← hcsd]; rfl)
      have HONE := Lib.hid (show cs.toArray.all (·.oneCell') = true from by rw [← hcsd]; simp [kvC, Value.oneCell'])
      have HC0 := Lib.hid (show cs.toArray[0]? = some (.int .i64 s) from by rw [← hcsd, ← hst]; rfl)
      obtain ⟨sb, hsb⟩ : ∃ sb, decide (0 ≤ afterT 3 s) = sb := ⟨_, rfl⟩
      rw [hsb] at CM HWS
      obtain ⟨wl, hwl⟩ : ∃ wl, (whichT ks k1).length = wl := ⟨_, rfl⟩
      have hwlb : wl ≤ 40 := by have := which_len ks k1; have := HOK.out.len; have := HKL.out; omega
      rw [hwl] at hx hrow
      have HWLN := Lib.hid hwl
      clear hkv hneK hki hka hcs hs7 hst hsI hws hsb hwl hcsd
      have k1w := hy.out.cell (i := 0) rfl
      go_upto_region 5 with (first | (refine wpList_load_mid rfl 79 _ rfl bk (ok + k1 * 20) rfl cs _ HRANGE.out Tryz.underlying79 rfl (by rw [HLEN.out]; kernel_rfl) ?_) | (refine wpList_store_row rfl 79 _ _ rfl wr.heap.size cs.toArray rfl rfl 79 _ (heap_alloc_new wr _) (by rw [List.size_toArray, HLEN.out]; kernel_rfl) HLEN.out.symm HONE.out ?_))
      have hnr := new_row wr #[.int .i64 0, .int .i64 0, .string ⟨#[]⟩, .string ⟨#[]⟩, .bool false, .slice none 0 0, .slice none 0 0, .string ⟨#[]⟩, .int .i64 0, .string ⟨#[]⟩, .string ⟨#[]⟩, .slice none 0 0, .slice none 0 0, .slice none 0 0, .slice none 0 0, .slice none 0 0, .slice none 0 0, .slice none 0 0, .slice none 0 0, .slice none 0 0] cs.toArray 79
      obtain ⟨W5, hW5⟩ : ∃ W, (wr.alloc (.cells #[.int .i64 0, .int .i64 0, .string ⟨#[]⟩, .string ⟨#[]⟩, .bool false, .slice none 0 0, .slice none 0 0, .string ⟨#[]⟩, .int .i64 0, .string ⟨#[]⟩, .string ⟨#[]⟩, .slice none 0 0, .slice none 0 0, .slice none 0 0, .slice none 0 0, .slice none 0 0, .slice none 0 0, .slice none 0 0, .slice none 0 0, .slice none 0 0] 79)).setRow wr.heap.size cs.toArray = W := ⟨_, rfl⟩
      rw [hW5] at hnr ⊢
      have hc5 : W5.cell? ⟨wr.heap.size, 0, none⟩ = some (.int .i64 s) := hnr.1.cell HC0.out
      have hb5 := hnr.2
      have HB5 := Lib.hid (hB.out.trans (hb5.mono hB.out.size))
      have HX5 := Lib.hid (hx.out.keep hb5)
      have HY5 := Lib.hid (hy.out.keep hb5)
      have HROW5 := Lib.hid (row_keep hrow.out fun g e => hb5.block g (row_lt hrow.out e).2)
      have HSZ5 := Lib.hid (Nat.le_trans hsz.out hb5.size)
      clear hW5 hnr hb5 hx hrow hy hB hsz k1w
      go_wp2_with fail
      refine (CM.out _ HB5.out).mono ?_
      rintro E w6 ⟨rfl, rfl⟩
      clear CM hc5
      cases sb with
      | false =>
        have HWE := Lib.hid (show whichT ks (k1 + 1) = whichT ks k1 from by rw [HWS.out]; simp)
        go_wp2_with fail
        go_roundw
        case rel => exact ⟨k1 + 1, c', A', by omega, by go_num, by rw [HWE.out, HWLN.out]; exact HX5, by rw [HWE.out, HWLN.out]; exact HROW5, HY5, HB5, HSZ5⟩
        case measure => simp [intOf]; omega
      | true =>
        have HWE := Lib.hid (show whichT ks (k1 + 1) = whichT ks k1 ++ [k1] from by rw [HWS.out]; simp)
        have HWL2 := Lib.hid (show (whichT ks (k1 + 1)).length = wl + 1 from by rw [HWE.out, List.length_append, HWLN.out]; rfl)
        have HFL := Lib.hid (show (whichT ks (k1 + 1)).flatMap natC = (whichT ks k1).flatMap natC ++ [.int .i64 k1] from by rw [HWE.out, List.flatMap_append]; rfl)
        have k3 : W5.cell? ⟨w.heap.size + 1, 0, none⟩ = some (.slice A' wl c') := HX5.out.cell rfl
        have hsz5 := HSZ5.out
        go_wp2_with (at_builtin; obtain ⟨i0, hi, hz0, hz1, hz2⟩ := info_parts info_int; refine wpList_append_own_at _ rfl _ _ 40 rfl (w.heap.size + 2) 3 i0 (.int .i64 0) 1 8 Tryz.underlying40 hi hz0 hz1 hz2 rfl (by decide) _ _ _ rfl (HROW5.out.alloc _) ⟨W5.heap.size, 0, none⟩ 1 1 [.int .i64 k1] rfl rfl (cell_one_new _ _ _) (by simp [Value.oneCell']) (by simp only [maxLen]; omega) (by omega) (by simp; omega) ?_; clear hi hz0 hz1 hz2; intro v10 w10 hown10 hgrow10 hnil10 hloc10; obtain ⟨A10, c10, rfl, _, _⟩ := own_sl hown10; have hk10 : ∀ i, i < w.heap.size + 2 → w10.heap[i]? = W5.heap[i]? := (fun i hi => (hgrow10.block i (Nat.lt_of_lt_of_le (by omega) (below_alloc W5 _).size) (fun e => by have := (row_lt HROW5.out e.symm).1; omega)).trans ((below_alloc W5 _).block i (by omega))); have hx10 : Blk 40 w10 (w.heap.size + 1) #[.slice A' wl c'] := (hk10 _ (by omega)).trans HX5.out; have hy10 : Blk 73 w10 w.heap.size #[.slice (some ⟨bk, ok, none⟩) kl c] := (hk10 _ (by omega)).trans HY5.out; have HX10 := Lib.hid hx10; have HY10 := Lib.hid hy10; have HB10 := Lib.hid ((HB5.out.trans ((below_alloc W5 _).mono HB5.out.size)).grown hgrow10 (Nat.le_trans HB5.out.size (below_alloc W5 _).size) fun g e => by have := (row_lt HROW5.out e).1; omega); have HO10 := Lib.hid hown10; have HSZ10 := Lib.hid (Nat.le_trans HSZ5.out (Nat.le_trans (below_alloc W5 _).size hgrow10.size)); have f10 := hx10.frozen; clear k3; have k3 : w10.cell? ⟨w.heap.size + 1, 0, none⟩ = some (.slice A' wl c') := hx10.cell rfl; clear hx10 hy10 hk10 hown10 hgrow10 hnil10 hloc10)
        have hx12 := HX10.out.set 0 (.slice A10 (wl + 1) c10)
        have hrow12 := row_keep HO10.out (W' := w10.setCell ⟨w.heap.size + 1, 0, none⟩ (.slice A10 (wl + 1) c10)) fun g e => by
          have := (row_lt HO10.out e).1
          unfold World.setCell
          rw [Array.getElem?_modify, if_neg (by show ¬ w.heap.size + 1 = g; omega)]
        have HX12 := Lib.hid hx12
        have HROW12 := Lib.hid hrow12
        have HY12 := Lib.hid (HY10.out.other (c := w.heap.size + 1) (by omega) 0 (.slice A10 (wl + 1) c10))
        have HB12 := Lib.hid (HB10.out.setCell (p := ⟨w.heap.size + 1, 0, none⟩) (by show w.heap.size ≤ w.heap.size + 1; omega) (.slice A10 (wl + 1) c10))
        have HSZ12 := Lib.hid (show w.heap.size + 2 ≤ (w10.setCell ⟨w.heap.size + 1, 0, none⟩ (.slice A10 (wl + 1) c10)).heap.size from by have := HSZ10.out; simp [World.setCell]; omega)
        clear hx12 hrow12
        go_roundw
        case rel => exact ⟨k1 + 1, c10, A10, by omega, by go_num, by rw [HWL2.out]; exact HX12, by rw [HWL2.out, HFL.out]; exact HROW12, HY12, HB12, HSZ12⟩
        case measure => simp [intOf]; omega
    · obtain rfl : k1 = kl := by omega
      have hwk : whichT ks k1 = whichK ks := by unfold whichK; rw [HKL.out]
      rw [hwk] at hx hrow
      obtain ⟨wl, hwl⟩ : ∃ wl, (whichK ks).length = wl := ⟨_, rfl⟩
      have hwlb : wl ≤ 40 := by have := which_len ks k1; rw [hwk, hwl] at this; have := HOK.out.len; have := HKL.out; omega
      rw [hwl] at hx hrow
      have HWLN := Lib.hid hwl
      have hwn := row_nats hrow.out hwl.symm (by omega)
      have hkn : whichK ks ≠ [] → ks ≠ [] := fun h0 e => h0 (by rw [e]; rfl)
      obtain ⟨bk, ok, hAk, hki⟩ : ∃ bk ok : Nat, (whichK ks ≠ [] → A = some ⟨bk, ok, none⟩) ∧ (∀ (i : Nat) (k : Kv), ks[i]? = some k → KnownAt w bk (ok + i * 20) k) := by
        by_cases hne : ks = []
        · exact ⟨0, 0, fun h0 => absurd hne (hkn h0), fun i k hk => by rw [hne] at hk; simp at hk⟩
        · obtain ⟨bk, ok, h1, h2⟩ := HR.out hne
          exact ⟨bk, ok, fun _ => h1, h2⟩
      have hlt2 : ∀ i, i ∈ whichK ks → i < k1 := fun i hi => by have := which_lt hi; have := HKL.out; omega
      have hwle : (whichK ks).length ≤ 40 := by omega
      have htd := edgesK_len ks (whichK ks) depK (sel_len (sel := depK) (fun k hk => HOK.out.dl k hk)) hwle
      have hta := edgesK_len ks (whichK ks) ahK (sel_len (sel := ahK) (fun k hk => HOK.out.al k hk)) hwle
      have CD := Lib.hid (fun (W : World) (hW : Below wr.heap.size wr W) (h1 : W.cell? ⟨w.heap.size + 1, 0, none⟩ = some (.slice A' wl c')) (h2 : W.cell? ⟨w.heap.size, 0, none⟩ = some (.slice A k1 c)) => edgesD_calls (w.heap.size + 1) w.heap.size bk ok k1 c A _ ks (whichK ks) W h1 h2 hAk (hwn.below hW) HKL.out (fun i k hk => ((hki i k hk).below hB.out).below hW) hlt2 HOK.out.os HOK.out.dt (by omega))
      have CA := Lib.hid (fun (W : World) (hW : Below wr.heap.size wr W) (h1 : W.cell? ⟨w.heap.size + 1, 0, none⟩ = some (.slice A' wl c')) (h2 : W.cell? ⟨w.heap.size, 0, none⟩ = some (.slice A k1 c)) => edgesA_calls (w.heap.size + 1) w.heap.size bk ok k1 c A _ ks (whichK ks) W h1 h2 hAk (hwn.below hW) HKL.out (fun i k hk => ((hki i k hk).below hB.out).below hW) hlt2 HOK.out.os HOK.out.at_ (by omega))
      have hD := edgesK_lt ks (whichK ks) depK
      have hA := edgesK_lt ks (whichK ks) ahK
      have CL := Lib.hid (fun (W : World) (u1 u2 : Value) (h1 : EdgesAt W u1 (edgesK ks (whichK ks) depK)) (h2 : EdgesAt W u2 (edgesK ks (whichK ks) ahK)) => ordLine_calls (whichK ks).length u1 u2 _ _ W hwle h1 h2 hD hA (by omega) (by omega))
      have hperm := TJ.line_perm hD hA
      have hLK : lineK ks = (lineT (whichK ks).length (edgesK ks (whichK ks) depK) (edgesK ks (whichK ks) ahK)).map fun j => (whichK ks).getD j 0 := rfl
      rw [hwl] at CL hLK hperm
      obtain ⟨LN, hLN⟩ : ∃ LN, lineT wl (edgesK ks (whichK ks) depK) (edgesK ks (whichK ks) ahK) = LN := ⟨_, rfl⟩
      rw [hLN] at CL hLK hperm
      have HLK := Lib.hid hLK
      have HLL := Lib.hid (show LN.length = wl from by rw [hperm.length_eq, List.length_range])
      have HLT := Lib.hid (fun (j : Nat) (hj : j ∈ LN) => List.mem_range.1 (hperm.mem_iff.1 hj))
      have HWN := Lib.hid hwn
      have g3 : wr.cell? ⟨w.heap.size + 1, 0, none⟩ = some (.slice A' wl c') := hx.out.cell rfl
      have g1 : wr.cell? ⟨w.heap.size, 0, none⟩ = some (.slice A k1 c) := hy.out.cell rfl
      clear hwk hwl hwn hkn hAk hki hlt2 hwle htd hta hD hA hperm hLK hLN hrow hlt
      go_upto_region 9 with fail
      go_cut [7, 8] (fun s7 s8 wx => s8 = .nilIface ∧ ∃ (A7 : Option Addr) (c7 : Nat), s7 = .slice A7 wl c7 ∧ Hid (NatsAt wx (.slice A7 wl c7) LN) ∧ Hid (Below wr.heap.size wr wx))
      case first =>
        refine wp_region_held_drew (S := (fun W => W.cell? ⟨w.heap.size + 1, 0, none⟩ = some (.slice A' wl c') ∧ W.cell? ⟨w.heap.size, 0, none⟩ = some (.slice A k1 c) ∧ Below wr.heap.size wr W)) (by kernel_rfl) ?_ (fun hHeld => ?_)
        · exact ⟨g3, g1, below_drew _⟩
        refine wpAnyH_take (i := 0) (v := ?_) rfl (by kernel_rfl) (by kernel_rfl) (by kernel_rfl) (fun _ _ _ h => h) (Or.inl ⟨by rfl, ?_⟩) (by assumption) ?_
        rotate_left
        · (intro w hSw; (try dsimp only at hSw); go_simp; (try with_reducible rfl))
        (try simp only [List.getElem_toArray, List.getElem_cons_zero, Act.put, List.setIfInBounds_toArray, List.set_cons_zero, List.set_cons_succ])
        refine wpAnyH_take (i := 1) (v := ?_) rfl (by kernel_rfl) (by kernel_rfl) (by kernel_rfl) (fun _ _ _ h => h) (Or.inl ⟨by rfl, ?_⟩) (by assumption) ?_
        rotate_left
        · (intro w hSw; (try dsimp only at hSw); go_simp; (try with_reducible rfl))
        (try simp only [List.getElem_toArray, List.getElem_cons_succ, List.getElem_cons_zero, Act.put, List.setIfInBounds_toArray, List.set_cons_zero, List.set_cons_succ])
        refine wpAnyH_take (i := 2) (v := ?_) rfl (by kernel_rfl) (by kernel_rfl) (by kernel_rfl) (fun _ _ _ h => h) (Or.inl ⟨by rfl, ?_⟩) (by assumption) ?_
        rotate_left
        · (intro w hSw; (try dsimp only at hSw); go_simp; (try with_reducible rfl))
        (try simp only [List.getElem_toArray, List.getElem_cons_succ, List.getElem_cons_zero, Act.put, List.setIfInBounds_toArray, List.set_cons_zero, List.set_cons_succ])
        refine wpAnyH_take (i := 4) (v := ?_) rfl (by kernel_rfl) (by kernel_rfl) (by kernel_rfl) (fun _ _ _ h => h) (Or.inl ⟨by rfl, ?_⟩) (by assumption) ?_
        rotate_left
        · (intro w hSw; (try dsimp only at hSw); go_simp; (try with_reducible rfl))
        (try simp only [List.getElem_toArray, List.getElem_cons_succ, List.getElem_cons_zero, Act.put, List.setIfInBounds_toArray, List.set_cons_zero, List.set_cons_succ])
        refine wpAnyH_ready (rs := [3]) (by kernel_rfl) (by simp) ?_
        refine AllReadyH.cons rfl (fun K hK => ?_) AllReadyH.nil
        go_simp
        go_at_call 97
        refine Calls.mono (CD.out _ hHeld.2.2 hHeld.1 hHeld.2.1) ?_
        rintro E y1 ⟨v1, rfl, he1, hb1⟩
        (try go_wp2_with fail)
        refine hK.out _ _ ?_ (fun hHeld2 => ?_)
        · exact ⟨kept hb1 hHeld.1, kept hb1 hHeld.2.1, hHeld.2.2.trans (hb1.mono hHeld.2.2.size)⟩
        clear hK K hHeld
        have hHeld := hHeld2
        clear hHeld2
        (try simp only [List.getElem_toArray, List.getElem_cons_succ, List.getElem_cons_zero, Act.put, List.setIfInBounds_toArray, List.set_cons_zero, List.set_cons_succ])
        refine wpAnyH_ready (rs := [5]) (by kernel_rfl) (by simp) ?_
        refine AllReadyH.cons rfl (fun K hK => ?_) AllReadyH.nil
        go_simp
        go_at_call 97
        refine Calls.mono (CA.out _ hHeld.2.2 hHeld.1 hHeld.2.1) ?_
        rintro E y2 ⟨v2, rfl, he2, hb2⟩
        (try go_wp2_with fail)
        refine hK.out _ _ ?_ (fun hHeld2 => ?_)
        · exact ⟨kept hb2 hHeld.1, kept hb2 hHeld.2.1, hHeld.2.2.trans (hb2.mono hHeld.2.2.size)⟩
        clear hK K hHeld
        have hHeld := hHeld2
        clear hHeld2
        (try simp only [List.getElem_toArray, List.getElem_cons_succ, List.getElem_cons_zero, Act.put, List.setIfInBounds_toArray, List.set_cons_zero, List.set_cons_succ])
        refine wpAnyH_ready (rs := [6]) (by kernel_rfl) (by simp) ?_
        refine AllReadyH.cons rfl (fun K hK => ?_) AllReadyH.nil
        go_simp
        go_at_call 102
        refine Calls.mono (CL.out _ v1 v2 (he1.below hb2) he2) ?_
        rintro E y3 ⟨v3, rfl, hn3, hb3⟩
        (try go_wp2_with fail)
        refine hK.out _ _ ?_ (fun hHeld2 => ?_)
        · exact ⟨kept hb3 hHeld.1, kept hb3 hHeld.2.1, hHeld.2.2.trans (hb3.mono hHeld.2.2.size)⟩
        clear hK K hHeld
        have hHeld := hHeld2
        clear hHeld2
        (try simp only [List.getElem_toArray, List.getElem_cons_succ, List.getElem_cons_zero, Act.put, List.setIfInBounds_toArray, List.set_cons_zero, List.set_cons_succ])
        refine wpAnyH_take (i := 7) (v := ?_) rfl (by kernel_rfl) (by kernel_rfl) (by kernel_rfl) (fun _ _ _ h => h) (Or.inl ⟨by rfl, ?_⟩) (by assumption) ?_
        rotate_left
        · (intro w hSw; (try dsimp only at hSw); go_simp; (try with_reducible rfl))
        (try simp only [List.getElem_toArray, List.getElem_cons_succ, List.getElem_cons_zero, Act.put, List.setIfInBounds_toArray, List.set_cons_zero, List.set_cons_succ])
        refine wpAnyH_take (i := 8) (v := ?_) rfl (by kernel_rfl) (by kernel_rfl) (by kernel_rfl) (fun _ _ _ h => h) (Or.inl ⟨by rfl, ?_⟩) (by assumption) ?_
        rotate_left
        · (intro w hSw; (try dsimp only at hSw); go_simp; (try with_reducible rfl))
        (try simp only [List.getElem_toArray, List.getElem_cons_succ, List.getElem_cons_zero, Act.put, List.setIfInBounds_toArray, List.set_cons_zero, List.set_cons_succ])
        refine wpAnyH_take (i := 9) (v := ?_) rfl (by kernel_rfl) (by kernel_rfl) (by kernel_rfl) (fun _ _ _ h => h) (Or.inl ⟨by rfl, ?_⟩) (by assumption) ?_
        rotate_left
        · (intro w hSw; (try dsimp only at hSw); go_simp; (try with_reducible rfl))
        (try simp only [List.getElem_toArray, List.getElem_cons_succ, List.getElem_cons_zero, Act.put, List.setIfInBounds_toArray, List.set_cons_zero, List.set_cons_succ])
        refine wpAnyH_take (i := 10) (v := ?_) rfl (by kernel_rfl) (by kernel_rfl) (by kernel_rfl) (fun _ _ _ h => h) (Or.inl ⟨by rfl, ?_⟩) (by assumption) ?_
        rotate_left
        · (intro w hSw; (try dsimp only at hSw); go_simp; (try with_reducible rfl))
        (try simp only [List.getElem_toArray, List.getElem_cons_succ, List.getElem_cons_zero, Act.put, List.setIfInBounds_toArray, List.set_cons_zero, List.set_cons_succ])
        refine wpAnyH_take (i := 11) (v := ?_) rfl (by kernel_rfl) (by kernel_rfl) (by kernel_rfl) (fun _ _ _ h => h) (Or.inl ⟨by rfl, ?_⟩) (by assumption) ?_
        rotate_left
        · (intro w hSw; (try dsimp only at hSw); go_simp; (try with_reducible rfl))
        (try simp only [List.getElem_toArray, List.getElem_cons_succ, List.getElem_cons_zero, Act.put, List.setIfInBounds_toArray, List.set_cons_zero, List.set_cons_succ])
        refine wpAnyH_done (by kernel_rfl) ?_ _
        have HB3 := Lib.hid hHeld.2.2
        have HN3 := Lib.hid hn3
        obtain ⟨A7, c7, hv3, _, _, _⟩ := hn3.open
        rw [HLL.out] at hv3
        subst hv3
        clear hHeld hn3
        go_wp2_with fail
        go_meet
        exact ⟨rfl, A7, c7, rfl, HN3, HB3⟩
      case rest =>
        obtain ⟨rfl, A7, c7, rfl, hn7, hb7⟩ := hcut
        have HX7 := Lib.hid (hx.out.keep hb7.out)
        have HWN7 := Lib.hid (HWN.out.below hb7.out)
        have HB7 := Lib.hid (hB.out.trans (hb7.out.mono hB.out.size))
        clear hx hy hb7 g1 g3
        go_wp2_with fail
        go_loopw [9, 43] (fun v i wq => ∃ (j c9 : Nat) (A9 : Option Addr) (o : List Nat), j ≤ wl ∧ i = .int .i64 j ∧ v = .slice A9 o.length c9 ∧ Hid (wq.ownsRow wc.heap.size 3 1 (.slice A9 o.length c9) o.length (o.flatMap natC)) ∧ Hid (o = (LN.take j).map fun j => (whichK ks).getD j 0) ∧ Hid (Below wc.heap.size wc wq)) (fun _ i _ => wl - (intOf i).toNat)
        case atStart => exact ⟨0, 0, none, [], Nat.zero_le _, rfl, rfl, Lib.hid (World.ownsRow_nil _ _ _ _), Lib.hid rfl, Lib.hid (Below.refl _ _)⟩
        case round =>
          obtain ⟨j, c9, A9, o, hj, rfl, rfl, hrow, ho, hBq⟩ := hrel
          obtain ⟨ol, hol⟩ : ∃ ol, o.length = ol := ⟨_, rfl⟩
          have HOL := Lib.hid hol
          rw [hol] at hrow ⊢
          clear hol
          by_cases hlt : j < wl
          · obtain ⟨x, hx⟩ : ∃ x, LN[j]? = some x := ⟨LN[j]'(by have := HLL.out; omega), List.getElem?_eq_getElem _⟩
            have hxw := HLT.out x (List.mem_of_getElem? hx)
            obtain ⟨Aq, cq, hvq, _, _, hrq⟩ := hn7.out.open
            obtain ⟨bq, oq, rfl, hiq⟩ := hrq (fun e => by rw [e] at hx; simp at hx)
            rw [HLL.out] at hvq
            injection hvq with e1 _ e3
            subst e1 e3
            have q1 := kept hBq.out (hiq j x hx)
            obtain ⟨Ap, cp, hvp, _, _, hrp⟩ := HWN7.out.open
            obtain ⟨y, hy⟩ : ∃ y, (whichK ks)[x]? = some y := ⟨(whichK ks)[x]'(by have := HWLN.out; omega), List.getElem?_eq_getElem _⟩
            obtain ⟨bp, op, rfl, hip⟩ := hrp (fun e => by rw [e] at hy; simp at hy)
            rw [HWLN.out] at hvp
            injection hvp with e1 _ e3
            subst e1 e3
            have q2 := kept hBq.out (hip x y hy)
            have q3 : wr.cell? ⟨w.heap.size + 1, 0, none⟩ = some (.slice (some ⟨bp, op, none⟩) wl c') := kept hBq.out (HX7.out.cell rfl)
            have q4 : (x : Int) < wl := by omega
            have q5 : (0 : Int) ≤ x := by omega
            have HO2 := Lib.hid (show o ++ [y] = (LN.take (j + 1)).map fun j => (whichK ks).getD j 0 from by
              rw [List.take_add_one, hx, List.map_append, ← ho.out]
              show o ++ [y] = o ++ [(whichK ks).getD x 0]
              rw [List.getD_eq_getElem?_getD, hy]; rfl)
            have hob : ol ≤ 40 := by
              have h1 := congrArg List.length ho.out
              rw [List.length_map, List.length_take] at h1
              have := HOL.out
              omega
            have HLO := Lib.hid (show (o ++ [y]).length = ol + 1 from by rw [List.length_append, HOL.out]; rfl)
            have HFO := Lib.hid (show (o ++ [y]).flatMap natC = o.flatMap natC ++ [.int .i64 y] from by rw [List.flatMap_append]; rfl)
            have hszq := hBq.out.size
            clear hx hxw hrq hiq hrp hy hip
            go_wp2_with (at_builtin; obtain ⟨i0, hi, hz0, hz1, hz2⟩ := info_parts info_int; refine wpList_append_own_at _ rfl _ _ 40 rfl wc.heap.size 3 i0 (.int .i64 0) 1 8 Tryz.underlying40 hi hz0 hz1 hz2 rfl (by decide) _ _ _ rfl (hrow.out.alloc _) ⟨wr.heap.size, 0, none⟩ 1 1 [.int .i64 y] rfl rfl (cell_one_new _ _ _) (by simp [Value.oneCell']) (by simp only [maxLen]; omega) (by omega) (by simp; omega) ?_; clear hi hz0 hz1 hz2; intro v10 w10 hown10 hgrow10 hnil10 hloc10; obtain ⟨A10, c10, rfl, _, _⟩ := own_sl hown10)
            have HB10 := Lib.hid ((hBq.out.trans ((below_alloc wr _).mono hBq.out.size)).grown hgrow10 (Nat.le_trans hBq.out.size (below_alloc wr _).size) fun g e => (row_lt hrow.out e).1)
            have HO10 := Lib.hid hown10
            clear hown10 hgrow10 hnil10 hloc10
            go_roundw
            case rel => exact ⟨j + 1, c10, A10, o ++ [y], by omega, by go_num, by rw [HLO.out], by rw [HLO.out, HFO.out]; exact HO10, HO2, HB10⟩
            case measure => simp [intOf]; omega
          · obtain rfl : j = wl := by omega
            have hfin : o = lineK ks := by rw [ho.out, HLK.out, List.take_of_length_le (by have := HLL.out; omega)]
            have HFIN := Lib.hid (show NatsAt wr (.slice A9 ol c9) (lineK ks) from by rw [← hfin]; exact row_nats hrow.out HOL.out.symm (by have h1 := congrArg List.length ho.out; rw [List.length_map, List.length_take] at h1; have := HOL.out; omega))
            clear hfin
            go_wp2_with fail
            go_ret
            exact ⟨_, rfl, HFIN.out, HB7.out.trans (hBq.out.mono HB7.out.size)⟩
end Go.Proofs.YtpbbhjifgaeklaaGreatDoor

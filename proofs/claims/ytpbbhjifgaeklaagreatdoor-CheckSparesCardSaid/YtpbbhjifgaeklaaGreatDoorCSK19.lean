/- slices.Concat of two slices: edges; what is asked for. -/
import Derived.Test.YtpbbhjifgaeklaaGreatDoorCSK18
import Derived.Test.YtpbbhjifgaeklaaGreatDoorCSK5
import Derived.Lib.AppendZeros
namespace Go.Proofs.YtpbbhjifgaeklaaGreatDoor
open Go Go.RowKit

section
variable {P : Program} (w : World)
theorem wpList_builtin_append {ops : Array Oper} {rest : List Oper} {o : Oper} {a : Act} {Q : Exit → Act → World → Prop} (hgd : o.guard = none) (s x : Operand) (t tn : TypeId)
    (ho : o.op = .call { callee := .builtin .append, args := #[s, x], argTypes := #[t, tn] }) (u v v' : Value) (w' : World) (hs : a.eval s = u) (hx : a.eval x = v) (hr : (Builtin.append_ #[t, tn] o.type #[u, v]).run P w = .ok v' w') (h : wpList P ops Q rest (a.put o.dst v') w') : wpList P ops Q (o :: rest) a w := by
  refine wpList_plain hgd fun K hK => ?_
  unfold Oper.wp execOp
  simp only [ho, resolve, invoke, builtin, Sem.run_bind, Sem.run_pure, Result.andThen_ok, List.map_toArray, List.map_cons, List.map_nil, hs, hx, hr]
  exact hK _ _ h
end

theorem info_ccE : (Tryz.prog.info? 153).map (fun i => (i.zero, i.size, i.bytes)) = some (some (.agg #[.int .i64 0, .int .i64 0]), 2, 16) := by kernel_rfl
set_option maxHeartbeats 1000000 in
set_option maxRecDepth 100000 in
theorem growE_calls (n : Nat) (w : World) (hn : n ≤ 1000000) : Calls Tryz.prog 232 #[.slice none 0 0, .int .i64 n] w fun E w' => ∃ A c, E = .returned (.slice A 0 c) ∧ w'.ownsRow w.heap.size 153 2 (.slice A 0 c) 0 [] ∧ Below w.heap.size w w' := by
  cases n with
  | zero =>
    go_enter Tryz.func232, Tryz.ntmps232
    go_wp2_with fail
    go_ret
    exact ⟨none, 0, rfl, World.ownsRow_nil _ _ _ _, Below.refl _ _⟩
  | succ n =>
    obtain ⟨i0, hi, hz0, hz1, hz2⟩ := info_parts info_ccE
    have hap : ∀ ty, (Builtin.append_ #[147, 3] ty #[.slice none 0 0, .int .i64 (n + 1 : Nat)]).run Tryz.prog w = .ok (.slice (some ⟨w.heap.size, 0, none⟩) (n + 1) (grownCap w (n + 1) 0 153)) (w.drew.alloc (.cells (Builtin.zeroCells (.agg #[.int .i64 0, .int .i64 0] : Value).cells (n + 1) ++ Builtin.zeroCells (.agg #[.int .i64 0, .int .i64 0] : Value).cells (grownCap w (n + 1) 0 153 - (n + 1))) 153)) := fun ty =>
      Lib.run_append_nil_zeros w 147 3 ty 153 i0 (.agg #[.int .i64 0, .int .i64 0]) .i64 .i64 Tryz.underlying147 Tryz.underlying3 hi hz0 (n + 1) (by omega) (by rw [hz1]; decide) (by omega) (by rw [hz2]; omega)
    have hg1 := grownCap_ge w (n + 1) 0 153
    have hg2 := grownCap_le_maxLen w (n + 1) 0 153 (by simp only [maxLen]; omega)
    have hnew := heap_alloc_new w.drew (.cells (Builtin.zeroCells (.agg #[.int .i64 0, .int .i64 0] : Value).cells (n + 1) ++ Builtin.zeroCells (.agg #[.int .i64 0, .int .i64 0] : Value).cells (grownCap w (n + 1) 0 153 - (n + 1))) 153)
    have hbb : Below w.heap.size w (w.drew.alloc (.cells (Builtin.zeroCells (.agg #[.int .i64 0, .int .i64 0] : Value).cells (n + 1) ++ Builtin.zeroCells (.agg #[.int .i64 0, .int .i64 0] : Value).cells (grownCap w (n + 1) 0 153 - (n + 1))) 153)) := (below_drew w).trans (below_alloc w.drew _)
    have hsz : (Builtin.zeroCells (.agg #[.int .i64 0, .int .i64 0] : Value).cells (n + 1) ++ Builtin.zeroCells (.agg #[.int .i64 0, .int .i64 0] : Value).cells (grownCap w (n + 1) 0 153 - (n + 1))).size = grownCap w (n + 1) 0 153 * 2 := by
      rw [Array.size_append, size_zeroCells, size_zeroCells, ← Nat.add_mul]
      show _ * 2 = _
      congr 1
      omega
    have hnn : ((n + 1 : Nat) : Int) = (n : Int) + 1 := by omega
    rw [hnn] at hap
    obtain ⟨cp, hcp⟩ : ∃ cp, grownCap w (n + 1) 0 153 = cp := ⟨_, rfl⟩
    rw [hcp] at hap hg1 hg2 hnew hbb hsz
    obtain ⟨zs, hzs⟩ : ∃ zs, Builtin.zeroCells (.agg #[.int .i64 0, .int .i64 0] : Value).cells (n + 1) ++ Builtin.zeroCells (.agg #[.int .i64 0, .int .i64 0] : Value).cells (cp - (n + 1)) = zs := ⟨_, rfl⟩
    rw [hzs] at hap hnew hbb hsz
    have HAP := Lib.hid hap
    have HN := Lib.hid hnew
    have HBB := Lib.hid hbb
    have HSZ := Lib.hid hsz
    have HG := Lib.hid (And.intro hg1 hg2)
    clear hi hz0 hz1 hz2 hcp hzs hnew hbb hsz hg2 hap
    go_enter Tryz.func232, Tryz.ntmps232
    go_wp2_with (at_builtin; refine wpList_builtin_append w rfl _ _ 147 3 rfl (.slice none 0 0) (.int .i64 (n + 1)) _ _ rfl rfl (HAP.out _) ?_)
    go_ret
    exact ⟨_, cp, rfl, ⟨by simp, .inr ⟨_, cp, zs, rfl, Nat.le_refl _, HN.out, Nat.zero_le _, HG.out.2, HSZ.out, by simp⟩⟩, HBB.out⟩

set_option maxHeartbeats 2000000 in
set_option maxRecDepth 100000 in
theorem concatE_calls (bx n1 n2 : Nat) (v1 v2 : Value) (xs1 xs2 : List Value) (w : World) (h1 : w.cell? ⟨bx, 0, none⟩ = some v1) (h2 : w.cell? ⟨bx, 1, none⟩ = some v2) (hs1 : ∀ W, Below w.heap.size w W → SrcIs W v1 n1 xs1) (hs2 : ∀ W, Below w.heap.size w W → SrcIs W v2 n2 xs2)
    (hl1 : xs1.length = n1 * 2) (hl2 : xs2.length = n2 * 2) (ho1 : ∀ u ∈ xs1, u.oneCell' = true) (ho2 : ∀ u ∈ xs2, u.oneCell' = true) (hn1 : n1 ≤ 100000) (hn2 : n2 ≤ 100000) :
    Calls Tryz.prog 172 #[.slice (some ⟨bx, 0, none⟩) 2 2] w fun E w' => ∃ v', E = .returned v' ∧ w'.ownsRow w.heap.size 153 2 v' (n1 + n2) (xs1 ++ xs2) ∧ Below w.heap.size w w' := by
  obtain ⟨A1, c1, rfl, _⟩ := hs1 w (Below.refl _ _)
  obtain ⟨A2, c2, rfl, _⟩ := hs2 w (Below.refl _ _)
  have CG := Lib.hid (growE_calls (n1 + n2) w (by omega))
  have S1 := Lib.hid hs1
  have S2 := Lib.hid hs2
  have HL1 := Lib.hid hl1
  have HL2 := Lib.hid hl2
  have HO1 := Lib.hid ho1
  have HO2 := Lib.hid ho2
  have hnn : ((n1 + n2 : Nat) : Int) = (n1 : Int) + n2 := by omega
  rw [hnn] at CG
  obtain ⟨i0, hi, hz0, hz1, hz2⟩ := info_parts info_ccE
  have HI := Lib.hid (And.intro hi (And.intro hz0 (And.intro hz1 hz2)))
  have t1 : ¬ (n1 : Int) < 0 := by omega
  have t2 : ¬ (n1 : Int) + n2 < 0 := by omega
  clear hs1 hs2 hl1 hl2 ho1 ho2 hi hz0 hz1 hz2 hnn
  go_enter Tryz.func172, Tryz.ntmps172
  go_wp2_with fail
  refine wp_loop_rounds 3 ?_
  rw [rounds_succ]
  go_wp2_with fail
  rw [rounds_succ]
  go_wp2_with fail
  rw [rounds_succ]
  go_wp2_with fail
  refine CG.out.mono ?_
  rintro E w1 ⟨A, c, rfl, ho0, hb1⟩
  have HB1 := Lib.hid hb1
  have HO0 := Lib.hid ho0
  have k1 := kept hb1 h1
  have k2 := kept hb1 h2
  have H2 := Lib.hid h2
  have hsz1 := hb1.size
  clear ho0 hb1 CG h1 h2
  go_wp2_with fail
  refine wp_loop_rounds 3 ?_
  rw [rounds_succ]
  go_wp2_with (at_builtin; obtain ⟨hi, hz0, hz1, hz2⟩ := HI.out; refine wpList_append_src _ rfl _ _ 147 rfl w.heap.size 153 i0 (.agg #[.int .i64 0, .int .i64 0]) 2 16 Tryz.underlying147 hi hz0 hz1 hz2 rfl (by decide) _ 0 [] rfl HO0.out _ n1 xs1 rfl (S1.out _ HB1.out) HL1.out HO1.out (by simp only [maxLen]; omega) (by omega) hsz1 ?_; clear hi hz0 hz1 hz2; intro v5 w5 hown5 hgrow5; rw [Nat.zero_add, List.nil_append] at hown5; have hb5 := HB1.out.grown hgrow5 hsz1 (fun k e => (row_lt HO0.out e).1); have HB5 := Lib.hid hb5; have HOWN5 := Lib.hid hown5; have hsz5 := hb5.size; have m2 := kept hb5 H2.out; obtain ⟨A5, c5, rfl, _, _⟩ := own_sl hown5; clear hown5 hgrow5 hb5)
  rw [rounds_succ]
  go_wp2_with (at_builtin; obtain ⟨hi, hz0, hz1, hz2⟩ := HI.out; refine wpList_append_src _ rfl _ _ 147 rfl w.heap.size 153 i0 (.agg #[.int .i64 0, .int .i64 0]) 2 16 Tryz.underlying147 hi hz0 hz1 hz2 rfl (by decide) _ n1 xs1 rfl HOWN5.out _ n2 xs2 rfl (S2.out _ HB5.out) HL2.out HO2.out (by simp only [maxLen]; omega) (by omega) hsz5 ?_; clear hi hz0 hz1 hz2; intro v6 w6 hown6 hgrow6; have hb6 := HB5.out.grown hgrow6 hsz5 (fun k e => (row_lt HOWN5.out e).1); have HB6 := Lib.hid hb6; have HOWN6 := Lib.hid hown6; obtain ⟨A6, c6, rfl, _, _⟩ := own_sl hown6; clear hown6 hgrow6 hb6)
  rw [rounds_succ]
  go_wp2_with fail
  go_ret
  exact ⟨_, rfl, HOWN6.out, HB6.out⟩

theorem info_ccT : (Tryz.prog.info? 65).map (fun i => (i.zero, i.size, i.bytes)) = some (some (.slice none 0 0), 1, 24) := by kernel_rfl
set_option maxHeartbeats 1000000 in
set_option maxRecDepth 100000 in
theorem growT_calls (n : Nat) (w : World) (hn : n ≤ 1000000) : Calls Tryz.prog 180 #[.slice none 0 0, .int .i64 n] w fun E w' => ∃ A c, E = .returned (.slice A 0 c) ∧ w'.ownsRow w.heap.size 65 1 (.slice A 0 c) 0 [] ∧ Below w.heap.size w w' := by
  cases n with
  | zero =>
    go_enter Tryz.func180, Tryz.ntmps180
    go_wp2_with fail
    go_ret
    exact ⟨none, 0, rfl, World.ownsRow_nil _ _ _ _, Below.refl _ _⟩
  | succ n =>
    obtain ⟨i0, hi, hz0, hz1, hz2⟩ := info_parts info_ccT
    have hap : ∀ ty, (Builtin.append_ #[64, 3] ty #[.slice none 0 0, .int .i64 (n + 1 : Nat)]).run Tryz.prog w = .ok (.slice (some ⟨w.heap.size, 0, none⟩) (n + 1) (grownCap w (n + 1) 0 65)) (w.drew.alloc (.cells (Builtin.zeroCells (.slice none 0 0 : Value).cells (n + 1) ++ Builtin.zeroCells (.slice none 0 0 : Value).cells (grownCap w (n + 1) 0 65 - (n + 1))) 65)) := fun ty =>
      Lib.run_append_nil_zeros w 64 3 ty 65 i0 (.slice none 0 0) .i64 .i64 Tryz.underlying64 Tryz.underlying3 hi hz0 (n + 1) (by omega) (by rw [hz1]; decide) (by omega) (by rw [hz2]; omega)
    have hg1 := grownCap_ge w (n + 1) 0 65
    have hg2 := grownCap_le_maxLen w (n + 1) 0 65 (by simp only [maxLen]; omega)
    have hnew := heap_alloc_new w.drew (.cells (Builtin.zeroCells (.slice none 0 0 : Value).cells (n + 1) ++ Builtin.zeroCells (.slice none 0 0 : Value).cells (grownCap w (n + 1) 0 65 - (n + 1))) 65)
    have hbb : Below w.heap.size w (w.drew.alloc (.cells (Builtin.zeroCells (.slice none 0 0 : Value).cells (n + 1) ++ Builtin.zeroCells (.slice none 0 0 : Value).cells (grownCap w (n + 1) 0 65 - (n + 1))) 65)) := (below_drew w).trans (below_alloc w.drew _)
    have hsz : (Builtin.zeroCells (.slice none 0 0 : Value).cells (n + 1) ++ Builtin.zeroCells (.slice none 0 0 : Value).cells (grownCap w (n + 1) 0 65 - (n + 1))).size = grownCap w (n + 1) 0 65 * 1 := by
      rw [Array.size_append, size_zeroCells, size_zeroCells, ← Nat.add_mul]
      show _ * 1 = _
      congr 1
      omega
    have hnn : ((n + 1 : Nat) : Int) = (n : Int) + 1 := by omega
    rw [hnn] at hap
    obtain ⟨cp, hcp⟩ : ∃ cp, grownCap w (n + 1) 0 65 = cp := ⟨_, rfl⟩
    rw [hcp] at hap hg1 hg2 hnew hbb hsz
    obtain ⟨zs, hzs⟩ : ∃ zs, Builtin.zeroCells (.slice none 0 0 : Value).cells (n + 1) ++ Builtin.zeroCells (.slice none 0 0 : Value).cells (cp - (n + 1)) = zs := ⟨_, rfl⟩
    rw [hzs] at hap hnew hbb hsz
    have HAP := Lib.hid hap
    have HN := Lib.hid hnew
    have HBB := Lib.hid hbb
    have HSZ := Lib.hid hsz
    have HG := Lib.hid (And.intro hg1 hg2)
    clear hi hz0 hz1 hz2 hcp hzs hnew hbb hsz hg2 hap
    go_enter Tryz.func180, Tryz.ntmps180
    go_wp2_with (at_builtin; refine wpList_builtin_append w rfl _ _ 64 3 rfl (.slice none 0 0) (.int .i64 (n + 1)) _ _ rfl rfl (HAP.out _) ?_)
    go_ret
    exact ⟨_, cp, rfl, ⟨by simp, .inr ⟨_, cp, zs, rfl, Nat.le_refl _, HN.out, Nat.zero_le _, HG.out.2, HSZ.out, by simp⟩⟩, HBB.out⟩

set_option maxHeartbeats 2000000 in
set_option maxRecDepth 100000 in
theorem concatT_calls (bx n1 n2 : Nat) (v1 v2 : Value) (xs1 xs2 : List Value) (w : World) (h1 : w.cell? ⟨bx, 0, none⟩ = some v1) (h2 : w.cell? ⟨bx, 1, none⟩ = some v2) (hs1 : ∀ W, Below w.heap.size w W → SrcIs W v1 n1 xs1) (hs2 : ∀ W, Below w.heap.size w W → SrcIs W v2 n2 xs2)
    (hl1 : xs1.length = n1 * 1) (hl2 : xs2.length = n2 * 1) (ho1 : ∀ u ∈ xs1, u.oneCell' = true) (ho2 : ∀ u ∈ xs2, u.oneCell' = true) (hn1 : n1 ≤ 100000) (hn2 : n2 ≤ 100000) :
    Calls Tryz.prog 108 #[.slice (some ⟨bx, 0, none⟩) 2 2] w fun E w' => ∃ v', E = .returned v' ∧ w'.ownsRow w.heap.size 65 1 v' (n1 + n2) (xs1 ++ xs2) ∧ Below w.heap.size w w' := by
  obtain ⟨A1, c1, rfl, _⟩ := hs1 w (Below.refl _ _)
  obtain ⟨A2, c2, rfl, _⟩ := hs2 w (Below.refl _ _)
  have CG := Lib.hid (growT_calls (n1 + n2) w (by omega))
  have S1 := Lib.hid hs1
  have S2 := Lib.hid hs2
  have HL1 := Lib.hid hl1
  have HL2 := Lib.hid hl2
  have HO1 := Lib.hid ho1
  have HO2 := Lib.hid ho2
  have hnn : ((n1 + n2 : Nat) : Int) = (n1 : Int) + n2 := by omega
  rw [hnn] at CG
  obtain ⟨i0, hi, hz0, hz1, hz2⟩ := info_parts info_ccT
  have HI := Lib.hid (And.intro hi (And.intro hz0 (And.intro hz1 hz2)))
  have t1 : ¬ (n1 : Int) < 0 := by omega
  have t2 : ¬ (n1 : Int) + n2 < 0 := by omega
  clear hs1 hs2 hl1 hl2 ho1 ho2 hi hz0 hz1 hz2 hnn
  go_enter Tryz.func108, Tryz.ntmps108
  go_wp2_with fail
  refine wp_loop_rounds 3 ?_
  rw [rounds_succ]
  go_wp2_with fail
  rw [rounds_succ]
  go_wp2_with fail
  rw [rounds_succ]
  go_wp2_with fail
  refine CG.out.mono ?_
  rintro E w1 ⟨A, c, rfl, ho0, hb1⟩
  have HB1 := Lib.hid hb1
  have HO0 := Lib.hid ho0
  have k1 := kept hb1 h1
  have k2 := kept hb1 h2
  have H2 := Lib.hid h2
  have hsz1 := hb1.size
  clear ho0 hb1 CG h1 h2
  go_wp2_with fail
  refine wp_loop_rounds 3 ?_
  rw [rounds_succ]
  go_wp2_with (at_builtin; obtain ⟨hi, hz0, hz1, hz2⟩ := HI.out; refine wpList_append_src _ rfl _ _ 64 rfl w.heap.size 65 i0 (.slice none 0 0) 1 24 Tryz.underlying64 hi hz0 hz1 hz2 rfl (by decide) _ 0 [] rfl HO0.out _ n1 xs1 rfl (S1.out _ HB1.out) HL1.out HO1.out (by simp only [maxLen]; omega) (by omega) hsz1 ?_; clear hi hz0 hz1 hz2; intro v5 w5 hown5 hgrow5; rw [Nat.zero_add, List.nil_append] at hown5; have hb5 := HB1.out.grown hgrow5 hsz1 (fun k e => (row_lt HO0.out e).1); have HB5 := Lib.hid hb5; have HOWN5 := Lib.hid hown5; have hsz5 := hb5.size; have m2 := kept hb5 H2.out; obtain ⟨A5, c5, rfl, _, _⟩ := own_sl hown5; clear hown5 hgrow5 hb5)
  rw [rounds_succ]
  go_wp2_with (at_builtin; obtain ⟨hi, hz0, hz1, hz2⟩ := HI.out; refine wpList_append_src _ rfl _ _ 64 rfl w.heap.size 65 i0 (.slice none 0 0) 1 24 Tryz.underlying64 hi hz0 hz1 hz2 rfl (by decide) _ n1 xs1 rfl HOWN5.out _ n2 xs2 rfl (S2.out _ HB5.out) HL2.out HO2.out (by simp only [maxLen]; omega) (by omega) hsz5 ?_; clear hi hz0 hz1 hz2; intro v6 w6 hown6 hgrow6; have hb6 := HB5.out.grown hgrow6 hsz5 (fun k e => (row_lt HOWN5.out e).1); have HB6 := Lib.hid hb6; have HOWN6 := Lib.hid hown6; obtain ⟨A6, c6, rfl, _, _⟩ := own_sl hown6; clear hown6 hgrow6 hb6)
  rw [rounds_succ]
  go_wp2_with fail
  go_ret
  exact ⟨_, rfl, HOWN6.out, HB6.out⟩
end Go.Proofs.YtpbbhjifgaeklaaGreatDoor

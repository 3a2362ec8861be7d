/- order.Line: the walk, at edges that may be. -/
import Derived.Test.YtpbbhjifgaeklaaGreatDoorCSK26
namespace Go.Proofs.YtpbbhjifgaeklaaGreatDoor
open Go Go.RowKit
open TJ (EdgeN hasN srt nextT ringT lineT ringsT)

theorem next_eq (strong : List EdgeN) (left : List Nat) : max (idxV (left.findIdx? (freeV strong left))) 0 = (nextT strong left : Int) := by
  unfold TJ.nextT
  have e : left.findIdx? (freeV strong left) = left.findIdx? fun v => !(strong.any fun e => e.2 == v && !(e.1 == v) && hasN left e.1) := rfl
  rw [e]
  cases left.findIdx? fun v => !(strong.any fun e => e.2 == v && !(e.1 == v) && hasN left e.1) with
  | none => rfl
  | some k =>
    show max (k : Int) 0 = k
    omega
theorem src_edges {w : World} {v : Value} {l : List EdgeN} (h : EdgesAt w v l) : SrcIs w v l.length (l.flatMap edgC) := SlC.src h
theorem edges_len (l : List EdgeN) : (l.flatMap edgC).length = l.length * 2 := flat_length (cs := edgC) (size := 2) (fun _ => rfl) l
theorem edges_one (l : List EdgeN) : ∀ u ∈ l.flatMap edgC, u.oneCell' = true := by
  intro u hu
  rw [List.mem_flatMap] at hu
  obtain ⟨e, _, he⟩ := hu
  unfold edgC at he
  simp only [List.mem_cons, List.not_mem_nil, or_false] at he
  rcases he with rfl | rfl <;> rfl

set_option maxHeartbeats 8000000 in
set_option maxRecDepth 100000 in
theorem ordLine_calls (n : Nat) (vw vs : Value) (weak strong : List EdgeN) (w : World) (hn : n ≤ 40) (hw : EdgesAt w vw weak) (hs : EdgesAt w vs strong) (hwl : ∀ e, e ∈ weak → e.1 < n ∧ e.2 < n) (hsl : ∀ e, e ∈ strong → e.1 < n ∧ e.2 < n) (hw1 : weak.length ≤ 100000) (hs1 : strong.length ≤ 100000) :
    Calls Tryz.prog 102 #[.int .i64 n, vw, vs] w fun E w' => ∃ v', E = .returned (.tuple #[v', .nilIface]) ∧ NatsAt w' v' (lineT n weak strong) ∧ Below w.heap.size w w' := by
  obtain ⟨A1, c1, rfl, _, _, _⟩ := hw.open
  obtain ⟨A2, c2, rfl, _, _, _⟩ := hs.open
  have hall : ∀ e, e ∈ weak ++ strong → e.1 < n ∧ e.2 < n := fun e he => (List.mem_append.1 he).elim (hwl e) (hsl e)
  have C1 := Lib.hid (fun (W : World) (hb : Below w.heap.size w W) => ordRight_calls n _ weak W hn (hw.below hb) hwl)
  have C2 := Lib.hid (fun (W : World) (hb : Below w.heap.size w W) => ordRight_calls n _ strong W hn (hs.below hb) hsl)
  have C3 := Lib.hid (fun (W : World) (bx : Nat) (hb : Below w.heap.size w W) (k1 : W.cell? ⟨bx, 0, none⟩ = some (.slice A1 weak.length c1)) (k2 : W.cell? ⟨bx, 1, none⟩ = some (.slice A2 strong.length c2)) =>
    concatE_calls bx weak.length strong.length _ _ (weak.flatMap edgC) (strong.flatMap edgC) W k1 k2 (fun W' hb' => src_edges ((hw.below hb).below hb')) (fun W' hb' => src_edges ((hs.below hb).below hb')) (edges_len _) (edges_len _) (edges_one _) (edges_one _) (by omega) (by omega))
  have C4 := Lib.hid (fun (W : World) (v : Value) (hv : EdgesAt W v (weak ++ strong)) => rings_calls n v (weak ++ strong) W hn hv hall (by rw [List.length_append]; omega))
  have HALL := Lib.hid hall
  have hb0 := below_alloc w (.cells #[.slice A2 strong.length c2] 147)
  have hx0 := blk_new 147 w #[.slice A2 strong.length c2]
  obtain ⟨W0, hW0⟩ : ∃ W, w.alloc (.cells #[.slice A2 strong.length c2] 147) = W := ⟨_, rfl⟩
  rw [hW0] at hb0 hx0
  obtain ⟨l1, hl1⟩ : ∃ l1, weak.length = l1 := ⟨_, rfl⟩
  obtain ⟨l2, hl2⟩ : ∃ l2, strong.length = l2 := ⟨_, rfl⟩
  rw [hl2] at hW0 hx0
  rw [hl1] at C1
  rw [hl2] at C2
  rw [hl1, hl2] at C3
  rw [hl1, hl2]
  have HLB := Lib.hid (show l1 ≤ 100000 ∧ l2 ≤ 100000 from by omega)
  have hs' := hs
  rw [hl2] at hs'
  have HS := Lib.hid hs'
  have HL1 := Lib.hid hl1
  have HL2 := Lib.hid hl2
  have HB0 := Lib.hid hb0
  have HX0 := Lib.hid hx0
  have k0 : W0.cell? ⟨w.heap.size, 0, none⟩ = some (.slice A2 l2 c2) := hx0.cell rfl
  clear hw hs hs' hwl hsl hall hb0 hx0 hl1 hl2 hw1 hs1
  go_enter Tryz.func102, Tryz.ntmps102
  go_wp2_with fail
  refine (C1.out _ HB0.out).mono ?_
  rintro E w1 ⟨rfl, hb1⟩
  have HB1 := Lib.hid (HB0.out.trans (hb1.mono HB0.out.size))
  have HX1 := Lib.hid (HX0.out.keep hb1)
  have k1 : w1.cell? ⟨w.heap.size, 0, none⟩ = some (.slice A2 l2 c2) := HX1.out.cell rfl
  clear hb1 k0 C1 hW0
  go_wp2_with fail
  refine (C2.out _ HB1.out).mono ?_
  rintro E w2 ⟨rfl, hb2⟩
  have HB2 := Lib.hid (HB1.out.trans (hb2.mono HB1.out.size))
  have HX2 := Lib.hid (HX1.out.keep hb2)
  have k2 : w2.cell? ⟨w.heap.size, 0, none⟩ = some (.slice A2 l2 c2) := HX2.out.cell rfl
  have hbx := below_alloc w2 (.cells #[.slice A1 l1 c1, .slice A2 l2 c2] 147)
  have hxx := blk_new 147 w2 #[.slice A1 l1 c1, .slice A2 l2 c2]
  obtain ⟨W3, hW3⟩ : ∃ W, w2.alloc (.cells #[.slice A1 l1 c1, .slice A2 l2 c2] 147) = W := ⟨_, rfl⟩
  rw [hW3] at hbx hxx
  have HB3 := Lib.hid (HB2.out.trans (hbx.mono HB2.out.size))
  have HX3 := Lib.hid (HX2.out.keep hbx)
  have C3b := Lib.hid (C3.out W3 w2.heap.size HB3.out (hxx.cell rfl) (hxx.cell rfl))
  clear hb2 k1 C2 hbx hxx C3
  go_wp2_with fail
  refine C3b.out.mono ?_
  rintro E w4 ⟨v4, rfl, ho4, hb4⟩
  have he4 : EdgesAt w4 v4 (weak ++ strong) := slc_of_own (by rw [List.flatMap_append]; exact ho4) (by rw [List.length_append, HL1.out, HL2.out]) (by have := HLB.out; omega)
  have HB4 := Lib.hid (HB3.out.trans (hb4.mono HB3.out.size))
  have HX4 := Lib.hid (HX3.out.keep hb4)
  have C4b := Lib.hid (C4.out w4 v4 he4)
  clear he4 ho4 hb4 C3b hW3
  go_wp2_with fail
  refine C4b.out.mono ?_
  rintro E w5 ⟨v5, rfl, hv5, hb5⟩
  obtain ⟨hSok, _⟩ := TJ.sets_ok (n := n) (l := weak ++ strong) HALL.out
  have hperm := TJ.rings_perm (n := n) (l := weak ++ strong) HALL.out
  have hRne : ∀ x, x ∈ ringsT n (weak ++ strong) → x ≠ [] := fun x hx => hSok.ne x (hperm.mem_iff.1 hx)
  have hRfl : (ringsT n (weak ++ strong)).flatten.length = n := by rw [((TJ.perm_flatten hperm).trans (TJ.sets_perm hSok)).length_eq, List.length_range]
  have hLT : lineT n weak strong = (ringsT n (weak ++ strong)).foldl (fun o r => ringT strong r.length r o) [] := rfl
  obtain ⟨R, hR⟩ : ∃ R, ringsT n (weak ++ strong) = R := ⟨_, rfl⟩
  rw [hR] at hv5 hRne hRfl hLT
  obtain ⟨A5, c5, rfl, hc5, hm5, hr5⟩ := hv5.open hRne
  obtain ⟨rl, hrl⟩ : ∃ rl, R.length = rl := ⟨_, rfl⟩
  have HRL := Lib.hid hrl
  have HR5 := Lib.hid hr5
  have HRF := Lib.hid hRfl
  have HLT := Lib.hid hLT
  have HRN := Lib.hid hRne
  have HB5 := Lib.hid (HB4.out.trans (hb5.mono HB4.out.size))
  have HX5 := Lib.hid (HX4.out.keep hb5)
  rw [hrl] at hc5 hm5 ⊢
  clear hSok hperm hRne hRfl hLT hR hv5 hr5 hrl hb5 C4 C4b HB0 HX0 HB1 HX1 HB2 HX2 HB3 HX3 HB4 HX4 k2
  go_wp2_with fail
  go_loopw [12, 43] (fun v i wr => ∃ (k c' : Nat) (A' : Option Addr) (o : List Nat), k ≤ rl ∧ i = .int .i64 k ∧ v = .slice A' o.length c' ∧ Hid (wr.ownsRow w5.heap.size 3 1 (.slice A' o.length c') o.length (o.flatMap natC)) ∧ Hid ((R.drop k).foldl (fun o r => ringT strong r.length r o) o = lineT n weak strong) ∧ Hid (o.length + (R.drop k).flatten.length = n) ∧ Hid (Below w5.heap.size w5 wr)) (fun _ i _ => rl - (intOf i).toNat)
  case atStart => exact ⟨0, 0, none, [], Nat.zero_le _, rfl, rfl, Lib.hid (World.ownsRow_nil _ _ _ _), Lib.hid HLT.out.symm, Lib.hid (by simpa using HRF.out), Lib.hid (Below.refl _ _)⟩
  case round =>
    obtain ⟨k, c', A', o, hk, rfl, rfl, hrow, hord, hlen, hB⟩ := hrel
    obtain ⟨ol, hol⟩ : ∃ ol, o.length = ol := ⟨_, rfl⟩
    have HOL := Lib.hid hol
    rw [hol] at hrow hlen ⊢
    clear hol
    by_cases hlt : k < rl
    · obtain ⟨r, hrk⟩ : ∃ r, R[k]? = some r := ⟨R[k]'(by have := HRL.out; omega), List.getElem?_eq_getElem _⟩
      have hneR : R ≠ [] := fun e => by rw [e] at hrk; simp at hrk
      obtain ⟨bs, os, rfl, hsc⟩ := HR5.out hneR
      obtain ⟨br, or', cr, hc1, hcr, hmr, _, hrn⟩ := hsc k r hrk
      have hrne := HRN.out r (List.mem_of_getElem? hrk)
      have hdk : R.drop k = r :: R.drop (k + 1) := by
        obtain ⟨h1, h2⟩ := List.getElem?_eq_some_iff.1 hrk
        rw [List.drop_eq_getElem_cons h1, h2]
      have hN1 : (R.drop (k + 1)).foldl (fun o r => ringT strong r.length r o) (ringT strong r.length r o) = lineT n weak strong := by
        rw [← hord.out, hdk]
        rfl
      have hN2 : ol + r.length + (R.drop (k + 1)).flatten.length = n := by
        have := hlen.out
        rw [hdk, List.flatten_cons, List.length_append] at this
        omega
      have c1 := kept hB.out hc1
      have CC := Lib.hid (cloneN_calls _ r wr (hrn.below hB.out) hrne (by omega))
      obtain ⟨rn, hrn2⟩ : ∃ rn, r.length = rn := ⟨_, rfl⟩
      rw [hrn2] at c1 CC
      have HRN2 := Lib.hid hrn2
      have HN1 := Lib.hid hN1
      have HN2 := Lib.hid hN2
      clear hrk hneR hsc hc1 hcr hmr hrn hrne hdk hN1 hN2 hrn2
      go_wp2_with fail
      refine CC.out.mono ?_
      rintro E w6 ⟨gl, cl, rfl, hol6, hb6⟩
      have hgl := row_lt hol6 (g := gl) rfl
      have hb7 := below_alloc w6 (.cells #[.slice (some ⟨gl, 0, none⟩) rn cl] 40)
      have hx7 := blk_new 40 w6 #[.slice (some ⟨gl, 0, none⟩) rn cl]
      have hrow7 := row_keep hol6 (W' := w6.alloc (.cells #[.slice (some ⟨gl, 0, none⟩) rn cl] 40)) fun g e => hb7.block g (row_lt hol6 e).2
      have hbb7 := hb6.trans (hb7.mono hb6.size)
      have hout7 := row_keep hrow.out (W' := w6.alloc (.cells #[.slice (some ⟨gl, 0, none⟩) rn cl] 40)) fun g e => hbb7.block g (row_lt hrow.out e).2
      have hd1 : ∀ g, (Value.slice A' ol c').ownBlock = some g → g ≠ gl ∧ g ≠ w6.heap.size := fun g e => by
        have := (row_lt hrow.out e).2
        have := hb6.size
        omega
      have hne15 : gl ≠ w6.heap.size := by omega
      obtain ⟨W7, hW7⟩ : ∃ W, w6.alloc (.cells #[.slice (some ⟨gl, 0, none⟩) rn cl] 40) = W := ⟨_, rfl⟩
      rw [hW7] at hb7 hx7 hrow7 hbb7 hout7
      obtain ⟨b15, hb15⟩ : ∃ b15, w6.heap.size = b15 := ⟨_, rfl⟩
      rw [hb15] at hx7 hd1 hne15
      have HB7 := Lib.hid (hB.out.trans (hbb7.mono hB.out.size))
      have hlow : wr.heap.size ≤ gl ∧ wr.heap.size ≤ b15 := ⟨hgl.1, by have := hb6.size; omega⟩
      have HLOW := Lib.hid (show w5.heap.size ≤ gl ∧ w5.heap.size ≤ b15 from by have := hB.out.size; omega)
      have HX7 := Lib.hid hx7
      have HROW7 := Lib.hid hrow7
      have HOUT7 := Lib.hid hout7
      have HD1 := Lib.hid hd1
      have HNE := Lib.hid hne15
      obtain ⟨B6, hB6⟩ : ∃ B6, wr.heap.size = B6 := ⟨_, rfl⟩
      rw [hB6] at HROW7
      have HRING := Lib.hid (show ringT strong rn r o = ringT strong r.length r o from by rw [HRN2.out])
      clear hgl hb7 hx7 hrow7 hbb7 hout7 hd1 hol6 hb6 hlow hB6 CC c1
      go_wp2_with fail
      go_loopw [12] (fun v wq => ∃ (f c2' : Nat) (A2' : Option Addr) (o2 left : List Nat), v = .slice A2' o2.length c2' ∧ Hid (left.length = f) ∧ Hid (o2.length + f = ol + rn) ∧ Hid (ringT strong f left o2 = ringT strong r.length r o) ∧ Hid (wq.ownsRow w5.heap.size 3 1 (.slice A2' o2.length c2') o2.length (o2.flatMap natC)) ∧ Hid (wq.ownsRow B6 3 1 (.slice (some ⟨gl, 0, none⟩) f cl) f (left.flatMap natC)) ∧ Hid (Blk 40 wq b15 #[.slice (some ⟨gl, 0, none⟩) f cl]) ∧ Hid (∀ g, (Value.slice A2' o2.length c2').ownBlock = some g → g ≠ gl ∧ g ≠ b15) ∧ Hid (Below w5.heap.size w5 wq)) (fun v _ => ol + rn - lenV v)
      case atStart => exact ⟨rn, c', A', o, r, by rw [HOL.out], HRN2, Lib.hid (by rw [HOL.out]), HRING, by rw [HOL.out]; exact HOUT7, HROW7, HX7, by rw [HOL.out]; exact HD1, HB7⟩
      case round =>
        obtain ⟨f, c2', A2', o2, left, rfl, hlf, hof, hring, hout, hleft, hx15, hd, hB2⟩ := hrel
        obtain ⟨ol2, hol2⟩ : ∃ ol2, o2.length = ol2 := ⟨_, rfl⟩
        have HOL2 := Lib.hid hol2
        rw [hol2] at hof hout hd ⊢
        clear hol2
        have k15 : wr.cell? ⟨b15, 0, none⟩ = some (.slice (some ⟨gl, 0, none⟩) f cl) := hx15.out.cell rfl
        cases f with
        | zero =>
          have hln : left = [] := List.eq_nil_of_length_eq_zero hlf.out
          have HFO := Lib.hid (show (R.drop (k + 1)).foldl (fun o r => ringT strong r.length r o) o2 = lineT n weak strong from by
            have : o2 = ringT strong r.length r o := by rw [← hring.out]; rfl
            rw [this]; exact HN1.out)
          clear hln
          go_wp2_with fail
          go_roundw
          case rel => exact ⟨k + 1, c2', A2', o2, by omega, by go_num, by rw [HOL2.out], by rw [HOL2.out]; exact hout, HFO, Lib.hid (by rw [HOL2.out]; have := hof.out; have := HN2.out; have := HRN2.out; omega), hB2⟩
          case measure => simp [intOf]; omega
        | succ f =>
          have hln : left ≠ [] := fun e => by have := hlf.out; rw [e] at this; cases this
          have hnx := TJ.next_lt strong hln
          have hnats := row_nats hleft.out hlf.out.symm (by have := HN2.out; have := hof.out; have := HRN2.out; omega)
          have hsb : Below w.heap.size w wr := HB5.out.trans (hB2.out.mono HB5.out.size)
          have CI := Lib.hid (idxF_calls _ left w.heap.size b15 (freeV strong left) wr hnats fun W x hW _ => lineF_calls w.heap.size b15 x _ _ strong left W (kept hW (kept hB2.out (show w5.cell? ⟨w.heap.size, 0, none⟩ = some (.slice A2 l2 c2) from HX5.out.cell rfl))) (kept hW k15) ((HS.out.below hsb).below hW) (hnats.below hW))
          obtain ⟨i9, hi9⟩ : ∃ i9, idxV (left.findIdx? (freeV strong left)) = i9 := ⟨_, rfl⟩
          have hmx := next_eq strong left
          rw [hi9] at CI hmx
          obtain ⟨nx, hnx2⟩ : ∃ nx, nextT strong left = nx := ⟨_, rfl⟩
          have hrg : ringT strong f (left.eraseIdx nx) (o2 ++ [left.getD nx 0]) = ringT strong r.length r o := by rw [← hring.out, ← hnx2]; rfl
          rw [hnx2] at hnx hmx
          have hxv : left[nx]? = some (left.getD nx 0) := by rw [List.getD_eq_getElem?_getD, List.getElem?_eq_getElem hnx]; rfl
          obtain ⟨xv, hxv2⟩ : ∃ xv, left.getD nx 0 = xv := ⟨_, rfl⟩
          rw [hxv2] at hxv hrg
          have hlf2 := hlf.out
          have g1 : (nx : Int) < (f : Int) + 1 := by omega
          have g2 : (0 : Int) ≤ nx := by omega
          have HXV := Lib.hid hxv
          have HRG := Lib.hid hrg
          have HNA := Lib.hid hnats
          have HNX := Lib.hid hnx
          have HEL := Lib.hid (show (left.eraseIdx nx).length = f from by rw [List.length_eraseIdx_of_lt hnx]; omega)
          clear hln hnx hnats hsb hi9 hnx2 hrg hxv hxv2 hlf2
          go_wp2_with fail
          refine CI.out.mono ?_
          rintro E w8 ⟨rfl, hb8⟩
          have hx8 := hx15.out.keep hb8
          have k8 : w8.cell? ⟨b15, 0, none⟩ = some (.slice (some ⟨gl, 0, none⟩) (f + 1) cl) := hx8.cell rfl
          have hout8 := row_keep hout.out fun g e => hb8.block g (row_lt hout.out e).2
          have hleft8 := row_keep hleft.out fun g e => hb8.block g (row_lt hleft.out e).2
          have c8 : w8.cell? ⟨gl, nx, none⟩ = some (.int .i64 xv) := by
            obtain ⟨A0, c0, hv0, _, _, hr0⟩ := HNA.out.open
            obtain ⟨b0, o0, rfl, hi0⟩ := hr0 (fun e => by have := HXV.out; rw [e] at this; simp at this)
            injection hv0 with e0 _ _
            injection e0 with e0
            injection e0 with e1 e2 _
            subst e1 e2
            have := kept hb8 (hi0 nx xv HXV.out)
            rwa [Nat.zero_add] at this
          have HB8 := Lib.hid (hB2.out.trans (hb8.mono hB2.out.size))
          have HX8 := Lib.hid hx8
          have HOUT8 := Lib.hid hout8
          have HLEFT8 := Lib.hid hleft8
          have hsz8 := HB8.out.size
          have hob : ol2 ≤ 40 := by have := hof.out; have := HN2.out; have := HRN2.out; omega
          clear hb8 hx8 hout8 hleft8 CI k15
          have hbl := below_alloc w8 (.cells #[.int .i64 xv] 3)
          have HBL := Lib.hid hbl
          have hsb8 := (row_lt HLEFT8.out (g := gl) rfl).2
          have hx8l := HX8.out.lt
          have HLT8 := Lib.hid (And.intro hsb8 hx8l)
          have e15 : left.length = f + 1 := hlf.out
          have CD := Lib.hid (fun (W : World) (hr : W.ownsRow B6 3 1 (.slice (some ⟨gl, 0, none⟩) (f + 1) cl) (f + 1) (left.flatMap natC)) => by
            have := deleteN_calls B6 gl cl nx left W (by rw [e15]; exact hr) HNX.out
            rw [e15, show f + 1 - 1 = f from rfl] at this
            exact this)
          clear hbl hsb8 hx8l e15
          go_upto_region 18 with fail
          clear hmx
          go_upto_region 19 with (at_builtin; obtain ⟨i0, hi, hz0, hz1, hz2⟩ := info_parts info_int; refine wpList_append_own_at _ rfl _ _ 40 rfl w5.heap.size 3 i0 (.int .i64 0) 1 8 Tryz.underlying40 hi hz0 hz1 hz2 rfl (by decide) _ _ _ rfl (HOUT8.out.alloc _) ⟨w8.heap.size, 0, none⟩ 1 1 [.int .i64 xv] rfl rfl (cell_one_new _ _ _) (by simp [Value.oneCell']) (by simp only [maxLen]; omega) (by omega) (by simp; omega) ?_; clear hi hz0 hz1 hz2; intro v10 w10 hown10 hgrow10 hnil10 hloc10; obtain ⟨A10, c10, rfl, _, _⟩ := own_sl hown10; have hk10 : ∀ i, i < w8.heap.size → i = gl ∨ i = b15 → w10.heap[i]? = w8.heap[i]? := (fun i hi h0 => (hgrow10.block i (Nat.lt_of_lt_of_le hi HBL.out.size) (fun e => by have := hd.out i e.symm; omega)).trans (HBL.out.block i hi)); have hx10 : Blk 40 w10 b15 #[.slice (some ⟨gl, 0, none⟩) (f + 1) cl] := (hk10 b15 HLT8.out.2 (.inr rfl)).trans HX8.out; have k10 : w10.cell? ⟨b15, 0, none⟩ = some (.slice (some ⟨gl, 0, none⟩) (f + 1) cl) := hx10.cell rfl; have hl10 := row_keep HLEFT8.out (W' := w10) (fun g e => by injection e with e; have e : gl = g := e; subst e; exact hk10 gl HLT8.out.1 (.inl rfl)); have CD10 := Lib.hid (CD.out w10 hl10); clear k8 c8 hl10)
          have HX10 := Lib.hid hx10
          have HOWN10 := Lib.hid hown10
          have HGR10 := Lib.hid hgrow10
          have HLO10 := Lib.hid hloc10
          have g9 : ¬ (9223372036854775807 : Int) < (nx : Int) + 1 := by have := hof.out; have := HN2.out; have := HRN2.out; omega
          clear hk10 hx10 hown10 hgrow10 hloc10 hnil10
          go_wp2_with fail
          refine CD10.out.mono ?_
          rintro E w11 ⟨rfl, hrow11, hg11⟩
          have hx11 : Blk 40 w11 b15 #[.slice (some ⟨gl, 0, none⟩) (f + 1) cl] := (hg11.block b15 HX10.out.lt (fun e => by injection e with e; have := HNE.out; omega)).trans HX10.out
          have k11 : w11.cell? ⟨b15, 0, none⟩ = some (.slice (some ⟨gl, 0, none⟩) (f + 1) cl) := hx11.cell rfl
          have f11 := hx11.frozen
          have hx12 := hx11.set 0 (.slice (some ⟨gl, 0, none⟩) f cl)
          have hrow12 := row_keep hrow11 (W' := w11.setCell ⟨b15, 0, none⟩ (.slice (some ⟨gl, 0, none⟩) f cl)) fun g e => by
            injection e with e
            have e : gl = g := e
            have := HNE.out
            unfold World.setCell
            rw [Array.getElem?_modify, if_neg (by show ¬ b15 = g; omega)]
          have hout12 := row_keep HOWN10.out (W' := w11.setCell ⟨b15, 0, none⟩ (.slice (some ⟨gl, 0, none⟩) f cl)) fun g e => by
            have hg := row_lt HOWN10.out e
            have hgd : g ≠ gl ∧ g ≠ b15 := by
              rcases HLO10.out with hl' | hl'
              · exact hd.out g (hl' ▸ e)
              · rw [hl'] at e
                injection e with e
                have := HBL.out.size
                have := HLT8.out
                omega
            have h1 : (w11.setCell ⟨b15, 0, none⟩ (.slice (some ⟨gl, 0, none⟩) f cl)).heap[g]? = w11.heap[g]? := by
              unfold World.setCell
              rw [Array.getElem?_modify, if_neg (by show ¬ b15 = g; omega)]
            rw [h1]
            exact hg11.block g hg.2 fun e0 => by injection e0 with e0; omega
          have hd12 : ∀ g, (Value.slice A10 (ol2 + 1) c10).ownBlock = some g → g ≠ gl ∧ g ≠ b15 := fun g e => by
            rcases HLO10.out with hl' | hl'
            · exact hd.out g (hl' ▸ e)
            · rw [hl'] at e
              injection e with e
              have := HBL.out.size
              have := HLT8.out
              omega
          have hb10 : Below w5.heap.size w5 w10 := (HB8.out.trans (HBL.out.mono HB8.out.size)).grown HGR10.out (Nat.le_trans HB8.out.size HBL.out.size) fun g e => (row_lt HOUT8.out e).1
          have hb12 : Below w5.heap.size w5 (w11.setCell ⟨b15, 0, none⟩ (.slice (some ⟨gl, 0, none⟩) f cl)) := (hb10.grown hg11 hb10.size fun g e => by injection e with e; have := HLOW.out.1; omega).setCell (by show w5.heap.size ≤ b15; exact HLOW.out.2) _
          have HX12 := Lib.hid hx12
          have HROW12 := Lib.hid hrow12
          have HOUT12 := Lib.hid hout12
          have HD12 := Lib.hid hd12
          have HB12 := Lib.hid hb12
          have HFL := Lib.hid (show (o2 ++ [xv]).flatMap natC = o2.flatMap natC ++ [.int .i64 xv] from by rw [List.flatMap_append]; rfl)
          have HLL := Lib.hid (show (o2 ++ [xv]).length = ol2 + 1 from by rw [List.length_append, HOL2.out, List.length_singleton])
          clear hx12 hrow12 hout12 hd12 hb12 hb10 hx11 hg11 hrow11
          go_wp2_with fail
          go_roundw
          case rel => exact ⟨f, c10, A10, o2 ++ [xv], left.eraseIdx nx, by rw [HLL.out], HEL, Lib.hid (by rw [HLL.out]; have := hof.out; omega), HRG, by rw [HLL.out, HFL.out]; exact HOUT12, HROW12, HX12, by rw [HLL.out]; exact HD12, HB12⟩
          case measure => have := hof.out; simp [lenV]; omega
    · obtain rfl : k = rl := by omega
      have hnil : R.drop k = [] := List.drop_eq_nil_iff.2 (by have := HRL.out; omega)
      have hfin : o = lineT n weak strong := by rw [← hord.out, hnil]; rfl
      have hnats := row_nats hrow.out HOL.out.symm (by have := hlen.out; omega)
      have HFIN := Lib.hid (show NatsAt wr (.slice A' ol c') (lineT n weak strong) from hfin ▸ hnats)
      clear hnil hfin hnats
      go_wp2_with fail
      exact bodyPost_ret (v := .tuple #[.slice A' ol c', .nilIface]) (by simp [results, Tryz.results102, go_sem]) rfl ⟨_, rfl, HFIN.out, HB5.out.trans (hB.out.mono HB5.out.size)⟩
end Go.Proofs.YtpbbhjifgaeklaaGreatDoor

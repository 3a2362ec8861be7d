/- ShelfPlays: the walk. -/
import Derived.Test.YtofogjfemlhffaaGreatDoorSPK39
import Derived.Test.YtofogjfemlhffaaGreatDoorSPK40
namespace Go.Proofs.YtofogjfemlhffaaGreatDoor
open Go Go.RowKit Go.Maps

set_option maxHeartbeats 8000000 in
set_option maxRecDepth 100000 in
theorem plays_main (v : Value) (ms : List Mv) (w : World) (hE : Env w) (hG : EnvE w) (hF : EnvFi w) (hM : MvsAt w v ms) (h30 : ms.length ≤ 30) : Calls Tryz.prog 3 #[v] w (BoolIs true w) := by
  obtain ⟨Am, cm, rfl, hcm, hmm, him⟩ := hM
  have HIM := Lib.hid him
  have HE := Lib.hid hE
  have HG := Lib.hid hG
  have HF := Lib.hid hF
  obtain ⟨len, hlen⟩ : ∃ n, ms.length = n := ⟨_, rfl⟩
  have HL := Lib.hid hlen
  rw [hlen] at hcm hmm h30 ⊢
  obtain ⟨hS0, hT0, -⟩ := newShelf w
  have HS0 := Lib.hid hS0
  have HT0 := Lib.hid hT0
  have CO := Lib.hid (over_calls w.heap.size (w.alloc (.cells #[.map none, .map none, .int .i64 0, .bool false, .int .i64 0, .bool false] 31)))
  have HSZ1 := Lib.hid (World.size_alloc w (.cells #[.map none, .map none, .int .i64 0, .bool false, .int .i64 0, .bool false] 31))
  clear hS0 hT0 hlen him hE hG hF
  go_enter Tryz.func3, Tryz.ntmps3
  go_wp2_with fail
  refine CO.out.mono ?_
  rintro E w2 ⟨rfl, rfl⟩
  rw [HSZ1.out]
  obtain ⟨d, hd⟩ : ∃ d, w.heap.size = d := ⟨_, rfl⟩
  rw [hd] at HS0 HT0 ⊢
  generalize (w.alloc (.cells #[.map none, .map none, .int .i64 0, .bool false, .int .i64 0, .bool false] 31)).alloc (.cells #[.pointer (some ⟨d, 0, none⟩)] 63) = W2 at HS0 HT0 ⊢
  have HT : Hid (Trk w w.heap.size d W2) := Lib.hid (by have := HT0.out; rw [← hd] at this ⊢; exact this)
  clear CO hd HT0 HSZ1
  go_wp2_with fail
  refine (over_nil W2).mono ?_
  rintro E w3 ⟨rfl, rfl⟩
  go_wp2_with fail
  refine (bare_seven _ (HG.out.below HT.out.below)).mono ?_
  rintro E w4 ⟨rfl, hb4⟩
  have HB4 := Lib.hid hb4
  have HS4 := Lib.hid (HS0.out.keep hb4)
  have HT4 := Lib.hid (HT.out.step hb4 HS0.out.dk.lt HT.out.below.size)
  clear hb4 HS0 HT HB4
  go_wp2_with fail
  refine (rnew_calls w4).mono ?_
  rintro E w5 ⟨rfl, hr5, hb5⟩
  have HP5 := Lib.hid (PM.start HS4.out HT4.out hr5 hb5)
  obtain ⟨r, hr⟩ : ∃ n, w4.heap.size + 3 = n := ⟨_, rfl⟩
  obtain ⟨b2, hb2⟩ : ∃ n, w4.heap.size + 2 = n := ⟨_, rfl⟩
  obtain ⟨b1, hb1⟩ : ∃ n, w4.heap.size + 1 = n := ⟨_, rfl⟩
  obtain ⟨b0, hb0⟩ : ∃ n, w4.heap.size = n := ⟨_, rfl⟩
  rw [hr, hb2, hb1, hb0] at HP5
  rw [hr]
  obtain ⟨sh, hsh⟩ : ∃ n, d + 1 = n := ⟨_, rfl⟩
  rw [hsh] at HP5 ⊢
  clear hr5 hb5 HS4 HT4 hr hb2 hb1 hb0 hsh
  go_wp2_with fail
  go_loopw [8] (fun i wr => ∃ (k : Nat) (D : Dk) (Wm Dm Sm : Fm), k ≤ len ∧ i = .int .i64 k ∧ Hid (PlaySt k D Wm Dm Sm) ∧ Hid (PM w wr sh d r b0 b1 b2 D Wm Dm Sm)) (fun i _ => len - (intOf i).toNat)
  case atStart => exact ⟨0, D0, [], [], [], Nat.zero_le _, rfl, Lib.hid playSt_0, HP5⟩
  case round =>
    clear HP5
    obtain ⟨k, D, Wm, Dm, Sm, hk, rfl, hst, hpm⟩ := hrel
    by_cases hlt : k < len
    · have hk30 : k ≤ 30 := by omega
      obtain ⟨m, hmk⟩ : ∃ m, ms[k]? = some m := ⟨ms[k]'(by have := HL.out; omega), List.getElem?_eq_getElem _⟩
      have hne : ms ≠ [] := fun e => by rw [e] at hmk; cases hmk
      obtain ⟨bm, om, rfl, hmi⟩ := HIM.out hne
      obtain ⟨cs, ⟨A1, A2, A3, A4, A5, A6, A7, A8, A9, Aa, c1, c2, c3, c4, c5, c6, c7, c8, c9, ca, hcs, hpk, hbo⟩, hcell⟩ := hmi k m hmk
      obtain ⟨what, p, tk, an, pa, da, all⟩ := m
      dsimp only at hcs hpk hbo
      have hBw := hpm.out.t.below
      have HRANGE := Lib.hid (show wr.rangeAt bm (om + k * 19) cs from fun j u hj => kept hBw (hcell j u hj))
      have HLEN := Lib.hid (show cs.length = 19 from by rw [hcs]; rfl)
      have HONE := Lib.hid (show cs.toArray.all (·.oneCell') = true from by rw [hcs]; simp [Value.oneCell'])
      have HCS := Lib.hid hcs
      have HPK := Lib.hid hpk
      have HBO := Lib.hid hbo
      have HBX := Lib.hid (new_row wr #[.int .i64 0, .string ⟨#[]⟩, .int .i64 0, .string ⟨#[]⟩, .string ⟨#[]⟩, .slice none 0 0, .slice none 0 0, .slice none 0 0, .slice none 0 0, .slice none 0 0, .slice none 0 0, .slice none 0 0, .slice none 0 0, .slice none 0 0, .string ⟨#[]⟩, .slice none 0 0, .string ⟨#[]⟩, .string ⟨#[]⟩, .bool false] cs.toArray 46)
      have HFX := Lib.hid (show ¬ foot wr d wr.heap.size from fun hf => by have := foot_lt hpm.out.s.dk hf; omega)
      clear hmk hne hmi hcell hBw hcs hpk hbo
      go_upto_region 12 with (first | (refine wpList_load_mid rfl 46 _ rfl bm (om + k * 19) rfl cs _ HRANGE.out Tryz.underlying46 rfl (by rw [HLEN.out]; kernel_rfl) ?_) | (refine wpList_store_row rfl 46 _ _ rfl wr.heap.size cs.toArray rfl rfl 46 _ (heap_alloc_new wr _) (by rw [List.size_toArray, HLEN.out]; kernel_rfl) HLEN.out.symm HONE.out ?_))
      obtain ⟨qx, hqx⟩ : ∃ n, wr.heap.size = n := ⟨_, rfl⟩
      obtain ⟨W5, hW5⟩ : ∃ W, (wr.alloc (.cells #[.int .i64 0, .string ⟨#[]⟩, .int .i64 0, .string ⟨#[]⟩, .string ⟨#[]⟩, .slice none 0 0, .slice none 0 0, .slice none 0 0, .slice none 0 0, .slice none 0 0, .slice none 0 0, .slice none 0 0, .slice none 0 0, .slice none 0 0, .string ⟨#[]⟩, .slice none 0 0, .string ⟨#[]⟩, .string ⟨#[]⟩, .bool false] 46)).setRow wr.heap.size cs.toArray = W := ⟨_, rfl⟩
      rw [hW5] at HBX
      rw [hqx] at HBX HFX hW5 ⊢
      rw [hW5]
      have HB5 := Lib.hid HBX.out.1
      have HP5 := Lib.hid (hpm.out.below (hqx ▸ HBX.out.2))
      have HF5 := Lib.hid (show ¬ foot W5 d qx from fun hf => HFX.out ((foot_kept (hqx ▸ HBX.out.2) hpm.out.s.dk.lt).1 hf))
      clear hqx hW5 HBX HFX hpm HRANGE HLEN HONE
      obtain ⟨c0', c1', c2', c3', c4', c5', c6', c7', c8', c9', c10', c11', c12', c13', c14', c15', c16', c17', c18'⟩ := move_cells HB5.out HCS.out
      have CS := Lib.hid (lawSays_calls _ p W5 (HPK.out.below HP5.out.t.below))
      unfold BoolIs at CS
      obtain ⟨bs, hbs⟩ : ∃ b, saysB p = b := ⟨_, rfl⟩
      rw [hbs] at CS
      have HBS := Lib.hid hbs
      clear hbs
      go_wp2_with fail
      refine CS.out.mono ?_
      rintro E w6 ⟨rfl, hb6⟩
      have HB6 := Lib.hid (box_below HB5.out HF5.out HP5.out.s.dk.lt hb6).1
      have HF6 := Lib.hid (box_below HB5.out HF5.out HP5.out.s.dk.lt hb6).2
      have HP6 := Lib.hid (HP5.out.below hb6)
      clear c0' c1' c2' c3' c4' c5' c6' c7' c8' c9' c10' c11' c12' c13' c14' c15' c16' c17' c18'
      clear CS hb6 HB5 HF5 HP5
      cases bs with
      | false =>
        go_wp2_with fail
        go_roundw
        case rel => first | exact ⟨k + 1, D, Wm, Dm, Sm, by omega, by go_num, Lib.hid hst.out.next, HP6⟩ | ((repeat apply Exists.intro); exact ⟨⟨k + 1, D, Wm, Dm, Sm, by omega, by go_num, Lib.hid hst.out.next, HP6⟩, rfl⟩)
        case measure => simp [intOf]; omega
      | true =>
        obtain ⟨c0', c1', c2', c3', c4', c5', c6', c7', c8', c9', c10', c11', c12', c13', c14', c15', c16', c17', c18'⟩ := move_cells HB6.out HCS.out
        by_cases hpa : 70 < pa.size
        · have g1 : decide ((70 : Int) < (pa.size : Int)) = true := decide_eq_true (by omega)
          go_wp2_with fail
          go_roundw
          case rel => first | exact ⟨k + 1, D, Wm, Dm, Sm, by omega, by go_num, Lib.hid hst.out.next, HP6⟩ | ((repeat apply Exists.intro); exact ⟨⟨k + 1, D, Wm, Dm, Sm, by omega, by go_num, Lib.hid hst.out.next, HP6⟩, rfl⟩)
          case measure => simp [intOf]; omega
        have g1 : decide ((70 : Int) < (pa.size : Int)) = false := decide_eq_false (by omega)
        by_cases hda : 300 < da.size
        · have g2 : decide ((300 : Int) < (da.size : Int)) = true := decide_eq_true (by omega)
          go_wp2_with fail
          go_roundw
          case rel => first | exact ⟨k + 1, D, Wm, Dm, Sm, by omega, by go_num, Lib.hid hst.out.next, HP6⟩ | ((repeat apply Exists.intro); exact ⟨⟨k + 1, D, Wm, Dm, Sm, by omega, by go_num, Lib.hid hst.out.next, HP6⟩, rfl⟩)
          case measure => simp [intOf]; omega
        have g2 : decide ((300 : Int) < (da.size : Int)) = false := decide_eq_false (by omega)
        by_cases han : 30 < an.length
        · have g3 : decide ((30 : Int) < (an.length : Int)) = true := decide_eq_true (by omega)
          go_wp2_with fail
          go_roundw
          case rel => first | exact ⟨k + 1, D, Wm, Dm, Sm, by omega, by go_num, Lib.hid hst.out.next, HP6⟩ | ((repeat apply Exists.intro); exact ⟨⟨k + 1, D, Wm, Dm, Sm, by omega, by go_num, Lib.hid hst.out.next, HP6⟩, rfl⟩)
          case measure => simp [intOf]; omega
        have g3 : decide ((30 : Int) < (an.length : Int)) = false := decide_eq_false (by omega)
        by_cases hw0 : what = 0
        · subst hw0
          have CR1 := Lib.hid (rclash_plays sh d r b0 b1 b2 k qx D Wm Dm Sm p tk _ _ _ _ _ _ _ _ _ w w6 HP6.out hst.out hk30 HPK.out HBS.out c14')
          obtain ⟨ci, hci⟩ : ∃ c, (clashD D p.n (takesB tk) p.fi).1 = c := ⟨_, rfl⟩
          obtain ⟨cn, hcn⟩ : ∃ c, (clashD D p.n (takesB tk) p.fi).2 = c := ⟨_, rfl⟩
          rw [hci, hcn] at CR1
          have HCI := Lib.hid hci
          have HCN := Lib.hid hcn
          clear hci hcn
          go_wp2_with fail
          refine CR1.out.mono ?_
          rintro E w7 ⟨rfl, hb7⟩
          have HB7 := Lib.hid (box_below HB6.out HF6.out HP6.out.s.dk.lt hb7).1
          have HF7 := Lib.hid (box_below HB6.out HF6.out HP6.out.s.dk.lt hb7).2
          have HP7 := Lib.hid (HP6.out.below hb7)
          clear c0' c1' c2' c3' c4' c5' c6' c7' c8' c9' c10' c11' c12' c13' c14' c15' c16' c17' c18'
          clear CR1 hb7 HB6 HF6 HP6 g1 g2 g3
          obtain ⟨c0', c1', c2', c3', c4', c5', c6', c7', c8', c9', c10', c11', c12', c13', c14', c15', c16', c17', c18'⟩ := move_cells HB7.out HCS.out
          have CP1 := Lib.hid (clash_plays sh d r b0 b1 b2 k qx D Wm Dm Sm p tk _ _ _ _ _ _ _ _ _ w w7 HE.out HP7.out hst.out hk30 HPK.out HBS.out c14')
          rw [HCI.out, HCN.out] at CP1
          go_wp2_with fail
          refine CP1.out.mono ?_
          rintro E w8 ⟨rfl, hb8⟩
          have HB8 := Lib.hid (box_below HB7.out HF7.out HP7.out.s.dk.lt hb8).1
          have HF8 := Lib.hid (box_below HB7.out HF7.out HP7.out.s.dk.lt hb8).2
          have HP8 := Lib.hid (HP7.out.below hb8)
          clear c0' c1' c2' c3' c4' c5' c6' c7' c8' c9' c10' c11' c12' c13' c14' c15' c16' c17' c18'
          clear CP1 hb8 HB7 HF7 HP7 HCI HCN
          go_upto_region 18 with fail
          go_cut [122] (fun v wx => v = .bool false ∧ ∃ W2 D2 S2, PM w wx sh d r b0 b1 b2 (playD D p (takesB tk) an) W2 D2 S2 ∧ PlaySt (k + 1) (playD D p (takesB tk) an) W2 D2 S2 ∧ Blk 46 wx qx cs.toArray)
          case first =>
            have hne1 : (ci != ci) = false := by simp
            have hne2 : (cn.toList != cn.toList) = false := by simp
            have HB9 := Lib.hid (box_below HB8.out HF8.out HP8.out.s.dk.lt (below_drew w8)).1
            have HF9 := Lib.hid (box_below HB8.out HF8.out HP8.out.s.dk.lt (below_drew w8)).2
            have HP9 := Lib.hid (HP8.out.below (below_drew w8))
            refine wp_region_held_drew (S := (fun W => Blk 46 W qx cs.toArray)) (by kernel_rfl) ?_ (fun hHeld => ?_)
            · exact HB9.out
            refine wpAnyH_take (i := 0) (v := ?_) rfl (by kernel_rfl) (by kernel_rfl) (by kernel_rfl) (fun _ _ _ h => h) (Or.inl ⟨by rfl, ?_⟩) (by assumption) ?_
            rotate_left
            · (intro w hSw; (try dsimp only at hSw); go_simp; (try with_reducible rfl))
            (try simp only [List.getElem_toArray, List.getElem_cons_zero, Act.put, List.setIfInBounds_toArray, List.set_cons_zero, List.set_cons_succ])
            refine wpAnyH_take (i := 1) (v := ?_) rfl (by kernel_rfl) (by kernel_rfl) (by kernel_rfl) (fun _ _ _ h => h) (Or.inl ⟨by rfl, ?_⟩) (by assumption) ?_
            rotate_left
            · (intro w hSw; (try dsimp only at hSw); go_simp; (try with_reducible rfl))
            (try simp only [List.getElem_toArray, List.getElem_cons_succ, List.getElem_cons_zero, Act.put, List.setIfInBounds_toArray, List.set_cons_zero, List.set_cons_succ])
            refine wpAnyH_take (i := 2) (v := ?_) rfl (by kernel_rfl) (by kernel_rfl) (by kernel_rfl) (fun _ _ _ h => h) (Or.inl ⟨by rfl, ?_⟩) (by assumption) ?_
            rotate_left
            · (intro w hSw; (try dsimp only at hSw); go_simp; (try with_reducible rfl))
            (try simp only [List.getElem_toArray, List.getElem_cons_succ, List.getElem_cons_zero, Act.put, List.setIfInBounds_toArray, List.set_cons_zero, List.set_cons_succ])
            refine wpAnyH_take (i := 3) (v := ?_) rfl (by kernel_rfl) (by kernel_rfl) (by kernel_rfl) (fun _ _ _ h => h) (Or.inl ⟨by rfl, ?_⟩) (by assumption) ?_
            rotate_left
            · (intro w hSw; (try dsimp only at hSw); go_simp; (try with_reducible rfl))
            (try simp only [List.getElem_toArray, List.getElem_cons_succ, List.getElem_cons_zero, Act.put, List.setIfInBounds_toArray, List.set_cons_zero, List.set_cons_succ])
            refine wpAnyH_take (i := 4) (v := ?_) rfl (by kernel_rfl) (by kernel_rfl) (by kernel_rfl) (fun _ _ _ h => h) (Or.inl ⟨by rfl, ?_⟩) (by assumption) ?_
            rotate_left
            · (intro w hSw; (try dsimp only at hSw); go_simp; (try with_reducible rfl))
            (try simp only [List.getElem_toArray, List.getElem_cons_succ, List.getElem_cons_zero, Act.put, List.setIfInBounds_toArray, List.set_cons_zero, List.set_cons_succ])
            refine wpAnyH_take (i := 5) (v := ?_) rfl (by kernel_rfl) (by kernel_rfl) (by kernel_rfl) (fun _ _ _ h => h) (Or.inl ⟨by rfl, ?_⟩) (by assumption) ?_
            rotate_left
            · (intro w hSw; (try dsimp only at hSw); go_simp; (try with_reducible rfl))
            (try simp only [List.getElem_toArray, List.getElem_cons_succ, List.getElem_cons_zero, Act.put, List.setIfInBounds_toArray, List.set_cons_zero, List.set_cons_succ])
            refine wpAnyH_take (i := 6) (v := ?_) rfl (by kernel_rfl) (by kernel_rfl) (by kernel_rfl) (fun _ _ _ h => h) (Or.inl ⟨by rfl, ?_⟩) (by assumption) ?_
            rotate_left
            · (intro w hSw; (try dsimp only at hSw); go_simp; (try with_reducible rfl))
            (try simp only [List.getElem_toArray, List.getElem_cons_succ, List.getElem_cons_zero, Act.put, List.setIfInBounds_toArray, List.set_cons_zero, List.set_cons_succ])
            refine wpAnyH_take (i := 7) (v := ?_) rfl (by kernel_rfl) (by kernel_rfl) (by kernel_rfl) (fun _ _ _ h => h) (Or.inl ⟨by rfl, ?_⟩) (by assumption) ?_
            rotate_left
            · (intro w hSw; (try dsimp only at hSw); go_simp; (try with_reducible rfl))
            (try simp only [List.getElem_toArray, List.getElem_cons_succ, List.getElem_cons_zero, Act.put, List.setIfInBounds_toArray, List.set_cons_zero, List.set_cons_succ])
            refine wpAnyH_take (i := 8) (v := ?_) rfl (by kernel_rfl) (by kernel_rfl) (by kernel_rfl) (fun _ _ _ h => h) (Or.inl ⟨by rfl, ?_⟩) (by assumption) ?_
            rotate_left
            · (intro w hSw; (try dsimp only at hSw); go_simp; (try with_reducible rfl))
            (try simp only [List.getElem_toArray, List.getElem_cons_succ, List.getElem_cons_zero, Act.put, List.setIfInBounds_toArray, List.set_cons_zero, List.set_cons_succ])
            refine wpAnyH_take (i := 9) (v := ?_) rfl (by kernel_rfl) (by kernel_rfl) (by kernel_rfl) (fun _ _ _ h => h) (Or.inl ⟨by rfl, ?_⟩) (by assumption) ?_
            rotate_left
            · (intro w hSw; (try dsimp only at hSw); go_simp; (try with_reducible rfl))
            (try simp only [List.getElem_toArray, List.getElem_cons_succ, List.getElem_cons_zero, Act.put, List.setIfInBounds_toArray, List.set_cons_zero, List.set_cons_succ])
            refine wpAnyH_take (i := 10) (v := ?_) rfl (by kernel_rfl) (by kernel_rfl) (by kernel_rfl) (fun _ _ _ h => h) (Or.inl ⟨by rfl, ?_⟩) (by assumption) ?_
            rotate_left
            · (intro w hSw; (try dsimp only at hSw); go_simp; (try with_reducible rfl))
            (try simp only [List.getElem_toArray, List.getElem_cons_succ, List.getElem_cons_zero, Act.put, List.setIfInBounds_toArray, List.set_cons_zero, List.set_cons_succ])
            refine wpAnyH_take (i := 11) (v := ?_) rfl (by kernel_rfl) (by kernel_rfl) (by kernel_rfl) (fun _ _ _ h => h) (Or.inl ⟨by rfl, ?_⟩) (by assumption) ?_
            rotate_left
            · (intro w hSw; obtain ⟨d0, d1, d2, d3, d4, d5, d6, d7, d8, d9, d10, d11, d12, d13, d14, d15, d16, d17, d18⟩ := move_cells hSw HCS.out; clear hSw; go_simp; (try with_reducible rfl))
            (try simp only [List.getElem_toArray, List.getElem_cons_succ, List.getElem_cons_zero, Act.put, List.setIfInBounds_toArray, List.set_cons_zero, List.set_cons_succ])
            refine wpAnyH_take (i := 12) (v := ?_) rfl (by kernel_rfl) (by kernel_rfl) (by kernel_rfl) (fun _ _ _ h => h) (Or.inl ⟨by rfl, ?_⟩) (by assumption) ?_
            rotate_left
            · (intro w hSw; (try dsimp only at hSw); go_simp; (try with_reducible rfl))
            (try simp only [List.getElem_toArray, List.getElem_cons_succ, List.getElem_cons_zero, Act.put, List.setIfInBounds_toArray, List.set_cons_zero, List.set_cons_succ])
            refine wpAnyH_take (i := 13) (v := ?_) rfl (by kernel_rfl) (by kernel_rfl) (by kernel_rfl) (fun _ _ _ h => h) (Or.inl ⟨by rfl, ?_⟩) (by assumption) ?_
            rotate_left
            · (intro w hSw; (try dsimp only at hSw); go_simp; (try with_reducible rfl))
            (try simp only [List.getElem_toArray, List.getElem_cons_succ, List.getElem_cons_zero, Act.put, List.setIfInBounds_toArray, List.set_cons_zero, List.set_cons_succ])
            refine wpAnyH_take (i := 14) (v := ?_) rfl (by kernel_rfl) (by kernel_rfl) (by kernel_rfl) (fun _ _ _ h => h) (Or.inl ⟨by rfl, ?_⟩) (by assumption) ?_
            rotate_left
            · (intro w hSw; obtain ⟨d0, d1, d2, d3, d4, d5, d6, d7, d8, d9, d10, d11, d12, d13, d14, d15, d16, d17, d18⟩ := move_cells hSw HCS.out; clear hSw; go_simp; (try with_reducible rfl))
            (try simp only [List.getElem_toArray, List.getElem_cons_succ, List.getElem_cons_zero, Act.put, List.setIfInBounds_toArray, List.set_cons_zero, List.set_cons_succ])
            refine wpAnyH_take (i := 16) (v := ?_) rfl (by kernel_rfl) (by kernel_rfl) (by kernel_rfl) (fun _ _ _ h => h) (Or.inl ⟨by rfl, ?_⟩) (by assumption) ?_
            rotate_left
            · (intro w hSw; (try dsimp only at hSw); go_simp; (try with_reducible rfl))
            (try simp only [List.getElem_toArray, List.getElem_cons_succ, List.getElem_cons_zero, Act.put, List.setIfInBounds_toArray, List.set_cons_zero, List.set_cons_succ])
            refine wpAnyH_take (i := 17) (v := ?_) rfl (by kernel_rfl) (by kernel_rfl) (by kernel_rfl) (fun _ _ _ h => h) (Or.inl ⟨by rfl, ?_⟩) (by assumption) ?_
            rotate_left
            · (intro w hSw; (try dsimp only at hSw); go_simp; (try with_reducible rfl))
            (try simp only [List.getElem_toArray, List.getElem_cons_succ, List.getElem_cons_zero, Act.put, List.setIfInBounds_toArray, List.set_cons_zero, List.set_cons_succ])
            refine wpAnyH_take (i := 18) (v := ?_) rfl (by kernel_rfl) (by kernel_rfl) (by kernel_rfl) (fun _ _ _ h => h) (Or.inl ⟨by rfl, ?_⟩) (by assumption) ?_
            rotate_left
            · (intro w hSw; obtain ⟨d0, d1, d2, d3, d4, d5, d6, d7, d8, d9, d10, d11, d12, d13, d14, d15, d16, d17, d18⟩ := move_cells hSw HCS.out; clear hSw; go_simp; (try with_reducible rfl))
            (try simp only [List.getElem_toArray, List.getElem_cons_succ, List.getElem_cons_zero, Act.put, List.setIfInBounds_toArray, List.set_cons_zero, List.set_cons_succ])
            refine wpAnyH_take (i := 19) (v := ?_) rfl (by kernel_rfl) (by kernel_rfl) (by kernel_rfl) (fun _ _ _ h => h) (Or.inl ⟨by rfl, ?_⟩) (by assumption) ?_
            rotate_left
            · (intro w hSw; (try dsimp only at hSw); go_simp; (try with_reducible rfl))
            (try simp only [List.getElem_toArray, List.getElem_cons_succ, List.getElem_cons_zero, Act.put, List.setIfInBounds_toArray, List.set_cons_zero, List.set_cons_succ])
            refine wpAnyH_take (i := 20) (v := ?_) rfl (by kernel_rfl) (by kernel_rfl) (by kernel_rfl) (fun _ _ _ h => h) (Or.inl ⟨by rfl, ?_⟩) (by assumption) ?_
            rotate_left
            · (intro w hSw; (try dsimp only at hSw); go_simp; (try with_reducible rfl))
            (try simp only [List.getElem_toArray, List.getElem_cons_succ, List.getElem_cons_zero, Act.put, List.setIfInBounds_toArray, List.set_cons_zero, List.set_cons_succ])
            refine wpAnyH_take (i := 21) (v := ?_) rfl (by kernel_rfl) (by kernel_rfl) (by kernel_rfl) (fun _ _ _ h => h) (Or.inl ⟨by rfl, ?_⟩) (by assumption) ?_
            rotate_left
            · (intro w hSw; obtain ⟨d0, d1, d2, d3, d4, d5, d6, d7, d8, d9, d10, d11, d12, d13, d14, d15, d16, d17, d18⟩ := move_cells hSw HCS.out; clear hSw; go_simp; (try with_reducible rfl))
            (try simp only [List.getElem_toArray, List.getElem_cons_succ, List.getElem_cons_zero, Act.put, List.setIfInBounds_toArray, List.set_cons_zero, List.set_cons_succ])
            refine wpAnyH_ready (rs := [15]) (by kernel_rfl) (by simp) ?_
            refine AllReadyH.cons rfl (fun K hK => ?_) AllReadyH.nil
            go_simp
            go_at_call 12
            refine Calls.mono (put_plays sh d r b0 b1 b2 k qx D Wm Dm Sm _ _ _ p tk an _ _ _ _ _ _ _ _ _ _ w _ HE.out HP9.out hst.out hk30 HPK.out HBS.out HBO.out (move_cells HB9.out HCS.out).2.2.2.2.2.2.2.2.2.2.2.2.2.2.1) ?_
            rintro E y1 ⟨va, rfl, hfa, hpa1, hoa⟩
            have HBa := Lib.hid (box_prog HB9.out HF9.out hoa).1
            have HFa := Lib.hid (box_prog HB9.out HF9.out hoa).2
            have HPa := Lib.hid hpa1
            have HFAa := Lib.hid hfa
            clear hpa1 hoa hfa
            (try go_wp2_with fail)
            refine hK.out _ _ HBa.out (fun hHeld => ?_)
            clear hK K
            (try simp only [List.getElem_toArray, List.getElem_cons_succ, List.getElem_cons_zero, Act.put, List.setIfInBounds_toArray, List.set_cons_zero, List.set_cons_succ])
            refine wpAnyH_ready (rs := [22]) (by kernel_rfl) (by simp) ?_
            refine AllReadyH.cons rfl (fun K hK => ?_) AllReadyH.nil
            go_simp
            go_at_call 13
            refine Calls.mono (rput_plays sh d r b0 b1 b2 k qx D _ Wm Dm Sm p tk an _ _ _ _ _ _ _ _ _ _ _ _ _ _ _ _ _ _ _ _ _ _ _ _ _ _ _ _ w _ HE.out HF.out HPa.out hst.out hk30 HPK.out HBS.out HBO.out (move_cells HBa.out HCS.out).2.2.2.2.2.2.2.2.2.2.2.2.2.2.1) ?_
            rintro E y2 ⟨rfl, hob, W2, D2, S2, hpb, hsb⟩
            have HBb := Lib.hid (box_refs HPa.out HBa.out HFa.out hob).1
            have HFb := Lib.hid (box_refs HPa.out HBa.out HFa.out hob).2
            have HPb := Lib.hid hpb
            have hfb := HFAa.out.refs HPa.out.rs hob
            have HSb := Lib.hid hsb
            clear hpb hob hsb HFAa
            (try go_wp2_with fail)
            refine hK.out _ _ HBb.out (fun hHeld => ?_)
            clear hK K
            (try simp only [List.getElem_toArray, List.getElem_cons_succ, List.getElem_cons_zero, Act.put, List.setIfInBounds_toArray, List.set_cons_zero, List.set_cons_succ])
            refine wpAnyH_ready (rs := [23]) (by kernel_rfl) (by simp) ?_
            refine AllReadyH.cons rfl (fun K hK => ?_) AllReadyH.nil
            go_simp
            go_at_call 11
            refine Calls.mono (isF_calls _ _ _ _ (HG.out.below HPb.out.t.below) hfb) ?_
            rintro E y3 ⟨rfl, hb3⟩
            have HBc := Lib.hid (box_below HBb.out HFb.out HPb.out.s.dk.lt hb3).1
            have HPc := Lib.hid (HPb.out.below hb3)
            (try go_wp2_with fail)
            refine hK.out _ _ HBc.out (fun hHeld => ?_)
            clear hK K
            (try simp only [List.getElem_toArray, List.getElem_cons_succ, List.getElem_cons_zero, Act.put, List.setIfInBounds_toArray, List.set_cons_zero, List.set_cons_succ])
            refine wpAnyH_take (i := 24) (v := ?_) rfl (by kernel_rfl) (by kernel_rfl) (by kernel_rfl) (fun _ _ _ h => h) (Or.inl ⟨by rfl, ?_⟩) (by assumption) ?_
            rotate_left
            · (intro w hSw; (try dsimp only at hSw); go_simp; (try with_reducible rfl))
            (try simp only [List.getElem_toArray, List.getElem_cons_succ, List.getElem_cons_zero, Act.put, List.setIfInBounds_toArray, List.set_cons_zero, List.set_cons_succ])
            refine wpAnyH_take (i := 25) (v := ?_) rfl (by kernel_rfl) (by kernel_rfl) (by kernel_rfl) (fun _ _ _ h => h) (Or.inl ⟨by rfl, ?_⟩) (by assumption) ?_
            rotate_left
            · (intro w hSw; (try dsimp only at hSw); go_simp; (try with_reducible rfl))
            (try simp only [List.getElem_toArray, List.getElem_cons_succ, List.getElem_cons_zero, Act.put, List.setIfInBounds_toArray, List.set_cons_zero, List.set_cons_succ])
            refine wpAnyH_done (by kernel_rfl) ?_ _
            go_wp2_with fail
            go_meet
            exact ⟨rfl, _, _, _, HPc.out, HSb.out, HBc.out⟩
          case rest =>
          obtain ⟨rfl, W2, D2, S2, hpx, hsx, hbx⟩ := hcut
          have HPx := Lib.hid hpx
          have HSTx := Lib.hid hsx
          have HBx := Lib.hid hbx
          clear hpx hsx hbx HB8 HF8 HP8 hst
          obtain ⟨c0', c1', c2', c3', c4', c5', c6', c7', c8', c9', c10', c11', c12', c13', c14', c15', c16', c17', c18'⟩ := move_cells HBx.out HCS.out
          have CSS := Lib.hid (sameShelf_calls sh d r b0 b1 b2 _ _ _ _ pa _ (HPx.out.both HE.out HG.out HSTx.out (by omega)) (by omega))
          clear c0' c1' c2' c3' c4' c5' c6' c7' c8' c9' c10' c11' c12' c13' c14' c15' c17' c18'
          go_wp2_with fail
          refine CSS.out.mono ?_
          rintro E wz ⟨rfl, hbz⟩
          have HPz := Lib.hid (HPx.out.below hbz)
          clear CSS hbz c16' HBx HPx
          go_wp2_with fail
          go_roundw
          case rel => first | exact ⟨k + 1, _, W2, D2, S2, by omega, by go_num, HSTx, HPz⟩ | ((repeat apply Exists.intro); exact ⟨⟨k + 1, _, W2, D2, S2, by omega, by go_num, HSTx, HPz⟩, rfl⟩)
          case measure => simp [intOf]; omega
        have t0 : (what == 0) = false := by simp [hw0]
        by_cases hw1 : what = 1
        · subst hw1
          by_cases hn4 : p.n.size ≤ 40
          · have g4 : decide ((p.n.size : Int) ≤ (40 : Int)) = true := decide_eq_true (by omega)
            have CD := Lib.hid (drop_plays sh d r b0 b1 b2 k D Wm Dm Sm p.n all w w6 HE.out HP6.out hst.out hk30 (by omega))
            go_wp2_with fail
            refine CD.out.mono ?_
            rintro E w7 ⟨rfl, ho7, hp7⟩
            have HB7 := Lib.hid (box_prog HB6.out HF6.out ho7).1
            have HF7 := Lib.hid (box_prog HB6.out HF6.out ho7).2
            have HP7 := Lib.hid hp7
            clear c0' c1' c2' c3' c4' c5' c6' c7' c8' c9' c10' c11' c12' c13' c14' c15' c16' c17' c18'
            clear CD ho7 hp7 HB6 HF6 HP6 g1 g2 g3
            obtain ⟨c0', c1', c2', c3', c4', c5', c6', c7', c8', c9', c10', c11', c12', c13', c14', c15', c16', c17', c18'⟩ := move_cells HB7.out HCS.out
            have CRD := Lib.hid (rdrop_plays sh d r b0 b1 b2 k D _ Wm Dm Sm p.n all w w7 HP7.out hst.out hk30 (by omega))
            go_wp2_with fail
            refine CRD.out.mono ?_
            rintro E w8 ⟨rfl, ho8, W2, D2, S2, hp8, hs8⟩
            have HB8 := Lib.hid (box_refs HP7.out HB7.out HF7.out ho8).1
            have HP8 := Lib.hid hp8
            have HST8 := Lib.hid hs8
            clear c0' c1' c2' c3' c4' c5' c6' c7' c8' c9' c10' c11' c12' c13' c14' c15' c16' c17' c18'
            clear CRD ho8 hp8 hs8 HB7 HF7 HP7
            obtain ⟨c0', c1', c2', c3', c4', c5', c6', c7', c8', c9', c10', c11', c12', c13', c14', c15', c16', c17', c18'⟩ := move_cells HB8.out HCS.out
            have CSS := Lib.hid (sameShelf_calls sh d r b0 b1 b2 _ _ _ _ pa _ (HP8.out.both HE.out HG.out HST8.out (by omega)) (by omega))
            clear c0' c1' c2' c3' c4' c5' c6' c7' c8' c9' c10' c11' c12' c13' c14' c15' c17' c18'
            go_wp2_with fail
            refine CSS.out.mono ?_
            rintro E wz ⟨rfl, hbz⟩
            have HPz := Lib.hid (HP8.out.below hbz)
            clear CSS hbz c16' HB8 HP8
            go_wp2_with fail
            go_roundw
            case rel => first | exact ⟨k + 1, _, W2, D2, S2, by omega, by go_num, HST8, HPz⟩ | ((repeat apply Exists.intro); exact ⟨⟨k + 1, _, W2, D2, S2, by omega, by go_num, HST8, HPz⟩, rfl⟩)
            case measure => simp [intOf]; omega
          · have g4 : decide ((p.n.size : Int) ≤ (40 : Int)) = false := decide_eq_false (by omega)
            have HST6 := Lib.hid hst.out.next
            skip
            have CSS := Lib.hid (sameShelf_calls sh d r b0 b1 b2 _ _ _ _ pa _ (HP6.out.both HE.out HG.out HST6.out (by omega)) (by omega))
            go_wp2_with fail
            refine CSS.out.mono ?_
            rintro E wz ⟨rfl, hbz⟩
            have HPz := Lib.hid (HP6.out.below hbz)
            clear c0' c1' c2' c3' c4' c5' c6' c7' c8' c9' c10' c11' c12' c13' c14' c15' c16' c17' c18'
            clear CSS hbz HB6 HP6
            go_wp2_with fail
            go_roundw
            case rel => first | exact ⟨k + 1, D, Wm, Dm, Sm, by omega, by go_num, HST6, HPz⟩ | ((repeat apply Exists.intro); exact ⟨⟨k + 1, D, Wm, Dm, Sm, by omega, by go_num, HST6, HPz⟩, rfl⟩)
            case measure => simp [intOf]; omega
        have t1 : (what == 1) = false := by simp [hw1]
        by_cases hw2 : what = 2
        · subst hw2
          go_upto_region 26 with fail
          clear c0' c1' c2' c3' c4' c5' c6' c7' c8' c9' c10' c11' c12' c13' c14' c15' c16' c17' c18' g1 g2 g3
          go_cut [164] (fun v wx => v = .bool false ∧ ∃ W2 D2 S2, PM w wx sh d r b0 b1 b2 (editD D pa da all).2 W2 D2 S2 ∧ PlaySt (k + 1) (editD D pa da all).2 W2 D2 S2 ∧ Blk 46 wx qx cs.toArray)
          case first =>
            have HB9 := Lib.hid (box_below HB6.out HF6.out HP6.out.s.dk.lt (below_drew w6)).1
            have HF9 := Lib.hid (box_below HB6.out HF6.out HP6.out.s.dk.lt (below_drew w6)).2
            have HP9 := Lib.hid (HP6.out.below (below_drew w6))
            refine wp_region_held_drew (S := (fun W => Blk 46 W qx cs.toArray)) (by kernel_rfl) ?_ (fun hHeld => ?_)
            · exact HB9.out
            refine wpAnyH_take (i := 0) (v := ?_) rfl (by kernel_rfl) (by kernel_rfl) (by kernel_rfl) (fun _ _ _ h => h) (Or.inl ⟨by rfl, ?_⟩) (by assumption) ?_
            rotate_left
            · (intro w hSw; (try dsimp only at hSw); go_simp; (try with_reducible rfl))
            (try simp only [List.getElem_toArray, List.getElem_cons_zero, Act.put, List.setIfInBounds_toArray, List.set_cons_zero, List.set_cons_succ])
            refine wpAnyH_take (i := 1) (v := ?_) rfl (by kernel_rfl) (by kernel_rfl) (by kernel_rfl) (fun _ _ _ h => h) (Or.inl ⟨by rfl, ?_⟩) (by assumption) ?_
            rotate_left
            · (intro w hSw; (try dsimp only at hSw); go_simp; (try with_reducible rfl))
            (try simp only [List.getElem_toArray, List.getElem_cons_succ, List.getElem_cons_zero, Act.put, List.setIfInBounds_toArray, List.set_cons_zero, List.set_cons_succ])
            refine wpAnyH_take (i := 2) (v := ?_) rfl (by kernel_rfl) (by kernel_rfl) (by kernel_rfl) (fun _ _ _ h => h) (Or.inl ⟨by rfl, ?_⟩) (by assumption) ?_
            rotate_left
            · (intro w hSw; obtain ⟨d0, d1, d2, d3, d4, d5, d6, d7, d8, d9, d10, d11, d12, d13, d14, d15, d16, d17, d18⟩ := move_cells hSw HCS.out; clear hSw; go_simp; (try with_reducible rfl))
            (try simp only [List.getElem_toArray, List.getElem_cons_succ, List.getElem_cons_zero, Act.put, List.setIfInBounds_toArray, List.set_cons_zero, List.set_cons_succ])
            refine wpAnyH_take (i := 3) (v := ?_) rfl (by kernel_rfl) (by kernel_rfl) (by kernel_rfl) (fun _ _ _ h => h) (Or.inl ⟨by rfl, ?_⟩) (by assumption) ?_
            rotate_left
            · (intro w hSw; (try dsimp only at hSw); go_simp; (try with_reducible rfl))
            (try simp only [List.getElem_toArray, List.getElem_cons_succ, List.getElem_cons_zero, Act.put, List.setIfInBounds_toArray, List.set_cons_zero, List.set_cons_succ])
            refine wpAnyH_take (i := 4) (v := ?_) rfl (by kernel_rfl) (by kernel_rfl) (by kernel_rfl) (fun _ _ _ h => h) (Or.inl ⟨by rfl, ?_⟩) (by assumption) ?_
            rotate_left
            · (intro w hSw; obtain ⟨d0, d1, d2, d3, d4, d5, d6, d7, d8, d9, d10, d11, d12, d13, d14, d15, d16, d17, d18⟩ := move_cells hSw HCS.out; clear hSw; go_simp; (try with_reducible rfl))
            (try simp only [List.getElem_toArray, List.getElem_cons_succ, List.getElem_cons_zero, Act.put, List.setIfInBounds_toArray, List.set_cons_zero, List.set_cons_succ])
            refine wpAnyH_take (i := 5) (v := ?_) rfl (by kernel_rfl) (by kernel_rfl) (by kernel_rfl) (fun _ _ _ h => h) (Or.inl ⟨by rfl, ?_⟩) (by assumption) ?_
            rotate_left
            · (intro w hSw; (try dsimp only at hSw); go_simp; (try with_reducible rfl))
            (try simp only [List.getElem_toArray, List.getElem_cons_succ, List.getElem_cons_zero, Act.put, List.setIfInBounds_toArray, List.set_cons_zero, List.set_cons_succ])
            refine wpAnyH_take (i := 6) (v := ?_) rfl (by kernel_rfl) (by kernel_rfl) (by kernel_rfl) (fun _ _ _ h => h) (Or.inl ⟨by rfl, ?_⟩) (by assumption) ?_
            rotate_left
            · (intro w hSw; obtain ⟨d0, d1, d2, d3, d4, d5, d6, d7, d8, d9, d10, d11, d12, d13, d14, d15, d16, d17, d18⟩ := move_cells hSw HCS.out; clear hSw; go_simp; (try with_reducible rfl))
            (try simp only [List.getElem_toArray, List.getElem_cons_succ, List.getElem_cons_zero, Act.put, List.setIfInBounds_toArray, List.set_cons_zero, List.set_cons_succ])
            refine wpAnyH_take (i := 8) (v := ?_) rfl (by kernel_rfl) (by kernel_rfl) (by kernel_rfl) (fun _ _ _ h => h) (Or.inl ⟨by rfl, ?_⟩) (by assumption) ?_
            rotate_left
            · (intro w hSw; (try dsimp only at hSw); go_simp; (try with_reducible rfl))
            (try simp only [List.getElem_toArray, List.getElem_cons_succ, List.getElem_cons_zero, Act.put, List.setIfInBounds_toArray, List.set_cons_zero, List.set_cons_succ])
            refine wpAnyH_take (i := 9) (v := ?_) rfl (by kernel_rfl) (by kernel_rfl) (by kernel_rfl) (fun _ _ _ h => h) (Or.inl ⟨by rfl, ?_⟩) (by assumption) ?_
            rotate_left
            · (intro w hSw; (try dsimp only at hSw); go_simp; (try with_reducible rfl))
            (try simp only [List.getElem_toArray, List.getElem_cons_succ, List.getElem_cons_zero, Act.put, List.setIfInBounds_toArray, List.set_cons_zero, List.set_cons_succ])
            refine wpAnyH_take (i := 10) (v := ?_) rfl (by kernel_rfl) (by kernel_rfl) (by kernel_rfl) (fun _ _ _ h => h) (Or.inl ⟨by rfl, ?_⟩) (by assumption) ?_
            rotate_left
            · (intro w hSw; obtain ⟨d0, d1, d2, d3, d4, d5, d6, d7, d8, d9, d10, d11, d12, d13, d14, d15, d16, d17, d18⟩ := move_cells hSw HCS.out; clear hSw; go_simp; (try with_reducible rfl))
            (try simp only [List.getElem_toArray, List.getElem_cons_succ, List.getElem_cons_zero, Act.put, List.setIfInBounds_toArray, List.set_cons_zero, List.set_cons_succ])
            refine wpAnyH_take (i := 11) (v := ?_) rfl (by kernel_rfl) (by kernel_rfl) (by kernel_rfl) (fun _ _ _ h => h) (Or.inl ⟨by rfl, ?_⟩) (by assumption) ?_
            rotate_left
            · (intro w hSw; (try dsimp only at hSw); go_simp; (try with_reducible rfl))
            (try simp only [List.getElem_toArray, List.getElem_cons_succ, List.getElem_cons_zero, Act.put, List.setIfInBounds_toArray, List.set_cons_zero, List.set_cons_succ])
            refine wpAnyH_take (i := 12) (v := ?_) rfl (by kernel_rfl) (by kernel_rfl) (by kernel_rfl) (fun _ _ _ h => h) (Or.inl ⟨by rfl, ?_⟩) (by assumption) ?_
            rotate_left
            · (intro w hSw; obtain ⟨d0, d1, d2, d3, d4, d5, d6, d7, d8, d9, d10, d11, d12, d13, d14, d15, d16, d17, d18⟩ := move_cells hSw HCS.out; clear hSw; go_simp; (try with_reducible rfl))
            (try simp only [List.getElem_toArray, List.getElem_cons_succ, List.getElem_cons_zero, Act.put, List.setIfInBounds_toArray, List.set_cons_zero, List.set_cons_succ])
            refine wpAnyH_take (i := 13) (v := ?_) rfl (by kernel_rfl) (by kernel_rfl) (by kernel_rfl) (fun _ _ _ h => h) (Or.inl ⟨by rfl, ?_⟩) (by assumption) ?_
            rotate_left
            · (intro w hSw; (try dsimp only at hSw); go_simp; (try with_reducible rfl))
            (try simp only [List.getElem_toArray, List.getElem_cons_succ, List.getElem_cons_zero, Act.put, List.setIfInBounds_toArray, List.set_cons_zero, List.set_cons_succ])
            refine wpAnyH_take (i := 14) (v := ?_) rfl (by kernel_rfl) (by kernel_rfl) (by kernel_rfl) (fun _ _ _ h => h) (Or.inl ⟨by rfl, ?_⟩) (by assumption) ?_
            rotate_left
            · (intro w hSw; obtain ⟨d0, d1, d2, d3, d4, d5, d6, d7, d8, d9, d10, d11, d12, d13, d14, d15, d16, d17, d18⟩ := move_cells hSw HCS.out; clear hSw; go_simp; (try with_reducible rfl))
            (try simp only [List.getElem_toArray, List.getElem_cons_succ, List.getElem_cons_zero, Act.put, List.setIfInBounds_toArray, List.set_cons_zero, List.set_cons_succ])
            refine wpAnyH_ready (rs := [7]) (by kernel_rfl) (by simp) ?_
            refine AllReadyH.cons rfl (fun K hK => ?_) AllReadyH.nil
            go_simp
            go_at_call 16
            refine Calls.mono (edit_plays sh d r b0 b1 b2 k D Wm Dm Sm _ _ _ pa da all w _ HE.out HP9.out hst.out hk30 (by omega) (by omega)) ?_
            rintro E y1 ⟨rfl, hoa, hpa1⟩
            have HBa := Lib.hid (box_prog HB9.out HF9.out hoa).1
            have HFa := Lib.hid (box_prog HB9.out HF9.out hoa).2
            have HPa := Lib.hid hpa1
            clear hpa1 hoa
            (try go_wp2_with fail)
            refine hK.out _ _ HBa.out (fun hHeld => ?_)
            clear hK K
            (try simp only [List.getElem_toArray, List.getElem_cons_succ, List.getElem_cons_zero, Act.put, List.setIfInBounds_toArray, List.set_cons_zero, List.set_cons_succ])
            refine wpAnyH_ready (rs := [15]) (by kernel_rfl) (by simp) ?_
            refine AllReadyH.cons rfl (fun K hK => ?_) AllReadyH.nil
            go_simp
            go_at_call 17
            refine Calls.mono (redit_plays sh d r b0 b1 b2 k D _ Wm Dm Sm pa da all w _ HPa.out hst.out hk30 (by omega) (by omega)) ?_
            rintro E y2 ⟨rfl, hob, W2, D2, S2, hpb, hsb⟩
            have HBb := Lib.hid (box_refs HPa.out HBa.out HFa.out hob).1
            have HFb := Lib.hid (box_refs HPa.out HBa.out HFa.out hob).2
            have HPb := Lib.hid hpb
            have HSb := Lib.hid hsb
            clear hpb hob hsb
            (try go_wp2_with fail)
            refine hK.out _ _ HBb.out (fun hHeld => ?_)
            clear hK K
            (try simp only [List.getElem_toArray, List.getElem_cons_succ, List.getElem_cons_zero, Act.put, List.setIfInBounds_toArray, List.set_cons_zero, List.set_cons_succ])
            refine wpAnyH_ready (rs := [16]) (by kernel_rfl) (by simp) ?_
            refine AllReadyH.cons rfl (fun K hK => ?_) AllReadyH.nil
            go_simp
            go_at_call 5
            refine Calls.mono (bare_calls _ _ _ (HG.out.below HPb.out.t.below)) ?_
            rintro E y3 ⟨rfl, hb3⟩
            have HBc := Lib.hid (box_below HBb.out HFb.out HPb.out.s.dk.lt hb3).1
            have HPc := Lib.hid (HPb.out.below hb3)
            rw [beq_self_eq_true]
            (try go_wp2_with fail)
            refine hK.out _ _ HBc.out (fun hHeld => ?_)
            clear hK K
            (try simp only [List.getElem_toArray, List.getElem_cons_succ, List.getElem_cons_zero, Act.put, List.setIfInBounds_toArray, List.set_cons_zero, List.set_cons_succ])
            refine wpAnyH_take (i := 17) (v := ?_) rfl (by kernel_rfl) (by kernel_rfl) (by kernel_rfl) (fun _ _ _ h => h) (Or.inl ⟨by rfl, ?_⟩) (by assumption) ?_
            rotate_left
            · (intro w hSw; (try dsimp only at hSw); go_simp; (try with_reducible rfl))
            (try simp only [List.getElem_toArray, List.getElem_cons_succ, List.getElem_cons_zero, Act.put, List.setIfInBounds_toArray, List.set_cons_zero, List.set_cons_succ])
            refine wpAnyH_done (by kernel_rfl) ?_ _
            go_wp2_with fail
            go_meet
            exact ⟨rfl, _, _, _, HPc.out, HSb.out, HBc.out⟩
          case rest =>
          obtain ⟨rfl, W2, D2, S2, hpx, hsx, hbx⟩ := hcut
          have HPx := Lib.hid hpx
          have HSTx := Lib.hid hsx
          have HBx := Lib.hid hbx
          clear hpx hsx hbx HB6 HF6 HP6 hst
          obtain ⟨c0', c1', c2', c3', c4', c5', c6', c7', c8', c9', c10', c11', c12', c13', c14', c15', c16', c17', c18'⟩ := move_cells HBx.out HCS.out
          have CSS := Lib.hid (sameShelf_calls sh d r b0 b1 b2 _ _ _ _ pa _ (HPx.out.both HE.out HG.out HSTx.out (by omega)) (by omega))
          clear c0' c1' c2' c3' c4' c5' c6' c7' c8' c9' c10' c11' c12' c13' c14' c15' c17' c18'
          go_wp2_with fail
          refine CSS.out.mono ?_
          rintro E wz ⟨rfl, hbz⟩
          have HPz := Lib.hid (HPx.out.below hbz)
          clear CSS hbz c16' HBx HPx
          go_wp2_with fail
          go_roundw
          case rel => first | exact ⟨k + 1, _, W2, D2, S2, by omega, by go_num, HSTx, HPz⟩ | ((repeat apply Exists.intro); exact ⟨⟨k + 1, _, W2, D2, S2, by omega, by go_num, HSTx, HPz⟩, rfl⟩)
          case measure => simp [intOf]; omega
        have t2 : (what == 2) = false := by simp [hw2]
        have HST6 := Lib.hid hst.out.next
        have CSS := Lib.hid (sameShelf_calls sh d r b0 b1 b2 _ _ _ _ pa _ (HP6.out.both HE.out HG.out HST6.out (by omega)) (by omega))
        go_wp2_with fail
        refine CSS.out.mono ?_
        rintro E wz ⟨rfl, hbz⟩
        have HPz := Lib.hid (HP6.out.below hbz)
        clear c0' c1' c2' c3' c4' c5' c6' c7' c8' c9' c10' c11' c12' c13' c14' c15' c16' c17' c18'
        clear CSS hbz HB6 HP6
        go_wp2_with fail
        go_roundw
        case rel => first | exact ⟨k + 1, D, Wm, Dm, Sm, by omega, by go_num, HST6, HPz⟩ | ((repeat apply Exists.intro); exact ⟨⟨k + 1, D, Wm, Dm, Sm, by omega, by go_num, HST6, HPz⟩, rfl⟩)
        case measure => simp [intOf]; omega
    · obtain rfl : k = len := by omega
      have HBE := Lib.hid hpm.out.t.below
      go_wp2_with fail
      go_ret
      exact ⟨rfl, HBE.out⟩
end Go.Proofs.YtofogjfemlhffaaGreatDoor

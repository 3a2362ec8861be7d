/- The region of ShelfSettings that makes the package of a round: a law over any frame. -/
import Derived.Test.YtpbbhjifgaeklaaGreatDoorSSK27
namespace Go.Proofs.YtpbbhjifgaeklaaGreatDoor
open Go Go.RowKit Go.Maps

/-! the package of the round -/
/-- what is there of the package so far -/
structure MkSt (w0 : World) (p s : ByteArray) (o7 o9 op : Option Nat) (W : World) : Prop where
  b : Below w0.heap.size w0 W
  c7 : ∀ g, o7 = some g → w0.heap.size ≤ g ∧ Blk 9 W g #[.string p]
  c9 : ∀ g, o9 = some g → w0.heap.size ≤ g ∧ Blk 62 W g #[.string p, .string s]
  cp : ∀ g, op = some g → w0.heap.size ≤ g ∧ Blk 67 W g #[.string ⟨#[]⟩, .int .i64 0, .string ⟨#[]⟩, .string ⟨#[]⟩, .slice none 0 0, .slice none 0 0, .slice none 0 0, .slice none 0 0, .slice none 0 0, .slice none 0 0, .slice none 0 0, .slice none 0 0, .slice none 0 0]
theorem MkSt.step {w0 : World} {p s : ByteArray} {o7 o9 op : Option Nat} {W W' : World} (h : MkSt w0 p s o7 o9 op W) (hb : Below W.heap.size W W') : MkSt w0 p s o7 o9 op W' :=
  ⟨step_below h.b hb, fun g e => ⟨(h.c7 g e).1, (h.c7 g e).2.keep hb⟩, fun g e => ⟨(h.c9 g e).1, (h.c9 g e).2.keep hb⟩, fun g e => ⟨(h.cp g e).1, (h.cp g e).2.keep hb⟩⟩
theorem MkSt.s7 {w0 : World} {p s : ByteArray} {o9 op : Option Nat} {W : World} (h : MkSt w0 p s none o9 op W) : MkSt w0 p s (some W.heap.size) o9 op (W.alloc (.cells #[.string p] 9)) :=
  { h.step (below_alloc W (.cells #[.string p] 9)) with c7 := fun g e => by obtain rfl := Option.some.inj e; exact ⟨h.b.size, blk_new _ _ _⟩ }
theorem MkSt.s9 {w0 : World} {p s : ByteArray} {o7 op : Option Nat} {W : World} (h : MkSt w0 p s o7 none op W) : MkSt w0 p s o7 (some W.heap.size) op (W.alloc (.cells #[.string p, .string s] 62)) :=
  { h.step (below_alloc W (.cells #[.string p, .string s] 62)) with c9 := fun g e => by obtain rfl := Option.some.inj e; exact ⟨h.b.size, blk_new _ _ _⟩ }
theorem MkSt.sp {w0 : World} {p s : ByteArray} {o7 o9 : Option Nat} {W : World} (h : MkSt w0 p s o7 o9 none W) : MkSt w0 p s o7 o9 (some W.heap.size) (W.alloc (.cells #[.string ⟨#[]⟩, .int .i64 0, .string ⟨#[]⟩, .string ⟨#[]⟩, .slice none 0 0, .slice none 0 0, .slice none 0 0, .slice none 0 0, .slice none 0 0, .slice none 0 0, .slice none 0 0, .slice none 0 0, .slice none 0 0] 67)) :=
  { h.step (below_alloc W (.cells #[.string ⟨#[]⟩, .int .i64 0, .string ⟨#[]⟩, .string ⟨#[]⟩, .slice none 0 0, .slice none 0 0, .slice none 0 0, .slice none 0 0, .slice none 0 0, .slice none 0 0, .slice none 0 0, .slice none 0 0, .slice none 0 0] 67)) with cp := fun g e => by obtain rfl := Option.some.inj e; exact ⟨h.b.size, blk_new _ _ _⟩ }
theorem pack_cells {W : World} {g : Nat} {v0 v1 v2 v3 v4 v5 v6 v7 v8 v9 v10 v11 v12 : Value} (h : Blk 67 W g #[v0, v1, v2, v3, v4, v5, v6, v7, v8, v9, v10, v11, v12]) : W.cell? ⟨g, 0, none⟩ = some v0 ∧ W.cell? ⟨g, 1, none⟩ = some v1 ∧ W.cell? ⟨g, 2, none⟩ = some v2 ∧ W.cell? ⟨g, 3, none⟩ = some v3 ∧ W.cell? ⟨g, 4, none⟩ = some v4 ∧ W.cell? ⟨g, 5, none⟩ = some v5 ∧ W.cell? ⟨g, 6, none⟩ = some v6 ∧ W.cell? ⟨g, 7, none⟩ = some v7 ∧ W.cell? ⟨g, 8, none⟩ = some v8 ∧ W.cell? ⟨g, 9, none⟩ = some v9 ∧ W.cell? ⟨g, 10, none⟩ = some v10 ∧ W.cell? ⟨g, 11, none⟩ = some v11 ∧ W.cell? ⟨g, 12, none⟩ = some v12 :=
  ⟨h.cell rfl, h.cell rfl, h.cell rfl, h.cell rfl, h.cell rfl, h.cell rfl, h.cell rfl, h.cell rfl, h.cell rfl, h.cell rfl, h.cell rfl, h.cell rfl, h.cell rfl⟩
/-- what the region looks at -/
def MkS (a : Addr) (s : ByteArray) (w0 W : World) : Prop := W.cell? a = some (.string s) ∧ Below w0.heap.size w0 W
theorem mkS_go {a : Addr} {s : ByteArray} {w0 W W' : World} (h : MkS a s w0 W) (hb : Below W.heap.size W W') : MkS a s w0 W' := ⟨kept hb h.1, step_below h.2 hb⟩
/-- the package is laid -/
structure MkBox (w0 : World) (p s : ByteArray) (b7 b9 bp : Nat) (W : World) : Prop where
  b : Below w0.heap.size w0 W
  h7 : w0.heap.size ≤ b7
  h9 : w0.heap.size ≤ b9
  hp : w0.heap.size ≤ bp
  c7 : Blk 9 W b7 #[.string p]
  c9 : Blk 62 W b9 #[.string p, .string s]
  cp : Blk 67 W bp #[.string aaB, .int .i64 0, .string oneB, .string ⟨#[]⟩, .slice none 0 0, .slice none 0 0, .slice none 0 0, .slice none 0 0, .slice none 0 0, .slice none 0 0, .slice (some ⟨b7, 0, none⟩) 1 1, .slice none 0 0, .slice (some ⟨b9, 0, none⟩) 1 1]
theorem set_heap_other {W : World} {b g i : Nat} {v : Value} (h : b ≠ g) : (W.setCell ⟨g, i, none⟩ v).heap[b]? = W.heap[b]? := by
  unfold World.setCell
  rw [Array.getElem?_modify, if_neg (Ne.symm h)]
theorem set13_other {W : World} {b g : Nat} (h : b ≠ g) (v0 v1 v2 v3 v4 v5 v6 v7 v8 v9 va vb vc : Value) : (((((((((((((W.setCell ⟨g, 0, none⟩ v0).setCell ⟨g, 1, none⟩ v1).setCell ⟨g, 2, none⟩ v2).setCell ⟨g, 3, none⟩ v3).setCell ⟨g, 4, none⟩ v4).setCell ⟨g, 5, none⟩ v5).setCell ⟨g, 6, none⟩ v6).setCell ⟨g, 7, none⟩ v7).setCell ⟨g, 8, none⟩ v8).setCell ⟨g, 9, none⟩ v9).setCell ⟨g, 10, none⟩ va).setCell ⟨g, 11, none⟩ vb).setCell ⟨g, 12, none⟩ vc).heap[b]? = W.heap[b]? := by
  rw [set_heap_other h, set_heap_other h, set_heap_other h, set_heap_other h, set_heap_other h, set_heap_other h, set_heap_other h, set_heap_other h, set_heap_other h, set_heap_other h, set_heap_other h, set_heap_other h, set_heap_other h]
theorem set13_below {n : Nat} {w0 W : World} {b : Nat} (hb : Below n w0 W) (h : n ≤ b) (v0 v1 v2 v3 v4 v5 v6 v7 v8 v9 va vb vc : Value) :
    Below n w0 (((((((((((((W.setCell ⟨b, 0, none⟩ v0).setCell ⟨b, 1, none⟩ v1).setCell ⟨b, 2, none⟩ v2).setCell ⟨b, 3, none⟩ v3).setCell ⟨b, 4, none⟩ v4).setCell ⟨b, 5, none⟩ v5).setCell ⟨b, 6, none⟩ v6).setCell ⟨b, 7, none⟩ v7).setCell ⟨b, 8, none⟩ v8).setCell ⟨b, 9, none⟩ v9).setCell ⟨b, 10, none⟩ va).setCell ⟨b, 11, none⟩ vb).setCell ⟨b, 12, none⟩ vc) :=
  ((((((((((((hb.setCell (p := ⟨b, 0, none⟩) h v0).setCell (p := ⟨b, 1, none⟩) h v1).setCell (p := ⟨b, 2, none⟩) h v2).setCell (p := ⟨b, 3, none⟩) h v3).setCell (p := ⟨b, 4, none⟩) h v4).setCell (p := ⟨b, 5, none⟩) h v5).setCell (p := ⟨b, 6, none⟩) h v6).setCell (p := ⟨b, 7, none⟩) h v7).setCell (p := ⟨b, 8, none⟩) h v8).setCell (p := ⟨b, 9, none⟩) h v9).setCell (p := ⟨b, 10, none⟩) h va).setCell (p := ⟨b, 11, none⟩) h vb).setCell (p := ⟨b, 12, none⟩) h vc
theorem blk_set13 {W : World} {g : Nat} {u0 u1 u2 u3 u4 u5 u6 u7 u8 u9 ua ub uc : Value} (h : Blk 67 W g #[u0, u1, u2, u3, u4, u5, u6, u7, u8, u9, ua, ub, uc]) (v0 v1 v2 v3 v4 v5 v6 v7 v8 v9 va vb vc : Value) :
    Blk 67 (((((((((((((W.setCell ⟨g, 0, none⟩ v0).setCell ⟨g, 1, none⟩ v1).setCell ⟨g, 2, none⟩ v2).setCell ⟨g, 3, none⟩ v3).setCell ⟨g, 4, none⟩ v4).setCell ⟨g, 5, none⟩ v5).setCell ⟨g, 6, none⟩ v6).setCell ⟨g, 7, none⟩ v7).setCell ⟨g, 8, none⟩ v8).setCell ⟨g, 9, none⟩ v9).setCell ⟨g, 10, none⟩ va).setCell ⟨g, 11, none⟩ vb).setCell ⟨g, 12, none⟩ vc) g #[v0, v1, v2, v3, v4, v5, v6, v7, v8, v9, va, vb, vc] := by
  have k := (((((((((((((h.set 0 v0).set 1 v1).set 2 v2).set 3 v3).set 4 v4).set 5 v5).set 6 v6).set 7 v7).set 8 v8).set 9 v9).set 10 va).set 11 vb).set 12 vc)
  simp only [List.setIfInBounds_toArray, List.set_cons_zero, List.set_cons_succ] at k
  exact k
theorem blk_apart {T U : TypeId} {W : World} {b g : Nat} {cs ds : Array Value} (h : Blk T W b cs) (k : Blk U W g ds) (hs : cs.size ≠ ds.size) : b ≠ g := by
  rintro rfl
  unfold Blk at h k
  rw [h] at k
  injection k with k
  injection k with k _ _
  exact hs (by rw [k])
theorem MkSt.store {w0 : World} {p s : ByteArray} {b7 b9 bp : Nat} {W : World} (h : MkSt w0 p s (some b7) (some b9) (some bp) W) : MkBox w0 p s b7 b9 bp (((((((((((((W.setCell ⟨bp, 0, none⟩ (.string aaB)).setCell ⟨bp, 1, none⟩ (.int .i64 0)).setCell ⟨bp, 2, none⟩ (.string oneB)).setCell ⟨bp, 3, none⟩ (.string ⟨#[]⟩)).setCell ⟨bp, 4, none⟩ (.slice none 0 0)).setCell ⟨bp, 5, none⟩ (.slice none 0 0)).setCell ⟨bp, 6, none⟩ (.slice none 0 0)).setCell ⟨bp, 7, none⟩ (.slice none 0 0)).setCell ⟨bp, 8, none⟩ (.slice none 0 0)).setCell ⟨bp, 9, none⟩ (.slice none 0 0)).setCell ⟨bp, 10, none⟩ (.slice (some ⟨b7, 0, none⟩) 1 1)).setCell ⟨bp, 11, none⟩ (.slice none 0 0)).setCell ⟨bp, 12, none⟩ (.slice (some ⟨b9, 0, none⟩) 1 1)) := by
  obtain ⟨h7, k7⟩ := h.c7 _ rfl
  obtain ⟨h9, k9⟩ := h.c9 _ rfl
  obtain ⟨hp, kp⟩ := h.cp _ rfl
  exact ⟨set13_below h.b hp _ _ _ _ _ _ _ _ _ _ _ _ _, h7, h9, hp, (set13_other (blk_apart k7 kp (by simp)) _ _ _ _ _ _ _ _ _ _ _ _ _).trans k7, (set13_other (blk_apart k9 kp (by simp)) _ _ _ _ _ _ _ _ _ _ _ _ _).trans k9, blk_set13 kp _ _ _ _ _ _ _ _ _ _ _ _ _⟩

set_option maxHeartbeats 8000000 in
set_option maxRecDepth 100000 in
theorem mk_region {Q : Exit → Act → World → Prop} {path x : ByteArray} {bd od k len cd : Nat} {t2 t3 t4 t5 t6 t7 t8 t9 t10 t11 t12 t13 t14 t16 t17 t18 t19 t20 t21 t22 t23 t24 t25 t26 t27 t28 t29 t30 t31 t32 t33 t34 t35 t36 t37 t38 t39 t40 t41 t42 t43 t44 t45 t46 t47 t48 t49 t50 t51 t52 t53 t54 t55 t56 t57 t58 t59 t60 t61 t62 t63 t64 t65 t66 t67 t68 t69 t70 t71 t72 t73 t74 t75 t76 t77 t78 t79 t80 t81 t82 t83 t84 t85 t86 t87 t88 t89 t90 t91 t92 t93 t94 t95 t96 t97 t98 t99 t100 t101 t102 t103 t104 t105 t106 t107 t108 t109 t110 t111 t112 t113 t114 t115 t116 t117 t118 t119 t120 t121 t122 t123 t124 t125 t126 t127 t128 t129 t130 t131 t132 t133 t134 t135 t136 t137 t138 t139 t140 t141 t142 t143 t144 t145 t146 t147 t148 t149 t150 t151 t152 : Value} {wr : World} (hlt : k < len) (c0 : wr.cell? ⟨bd, od + k, none⟩ = some (.string x))
    (RDD : ∀ W, Below wr.heap.size wr W → Calls Tryz.prog 27 #[.string ⟨#[49]⟩] W fun E w' => E = .returned (.agg #[.int .i64 0, .string ⟨#[49]⟩, .string ⟨#[]⟩]) ∧ Below W.heap.size W w')
    (hP : ∀ (c : _) (a : Act) (d : Option Tmp) (v : Value) (w : World), Q (.panic c) (a.put d v) w → Q (.panic c) a w) (hQ : ∀ (b7 b9 bp : Nat) (W : World), MkBox wr path x b7 b9 bp W → Q .normal { tmps := #[.string path, .slice (some ⟨bd, od, none⟩) len cd, t2, t3, t4, t5, t6, t7, t8, t9, t10, t11, t12, t13, t14, .int .i64 k, .pointer (some ⟨bp, 0, none⟩), t17, t18, t19, t20, t21, t22, t23, t24, t25, t26, t27, t28, t29, t30, t31, t32, t33, t34, t35, t36, t37, t38, t39, t40, t41, t42, t43, t44, t45, t46, t47, t48, t49, t50, t51, t52, t53, t54, t55, t56, t57, t58, t59, t60, t61, t62, t63, t64, .agg #[.int .i64 0, .string ⟨#[49]⟩, .string ⟨#[]⟩], .string path, .slice (some ⟨b7, 0, none⟩) 1 1, .string path, .slice (some ⟨bd, od, none⟩) len cd, .int .i64 k, .pointer (some ⟨bd, od + k, none⟩), .string x, .agg #[.string path, .string x], .slice (some ⟨b9, 0, none⟩) 1 1, .agg #[.string ⟨#[97, 97]⟩, .int .i64 0, .string ⟨#[49]⟩, .string ⟨#[]⟩, .slice none 0 0, .slice none 0 0, .slice none 0 0, .slice none 0 0, .slice none 0 0, .slice none 0 0, .slice (some ⟨b7, 0, none⟩) 1 1, .slice none 0 0, .slice (some ⟨b9, 0, none⟩) 1 1], t76, t77, t78, t79, t80, t81, t82, t83, t84, t85, t86, t87, t88, t89, t90, t91, t92, t93, t94, t95, t96, t97, t98, t99, t100, t101, t102, t103, t104, t105, t106, t107, t108, t109, t110, t111, t112, t113, t114, t115, t116, t117, t118, t119, t120, t121, t122, t123, t124, t125, t126, t127, t128, t129, t130, t131, t132, t133, t134, t135, t136, t137, t138, t139, t140, t141, t142, t143, t144, t145, t146, t147, t148, t149, t150, t151, t152], defers := [] } W) :
    (Code.region 15 #[{ dst := some 65, op := Op.call { callee := Callee.value (Operand.func 27), args := #[Operand.const (Value.string { data := #[49] })], argTypes := #[9] }, type := 23, pos := "keep.go:839", after := #[], guard := none }, { dst := some 66, op := Op.move (Operand.tmp 0), type := 9, pos := "keep.go:839", after := #[], guard := none }, { dst := some 67, op := Op.buildSlice 24 1 #[(0, Operand.tmp 66)], type := 24, pos := "keep.go:839", after := #[{ on := 1, ground := Ground.data }], guard := none }, { dst := some 68, op := Op.move (Operand.tmp 0), type := 9, pos := "keep.go:839", after := #[], guard := none }, { dst := some 69, op := Op.move (Operand.tmp 1), type := 24, pos := "keep.go:839", after := #[], guard := none }, { dst := some 70, op := Op.move (Operand.tmp 15), type := 3, pos := "keep.go:839", after := #[], guard := none }, { dst := some 71, op := Op.indexAddr 24 (Operand.tmp 69) (Operand.tmp 70), type := 0, pos := "keep.go:839", after := #[{ on := 4, ground := Ground.data }, { on := 5, ground := Ground.data }], guard := none }, { dst := some 72, op := Op.load 9 (Operand.tmp 71), type := 9, pos := "keep.go:839", after := #[{ on := 6, ground := Ground.data }], guard := none }, { dst := some 73, op := Op.build 62 #[(0, Operand.tmp 68), (1, Operand.tmp 72)], type := 62, pos := "keep.go:839", after := #[{ on := 3, ground := Ground.data }, { on := 7, ground := Ground.data }], guard := none }, { dst := some 74, op := Op.buildSlice 63 1 #[(0, Operand.tmp 73)], type := 63, pos := "keep.go:839", after := #[{ on := 8, ground := Ground.data }], guard := none }, { dst := some 75, op := Op.build 67 #[(0, Operand.const (Value.string { data := #[97, 97] })), (1, Operand.tmp 65), (8, Operand.tmp 67), (10, Operand.tmp 74)], type := 67, pos := "keep.go:839", after := #[{ on := 0, ground := Ground.data }, { on := 2, ground := Ground.data }, { on := 9, ground := Ground.data }], guard := none }, { dst := some 16, op := Op.alloc 67, type := 0, pos := "keep.go:839", after := #[], guard := none }, { dst := none, op := Op.store 67 (Operand.tmp 16) (Operand.tmp 75), type := 0, pos := "keep.go:839", after := #[{ on := 11, ground := Ground.data }, { on := 10, ground := Ground.data }, { on := 0, ground := Ground.chain }, { on := 0, ground := Ground.phase }, { on := 1, ground := Ground.phase }, { on := 2, ground := Ground.phase }, { on := 3, ground := Ground.phase }, { on := 4, ground := Ground.phase }, { on := 5, ground := Ground.phase }, { on := 6, ground := Ground.phase }, { on := 7, ground := Ground.phase }, { on := 8, ground := Ground.phase }, { on := 9, ground := Ground.phase }, { on := 10, ground := Ground.phase }, { on := 11, ground := Ground.phase }], guard := none }] true).wp Tryz.prog Q { tmps := #[.string path, .slice (some ⟨bd, od, none⟩) len cd, t2, t3, t4, t5, t6, t7, t8, t9, t10, t11, t12, t13, t14, .int .i64 k, t16, t17, t18, t19, t20, t21, t22, t23, t24, t25, t26, t27, t28, t29, t30, t31, t32, t33, t34, t35, t36, t37, t38, t39, t40, t41, t42, t43, t44, t45, t46, t47, t48, t49, t50, t51, t52, t53, t54, t55, t56, t57, t58, t59, t60, t61, t62, t63, t64, t65, t66, t67, t68, t69, t70, t71, t72, t73, t74, t75, t76, t77, t78, t79, t80, t81, t82, t83, t84, t85, t86, t87, t88, t89, t90, t91, t92, t93, t94, t95, t96, t97, t98, t99, t100, t101, t102, t103, t104, t105, t106, t107, t108, t109, t110, t111, t112, t113, t114, t115, t116, t117, t118, t119, t120, t121, t122, t123, t124, t125, t126, t127, t128, t129, t130, t131, t132, t133, t134, t135, t136, t137, t138, t139, t140, t141, t142, t143, t144, t145, t146, t147, t148, t149, t150, t151, t152], defers := [] } wr := by
  have RD := Lib.hid RDD
  have HQ := Lib.hid hQ
  have m0 : Hid (MkSt wr path x none none none wr.drew) := Lib.hid ⟨below_drew _, fun g e => (by cases e), fun g e => (by cases e), fun g e => (by cases e)⟩
  clear RDD hQ
  refine wp_region_held_drew (S := (fun W => W.cell? ⟨bd, od + k, none⟩ = some (.string x) ∧ Below wr.heap.size wr W)) (by kernel_rfl) ?_ (fun hHeld => ?_)
  · exact ⟨kept (below_drew _) c0, below_drew _⟩
  refine wpAnyH_take (i := 1) (v := ?_) rfl (by kernel_rfl) (by kernel_rfl) (by kernel_rfl) (fun _ _ _ h => hP _ _ _ _ _ h) (Or.inl ⟨by rfl, ?_⟩) (by assumption) ?_
  rotate_left
  · (intro w hSw; (try dsimp only at hSw); go_simp; (try with_reducible rfl))
  (try simp only [List.getElem_toArray, List.getElem_cons_succ, List.getElem_cons_zero, Act.put, List.setIfInBounds_toArray, List.set_cons_zero, List.set_cons_succ])
  refine wpAnyH_take (i := 3) (v := ?_) rfl (by kernel_rfl) (by kernel_rfl) (by kernel_rfl) (fun _ _ _ h => hP _ _ _ _ _ h) (Or.inl ⟨by rfl, ?_⟩) (by assumption) ?_
  rotate_left
  · (intro w hSw; (try dsimp only at hSw); go_simp; (try with_reducible rfl))
  (try simp only [List.getElem_toArray, List.getElem_cons_succ, List.getElem_cons_zero, Act.put, List.setIfInBounds_toArray, List.set_cons_zero, List.set_cons_succ])
  refine wpAnyH_take (i := 4) (v := ?_) rfl (by kernel_rfl) (by kernel_rfl) (by kernel_rfl) (fun _ _ _ h => hP _ _ _ _ _ h) (Or.inl ⟨by rfl, ?_⟩) (by assumption) ?_
  rotate_left
  · (intro w hSw; (try dsimp only at hSw); go_simp; (try with_reducible rfl))
  (try simp only [List.getElem_toArray, List.getElem_cons_succ, List.getElem_cons_zero, Act.put, List.setIfInBounds_toArray, List.set_cons_zero, List.set_cons_succ])
  refine wpAnyH_take (i := 5) (v := ?_) rfl (by kernel_rfl) (by kernel_rfl) (by kernel_rfl) (fun _ _ _ h => hP _ _ _ _ _ h) (Or.inl ⟨by rfl, ?_⟩) (by assumption) ?_
  rotate_left
  · (intro w hSw; (try dsimp only at hSw); go_simp; (try with_reducible rfl))
  (try simp only [List.getElem_toArray, List.getElem_cons_succ, List.getElem_cons_zero, Act.put, List.setIfInBounds_toArray, List.set_cons_zero, List.set_cons_succ])
  refine wpAnyH_take (i := 6) (v := ?_) rfl (by kernel_rfl) (by kernel_rfl) (by kernel_rfl) (fun _ _ _ h => hP _ _ _ _ _ h) (Or.inl ⟨by rfl, ?_⟩) (by assumption) ?_
  rotate_left
  · (intro w hSw; (try dsimp only at hSw); go_simp; (try with_reducible rfl))
  (try simp only [List.getElem_toArray, List.getElem_cons_succ, List.getElem_cons_zero, Act.put, List.setIfInBounds_toArray, List.set_cons_zero, List.set_cons_succ])
  refine wpAnyH_take (i := 7) (v := ?_) rfl (by kernel_rfl) (by kernel_rfl) (by kernel_rfl) (fun _ _ _ h => hP _ _ _ _ _ h) (Or.inl ⟨by rfl, ?_⟩) (by assumption) ?_
  rotate_left
  · (intro w hSw; (try dsimp only at hSw); go_simp; (try with_reducible rfl))
  (try simp only [List.getElem_toArray, List.getElem_cons_succ, List.getElem_cons_zero, Act.put, List.setIfInBounds_toArray, List.set_cons_zero, List.set_cons_succ])
  refine wpAnyH_take (i := 8) (v := ?_) rfl (by kernel_rfl) (by kernel_rfl) (by kernel_rfl) (fun _ _ _ h => hP _ _ _ _ _ h) (Or.inl ⟨by rfl, ?_⟩) (by assumption) ?_
  rotate_left
  · (intro w hSw; (try dsimp only at hSw); go_simp; (try with_reducible rfl))
  (try simp only [List.getElem_toArray, List.getElem_cons_succ, List.getElem_cons_zero, Act.put, List.setIfInBounds_toArray, List.set_cons_zero, List.set_cons_succ])
  generalize wr.drew = Y0 at hHeld m0 ⊢
  refine wpAnyH_ready (rs := [0, 2, 9, 11]) (by kernel_rfl) (by simp) ?_
  refine AllReadyH.cons rfl (fun K hK => ?_) (AllReadyH.cons rfl (fun K hK => ?_) (AllReadyH.cons rfl (fun K hK => ?_) (AllReadyH.cons rfl (fun K hK => ?_) AllReadyH.nil)))
  · go_simp
    go_at_call 27
    refine Calls.mono (RD.out _ m0.out.b) ?_
    rintro E Y1 ⟨rfl, hb1⟩
    (try go_wp2_with fail)
    refine hK.out _ _ ?_ (fun hHeld => ?_)
    · exact mkS_go hHeld hb1
    have m1 := Lib.hid (m0.out.step hb1)
    clear hK K hb1 m0
    (try simp only [List.getElem_toArray, List.getElem_cons_succ, List.getElem_cons_zero, Act.put, List.setIfInBounds_toArray, List.set_cons_zero, List.set_cons_succ])
    refine wpAnyH_ready (rs := [2, 9, 11]) (by kernel_rfl) (by simp) ?_
    refine AllReadyH.cons rfl (fun K hK => ?_) (AllReadyH.cons rfl (fun K hK => ?_) (AllReadyH.cons rfl (fun K hK => ?_) AllReadyH.nil))
    · go_simp
      refine hK.out _ _ ?_ (fun hHeld => ?_)
      · exact mkS_go hHeld (below_alloc _ _)
      have m2 := Lib.hid (m1.out.s7)
      obtain ⟨g2, hg2⟩ : ∃ g, Y1.heap.size = g := ⟨_, rfl⟩
      rw [hg2] at m2 ⊢
      generalize Y1.alloc (.cells #[.string path] 9) = Y2 at m2 hHeld ⊢
      clear hK K hg2 m1
      (try simp only [List.getElem_toArray, List.getElem_cons_succ, List.getElem_cons_zero, Act.put, List.setIfInBounds_toArray, List.set_cons_zero, List.set_cons_succ])
      refine wpAnyH_ready (rs := [9, 11]) (by kernel_rfl) (by simp) ?_
      refine AllReadyH.cons rfl (fun K hK => ?_) (AllReadyH.cons rfl (fun K hK => ?_) AllReadyH.nil)
      · go_simp
        refine hK.out _ _ ?_ (fun hHeld => ?_)
        · exact mkS_go hHeld (below_alloc _ _)
        have m3 := Lib.hid (m2.out.s9)
        obtain ⟨g3, hg3⟩ : ∃ g, Y2.heap.size = g := ⟨_, rfl⟩
        rw [hg3] at m3 ⊢
        generalize Y2.alloc (.cells #[.string path, .string x] 62) = Y3 at m3 hHeld ⊢
        clear hK K hg3 m2
        (try simp only [List.getElem_toArray, List.getElem_cons_succ, List.getElem_cons_zero, Act.put, List.setIfInBounds_toArray, List.set_cons_zero, List.set_cons_succ])
        refine wpAnyH_take (i := 10) (v := ?_) rfl (by kernel_rfl) (by kernel_rfl) (by kernel_rfl) (fun _ _ _ h => hP _ _ _ _ _ h) (Or.inl ⟨by rfl, ?_⟩) (by assumption) ?_
        rotate_left
        · (intro w hSw; (try dsimp only at hSw); go_simp; (try with_reducible rfl))
        (try simp only [List.getElem_toArray, List.getElem_cons_succ, List.getElem_cons_zero, Act.put, List.setIfInBounds_toArray, List.set_cons_zero, List.set_cons_succ])
        refine wpAnyH_ready (rs := [11]) (by kernel_rfl) (by simp) ?_
        refine AllReadyH.cons rfl (fun K hK => ?_) AllReadyH.nil
        · go_simp
          refine hK.out _ _ ?_ (fun hHeld => ?_)
          · exact mkS_go hHeld (below_alloc _ _)
          have m4 := Lib.hid (m3.out.sp)
          obtain ⟨g4, hg4⟩ : ∃ g, Y3.heap.size = g := ⟨_, rfl⟩
          rw [hg4] at m4 ⊢
          generalize Y3.alloc (.cells #[.string ⟨#[]⟩, .int .i64 0, .string ⟨#[]⟩, .string ⟨#[]⟩, .slice none 0 0, .slice none 0 0, .slice none 0 0, .slice none 0 0, .slice none 0 0, .slice none 0 0, .slice none 0 0, .slice none 0 0, .slice none 0 0] 67) = Y4 at m4 hHeld ⊢
          clear hK K hg4 m3
          (try simp only [List.getElem_toArray, List.getElem_cons_succ, List.getElem_cons_zero, Act.put, List.setIfInBounds_toArray, List.set_cons_zero, List.set_cons_succ])
          have kb := (m4.out.cp _ rfl).2
          have fz := kb.frozen
          obtain ⟨e0, e1, e2, e3, e4, e5, e6, e7, e8, e9, e10, e11, e12⟩ := pack_cells kb
          have kx := m4.out.store
          have KX := Lib.hid kx
          clear kb kx
          refine wpAnyH_ready (rs := [12]) (by kernel_rfl) (by simp) ?_
          refine AllReadyH.cons rfl (fun K hK => ?_) AllReadyH.nil
          go_simp
          refine hK.out _ _ ?_ (fun hHeld => ?_)
          · exact ⟨kept KX.out.b c0, KX.out.b⟩
          refine wpAnyH_done (by kernel_rfl) ?_ _
          exact HQ.out _ _ _ _ KX.out
      · go_simp
        refine hK.out _ _ ?_ (fun hHeld => ?_)
        · exact mkS_go hHeld (below_alloc _ _)
        have m5 := Lib.hid (m2.out.sp)
        obtain ⟨g5, hg5⟩ : ∃ g, Y2.heap.size = g := ⟨_, rfl⟩
        rw [hg5] at m5 ⊢
        generalize Y2.alloc (.cells #[.string ⟨#[]⟩, .int .i64 0, .string ⟨#[]⟩, .string ⟨#[]⟩, .slice none 0 0, .slice none 0 0, .slice none 0 0, .slice none 0 0, .slice none 0 0, .slice none 0 0, .slice none 0 0, .slice none 0 0, .slice none 0 0] 67) = Y5 at m5 hHeld ⊢
        clear hK K hg5 m2
        (try simp only [List.getElem_toArray, List.getElem_cons_succ, List.getElem_cons_zero, Act.put, List.setIfInBounds_toArray, List.set_cons_zero, List.set_cons_succ])
        refine wpAnyH_ready (rs := [9]) (by kernel_rfl) (by simp) ?_
        refine AllReadyH.cons rfl (fun K hK => ?_) AllReadyH.nil
        · go_simp
          refine hK.out _ _ ?_ (fun hHeld => ?_)
          · exact mkS_go hHeld (below_alloc _ _)
          have m6 := Lib.hid (m5.out.s9)
          obtain ⟨g6, hg6⟩ : ∃ g, Y5.heap.size = g := ⟨_, rfl⟩
          rw [hg6] at m6 ⊢
          generalize Y5.alloc (.cells #[.string path, .string x] 62) = Y6 at m6 hHeld ⊢
          clear hK K hg6 m5
          (try simp only [List.getElem_toArray, List.getElem_cons_succ, List.getElem_cons_zero, Act.put, List.setIfInBounds_toArray, List.set_cons_zero, List.set_cons_succ])
          refine wpAnyH_take (i := 10) (v := ?_) rfl (by kernel_rfl) (by kernel_rfl) (by kernel_rfl) (fun _ _ _ h => hP _ _ _ _ _ h) (Or.inl ⟨by rfl, ?_⟩) (by assumption) ?_
          rotate_left
          · (intro w hSw; (try dsimp only at hSw); go_simp; (try with_reducible rfl))
          (try simp only [List.getElem_toArray, List.getElem_cons_succ, List.getElem_cons_zero, Act.put, List.setIfInBounds_toArray, List.set_cons_zero, List.set_cons_succ])
          have kb := (m6.out.cp _ rfl).2
          have fz := kb.frozen
          obtain ⟨e0, e1, e2, e3, e4, e5, e6, e7, e8, e9, e10, e11, e12⟩ := pack_cells kb
          have kx := m6.out.store
          have KX := Lib.hid kx
          clear kb kx
          refine wpAnyH_ready (rs := [12]) (by kernel_rfl) (by simp) ?_
          refine AllReadyH.cons rfl (fun K hK => ?_) AllReadyH.nil
          go_simp
          refine hK.out _ _ ?_ (fun hHeld => ?_)
          · exact ⟨kept KX.out.b c0, KX.out.b⟩
          refine wpAnyH_done (by kernel_rfl) ?_ _
          exact HQ.out _ _ _ _ KX.out
    · go_simp
      refine hK.out _ _ ?_ (fun hHeld => ?_)
      · exact mkS_go hHeld (below_alloc _ _)
      have m7 := Lib.hid (m1.out.s9)
      obtain ⟨g7, hg7⟩ : ∃ g, Y1.heap.size = g := ⟨_, rfl⟩
      rw [hg7] at m7 ⊢
      generalize Y1.alloc (.cells #[.string path, .string x] 62) = Y7 at m7 hHeld ⊢
      clear hK K hg7 m1
      (try simp only [List.getElem_toArray, List.getElem_cons_succ, List.getElem_cons_zero, Act.put, List.setIfInBounds_toArray, List.set_cons_zero, List.set_cons_succ])
      refine wpAnyH_ready (rs := [2, 11]) (by kernel_rfl) (by simp) ?_
      refine AllReadyH.cons rfl (fun K hK => ?_) (AllReadyH.cons rfl (fun K hK => ?_) AllReadyH.nil)
      · go_simp
        refine hK.out _ _ ?_ (fun hHeld => ?_)
        · exact mkS_go hHeld (below_alloc _ _)
        have m8 := Lib.hid (m7.out.s7)
        obtain ⟨g8, hg8⟩ : ∃ g, Y7.heap.size = g := ⟨_, rfl⟩
        rw [hg8] at m8 ⊢
        generalize Y7.alloc (.cells #[.string path] 9) = Y8 at m8 hHeld ⊢
        clear hK K hg8 m7
        (try simp only [List.getElem_toArray, List.getElem_cons_succ, List.getElem_cons_zero, Act.put, List.setIfInBounds_toArray, List.set_cons_zero, List.set_cons_succ])
        refine wpAnyH_take (i := 10) (v := ?_) rfl (by kernel_rfl) (by kernel_rfl) (by kernel_rfl) (fun _ _ _ h => hP _ _ _ _ _ h) (Or.inl ⟨by rfl, ?_⟩) (by assumption) ?_
        rotate_left
        · (intro w hSw; (try dsimp only at hSw); go_simp; (try with_reducible rfl))
        (try simp only [List.getElem_toArray, List.getElem_cons_succ, List.getElem_cons_zero, Act.put, List.setIfInBounds_toArray, List.set_cons_zero, List.set_cons_succ])
        refine wpAnyH_ready (rs := [11]) (by kernel_rfl) (by simp) ?_
        refine AllReadyH.cons rfl (fun K hK => ?_) AllReadyH.nil
        · go_simp
          refine hK.out _ _ ?_ (fun hHeld => ?_)
          · exact mkS_go hHeld (below_alloc _ _)
          have m9 := Lib.hid (m8.out.sp)
          obtain ⟨g9, hg9⟩ : ∃ g, Y8.heap.size = g := ⟨_, rfl⟩
          rw [hg9] at m9 ⊢
          generalize Y8.alloc (.cells #[.string ⟨#[]⟩, .int .i64 0, .string ⟨#[]⟩, .string ⟨#[]⟩, .slice none 0 0, .slice none 0 0, .slice none 0 0, .slice none 0 0, .slice none 0 0, .slice none 0 0, .slice none 0 0, .slice none 0 0, .slice none 0 0] 67) = Y9 at m9 hHeld ⊢
          clear hK K hg9 m8
          (try simp only [List.getElem_toArray, List.getElem_cons_succ, List.getElem_cons_zero, Act.put, List.setIfInBounds_toArray, List.set_cons_zero, List.set_cons_succ])
          have kb := (m9.out.cp _ rfl).2
          have fz := kb.frozen
          obtain ⟨e0, e1, e2, e3, e4, e5, e6, e7, e8, e9, e10, e11, e12⟩ := pack_cells kb
          have kx := m9.out.store
          have KX := Lib.hid kx
          clear kb kx
          refine wpAnyH_ready (rs := [12]) (by kernel_rfl) (by simp) ?_
          refine AllReadyH.cons rfl (fun K hK => ?_) AllReadyH.nil
          go_simp
          refine hK.out _ _ ?_ (fun hHeld => ?_)
          · exact ⟨kept KX.out.b c0, KX.out.b⟩
          refine wpAnyH_done (by kernel_rfl) ?_ _
          exact HQ.out _ _ _ _ KX.out
      · go_simp
        refine hK.out _ _ ?_ (fun hHeld => ?_)
        · exact mkS_go hHeld (below_alloc _ _)
        have m10 := Lib.hid (m7.out.sp)
        obtain ⟨g10, hg10⟩ : ∃ g, Y7.heap.size = g := ⟨_, rfl⟩
        rw [hg10] at m10 ⊢
        generalize Y7.alloc (.cells #[.string ⟨#[]⟩, .int .i64 0, .string ⟨#[]⟩, .string ⟨#[]⟩, .slice none 0 0, .slice none 0 0, .slice none 0 0, .slice none 0 0, .slice none 0 0, .slice none 0 0, .slice none 0 0, .slice none 0 0, .slice none 0 0] 67) = Y10 at m10 hHeld ⊢
        clear hK K hg10 m7
        (try simp only [List.getElem_toArray, List.getElem_cons_succ, List.getElem_cons_zero, Act.put, List.setIfInBounds_toArray, List.set_cons_zero, List.set_cons_succ])
        refine wpAnyH_ready (rs := [2]) (by kernel_rfl) (by simp) ?_
        refine AllReadyH.cons rfl (fun K hK => ?_) AllReadyH.nil
        · go_simp
          refine hK.out _ _ ?_ (fun hHeld => ?_)
          · exact mkS_go hHeld (below_alloc _ _)
          have m11 := Lib.hid (m10.out.s7)
          obtain ⟨g11, hg11⟩ : ∃ g, Y10.heap.size = g := ⟨_, rfl⟩
          rw [hg11] at m11 ⊢
          generalize Y10.alloc (.cells #[.string path] 9) = Y11 at m11 hHeld ⊢
          clear hK K hg11 m10
          (try simp only [List.getElem_toArray, List.getElem_cons_succ, List.getElem_cons_zero, Act.put, List.setIfInBounds_toArray, List.set_cons_zero, List.set_cons_succ])
          refine wpAnyH_take (i := 10) (v := ?_) rfl (by kernel_rfl) (by kernel_rfl) (by kernel_rfl) (fun _ _ _ h => hP _ _ _ _ _ h) (Or.inl ⟨by rfl, ?_⟩) (by assumption) ?_
          rotate_left
          · (intro w hSw; (try dsimp only at hSw); go_simp; (try with_reducible rfl))
          (try simp only [List.getElem_toArray, List.getElem_cons_succ, List.getElem_cons_zero, Act.put, List.setIfInBounds_toArray, List.set_cons_zero, List.set_cons_succ])
          have kb := (m11.out.cp _ rfl).2
          have fz := kb.frozen
          obtain ⟨e0, e1, e2, e3, e4, e5, e6, e7, e8, e9, e10, e11, e12⟩ := pack_cells kb
          have kx := m11.out.store
          have KX := Lib.hid kx
          clear kb kx
          refine wpAnyH_ready (rs := [12]) (by kernel_rfl) (by simp) ?_
          refine AllReadyH.cons rfl (fun K hK => ?_) AllReadyH.nil
          go_simp
          refine hK.out _ _ ?_ (fun hHeld => ?_)
          · exact ⟨kept KX.out.b c0, KX.out.b⟩
          refine wpAnyH_done (by kernel_rfl) ?_ _
          exact HQ.out _ _ _ _ KX.out
    · go_simp
      refine hK.out _ _ ?_ (fun hHeld => ?_)
      · exact mkS_go hHeld (below_alloc _ _)
      have m12 := Lib.hid (m1.out.sp)
      obtain ⟨g12, hg12⟩ : ∃ g, Y1.heap.size = g := ⟨_, rfl⟩
      rw [hg12] at m12 ⊢
      generalize Y1.alloc (.cells #[.string ⟨#[]⟩, .int .i64 0, .string ⟨#[]⟩, .string ⟨#[]⟩, .slice none 0 0, .slice none 0 0, .slice none 0 0, .slice none 0 0, .slice none 0 0, .slice none 0 0, .slice none 0 0, .slice none 0 0, .slice none 0 0] 67) = Y12 at m12 hHeld ⊢
      clear hK K hg12 m1
      (try simp only [List.getElem_toArray, List.getElem_cons_succ, List.getElem_cons_zero, Act.put, List.setIfInBounds_toArray, List.set_cons_zero, List.set_cons_succ])
      refine wpAnyH_ready (rs := [2, 9]) (by kernel_rfl) (by simp) ?_
      refine AllReadyH.cons rfl (fun K hK => ?_) (AllReadyH.cons rfl (fun K hK => ?_) AllReadyH.nil)
      · go_simp
        refine hK.out _ _ ?_ (fun hHeld => ?_)
        · exact mkS_go hHeld (below_alloc _ _)
        have m13 := Lib.hid (m12.out.s7)
        obtain ⟨g13, hg13⟩ : ∃ g, Y12.heap.size = g := ⟨_, rfl⟩
        rw [hg13] at m13 ⊢
        generalize Y12.alloc (.cells #[.string path] 9) = Y13 at m13 hHeld ⊢
        clear hK K hg13 m12
        (try simp only [List.getElem_toArray, List.getElem_cons_succ, List.getElem_cons_zero, Act.put, List.setIfInBounds_toArray, List.set_cons_zero, List.set_cons_succ])
        refine wpAnyH_ready (rs := [9]) (by kernel_rfl) (by simp) ?_
        refine AllReadyH.cons rfl (fun K hK => ?_) AllReadyH.nil
        · go_simp
          refine hK.out _ _ ?_ (fun hHeld => ?_)
          · exact mkS_go hHeld (below_alloc _ _)
          have m14 := Lib.hid (m13.out.s9)
          obtain ⟨g14, hg14⟩ : ∃ g, Y13.heap.size = g := ⟨_, rfl⟩
          rw [hg14] at m14 ⊢
          generalize Y13.alloc (.cells #[.string path, .string x] 62) = Y14 at m14 hHeld ⊢
          clear hK K hg14 m13
          (try simp only [List.getElem_toArray, List.getElem_cons_succ, List.getElem_cons_zero, Act.put, List.setIfInBounds_toArray, List.set_cons_zero, List.set_cons_succ])
          refine wpAnyH_take (i := 10) (v := ?_) rfl (by kernel_rfl) (by kernel_rfl) (by kernel_rfl) (fun _ _ _ h => hP _ _ _ _ _ h) (Or.inl ⟨by rfl, ?_⟩) (by assumption) ?_
          rotate_left
          · (intro w hSw; (try dsimp only at hSw); go_simp; (try with_reducible rfl))
          (try simp only [List.getElem_toArray, List.getElem_cons_succ, List.getElem_cons_zero, Act.put, List.setIfInBounds_toArray, List.set_cons_zero, List.set_cons_succ])
          have kb := (m14.out.cp _ rfl).2
          have fz := kb.frozen
          obtain ⟨e0, e1, e2, e3, e4, e5, e6, e7, e8, e9, e10, e11, e12⟩ := pack_cells kb
          have kx := m14.out.store
          have KX := Lib.hid kx
          clear kb kx
          refine wpAnyH_ready (rs := [12]) (by kernel_rfl) (by simp) ?_
          refine AllReadyH.cons rfl (fun K hK => ?_) AllReadyH.nil
          go_simp
          refine hK.out _ _ ?_ (fun hHeld => ?_)
          · exact ⟨kept KX.out.b c0, KX.out.b⟩
          refine wpAnyH_done (by kernel_rfl) ?_ _
          exact HQ.out _ _ _ _ KX.out
      · go_simp
        refine hK.out _ _ ?_ (fun hHeld => ?_)
        · exact mkS_go hHeld (below_alloc _ _)
        have m15 := Lib.hid (m12.out.s9)
        obtain ⟨g15, hg15⟩ : ∃ g, Y12.heap.size = g := ⟨_, rfl⟩
        rw [hg15] at m15 ⊢
        generalize Y12.alloc (.cells #[.string path, .string x] 62) = Y15 at m15 hHeld ⊢
        clear hK K hg15 m12
        (try simp only [List.getElem_toArray, List.getElem_cons_succ, List.getElem_cons_zero, Act.put, List.setIfInBounds_toArray, List.set_cons_zero, List.set_cons_succ])
        refine wpAnyH_ready (rs := [2]) (by kernel_rfl) (by simp) ?_
        refine AllReadyH.cons rfl (fun K hK => ?_) AllReadyH.nil
        · go_simp
          refine hK.out _ _ ?_ (fun hHeld => ?_)
          · exact mkS_go hHeld (below_alloc _ _)
          have m16 := Lib.hid (m15.out.s7)
          obtain ⟨g16, hg16⟩ : ∃ g, Y15.heap.size = g := ⟨_, rfl⟩
          rw [hg16] at m16 ⊢
          generalize Y15.alloc (.cells #[.string path] 9) = Y16 at m16 hHeld ⊢
          clear hK K hg16 m15
          (try simp only [List.getElem_toArray, List.getElem_cons_succ, List.getElem_cons_zero, Act.put, List.setIfInBounds_toArray, List.set_cons_zero, List.set_cons_succ])
          refine wpAnyH_take (i := 10) (v := ?_) rfl (by kernel_rfl) (by kernel_rfl) (by kernel_rfl) (fun _ _ _ h => hP _ _ _ _ _ h) (Or.inl ⟨by rfl, ?_⟩) (by assumption) ?_
          rotate_left
          · (intro w hSw; (try dsimp only at hSw); go_simp; (try with_reducible rfl))
          (try simp only [List.getElem_toArray, List.getElem_cons_succ, List.getElem_cons_zero, Act.put, List.setIfInBounds_toArray, List.set_cons_zero, List.set_cons_succ])
          have kb := (m16.out.cp _ rfl).2
          have fz := kb.frozen
          obtain ⟨e0, e1, e2, e3, e4, e5, e6, e7, e8, e9, e10, e11, e12⟩ := pack_cells kb
          have kx := m16.out.store
          have KX := Lib.hid kx
          clear kb kx
          refine wpAnyH_ready (rs := [12]) (by kernel_rfl) (by simp) ?_
          refine AllReadyH.cons rfl (fun K hK => ?_) AllReadyH.nil
          go_simp
          refine hK.out _ _ ?_ (fun hHeld => ?_)
          · exact ⟨kept KX.out.b c0, KX.out.b⟩
          refine wpAnyH_done (by kernel_rfl) ?_ _
          exact HQ.out _ _ _ _ KX.out
  · go_simp
    refine hK.out _ _ ?_ (fun hHeld => ?_)
    · exact mkS_go hHeld (below_alloc _ _)
    have m17 := Lib.hid (m0.out.s7)
    obtain ⟨g17, hg17⟩ : ∃ g, Y0.heap.size = g := ⟨_, rfl⟩
    rw [hg17] at m17 ⊢
    generalize Y0.alloc (.cells #[.string path] 9) = Y17 at m17 hHeld ⊢
    clear hK K hg17 m0
    (try simp only [List.getElem_toArray, List.getElem_cons_succ, List.getElem_cons_zero, Act.put, List.setIfInBounds_toArray, List.set_cons_zero, List.set_cons_succ])
    refine wpAnyH_ready (rs := [0, 9, 11]) (by kernel_rfl) (by simp) ?_
    refine AllReadyH.cons rfl (fun K hK => ?_) (AllReadyH.cons rfl (fun K hK => ?_) (AllReadyH.cons rfl (fun K hK => ?_) AllReadyH.nil))
    · go_simp
      go_at_call 27
      refine Calls.mono (RD.out _ m17.out.b) ?_
      rintro E Y18 ⟨rfl, hb18⟩
      (try go_wp2_with fail)
      refine hK.out _ _ ?_ (fun hHeld => ?_)
      · exact mkS_go hHeld hb18
      have m18 := Lib.hid (m17.out.step hb18)
      clear hK K hb18 m17
      (try simp only [List.getElem_toArray, List.getElem_cons_succ, List.getElem_cons_zero, Act.put, List.setIfInBounds_toArray, List.set_cons_zero, List.set_cons_succ])
      refine wpAnyH_ready (rs := [9, 11]) (by kernel_rfl) (by simp) ?_
      refine AllReadyH.cons rfl (fun K hK => ?_) (AllReadyH.cons rfl (fun K hK => ?_) AllReadyH.nil)
      · go_simp
        refine hK.out _ _ ?_ (fun hHeld => ?_)
        · exact mkS_go hHeld (below_alloc _ _)
        have m19 := Lib.hid (m18.out.s9)
        obtain ⟨g19, hg19⟩ : ∃ g, Y18.heap.size = g := ⟨_, rfl⟩
        rw [hg19] at m19 ⊢
        generalize Y18.alloc (.cells #[.string path, .string x] 62) = Y19 at m19 hHeld ⊢
        clear hK K hg19 m18
        (try simp only [List.getElem_toArray, List.getElem_cons_succ, List.getElem_cons_zero, Act.put, List.setIfInBounds_toArray, List.set_cons_zero, List.set_cons_succ])
        refine wpAnyH_take (i := 10) (v := ?_) rfl (by kernel_rfl) (by kernel_rfl) (by kernel_rfl) (fun _ _ _ h => hP _ _ _ _ _ h) (Or.inl ⟨by rfl, ?_⟩) (by assumption) ?_
        rotate_left
        · (intro w hSw; (try dsimp only at hSw); go_simp; (try with_reducible rfl))
        (try simp only [List.getElem_toArray, List.getElem_cons_succ, List.getElem_cons_zero, Act.put, List.setIfInBounds_toArray, List.set_cons_zero, List.set_cons_succ])
        refine wpAnyH_ready (rs := [11]) (by kernel_rfl) (by simp) ?_
        refine AllReadyH.cons rfl (fun K hK => ?_) AllReadyH.nil
        · go_simp
          refine hK.out _ _ ?_ (fun hHeld => ?_)
          · exact mkS_go hHeld (below_alloc _ _)
          have m20 := Lib.hid (m19.out.sp)
          obtain ⟨g20, hg20⟩ : ∃ g, Y19.heap.size = g := ⟨_, rfl⟩
          rw [hg20] at m20 ⊢
          generalize Y19.alloc (.cells #[.string ⟨#[]⟩, .int .i64 0, .string ⟨#[]⟩, .string ⟨#[]⟩, .slice none 0 0, .slice none 0 0, .slice none 0 0, .slice none 0 0, .slice none 0 0, .slice none 0 0, .slice none 0 0, .slice none 0 0, .slice none 0 0] 67) = Y20 at m20 hHeld ⊢
          clear hK K hg20 m19
          (try simp only [List.getElem_toArray, List.getElem_cons_succ, List.getElem_cons_zero, Act.put, List.setIfInBounds_toArray, List.set_cons_zero, List.set_cons_succ])
          have kb := (m20.out.cp _ rfl).2
          have fz := kb.frozen
          obtain ⟨e0, e1, e2, e3, e4, e5, e6, e7, e8, e9, e10, e11, e12⟩ := pack_cells kb
          have kx := m20.out.store
          have KX := Lib.hid kx
          clear kb kx
          refine wpAnyH_ready (rs := [12]) (by kernel_rfl) (by simp) ?_
          refine AllReadyH.cons rfl (fun K hK => ?_) AllReadyH.nil
          go_simp
          refine hK.out _ _ ?_ (fun hHeld => ?_)
          · exact ⟨kept KX.out.b c0, KX.out.b⟩
          refine wpAnyH_done (by kernel_rfl) ?_ _
          exact HQ.out _ _ _ _ KX.out
      · go_simp
        refine hK.out _ _ ?_ (fun hHeld => ?_)
        · exact mkS_go hHeld (below_alloc _ _)
        have m21 := Lib.hid (m18.out.sp)
        obtain ⟨g21, hg21⟩ : ∃ g, Y18.heap.size = g := ⟨_, rfl⟩
        rw [hg21] at m21 ⊢
        generalize Y18.alloc (.cells #[.string ⟨#[]⟩, .int .i64 0, .string ⟨#[]⟩, .string ⟨#[]⟩, .slice none 0 0, .slice none 0 0, .slice none 0 0, .slice none 0 0, .slice none 0 0, .slice none 0 0, .slice none 0 0, .slice none 0 0, .slice none 0 0] 67) = Y21 at m21 hHeld ⊢
        clear hK K hg21 m18
        (try simp only [List.getElem_toArray, List.getElem_cons_succ, List.getElem_cons_zero, Act.put, List.setIfInBounds_toArray, List.set_cons_zero, List.set_cons_succ])
        refine wpAnyH_ready (rs := [9]) (by kernel_rfl) (by simp) ?_
        refine AllReadyH.cons rfl (fun K hK => ?_) AllReadyH.nil
        · go_simp
          refine hK.out _ _ ?_ (fun hHeld => ?_)
          · exact mkS_go hHeld (below_alloc _ _)
          have m22 := Lib.hid (m21.out.s9)
          obtain ⟨g22, hg22⟩ : ∃ g, Y21.heap.size = g := ⟨_, rfl⟩
          rw [hg22] at m22 ⊢
          generalize Y21.alloc (.cells #[.string path, .string x] 62) = Y22 at m22 hHeld ⊢
          clear hK K hg22 m21
          (try simp only [List.getElem_toArray, List.getElem_cons_succ, List.getElem_cons_zero, Act.put, List.setIfInBounds_toArray, List.set_cons_zero, List.set_cons_succ])
          refine wpAnyH_take (i := 10) (v := ?_) rfl (by kernel_rfl) (by kernel_rfl) (by kernel_rfl) (fun _ _ _ h => hP _ _ _ _ _ h) (Or.inl ⟨by rfl, ?_⟩) (by assumption) ?_
          rotate_left
          · (intro w hSw; (try dsimp only at hSw); go_simp; (try with_reducible rfl))
          (try simp only [List.getElem_toArray, List.getElem_cons_succ, List.getElem_cons_zero, Act.put, List.setIfInBounds_toArray, List.set_cons_zero, List.set_cons_succ])
          have kb := (m22.out.cp _ rfl).2
          have fz := kb.frozen
          obtain ⟨e0, e1, e2, e3, e4, e5, e6, e7, e8, e9, e10, e11, e12⟩ := pack_cells kb
          have kx := m22.out.store
          have KX := Lib.hid kx
          clear kb kx
          refine wpAnyH_ready (rs := [12]) (by kernel_rfl) (by simp) ?_
          refine AllReadyH.cons rfl (fun K hK => ?_) AllReadyH.nil
          go_simp
          refine hK.out _ _ ?_ (fun hHeld => ?_)
          · exact ⟨kept KX.out.b c0, KX.out.b⟩
          refine wpAnyH_done (by kernel_rfl) ?_ _
          exact HQ.out _ _ _ _ KX.out
    · go_simp
      refine hK.out _ _ ?_ (fun hHeld => ?_)
      · exact mkS_go hHeld (below_alloc _ _)
      have m23 := Lib.hid (m17.out.s9)
      obtain ⟨g23, hg23⟩ : ∃ g, Y17.heap.size = g := ⟨_, rfl⟩
      rw [hg23] at m23 ⊢
      generalize Y17.alloc (.cells #[.string path, .string x] 62) = Y23 at m23 hHeld ⊢
      clear hK K hg23 m17
      (try simp only [List.getElem_toArray, List.getElem_cons_succ, List.getElem_cons_zero, Act.put, List.setIfInBounds_toArray, List.set_cons_zero, List.set_cons_succ])
      refine wpAnyH_ready (rs := [0, 11]) (by kernel_rfl) (by simp) ?_
      refine AllReadyH.cons rfl (fun K hK => ?_) (AllReadyH.cons rfl (fun K hK => ?_) AllReadyH.nil)
      · go_simp
        go_at_call 27
        refine Calls.mono (RD.out _ m23.out.b) ?_
        rintro E Y24 ⟨rfl, hb24⟩
        (try go_wp2_with fail)
        refine hK.out _ _ ?_ (fun hHeld => ?_)
        · exact mkS_go hHeld hb24
        have m24 := Lib.hid (m23.out.step hb24)
        clear hK K hb24 m23
        (try simp only [List.getElem_toArray, List.getElem_cons_succ, List.getElem_cons_zero, Act.put, List.setIfInBounds_toArray, List.set_cons_zero, List.set_cons_succ])
        refine wpAnyH_take (i := 10) (v := ?_) rfl (by kernel_rfl) (by kernel_rfl) (by kernel_rfl) (fun _ _ _ h => hP _ _ _ _ _ h) (Or.inl ⟨by rfl, ?_⟩) (by assumption) ?_
        rotate_left
        · (intro w hSw; (try dsimp only at hSw); go_simp; (try with_reducible rfl))
        (try simp only [List.getElem_toArray, List.getElem_cons_succ, List.getElem_cons_zero, Act.put, List.setIfInBounds_toArray, List.set_cons_zero, List.set_cons_succ])
        refine wpAnyH_ready (rs := [11]) (by kernel_rfl) (by simp) ?_
        refine AllReadyH.cons rfl (fun K hK => ?_) AllReadyH.nil
        · go_simp
          refine hK.out _ _ ?_ (fun hHeld => ?_)
          · exact mkS_go hHeld (below_alloc _ _)
          have m25 := Lib.hid (m24.out.sp)
          obtain ⟨g25, hg25⟩ : ∃ g, Y24.heap.size = g := ⟨_, rfl⟩
          rw [hg25] at m25 ⊢
          generalize Y24.alloc (.cells #[.string ⟨#[]⟩, .int .i64 0, .string ⟨#[]⟩, .string ⟨#[]⟩, .slice none 0 0, .slice none 0 0, .slice none 0 0, .slice none 0 0, .slice none 0 0, .slice none 0 0, .slice none 0 0, .slice none 0 0, .slice none 0 0] 67) = Y25 at m25 hHeld ⊢
          clear hK K hg25 m24
          (try simp only [List.getElem_toArray, List.getElem_cons_succ, List.getElem_cons_zero, Act.put, List.setIfInBounds_toArray, List.set_cons_zero, List.set_cons_succ])
          have kb := (m25.out.cp _ rfl).2
          have fz := kb.frozen
          obtain ⟨e0, e1, e2, e3, e4, e5, e6, e7, e8, e9, e10, e11, e12⟩ := pack_cells kb
          have kx := m25.out.store
          have KX := Lib.hid kx
          clear kb kx
          refine wpAnyH_ready (rs := [12]) (by kernel_rfl) (by simp) ?_
          refine AllReadyH.cons rfl (fun K hK => ?_) AllReadyH.nil
          go_simp
          refine hK.out _ _ ?_ (fun hHeld => ?_)
          · exact ⟨kept KX.out.b c0, KX.out.b⟩
          refine wpAnyH_done (by kernel_rfl) ?_ _
          exact HQ.out _ _ _ _ KX.out
      · go_simp
        refine hK.out _ _ ?_ (fun hHeld => ?_)
        · exact mkS_go hHeld (below_alloc _ _)
        have m26 := Lib.hid (m23.out.sp)
        obtain ⟨g26, hg26⟩ : ∃ g, Y23.heap.size = g := ⟨_, rfl⟩
        rw [hg26] at m26 ⊢
        generalize Y23.alloc (.cells #[.string ⟨#[]⟩, .int .i64 0, .string ⟨#[]⟩, .string ⟨#[]⟩, .slice none 0 0, .slice none 0 0, .slice none 0 0, .slice none 0 0, .slice none 0 0, .slice none 0 0, .slice none 0 0, .slice none 0 0, .slice none 0 0] 67) = Y26 at m26 hHeld ⊢
        clear hK K hg26 m23
        (try simp only [List.getElem_toArray, List.getElem_cons_succ, List.getElem_cons_zero, Act.put, List.setIfInBounds_toArray, List.set_cons_zero, List.set_cons_succ])
        refine wpAnyH_ready (rs := [0]) (by kernel_rfl) (by simp) ?_
        refine AllReadyH.cons rfl (fun K hK => ?_) AllReadyH.nil
        · go_simp
          go_at_call 27
          refine Calls.mono (RD.out _ m26.out.b) ?_
          rintro E Y27 ⟨rfl, hb27⟩
          (try go_wp2_with fail)
          refine hK.out _ _ ?_ (fun hHeld => ?_)
          · exact mkS_go hHeld hb27
          have m27 := Lib.hid (m26.out.step hb27)
          clear hK K hb27 m26
          (try simp only [List.getElem_toArray, List.getElem_cons_succ, List.getElem_cons_zero, Act.put, List.setIfInBounds_toArray, List.set_cons_zero, List.set_cons_succ])
          refine wpAnyH_take (i := 10) (v := ?_) rfl (by kernel_rfl) (by kernel_rfl) (by kernel_rfl) (fun _ _ _ h => hP _ _ _ _ _ h) (Or.inl ⟨by rfl, ?_⟩) (by assumption) ?_
          rotate_left
          · (intro w hSw; (try dsimp only at hSw); go_simp; (try with_reducible rfl))
          (try simp only [List.getElem_toArray, List.getElem_cons_succ, List.getElem_cons_zero, Act.put, List.setIfInBounds_toArray, List.set_cons_zero, List.set_cons_succ])
          have kb := (m27.out.cp _ rfl).2
          have fz := kb.frozen
          obtain ⟨e0, e1, e2, e3, e4, e5, e6, e7, e8, e9, e10, e11, e12⟩ := pack_cells kb
          have kx := m27.out.store
          have KX := Lib.hid kx
          clear kb kx
          refine wpAnyH_ready (rs := [12]) (by kernel_rfl) (by simp) ?_
          refine AllReadyH.cons rfl (fun K hK => ?_) AllReadyH.nil
          go_simp
          refine hK.out _ _ ?_ (fun hHeld => ?_)
          · exact ⟨kept KX.out.b c0, KX.out.b⟩
          refine wpAnyH_done (by kernel_rfl) ?_ _
          exact HQ.out _ _ _ _ KX.out
    · go_simp
      refine hK.out _ _ ?_ (fun hHeld => ?_)
      · exact mkS_go hHeld (below_alloc _ _)
      have m28 := Lib.hid (m17.out.sp)
      obtain ⟨g28, hg28⟩ : ∃ g, Y17.heap.size = g := ⟨_, rfl⟩
      rw [hg28] at m28 ⊢
      generalize Y17.alloc (.cells #[.string ⟨#[]⟩, .int .i64 0, .string ⟨#[]⟩, .string ⟨#[]⟩, .slice none 0 0, .slice none 0 0, .slice none 0 0, .slice none 0 0, .slice none 0 0, .slice none 0 0, .slice none 0 0, .slice none 0 0, .slice none 0 0] 67) = Y28 at m28 hHeld ⊢
      clear hK K hg28 m17
      (try simp only [List.getElem_toArray, List.getElem_cons_succ, List.getElem_cons_zero, Act.put, List.setIfInBounds_toArray, List.set_cons_zero, List.set_cons_succ])
      refine wpAnyH_ready (rs := [0, 9]) (by kernel_rfl) (by simp) ?_
      refine AllReadyH.cons rfl (fun K hK => ?_) (AllReadyH.cons rfl (fun K hK => ?_) AllReadyH.nil)
      · go_simp
        go_at_call 27
        refine Calls.mono (RD.out _ m28.out.b) ?_
        rintro E Y29 ⟨rfl, hb29⟩
        (try go_wp2_with fail)
        refine hK.out _ _ ?_ (fun hHeld => ?_)
        · exact mkS_go hHeld hb29
        have m29 := Lib.hid (m28.out.step hb29)
        clear hK K hb29 m28
        (try simp only [List.getElem_toArray, List.getElem_cons_succ, List.getElem_cons_zero, Act.put, List.setIfInBounds_toArray, List.set_cons_zero, List.set_cons_succ])
        refine wpAnyH_ready (rs := [9]) (by kernel_rfl) (by simp) ?_
        refine AllReadyH.cons rfl (fun K hK => ?_) AllReadyH.nil
        · go_simp
          refine hK.out _ _ ?_ (fun hHeld => ?_)
          · exact mkS_go hHeld (below_alloc _ _)
          have m30 := Lib.hid (m29.out.s9)
          obtain ⟨g30, hg30⟩ : ∃ g, Y29.heap.size = g := ⟨_, rfl⟩
          rw [hg30] at m30 ⊢
          generalize Y29.alloc (.cells #[.string path, .string x] 62) = Y30 at m30 hHeld ⊢
          clear hK K hg30 m29
          (try simp only [List.getElem_toArray, List.getElem_cons_succ, List.getElem_cons_zero, Act.put, List.setIfInBounds_toArray, List.set_cons_zero, List.set_cons_succ])
          refine wpAnyH_take (i := 10) (v := ?_) rfl (by kernel_rfl) (by kernel_rfl) (by kernel_rfl) (fun _ _ _ h => hP _ _ _ _ _ h) (Or.inl ⟨by rfl, ?_⟩) (by assumption) ?_
          rotate_left
          · (intro w hSw; (try dsimp only at hSw); go_simp; (try with_reducible rfl))
          (try simp only [List.getElem_toArray, List.getElem_cons_succ, List.getElem_cons_zero, Act.put, List.setIfInBounds_toArray, List.set_cons_zero, List.set_cons_succ])
          have kb := (m30.out.cp _ rfl).2
          have fz := kb.frozen
          obtain ⟨e0, e1, e2, e3, e4, e5, e6, e7, e8, e9, e10, e11, e12⟩ := pack_cells kb
          have kx := m30.out.store
          have KX := Lib.hid kx
          clear kb kx
          refine wpAnyH_ready (rs := [12]) (by kernel_rfl) (by simp) ?_
          refine AllReadyH.cons rfl (fun K hK => ?_) AllReadyH.nil
          go_simp
          refine hK.out _ _ ?_ (fun hHeld => ?_)
          · exact ⟨kept KX.out.b c0, KX.out.b⟩
          refine wpAnyH_done (by kernel_rfl) ?_ _
          exact HQ.out _ _ _ _ KX.out
      · go_simp
        refine hK.out _ _ ?_ (fun hHeld => ?_)
        · exact mkS_go hHeld (below_alloc _ _)
        have m31 := Lib.hid (m28.out.s9)
        obtain ⟨g31, hg31⟩ : ∃ g, Y28.heap.size = g := ⟨_, rfl⟩
        rw [hg31] at m31 ⊢
        generalize Y28.alloc (.cells #[.string path, .string x] 62) = Y31 at m31 hHeld ⊢
        clear hK K hg31 m28
        (try simp only [List.getElem_toArray, List.getElem_cons_succ, List.getElem_cons_zero, Act.put, List.setIfInBounds_toArray, List.set_cons_zero, List.set_cons_succ])
        refine wpAnyH_ready (rs := [0]) (by kernel_rfl) (by simp) ?_
        refine AllReadyH.cons rfl (fun K hK => ?_) AllReadyH.nil
        · go_simp
          go_at_call 27
          refine Calls.mono (RD.out _ m31.out.b) ?_
          rintro E Y32 ⟨rfl, hb32⟩
          (try go_wp2_with fail)
          refine hK.out _ _ ?_ (fun hHeld => ?_)
          · exact mkS_go hHeld hb32
          have m32 := Lib.hid (m31.out.step hb32)
          clear hK K hb32 m31
          (try simp only [List.getElem_toArray, List.getElem_cons_succ, List.getElem_cons_zero, Act.put, List.setIfInBounds_toArray, List.set_cons_zero, List.set_cons_succ])
          refine wpAnyH_take (i := 10) (v := ?_) rfl (by kernel_rfl) (by kernel_rfl) (by kernel_rfl) (fun _ _ _ h => hP _ _ _ _ _ h) (Or.inl ⟨by rfl, ?_⟩) (by assumption) ?_
          rotate_left
          · (intro w hSw; (try dsimp only at hSw); go_simp; (try with_reducible rfl))
          (try simp only [List.getElem_toArray, List.getElem_cons_succ, List.getElem_cons_zero, Act.put, List.setIfInBounds_toArray, List.set_cons_zero, List.set_cons_succ])
          have kb := (m32.out.cp _ rfl).2
          have fz := kb.frozen
          obtain ⟨e0, e1, e2, e3, e4, e5, e6, e7, e8, e9, e10, e11, e12⟩ := pack_cells kb
          have kx := m32.out.store
          have KX := Lib.hid kx
          clear kb kx
          refine wpAnyH_ready (rs := [12]) (by kernel_rfl) (by simp) ?_
          refine AllReadyH.cons rfl (fun K hK => ?_) AllReadyH.nil
          go_simp
          refine hK.out _ _ ?_ (fun hHeld => ?_)
          · exact ⟨kept KX.out.b c0, KX.out.b⟩
          refine wpAnyH_done (by kernel_rfl) ?_ _
          exact HQ.out _ _ _ _ KX.out
  · go_simp
    refine hK.out _ _ ?_ (fun hHeld => ?_)
    · exact mkS_go hHeld (below_alloc _ _)
    have m33 := Lib.hid (m0.out.s9)
    obtain ⟨g33, hg33⟩ : ∃ g, Y0.heap.size = g := ⟨_, rfl⟩
    rw [hg33] at m33 ⊢
    generalize Y0.alloc (.cells #[.string path, .string x] 62) = Y33 at m33 hHeld ⊢
    clear hK K hg33 m0
    (try simp only [List.getElem_toArray, List.getElem_cons_succ, List.getElem_cons_zero, Act.put, List.setIfInBounds_toArray, List.set_cons_zero, List.set_cons_succ])
    refine wpAnyH_ready (rs := [0, 2, 11]) (by kernel_rfl) (by simp) ?_
    refine AllReadyH.cons rfl (fun K hK => ?_) (AllReadyH.cons rfl (fun K hK => ?_) (AllReadyH.cons rfl (fun K hK => ?_) AllReadyH.nil))
    · go_simp
      go_at_call 27
      refine Calls.mono (RD.out _ m33.out.b) ?_
      rintro E Y34 ⟨rfl, hb34⟩
      (try go_wp2_with fail)
      refine hK.out _ _ ?_ (fun hHeld => ?_)
      · exact mkS_go hHeld hb34
      have m34 := Lib.hid (m33.out.step hb34)
      clear hK K hb34 m33
      (try simp only [List.getElem_toArray, List.getElem_cons_succ, List.getElem_cons_zero, Act.put, List.setIfInBounds_toArray, List.set_cons_zero, List.set_cons_succ])
      refine wpAnyH_ready (rs := [2, 11]) (by kernel_rfl) (by simp) ?_
      refine AllReadyH.cons rfl (fun K hK => ?_) (AllReadyH.cons rfl (fun K hK => ?_) AllReadyH.nil)
      · go_simp
        refine hK.out _ _ ?_ (fun hHeld => ?_)
        · exact mkS_go hHeld (below_alloc _ _)
        have m35 := Lib.hid (m34.out.s7)
        obtain ⟨g35, hg35⟩ : ∃ g, Y34.heap.size = g := ⟨_, rfl⟩
        rw [hg35] at m35 ⊢
        generalize Y34.alloc (.cells #[.string path] 9) = Y35 at m35 hHeld ⊢
        clear hK K hg35 m34
        (try simp only [List.getElem_toArray, List.getElem_cons_succ, List.getElem_cons_zero, Act.put, List.setIfInBounds_toArray, List.set_cons_zero, List.set_cons_succ])
        refine wpAnyH_take (i := 10) (v := ?_) rfl (by kernel_rfl) (by kernel_rfl) (by kernel_rfl) (fun _ _ _ h => hP _ _ _ _ _ h) (Or.inl ⟨by rfl, ?_⟩) (by assumption) ?_
        rotate_left
        · (intro w hSw; (try dsimp only at hSw); go_simp; (try with_reducible rfl))
        (try simp only [List.getElem_toArray, List.getElem_cons_succ, List.getElem_cons_zero, Act.put, List.setIfInBounds_toArray, List.set_cons_zero, List.set_cons_succ])
        refine wpAnyH_ready (rs := [11]) (by kernel_rfl) (by simp) ?_
        refine AllReadyH.cons rfl (fun K hK => ?_) AllReadyH.nil
        · go_simp
          refine hK.out _ _ ?_ (fun hHeld => ?_)
          · exact mkS_go hHeld (below_alloc _ _)
          have m36 := Lib.hid (m35.out.sp)
          obtain ⟨g36, hg36⟩ : ∃ g, Y35.heap.size = g := ⟨_, rfl⟩
          rw [hg36] at m36 ⊢
          generalize Y35.alloc (.cells #[.string ⟨#[]⟩, .int .i64 0, .string ⟨#[]⟩, .string ⟨#[]⟩, .slice none 0 0, .slice none 0 0, .slice none 0 0, .slice none 0 0, .slice none 0 0, .slice none 0 0, .slice none 0 0, .slice none 0 0, .slice none 0 0] 67) = Y36 at m36 hHeld ⊢
          clear hK K hg36 m35
          (try simp only [List.getElem_toArray, List.getElem_cons_succ, List.getElem_cons_zero, Act.put, List.setIfInBounds_toArray, List.set_cons_zero, List.set_cons_succ])
          have kb := (m36.out.cp _ rfl).2
          have fz := kb.frozen
          obtain ⟨e0, e1, e2, e3, e4, e5, e6, e7, e8, e9, e10, e11, e12⟩ := pack_cells kb
          have kx := m36.out.store
          have KX := Lib.hid kx
          clear kb kx
          refine wpAnyH_ready (rs := [12]) (by kernel_rfl) (by simp) ?_
          refine AllReadyH.cons rfl (fun K hK => ?_) AllReadyH.nil
          go_simp
          refine hK.out _ _ ?_ (fun hHeld => ?_)
          · exact ⟨kept KX.out.b c0, KX.out.b⟩
          refine wpAnyH_done (by kernel_rfl) ?_ _
          exact HQ.out _ _ _ _ KX.out
      · go_simp
        refine hK.out _ _ ?_ (fun hHeld => ?_)
        · exact mkS_go hHeld (below_alloc _ _)
        have m37 := Lib.hid (m34.out.sp)
        obtain ⟨g37, hg37⟩ : ∃ g, Y34.heap.size = g := ⟨_, rfl⟩
        rw [hg37] at m37 ⊢
        generalize Y34.alloc (.cells #[.string ⟨#[]⟩, .int .i64 0, .string ⟨#[]⟩, .string ⟨#[]⟩, .slice none 0 0, .slice none 0 0, .slice none 0 0, .slice none 0 0, .slice none 0 0, .slice none 0 0, .slice none 0 0, .slice none 0 0, .slice none 0 0] 67) = Y37 at m37 hHeld ⊢
        clear hK K hg37 m34
        (try simp only [List.getElem_toArray, List.getElem_cons_succ, List.getElem_cons_zero, Act.put, List.setIfInBounds_toArray, List.set_cons_zero, List.set_cons_succ])
        refine wpAnyH_ready (rs := [2]) (by kernel_rfl) (by simp) ?_
        refine AllReadyH.cons rfl (fun K hK => ?_) AllReadyH.nil
        · go_simp
          refine hK.out _ _ ?_ (fun hHeld => ?_)
          · exact mkS_go hHeld (below_alloc _ _)
          have m38 := Lib.hid (m37.out.s7)
          obtain ⟨g38, hg38⟩ : ∃ g, Y37.heap.size = g := ⟨_, rfl⟩
          rw [hg38] at m38 ⊢
          generalize Y37.alloc (.cells #[.string path] 9) = Y38 at m38 hHeld ⊢
          clear hK K hg38 m37
          (try simp only [List.getElem_toArray, List.getElem_cons_succ, List.getElem_cons_zero, Act.put, List.setIfInBounds_toArray, List.set_cons_zero, List.set_cons_succ])
          refine wpAnyH_take (i := 10) (v := ?_) rfl (by kernel_rfl) (by kernel_rfl) (by kernel_rfl) (fun _ _ _ h => hP _ _ _ _ _ h) (Or.inl ⟨by rfl, ?_⟩) (by assumption) ?_
          rotate_left
          · (intro w hSw; (try dsimp only at hSw); go_simp; (try with_reducible rfl))
          (try simp only [List.getElem_toArray, List.getElem_cons_succ, List.getElem_cons_zero, Act.put, List.setIfInBounds_toArray, List.set_cons_zero, List.set_cons_succ])
          have kb := (m38.out.cp _ rfl).2
          have fz := kb.frozen
          obtain ⟨e0, e1, e2, e3, e4, e5, e6, e7, e8, e9, e10, e11, e12⟩ := pack_cells kb
          have kx := m38.out.store
          have KX := Lib.hid kx
          clear kb kx
          refine wpAnyH_ready (rs := [12]) (by kernel_rfl) (by simp) ?_
          refine AllReadyH.cons rfl (fun K hK => ?_) AllReadyH.nil
          go_simp
          refine hK.out _ _ ?_ (fun hHeld => ?_)
          · exact ⟨kept KX.out.b c0, KX.out.b⟩
          refine wpAnyH_done (by kernel_rfl) ?_ _
          exact HQ.out _ _ _ _ KX.out
    · go_simp
      refine hK.out _ _ ?_ (fun hHeld => ?_)
      · exact mkS_go hHeld (below_alloc _ _)
      have m39 := Lib.hid (m33.out.s7)
      obtain ⟨g39, hg39⟩ : ∃ g, Y33.heap.size = g := ⟨_, rfl⟩
      rw [hg39] at m39 ⊢
      generalize Y33.alloc (.cells #[.string path] 9) = Y39 at m39 hHeld ⊢
      clear hK K hg39 m33
      (try simp only [List.getElem_toArray, List.getElem_cons_succ, List.getElem_cons_zero, Act.put, List.setIfInBounds_toArray, List.set_cons_zero, List.set_cons_succ])
      refine wpAnyH_ready (rs := [0, 11]) (by kernel_rfl) (by simp) ?_
      refine AllReadyH.cons rfl (fun K hK => ?_) (AllReadyH.cons rfl (fun K hK => ?_) AllReadyH.nil)
      · go_simp
        go_at_call 27
        refine Calls.mono (RD.out _ m39.out.b) ?_
        rintro E Y40 ⟨rfl, hb40⟩
        (try go_wp2_with fail)
        refine hK.out _ _ ?_ (fun hHeld => ?_)
        · exact mkS_go hHeld hb40
        have m40 := Lib.hid (m39.out.step hb40)
        clear hK K hb40 m39
        (try simp only [List.getElem_toArray, List.getElem_cons_succ, List.getElem_cons_zero, Act.put, List.setIfInBounds_toArray, List.set_cons_zero, List.set_cons_succ])
        refine wpAnyH_take (i := 10) (v := ?_) rfl (by kernel_rfl) (by kernel_rfl) (by kernel_rfl) (fun _ _ _ h => hP _ _ _ _ _ h) (Or.inl ⟨by rfl, ?_⟩) (by assumption) ?_
        rotate_left
        · (intro w hSw; (try dsimp only at hSw); go_simp; (try with_reducible rfl))
        (try simp only [List.getElem_toArray, List.getElem_cons_succ, List.getElem_cons_zero, Act.put, List.setIfInBounds_toArray, List.set_cons_zero, List.set_cons_succ])
        refine wpAnyH_ready (rs := [11]) (by kernel_rfl) (by simp) ?_
        refine AllReadyH.cons rfl (fun K hK => ?_) AllReadyH.nil
        · go_simp
          refine hK.out _ _ ?_ (fun hHeld => ?_)
          · exact mkS_go hHeld (below_alloc _ _)
          have m41 := Lib.hid (m40.out.sp)
          obtain ⟨g41, hg41⟩ : ∃ g, Y40.heap.size = g := ⟨_, rfl⟩
          rw [hg41] at m41 ⊢
          generalize Y40.alloc (.cells #[.string ⟨#[]⟩, .int .i64 0, .string ⟨#[]⟩, .string ⟨#[]⟩, .slice none 0 0, .slice none 0 0, .slice none 0 0, .slice none 0 0, .slice none 0 0, .slice none 0 0, .slice none 0 0, .slice none 0 0, .slice none 0 0] 67) = Y41 at m41 hHeld ⊢
          clear hK K hg41 m40
          (try simp only [List.getElem_toArray, List.getElem_cons_succ, List.getElem_cons_zero, Act.put, List.setIfInBounds_toArray, List.set_cons_zero, List.set_cons_succ])
          have kb := (m41.out.cp _ rfl).2
          have fz := kb.frozen
          obtain ⟨e0, e1, e2, e3, e4, e5, e6, e7, e8, e9, e10, e11, e12⟩ := pack_cells kb
          have kx := m41.out.store
          have KX := Lib.hid kx
          clear kb kx
          refine wpAnyH_ready (rs := [12]) (by kernel_rfl) (by simp) ?_
          refine AllReadyH.cons rfl (fun K hK => ?_) AllReadyH.nil
          go_simp
          refine hK.out _ _ ?_ (fun hHeld => ?_)
          · exact ⟨kept KX.out.b c0, KX.out.b⟩
          refine wpAnyH_done (by kernel_rfl) ?_ _
          exact HQ.out _ _ _ _ KX.out
      · go_simp
        refine hK.out _ _ ?_ (fun hHeld => ?_)
        · exact mkS_go hHeld (below_alloc _ _)
        have m42 := Lib.hid (m39.out.sp)
        obtain ⟨g42, hg42⟩ : ∃ g, Y39.heap.size = g := ⟨_, rfl⟩
        rw [hg42] at m42 ⊢
        generalize Y39.alloc (.cells #[.string ⟨#[]⟩, .int .i64 0, .string ⟨#[]⟩, .string ⟨#[]⟩, .slice none 0 0, .slice none 0 0, .slice none 0 0, .slice none 0 0, .slice none 0 0, .slice none 0 0, .slice none 0 0, .slice none 0 0, .slice none 0 0] 67) = Y42 at m42 hHeld ⊢
        clear hK K hg42 m39
        (try simp only [List.getElem_toArray, List.getElem_cons_succ, List.getElem_cons_zero, Act.put, List.setIfInBounds_toArray, List.set_cons_zero, List.set_cons_succ])
        refine wpAnyH_ready (rs := [0]) (by kernel_rfl) (by simp) ?_
        refine AllReadyH.cons rfl (fun K hK => ?_) AllReadyH.nil
        · go_simp
          go_at_call 27
          refine Calls.mono (RD.out _ m42.out.b) ?_
          rintro E Y43 ⟨rfl, hb43⟩
          (try go_wp2_with fail)
          refine hK.out _ _ ?_ (fun hHeld => ?_)
          · exact mkS_go hHeld hb43
          have m43 := Lib.hid (m42.out.step hb43)
          clear hK K hb43 m42
          (try simp only [List.getElem_toArray, List.getElem_cons_succ, List.getElem_cons_zero, Act.put, List.setIfInBounds_toArray, List.set_cons_zero, List.set_cons_succ])
          refine wpAnyH_take (i := 10) (v := ?_) rfl (by kernel_rfl) (by kernel_rfl) (by kernel_rfl) (fun _ _ _ h => hP _ _ _ _ _ h) (Or.inl ⟨by rfl, ?_⟩) (by assumption) ?_
          rotate_left
          · (intro w hSw; (try dsimp only at hSw); go_simp; (try with_reducible rfl))
          (try simp only [List.getElem_toArray, List.getElem_cons_succ, List.getElem_cons_zero, Act.put, List.setIfInBounds_toArray, List.set_cons_zero, List.set_cons_succ])
          have kb := (m43.out.cp _ rfl).2
          have fz := kb.frozen
          obtain ⟨e0, e1, e2, e3, e4, e5, e6, e7, e8, e9, e10, e11, e12⟩ := pack_cells kb
          have kx := m43.out.store
          have KX := Lib.hid kx
          clear kb kx
          refine wpAnyH_ready (rs := [12]) (by kernel_rfl) (by simp) ?_
          refine AllReadyH.cons rfl (fun K hK => ?_) AllReadyH.nil
          go_simp
          refine hK.out _ _ ?_ (fun hHeld => ?_)
          · exact ⟨kept KX.out.b c0, KX.out.b⟩
          refine wpAnyH_done (by kernel_rfl) ?_ _
          exact HQ.out _ _ _ _ KX.out
    · go_simp
      refine hK.out _ _ ?_ (fun hHeld => ?_)
      · exact mkS_go hHeld (below_alloc _ _)
      have m44 := Lib.hid (m33.out.sp)
      obtain ⟨g44, hg44⟩ : ∃ g, Y33.heap.size = g := ⟨_, rfl⟩
      rw [hg44] at m44 ⊢
      generalize Y33.alloc (.cells #[.string ⟨#[]⟩, .int .i64 0, .string ⟨#[]⟩, .string ⟨#[]⟩, .slice none 0 0, .slice none 0 0, .slice none 0 0, .slice none 0 0, .slice none 0 0, .slice none 0 0, .slice none 0 0, .slice none 0 0, .slice none 0 0] 67) = Y44 at m44 hHeld ⊢
      clear hK K hg44 m33
      (try simp only [List.getElem_toArray, List.getElem_cons_succ, List.getElem_cons_zero, Act.put, List.setIfInBounds_toArray, List.set_cons_zero, List.set_cons_succ])
      refine wpAnyH_ready (rs := [0, 2]) (by kernel_rfl) (by simp) ?_
      refine AllReadyH.cons rfl (fun K hK => ?_) (AllReadyH.cons rfl (fun K hK => ?_) AllReadyH.nil)
      · go_simp
        go_at_call 27
        refine Calls.mono (RD.out _ m44.out.b) ?_
        rintro E Y45 ⟨rfl, hb45⟩
        (try go_wp2_with fail)
        refine hK.out _ _ ?_ (fun hHeld => ?_)
        · exact mkS_go hHeld hb45
        have m45 := Lib.hid (m44.out.step hb45)
        clear hK K hb45 m44
        (try simp only [List.getElem_toArray, List.getElem_cons_succ, List.getElem_cons_zero, Act.put, List.setIfInBounds_toArray, List.set_cons_zero, List.set_cons_succ])
        refine wpAnyH_ready (rs := [2]) (by kernel_rfl) (by simp) ?_
        refine AllReadyH.cons rfl (fun K hK => ?_) AllReadyH.nil
        · go_simp
          refine hK.out _ _ ?_ (fun hHeld => ?_)
          · exact mkS_go hHeld (below_alloc _ _)
          have m46 := Lib.hid (m45.out.s7)
          obtain ⟨g46, hg46⟩ : ∃ g, Y45.heap.size = g := ⟨_, rfl⟩
          rw [hg46] at m46 ⊢
          generalize Y45.alloc (.cells #[.string path] 9) = Y46 at m46 hHeld ⊢
          clear hK K hg46 m45
          (try simp only [List.getElem_toArray, List.getElem_cons_succ, List.getElem_cons_zero, Act.put, List.setIfInBounds_toArray, List.set_cons_zero, List.set_cons_succ])
          refine wpAnyH_take (i := 10) (v := ?_) rfl (by kernel_rfl) (by kernel_rfl) (by kernel_rfl) (fun _ _ _ h => hP _ _ _ _ _ h) (Or.inl ⟨by rfl, ?_⟩) (by assumption) ?_
          rotate_left
          · (intro w hSw; (try dsimp only at hSw); go_simp; (try with_reducible rfl))
          (try simp only [List.getElem_toArray, List.getElem_cons_succ, List.getElem_cons_zero, Act.put, List.setIfInBounds_toArray, List.set_cons_zero, List.set_cons_succ])
          have kb := (m46.out.cp _ rfl).2
          have fz := kb.frozen
          obtain ⟨e0, e1, e2, e3, e4, e5, e6, e7, e8, e9, e10, e11, e12⟩ := pack_cells kb
          have kx := m46.out.store
          have KX := Lib.hid kx
          clear kb kx
          refine wpAnyH_ready (rs := [12]) (by kernel_rfl) (by simp) ?_
          refine AllReadyH.cons rfl (fun K hK => ?_) AllReadyH.nil
          go_simp
          refine hK.out _ _ ?_ (fun hHeld => ?_)
          · exact ⟨kept KX.out.b c0, KX.out.b⟩
          refine wpAnyH_done (by kernel_rfl) ?_ _
          exact HQ.out _ _ _ _ KX.out
      · go_simp
        refine hK.out _ _ ?_ (fun hHeld => ?_)
        · exact mkS_go hHeld (below_alloc _ _)
        have m47 := Lib.hid (m44.out.s7)
        obtain ⟨g47, hg47⟩ : ∃ g, Y44.heap.size = g := ⟨_, rfl⟩
        rw [hg47] at m47 ⊢
        generalize Y44.alloc (.cells #[.string path] 9) = Y47 at m47 hHeld ⊢
        clear hK K hg47 m44
        (try simp only [List.getElem_toArray, List.getElem_cons_succ, List.getElem_cons_zero, Act.put, List.setIfInBounds_toArray, List.set_cons_zero, List.set_cons_succ])
        refine wpAnyH_ready (rs := [0]) (by kernel_rfl) (by simp) ?_
        refine AllReadyH.cons rfl (fun K hK => ?_) AllReadyH.nil
        · go_simp
          go_at_call 27
          refine Calls.mono (RD.out _ m47.out.b) ?_
          rintro E Y48 ⟨rfl, hb48⟩
          (try go_wp2_with fail)
          refine hK.out _ _ ?_ (fun hHeld => ?_)
          · exact mkS_go hHeld hb48
          have m48 := Lib.hid (m47.out.step hb48)
          clear hK K hb48 m47
          (try simp only [List.getElem_toArray, List.getElem_cons_succ, List.getElem_cons_zero, Act.put, List.setIfInBounds_toArray, List.set_cons_zero, List.set_cons_succ])
          refine wpAnyH_take (i := 10) (v := ?_) rfl (by kernel_rfl) (by kernel_rfl) (by kernel_rfl) (fun _ _ _ h => hP _ _ _ _ _ h) (Or.inl ⟨by rfl, ?_⟩) (by assumption) ?_
          rotate_left
          · (intro w hSw; (try dsimp only at hSw); go_simp; (try with_reducible rfl))
          (try simp only [List.getElem_toArray, List.getElem_cons_succ, List.getElem_cons_zero, Act.put, List.setIfInBounds_toArray, List.set_cons_zero, List.set_cons_succ])
          have kb := (m48.out.cp _ rfl).2
          have fz := kb.frozen
          obtain ⟨e0, e1, e2, e3, e4, e5, e6, e7, e8, e9, e10, e11, e12⟩ := pack_cells kb
          have kx := m48.out.store
          have KX := Lib.hid kx
          clear kb kx
          refine wpAnyH_ready (rs := [12]) (by kernel_rfl) (by simp) ?_
          refine AllReadyH.cons rfl (fun K hK => ?_) AllReadyH.nil
          go_simp
          refine hK.out _ _ ?_ (fun hHeld => ?_)
          · exact ⟨kept KX.out.b c0, KX.out.b⟩
          refine wpAnyH_done (by kernel_rfl) ?_ _
          exact HQ.out _ _ _ _ KX.out
  · go_simp
    refine hK.out _ _ ?_ (fun hHeld => ?_)
    · exact mkS_go hHeld (below_alloc _ _)
    have m49 := Lib.hid (m0.out.sp)
    obtain ⟨g49, hg49⟩ : ∃ g, Y0.heap.size = g := ⟨_, rfl⟩
    rw [hg49] at m49 ⊢
    generalize Y0.alloc (.cells #[.string ⟨#[]⟩, .int .i64 0, .string ⟨#[]⟩, .string ⟨#[]⟩, .slice none 0 0, .slice none 0 0, .slice none 0 0, .slice none 0 0, .slice none 0 0, .slice none 0 0, .slice none 0 0, .slice none 0 0, .slice none 0 0] 67) = Y49 at m49 hHeld ⊢
    clear hK K hg49 m0
    (try simp only [List.getElem_toArray, List.getElem_cons_succ, List.getElem_cons_zero, Act.put, List.setIfInBounds_toArray, List.set_cons_zero, List.set_cons_succ])
    refine wpAnyH_ready (rs := [0, 2, 9]) (by kernel_rfl) (by simp) ?_
    refine AllReadyH.cons rfl (fun K hK => ?_) (AllReadyH.cons rfl (fun K hK => ?_) (AllReadyH.cons rfl (fun K hK => ?_) AllReadyH.nil))
    · go_simp
      go_at_call 27
      refine Calls.mono (RD.out _ m49.out.b) ?_
      rintro E Y50 ⟨rfl, hb50⟩
      (try go_wp2_with fail)
      refine hK.out _ _ ?_ (fun hHeld => ?_)
      · exact mkS_go hHeld hb50
      have m50 := Lib.hid (m49.out.step hb50)
      clear hK K hb50 m49
      (try simp only [List.getElem_toArray, List.getElem_cons_succ, List.getElem_cons_zero, Act.put, List.setIfInBounds_toArray, List.set_cons_zero, List.set_cons_succ])
      refine wpAnyH_ready (rs := [2, 9]) (by kernel_rfl) (by simp) ?_
      refine AllReadyH.cons rfl (fun K hK => ?_) (AllReadyH.cons rfl (fun K hK => ?_) AllReadyH.nil)
      · go_simp
        refine hK.out _ _ ?_ (fun hHeld => ?_)
        · exact mkS_go hHeld (below_alloc _ _)
        have m51 := Lib.hid (m50.out.s7)
        obtain ⟨g51, hg51⟩ : ∃ g, Y50.heap.size = g := ⟨_, rfl⟩
        rw [hg51] at m51 ⊢
        generalize Y50.alloc (.cells #[.string path] 9) = Y51 at m51 hHeld ⊢
        clear hK K hg51 m50
        (try simp only [List.getElem_toArray, List.getElem_cons_succ, List.getElem_cons_zero, Act.put, List.setIfInBounds_toArray, List.set_cons_zero, List.set_cons_succ])
        refine wpAnyH_ready (rs := [9]) (by kernel_rfl) (by simp) ?_
        refine AllReadyH.cons rfl (fun K hK => ?_) AllReadyH.nil
        · go_simp
          refine hK.out _ _ ?_ (fun hHeld => ?_)
          · exact mkS_go hHeld (below_alloc _ _)
          have m52 := Lib.hid (m51.out.s9)
          obtain ⟨g52, hg52⟩ : ∃ g, Y51.heap.size = g := ⟨_, rfl⟩
          rw [hg52] at m52 ⊢
          generalize Y51.alloc (.cells #[.string path, .string x] 62) = Y52 at m52 hHeld ⊢
          clear hK K hg52 m51
          (try simp only [List.getElem_toArray, List.getElem_cons_succ, List.getElem_cons_zero, Act.put, List.setIfInBounds_toArray, List.set_cons_zero, List.set_cons_succ])
          refine wpAnyH_take (i := 10) (v := ?_) rfl (by kernel_rfl) (by kernel_rfl) (by kernel_rfl) (fun _ _ _ h => hP _ _ _ _ _ h) (Or.inl ⟨by rfl, ?_⟩) (by assumption) ?_
          rotate_left
          · (intro w hSw; (try dsimp only at hSw); go_simp; (try with_reducible rfl))
          (try simp only [List.getElem_toArray, List.getElem_cons_succ, List.getElem_cons_zero, Act.put, List.setIfInBounds_toArray, List.set_cons_zero, List.set_cons_succ])
          have kb := (m52.out.cp _ rfl).2
          have fz := kb.frozen
          obtain ⟨e0, e1, e2, e3, e4, e5, e6, e7, e8, e9, e10, e11, e12⟩ := pack_cells kb
          have kx := m52.out.store
          have KX := Lib.hid kx
          clear kb kx
          refine wpAnyH_ready (rs := [12]) (by kernel_rfl) (by simp) ?_
          refine AllReadyH.cons rfl (fun K hK => ?_) AllReadyH.nil
          go_simp
          refine hK.out _ _ ?_ (fun hHeld => ?_)
          · exact ⟨kept KX.out.b c0, KX.out.b⟩
          refine wpAnyH_done (by kernel_rfl) ?_ _
          exact HQ.out _ _ _ _ KX.out
      · go_simp
        refine hK.out _ _ ?_ (fun hHeld => ?_)
        · exact mkS_go hHeld (below_alloc _ _)
        have m53 := Lib.hid (m50.out.s9)
        obtain ⟨g53, hg53⟩ : ∃ g, Y50.heap.size = g := ⟨_, rfl⟩
        rw [hg53] at m53 ⊢
        generalize Y50.alloc (.cells #[.string path, .string x] 62) = Y53 at m53 hHeld ⊢
        clear hK K hg53 m50
        (try simp only [List.getElem_toArray, List.getElem_cons_succ, List.getElem_cons_zero, Act.put, List.setIfInBounds_toArray, List.set_cons_zero, List.set_cons_succ])
        refine wpAnyH_ready (rs := [2]) (by kernel_rfl) (by simp) ?_
        refine AllReadyH.cons rfl (fun K hK => ?_) AllReadyH.nil
        · go_simp
          refine hK.out _ _ ?_ (fun hHeld => ?_)
          · exact mkS_go hHeld (below_alloc _ _)
          have m54 := Lib.hid (m53.out.s7)
          obtain ⟨g54, hg54⟩ : ∃ g, Y53.heap.size = g := ⟨_, rfl⟩
          rw [hg54] at m54 ⊢
          generalize Y53.alloc (.cells #[.string path] 9) = Y54 at m54 hHeld ⊢
          clear hK K hg54 m53
          (try simp only [List.getElem_toArray, List.getElem_cons_succ, List.getElem_cons_zero, Act.put, List.setIfInBounds_toArray, List.set_cons_zero, List.set_cons_succ])
          refine wpAnyH_take (i := 10) (v := ?_) rfl (by kernel_rfl) (by kernel_rfl) (by kernel_rfl) (fun _ _ _ h => hP _ _ _ _ _ h) (Or.inl ⟨by rfl, ?_⟩) (by assumption) ?_
          rotate_left
          · (intro w hSw; (try dsimp only at hSw); go_simp; (try with_reducible rfl))
          (try simp only [List.getElem_toArray, List.getElem_cons_succ, List.getElem_cons_zero, Act.put, List.setIfInBounds_toArray, List.set_cons_zero, List.set_cons_succ])
          have kb := (m54.out.cp _ rfl).2
          have fz := kb.frozen
          obtain ⟨e0, e1, e2, e3, e4, e5, e6, e7, e8, e9, e10, e11, e12⟩ := pack_cells kb
          have kx := m54.out.store
          have KX := Lib.hid kx
          clear kb kx
          refine wpAnyH_ready (rs := [12]) (by kernel_rfl) (by simp) ?_
          refine AllReadyH.cons rfl (fun K hK => ?_) AllReadyH.nil
          go_simp
          refine hK.out _ _ ?_ (fun hHeld => ?_)
          · exact ⟨kept KX.out.b c0, KX.out.b⟩
          refine wpAnyH_done (by kernel_rfl) ?_ _
          exact HQ.out _ _ _ _ KX.out
    · go_simp
      refine hK.out _ _ ?_ (fun hHeld => ?_)
      · exact mkS_go hHeld (below_alloc _ _)
      have m55 := Lib.hid (m49.out.s7)
      obtain ⟨g55, hg55⟩ : ∃ g, Y49.heap.size = g := ⟨_, rfl⟩
      rw [hg55] at m55 ⊢
      generalize Y49.alloc (.cells #[.string path] 9) = Y55 at m55 hHeld ⊢
      clear hK K hg55 m49
      (try simp only [List.getElem_toArray, List.getElem_cons_succ, List.getElem_cons_zero, Act.put, List.setIfInBounds_toArray, List.set_cons_zero, List.set_cons_succ])
      refine wpAnyH_ready (rs := [0, 9]) (by kernel_rfl) (by simp) ?_
      refine AllReadyH.cons rfl (fun K hK => ?_) (AllReadyH.cons rfl (fun K hK => ?_) AllReadyH.nil)
      · go_simp
        go_at_call 27
        refine Calls.mono (RD.out _ m55.out.b) ?_
        rintro E Y56 ⟨rfl, hb56⟩
        (try go_wp2_with fail)
        refine hK.out _ _ ?_ (fun hHeld => ?_)
        · exact mkS_go hHeld hb56
        have m56 := Lib.hid (m55.out.step hb56)
        clear hK K hb56 m55
        (try simp only [List.getElem_toArray, List.getElem_cons_succ, List.getElem_cons_zero, Act.put, List.setIfInBounds_toArray, List.set_cons_zero, List.set_cons_succ])
        refine wpAnyH_ready (rs := [9]) (by kernel_rfl) (by simp) ?_
        refine AllReadyH.cons rfl (fun K hK => ?_) AllReadyH.nil
        · go_simp
          refine hK.out _ _ ?_ (fun hHeld => ?_)
          · exact mkS_go hHeld (below_alloc _ _)
          have m57 := Lib.hid (m56.out.s9)
          obtain ⟨g57, hg57⟩ : ∃ g, Y56.heap.size = g := ⟨_, rfl⟩
          rw [hg57] at m57 ⊢
          generalize Y56.alloc (.cells #[.string path, .string x] 62) = Y57 at m57 hHeld ⊢
          clear hK K hg57 m56
          (try simp only [List.getElem_toArray, List.getElem_cons_succ, List.getElem_cons_zero, Act.put, List.setIfInBounds_toArray, List.set_cons_zero, List.set_cons_succ])
          refine wpAnyH_take (i := 10) (v := ?_) rfl (by kernel_rfl) (by kernel_rfl) (by kernel_rfl) (fun _ _ _ h => hP _ _ _ _ _ h) (Or.inl ⟨by rfl, ?_⟩) (by assumption) ?_
          rotate_left
          · (intro w hSw; (try dsimp only at hSw); go_simp; (try with_reducible rfl))
          (try simp only [List.getElem_toArray, List.getElem_cons_succ, List.getElem_cons_zero, Act.put, List.setIfInBounds_toArray, List.set_cons_zero, List.set_cons_succ])
          have kb := (m57.out.cp _ rfl).2
          have fz := kb.frozen
          obtain ⟨e0, e1, e2, e3, e4, e5, e6, e7, e8, e9, e10, e11, e12⟩ := pack_cells kb
          have kx := m57.out.store
          have KX := Lib.hid kx
          clear kb kx
          refine wpAnyH_ready (rs := [12]) (by kernel_rfl) (by simp) ?_
          refine AllReadyH.cons rfl (fun K hK => ?_) AllReadyH.nil
          go_simp
          refine hK.out _ _ ?_ (fun hHeld => ?_)
          · exact ⟨kept KX.out.b c0, KX.out.b⟩
          refine wpAnyH_done (by kernel_rfl) ?_ _
          exact HQ.out _ _ _ _ KX.out
      · go_simp
        refine hK.out _ _ ?_ (fun hHeld => ?_)
        · exact mkS_go hHeld (below_alloc _ _)
        have m58 := Lib.hid (m55.out.s9)
        obtain ⟨g58, hg58⟩ : ∃ g, Y55.heap.size = g := ⟨_, rfl⟩
        rw [hg58] at m58 ⊢
        generalize Y55.alloc (.cells #[.string path, .string x] 62) = Y58 at m58 hHeld ⊢
        clear hK K hg58 m55
        (try simp only [List.getElem_toArray, List.getElem_cons_succ, List.getElem_cons_zero, Act.put, List.setIfInBounds_toArray, List.set_cons_zero, List.set_cons_succ])
        refine wpAnyH_ready (rs := [0]) (by kernel_rfl) (by simp) ?_
        refine AllReadyH.cons rfl (fun K hK => ?_) AllReadyH.nil
        · go_simp
          go_at_call 27
          refine Calls.mono (RD.out _ m58.out.b) ?_
          rintro E Y59 ⟨rfl, hb59⟩
          (try go_wp2_with fail)
          refine hK.out _ _ ?_ (fun hHeld => ?_)
          · exact mkS_go hHeld hb59
          have m59 := Lib.hid (m58.out.step hb59)
          clear hK K hb59 m58
          (try simp only [List.getElem_toArray, List.getElem_cons_succ, List.getElem_cons_zero, Act.put, List.setIfInBounds_toArray, List.set_cons_zero, List.set_cons_succ])
          refine wpAnyH_take (i := 10) (v := ?_) rfl (by kernel_rfl) (by kernel_rfl) (by kernel_rfl) (fun _ _ _ h => hP _ _ _ _ _ h) (Or.inl ⟨by rfl, ?_⟩) (by assumption) ?_
          rotate_left
          · (intro w hSw; (try dsimp only at hSw); go_simp; (try with_reducible rfl))
          (try simp only [List.getElem_toArray, List.getElem_cons_succ, List.getElem_cons_zero, Act.put, List.setIfInBounds_toArray, List.set_cons_zero, List.set_cons_succ])
          have kb := (m59.out.cp _ rfl).2
          have fz := kb.frozen
          obtain ⟨e0, e1, e2, e3, e4, e5, e6, e7, e8, e9, e10, e11, e12⟩ := pack_cells kb
          have kx := m59.out.store
          have KX := Lib.hid kx
          clear kb kx
          refine wpAnyH_ready (rs := [12]) (by kernel_rfl) (by simp) ?_
          refine AllReadyH.cons rfl (fun K hK => ?_) AllReadyH.nil
          go_simp
          refine hK.out _ _ ?_ (fun hHeld => ?_)
          · exact ⟨kept KX.out.b c0, KX.out.b⟩
          refine wpAnyH_done (by kernel_rfl) ?_ _
          exact HQ.out _ _ _ _ KX.out
    · go_simp
      refine hK.out _ _ ?_ (fun hHeld => ?_)
      · exact mkS_go hHeld (below_alloc _ _)
      have m60 := Lib.hid (m49.out.s9)
      obtain ⟨g60, hg60⟩ : ∃ g, Y49.heap.size = g := ⟨_, rfl⟩
      rw [hg60] at m60 ⊢
      generalize Y49.alloc (.cells #[.string path, .string x] 62) = Y60 at m60 hHeld ⊢
      clear hK K hg60 m49
      (try simp only [List.getElem_toArray, List.getElem_cons_succ, List.getElem_cons_zero, Act.put, List.setIfInBounds_toArray, List.set_cons_zero, List.set_cons_succ])
      refine wpAnyH_ready (rs := [0, 2]) (by kernel_rfl) (by simp) ?_
      refine AllReadyH.cons rfl (fun K hK => ?_) (AllReadyH.cons rfl (fun K hK => ?_) AllReadyH.nil)
      · go_simp
        go_at_call 27
        refine Calls.mono (RD.out _ m60.out.b) ?_
        rintro E Y61 ⟨rfl, hb61⟩
        (try go_wp2_with fail)
        refine hK.out _ _ ?_ (fun hHeld => ?_)
        · exact mkS_go hHeld hb61
        have m61 := Lib.hid (m60.out.step hb61)
        clear hK K hb61 m60
        (try simp only [List.getElem_toArray, List.getElem_cons_succ, List.getElem_cons_zero, Act.put, List.setIfInBounds_toArray, List.set_cons_zero, List.set_cons_succ])
        refine wpAnyH_ready (rs := [2]) (by kernel_rfl) (by simp) ?_
        refine AllReadyH.cons rfl (fun K hK => ?_) AllReadyH.nil
        · go_simp
          refine hK.out _ _ ?_ (fun hHeld => ?_)
          · exact mkS_go hHeld (below_alloc _ _)
          have m62 := Lib.hid (m61.out.s7)
          obtain ⟨g62, hg62⟩ : ∃ g, Y61.heap.size = g := ⟨_, rfl⟩
          rw [hg62] at m62 ⊢
          generalize Y61.alloc (.cells #[.string path] 9) = Y62 at m62 hHeld ⊢
          clear hK K hg62 m61
          (try simp only [List.getElem_toArray, List.getElem_cons_succ, List.getElem_cons_zero, Act.put, List.setIfInBounds_toArray, List.set_cons_zero, List.set_cons_succ])
          refine wpAnyH_take (i := 10) (v := ?_) rfl (by kernel_rfl) (by kernel_rfl) (by kernel_rfl) (fun _ _ _ h => hP _ _ _ _ _ h) (Or.inl ⟨by rfl, ?_⟩) (by assumption) ?_
          rotate_left
          · (intro w hSw; (try dsimp only at hSw); go_simp; (try with_reducible rfl))
          (try simp only [List.getElem_toArray, List.getElem_cons_succ, List.getElem_cons_zero, Act.put, List.setIfInBounds_toArray, List.set_cons_zero, List.set_cons_succ])
          have kb := (m62.out.cp _ rfl).2
          have fz := kb.frozen
          obtain ⟨e0, e1, e2, e3, e4, e5, e6, e7, e8, e9, e10, e11, e12⟩ := pack_cells kb
          have kx := m62.out.store
          have KX := Lib.hid kx
          clear kb kx
          refine wpAnyH_ready (rs := [12]) (by kernel_rfl) (by simp) ?_
          refine AllReadyH.cons rfl (fun K hK => ?_) AllReadyH.nil
          go_simp
          refine hK.out _ _ ?_ (fun hHeld => ?_)
          · exact ⟨kept KX.out.b c0, KX.out.b⟩
          refine wpAnyH_done (by kernel_rfl) ?_ _
          exact HQ.out _ _ _ _ KX.out
      · go_simp
        refine hK.out _ _ ?_ (fun hHeld => ?_)
        · exact mkS_go hHeld (below_alloc _ _)
        have m63 := Lib.hid (m60.out.s7)
        obtain ⟨g63, hg63⟩ : ∃ g, Y60.heap.size = g := ⟨_, rfl⟩
        rw [hg63] at m63 ⊢
        generalize Y60.alloc (.cells #[.string path] 9) = Y63 at m63 hHeld ⊢
        clear hK K hg63 m60
        (try simp only [List.getElem_toArray, List.getElem_cons_succ, List.getElem_cons_zero, Act.put, List.setIfInBounds_toArray, List.set_cons_zero, List.set_cons_succ])
        refine wpAnyH_ready (rs := [0]) (by kernel_rfl) (by simp) ?_
        refine AllReadyH.cons rfl (fun K hK => ?_) AllReadyH.nil
        · go_simp
          go_at_call 27
          refine Calls.mono (RD.out _ m63.out.b) ?_
          rintro E Y64 ⟨rfl, hb64⟩
          (try go_wp2_with fail)
          refine hK.out _ _ ?_ (fun hHeld => ?_)
          · exact mkS_go hHeld hb64
          have m64 := Lib.hid (m63.out.step hb64)
          clear hK K hb64 m63
          (try simp only [List.getElem_toArray, List.getElem_cons_succ, List.getElem_cons_zero, Act.put, List.setIfInBounds_toArray, List.set_cons_zero, List.set_cons_succ])
          refine wpAnyH_take (i := 10) (v := ?_) rfl (by kernel_rfl) (by kernel_rfl) (by kernel_rfl) (fun _ _ _ h => hP _ _ _ _ _ h) (Or.inl ⟨by rfl, ?_⟩) (by assumption) ?_
          rotate_left
          · (intro w hSw; (try dsimp only at hSw); go_simp; (try with_reducible rfl))
          (try simp only [List.getElem_toArray, List.getElem_cons_succ, List.getElem_cons_zero, Act.put, List.setIfInBounds_toArray, List.set_cons_zero, List.set_cons_succ])
          have kb := (m64.out.cp _ rfl).2
          have fz := kb.frozen
          obtain ⟨e0, e1, e2, e3, e4, e5, e6, e7, e8, e9, e10, e11, e12⟩ := pack_cells kb
          have kx := m64.out.store
          have KX := Lib.hid kx
          clear kb kx
          refine wpAnyH_ready (rs := [12]) (by kernel_rfl) (by simp) ?_
          refine AllReadyH.cons rfl (fun K hK => ?_) AllReadyH.nil
          go_simp
          refine hK.out _ _ ?_ (fun hHeld => ?_)
          · exact ⟨kept KX.out.b c0, KX.out.b⟩
          refine wpAnyH_done (by kernel_rfl) ?_ _
          exact HQ.out _ _ _ _ KX.out
end Go.Proofs.YtpbbhjifgaeklaaGreatDoor

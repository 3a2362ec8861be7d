/- What comes in: the library's variables out of the row's list; a version. -/
import Derived.Test.YtlkmmejlnohjhaaDoorFrame
import Derived.Test.YtlkmmejlnohjhaaDoorRows
namespace Go.Proofs.YtlkmmejlnohjhaaDoor
open Go.RowKit Go.ChangeShapes Go.WideShapes Go.ChangeAt Go.Joins

set_option maxRecDepth 100000 in
/-- What the walks read of the library's variables, out of the row's list and the world's shape. -/
theorem env_at {W : World} {laid : List (String × DataW Unit)} (hL : laidMet Tryd.prog laid W) (hm : ("internal/strconv.uint64pow10", (Rows.laid_internal_strconv_uint64pow10 : DataW Unit)) ∈ laid) (hsh : W.ShapedOpen Tryd.prog) : Env W :=
  ⟨Tryd.laysM145.s1_3 W hsh, tabIs_of_reads (g := 4) (by kernel_rfl) (by kernel_rfl) (by kernel_rfl) Tryd.underlying152 Tryd.underlying107 (by kernel_rfl) (by kernel_rfl) (Lib.laidMet.reads hL hm)⟩

set_option maxRecDepth 100000 in
/-- A version that comes in. -/
theorem open_vers {H : Type} {enc : TypeId × Value → H} {W : World} {base b0 : Nat} {spare : Nat → Bool} {held : Bool} {r : Reach} {v : Value} {d : DataW H} {p : List MemPlace}
    (hv : Value.okWide Tryd.prog W r b0 23 v) (h : DataW.Trod enc Tryd.prog W base spare held 23 v d p) :
    ∃ (e : Int) (u s : ByteArray), v = .agg #[.int .i64 e, .string u, .string s] ∧ p = [] := by
  obtain ⟨c0, c1, c2, y0, y1, y2, m, rfl, _, rfl, hy0, hy1, hy2⟩ := open_agg3 Tryd.underlying23 (by kernel_rfl) (by kernel_rfl) hv h
  obtain ⟨e, e0, rfl, _⟩ := DataW.trod_int Tryd.underlying3 hy0
  obtain ⟨u, e1, rfl, _⟩ := DataW.trod_string Tryd.underlying9 hy1
  obtain ⟨s, e2, rfl, _⟩ := DataW.trod_string Tryd.underlying9 hy2
  simp at e0 e1 e2
  subst e0 e1 e2
  exact ⟨e, u, s, rfl, rfl⟩

end Go.Proofs.YtlkmmejlnohjhaaDoor

/- What a row's list of variables gives; the rows' last step. -/
import Derived.Test.YtpjekppljaekoaaGreatDoorRows
import Derived.Test.YtpjekppljaekoaaGreatDoorKA12
import Derived.Stop.LaidErr
import Derived.Lib.LaidTab
import Derived.MakeChecks
import Derived.OpenShut
import Derived.Deep.DeepHandedRow
import Derived.Deep.DeepWitnessRowRef
import Derived.LaidMore
namespace Go.Proofs.YtpjekppljaekoaaGreatDoor
open Go Go.RowKit Go.ChangeShapes Go.WideShapes Go.ChangeAt

theorem Tryz.star : "*" ++ "errors.errorString" = "*errors.errorString" := by decide
theorem Tryz.row417 (u : TypeId) (h : Tryz.prog.typeName? 3 u = some "*errors.errorString") : u = 417 :=
  typeName_ptr_named (nm := "errors.errorString") (by rw [Tryz.star]; kernel_rfl) (by kernel_rfl) (by decide) u (by rw [Tryz.star]; exact h)
theorem glob5 : Tryz.prog.globalNamed "math/bits.deBruijn64tab" = some 5 := by kernel_rfl

/-- The five variables that the checkpoints' statements list. -/
def laid5 : List (String × DataW Unit) := [("math/bits.deBruijn32tab", Rows.laid_math_bits_deBruijn32tab), ("math/bits.deBruijn64tab", Rows.laid_math_bits_deBruijn64tab), ("internal/strconv.uint64pow10", Rows.laid_internal_strconv_uint64pow10), ("strconv.ErrRange", Rows.laid_strconv_ErrRange), ("strconv.ErrSyntax", Rows.laid_strconv_ErrSyntax)]

theorem var_lt {P : Program} {W : World} {n : String} {g : Nat} {cs : Array Value} (hg : P.globalNamed n = some g) (h : W.var? P n = some cs) : g < W.heap.size := by
  unfold World.var? at h
  rw [hg] at h
  simp only [Option.bind_some] at h
  rcases Nat.lt_or_ge g W.heap.size with h1 | h1
  · exact h1
  · rw [Array.getElem?_eq_none h1] at h; cases h

theorem lai_of {W : World} (h : laidMetH Tryz.prog laid5 W) : Lai W := by
  rw [MakeChecks.laidMetH_plain _ _ _ (by kernel_rfl)] at h
  have h2 := h.tail
  have h3 := h2.tail
  have h4 := h3.tail
  have h5 := h4.tail
  obtain ⟨ps, ⟨g0, t0, cs0, f0, p0, q0, hg0, ht0, hv0, hd0, _, _⟩, _⟩ := h2
  obtain rfl := Option.some.inj (glob5.symm.trans hg0)
  have hb := var_lt glob5 hv0
  obtain ⟨a1, s1, hv1, _⟩ := laid_sentinel h4 glob2 (ti := 287) (by kernel_rfl) Tryz.underlying287 Tryz.row417 Tryz.underlying417 Tryz.underlying419 rfl rfl Tryz.underlying9 (by kernel_rfl) (by kernel_rfl)
  obtain ⟨a2, s2, hv2, _⟩ := laid_sentinel h5 glob1 (ti := 287) (by kernel_rfl) Tryz.underlying287 Tryz.row417 Tryz.underlying417 Tryz.underlying419 rfl rfl Tryz.underlying9 (by kernel_rfl) (by kernel_rfl)
  refine ⟨?_, ⟨_, _, hv2⟩, ⟨_, _, hv1⟩, hb⟩
  exact Lib.tabIs_of_head (k := .u64) (zs := Lib.pow10Tab) glob3 (t := 413) (by kernel_rfl) Tryz.underlying413 (by kernel_rfl) (by kernel_rfl) (by kernel_rfl) h3
end Go.Proofs.YtpjekppljaekoaaGreatDoor

/- The statements' arguments as they lie in memory; the rows' last step, where all that was there is as it was. -/
import Derived.Test.YtpjekppljaekoaaGreatDoorKA11
import Derived.ProofKit
import Derived.Carry
import Derived.ChangeSame
import Derived.ChangeSlices
import Derived.Deep.Matrix
namespace Go.Proofs.YtpjekppljaekoaaGreatDoor
open Go Go.RowKit Go.ChangeShapes Go.WideShapes Go.Deep

section
variable {H : Type} {enc : TypeId × Value → H} {w : World}

theorem row_of_cells {A : Addr} {xs : List Value} (h : ∀ i u, xs[i]? = some u → w.cell? (A.add i) = some u) : Row w (fun _ => True) (some A) xs := by
  cases xs with
  | nil => exact Row.nil
  | cons x xs =>
    obtain ⟨b, o, spot⟩ := A
    have h0 := h 0 x rfl
    have hs : spot = none := by simpa [Addr.add] using World.cell?_spot h0
    subst hs
    refine .inr ⟨b, o, rfl, ?_, trivial, fun j u hu => ?_⟩
    · rw [Addr.add_lit] at h0
      exact World.block_lt_of_cell? _ _ h0
    · have := h j u hu
      rwa [Addr.add_lit] at this

def bytesOf (zs : List Int) : List UInt8 := zs.map fun n => UInt8.ofNat n.toNat
theorem u8_back {n : Int} (h : (Lit.int .u8 n).wf = true) : bv (UInt8.ofNat n.toNat) = .int .u8 n := by
  simp only [Lit.wf, Bool.and_eq_true, decide_eq_true_eq] at h
  have h1 : (0 : Int) ≤ n := h.1
  have h2 : n ≤ 255 := h.2
  unfold bv
  congr 1
  rw [UInt8.toNat_ofNat']
  omega
theorem bs_of {A : Option Addr} {len cap : Nat} {zs : List Int} (hl : len ≤ cap) (hm : cap ≤ maxLen) (hA : A = none → cap = 0) (hz : zs.length = cap) (hwz : ∀ n ∈ zs, (Lit.int .u8 n).wf = true) (hc : ∀ a, A = some a → ∀ i, i < cap → w.cell? (a.add i) = some (.int .u8 (zs.getD i 0))) :
    Bs w (fun _ => True) (.slice A len cap) (bytesOf (zs.take len)) := by
  have hlen : (bytesOf (zs.take len)).length = len := by simp [bytesOf]; omega
  refine ⟨A, cap, by rw [hlen], by rw [hlen]; exact hl, hm, hA, ?_⟩
  cases A with
  | none =>
    have : len = 0 := by have := hA rfl; omega
    left
    have h0 : (bytesOf (zs.take len)).length = 0 := by rw [hlen]; exact this
    rw [List.eq_nil_of_length_eq_zero h0]
    rfl
  | some a =>
    refine row_of_cells fun i u hu => ?_
    have hi : i < len := by
      have := (List.getElem?_eq_some_iff.1 hu).1
      simpa [hlen] using this
    rw [hc a rfl i (by omega)]
    have hzi : zs[i]? = some (zs[i]'(by omega)) := List.getElem?_eq_getElem (by omega)
    have hw := hwz (zs[i]'(by omega)) (List.getElem_mem _)
    simp only [bytesOf, List.map_map, List.getElem?_map, List.getElem?_take, hi, if_true, hzi, Option.map_some, Function.comp_apply, u8_back hw, Option.some.injEq] at hu
    rw [← hu]
    simp [List.getD, hzi]

theorem Tryz.cells5 : Tryz.prog.cellsOf 5 = 1 := by kernel_rfl
theorem Tryz.cells25 : Tryz.prog.cellsOf 25 = 1 := by kernel_rfl

set_option maxRecDepth 100000 in
theorem open_bs {base : Nat} {v : Value} {d : DataW H} {ps : List MemPlace} (hval : Value.okWide Tryz.prog w .any base 25 v) (h : DataW.Trod enc Tryz.prog w 0 (fun _ => true) true 25 v d ps) : ∃ l, Bs w (fun _ => True) v l := by
  obtain ⟨a1, len, cap, rfl⟩ := okWide_slice Tryz.underlying25 hval
  obtain ⟨fuel, hf⟩ := h
  rcases open_ints Tryz.underlying25 Tryz.underlying5 Tryz.cells5 hf with ⟨hcs, _⟩ | ⟨a, len', cap', zs, hcs, _, hl, hm, hz, _, hcell, hwz⟩
  · simp [Value.cells] at hcs
    obtain ⟨rfl, rfl, rfl⟩ := hcs
    exact ⟨[], Bs.nil⟩
  · simp [Value.cells] at hcs
    obtain ⟨rfl, rfl, rfl⟩ := hcs
    simp only [if_true] at hz
    exact ⟨_, bs_of hl hm (fun h => by cases h) hz hwz fun a e i hi => by
      injection e with e
      subst e
      exact hcell i (by omega)⟩

/-- A slice of slices of bytes. -/
def Bss (w : World) (v : Value) (ls : List (List UInt8)) : Prop :=
  ∃ A c vs, v = .slice A ls.length c ∧ ls.length ≤ c ∧ c ≤ maxLen ∧ Row w (fun _ => True) A vs ∧ vs.length = ls.length ∧ ∀ (i : Nat) (u : Value) (l : List UInt8), vs[i]? = some u → ls[i]? = some l → Bs w (fun _ => True) u l

set_option maxRecDepth 100000 in
theorem open_bss {base : Nat} {v : Value} {d : DataW H} {ps : List MemPlace} (hval : Value.okWide Tryz.prog w .any base 101 v) (h : DataW.Trod enc Tryz.prog w 0 (fun _ => true) true 101 v d ps) : ∃ ls, Bss w v ls := by
  obtain ⟨a1, len, cap, rfl⟩ := okWide_slice Tryz.underlying101 hval
  obtain ⟨fuel, hf⟩ := h
  rcases open_int_rows Tryz.underlying101 Tryz.underlying25 Tryz.underlying5 Tryz.cells25 Tryz.cells5 hf with ⟨hcs, _⟩ | ⟨a, len', cap', A, L, C, Z, hcs, _, hl, hm, _, hr⟩
  · simp [Value.cells] at hcs
    obtain ⟨rfl, rfl, rfl⟩ := hcs
    exact ⟨[], none, 0, [], rfl, Nat.le_refl _, Nat.zero_le _, Row.nil, rfl, fun i u l h => by simp at h⟩
  · simp [Value.cells] at hcs
    obtain ⟨rfl, rfl, rfl⟩ := hcs
    refine ⟨(List.range len).map fun r => bytesOf ((Z r).take (L r)), some a, cap, (List.range len).map fun r => .slice (A r) (L r) (C r), by simp, by simpa using hl, hm, row_of_cells fun i u hu => ?_, by simp, fun i u l h1 h2 => ?_⟩
    · simp only [List.getElem?_map, Option.map_eq_some_iff, List.getElem?_eq_some_iff, List.length_range] at hu
      obtain ⟨r, ⟨hi, e⟩, rfl⟩ := hu
      simp at e
      subst e
      exact (hr i (by omega)).1
    · simp only [List.getElem?_map, Option.map_eq_some_iff, List.getElem?_eq_some_iff, List.length_range] at h1 h2
      obtain ⟨r, ⟨hi, e⟩, rfl⟩ := h1
      obtain ⟨r', ⟨_, e'⟩, rfl⟩ := h2
      simp at e e'
      subst e; subst e'
      obtain ⟨_, r1, r2, r3, r4, r5, r6⟩ := hr i (by omega)
      exact bs_of r1 r2 r5 r3 r4 fun a e => (r6 a e).2
end
end Go.Proofs.YtpjekppljaekoaaGreatDoor

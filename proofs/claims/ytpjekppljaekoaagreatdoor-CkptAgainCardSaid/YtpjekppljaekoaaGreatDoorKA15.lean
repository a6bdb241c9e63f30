/- Arguments that are rows of calls, and rows of ints, as they lie in memory. Plain facts for the statement CkptDrops: tables of what was written. A block of the caller's own that holds no bytes may be written over: the disk stays. Contract of large (package treadwheellaw19): are there more than 60 calls, or more than 5000 bytes and numbers? The statement CkptDrops: its walk. -/
import Derived.Test.YtpjekppljaekoaaGreatDoorKA14
import Derived.Deep.Fields
import Derived.Test.YtpjekppljaekoaaGreatDoorKA13
import Derived.Laws.Bits128
import Derived.Laws.MakeOwn
import Derived.Deep.Cut
namespace Go.Proofs.YtpjekppljaekoaaGreatDoor
open Go Go.RowKit Go.ChangeShapes Go.WideShapes Go.Deep

/-- A slice of ints. -/
def Is (w : World) (p : Nat → Prop) (v : Value) (l : List Int) : Prop :=
  ∃ A c, v = .slice A l.length c ∧ l.length ≤ c ∧ c ≤ maxLen ∧ (A = none → c = 0) ∧ Row w p A (l.map intV)

section
variable {H : Type} {enc : TypeId × Value → H} {P : Program} {w : World} {base : Nat} {spare : Nat → Bool} {held : Bool}

/-- Each field of each struct of a slice: its cell, and that it reads. -/
theorem struct_cells {t e : TypeId} {fs : Array Field} {fuel : Nat} {cs : List Value} {x : DataW H × List MemPlace} (ht : P.underlying t = some (.slice e)) (he : P.underlying e = some (.struct fs))
    (hone : oneCellFields P fs = true) (hC : P.cellsOf e = fs.size) (h : DataW.trod enc P w base spare held fuel t cs = some x) :
    cs = [.slice none 0 0] ∨ ∃ (a : Addr) (len cap : Nat), cs = [.slice (some a) len cap] ∧ len ≤ cap ∧ cap ≤ maxLen ∧
      ∀ i, i < len → ∀ (j : Nat) (f : Field), fs[j]? = some f → ∃ (v : Value) (y : DataW H × List MemPlace) (n : Nat), w.cell? (a.add (i * fs.size + j)) = some v ∧ DataW.trod enc P w base spare held n f.type [v] = some y := by
  rcases open_slice ht h with ⟨h0, _⟩ | ⟨a, len, cap, m, n, D, Pl, hcs, _, hl, hm, hmm, _, hi⟩
  · exact .inl h0
  refine .inr ⟨a, len, cap, hcs, hl, hm, fun i him j f hj => ?_⟩
  obtain ⟨cs', hc, ht'⟩ := hi i (by rw [hmm]; split <;> omega)
  rw [hC] at hc
  obtain ⟨ys, n', _, _, _, hyl, hf⟩ := DataW.trod_struct he ht'
  obtain ⟨_, hcl, hat⟩ := World.cells?_some hc
  obtain ⟨ho, hk⟩ := hone_of hone j f hj
  have hjl : j < fs.size := (Array.getElem?_eq_some_iff.1 hj).1
  have h1 := hf j f hj
  have hd : (cs'.drop j).take 1 = [cs'[j]'(by omega)] := by
    rw [List.drop_eq_getElem_cons (by omega)]
    rfl
  rw [ho, hk, hd] at h1
  have hys : ys[j]? = some (ys[j]'(by omega)) := List.getElem?_eq_getElem (by omega)
  refine ⟨cs'[j]'(by omega), _, _, ?_, h1.trans hys⟩
  rw [← Go.Deep.add_add, hat j hjl, List.getElem?_eq_getElem (by omega)]
end

section
variable {H : Type} {enc : TypeId × Value → H} {w : World}
theorem Tryz.cells3 : Tryz.prog.cellsOf 3 = 1 := by kernel_rfl
theorem is_of {A : Option Addr} {len cap : Nat} {zs : List Int} (hl : len ≤ cap) (hm : cap ≤ maxLen) (hA : A = none → cap = 0) (hz : zs.length = cap) (hc : ∀ a, A = some a → ∀ i, i < cap → w.cell? (a.add i) = some (.int .i64 (zs.getD i 0))) :
    Is w (fun _ => True) (.slice A len cap) (zs.take len) := by
  have hlen : (zs.take len).length = len := by simp; omega
  refine ⟨A, cap, by rw [hlen], by rw [hlen]; exact hl, hm, hA, ?_⟩
  cases A with
  | none =>
    have : len = 0 := by have := hA rfl; omega
    left
    rw [List.eq_nil_of_length_eq_zero (hlen.trans this)]
    rfl
  | some a =>
    refine row_of_cells fun i u hu => ?_
    have hi : i < len := by
      have := (List.getElem?_eq_some_iff.1 hu).1
      rw [List.length_map, hlen] at this
      exact this
    rw [hc a rfl i (by omega)]
    have hzi : zs[i]? = some (zs[i]'(by omega)) := List.getElem?_eq_getElem (by omega)
    simp only [List.getElem?_map, List.getElem?_take, hi, if_true, hzi, Option.map_some, Option.some.injEq] at hu
    rw [← hu]
    simp [List.getD, hzi, intV]
theorem read_is {n : Nat} {v : Value} {y : DataW H × List MemPlace} (h : DataW.trod enc Tryz.prog w 0 (fun _ => true) true n 72 [v] = some y) : ∃ l, Is w (fun _ => True) v l ∧ ∀ z ∈ l, -9223372036854775808 ≤ z ∧ z ≤ 9223372036854775807 := by
  rcases open_ints Tryz.underlying72 Tryz.underlying3 Tryz.cells3 h with ⟨hcs, _⟩ | ⟨a, len', cap', zs, hcs, _, hl, hm, hz, _, hcell, hwz⟩
  · simp at hcs
    subst hcs
    exact ⟨[], ⟨none, 0, rfl, Nat.le_refl _, Nat.zero_le _, fun _ => rfl, Row.nil⟩, fun z h => by cases h⟩
  · simp at hcs
    subst hcs
    simp only [if_true] at hz
    refine ⟨_, is_of hl hm (fun h => by cases h) hz fun a e i hi => by
      injection e with e
      subst e
      exact hcell i (by omega), fun z hzm => ?_⟩
    have h2 := hwz z (List.mem_of_mem_take hzm)
    simp only [Lit.wf, Bool.and_eq_true, decide_eq_true_eq] at h2
    exact ⟨h2.1, h2.2⟩
theorem read_bs {n : Nat} {v : Value} {y : DataW H × List MemPlace} (h : DataW.trod enc Tryz.prog w 0 (fun _ => true) true n 25 [v] = some y) : ∃ l, Bs w (fun _ => True) v l := by
  rcases open_ints Tryz.underlying25 Tryz.underlying5 Tryz.cells5 h with ⟨hcs, _⟩ | ⟨a, len', cap', zs, hcs, _, hl, hm, hz, _, hcell, hwz⟩
  · simp at hcs
    subst hcs
    exact ⟨[], Bs.nil⟩
  · simp at hcs
    subst hcs
    simp only [if_true] at hz
    exact ⟨_, bs_of hl hm (fun h => by cases h) hz hwz fun a e i hi => by
      injection e with e
      subst e
      exact hcell i (by omega)⟩
theorem read_int {n : Nat} {t : TypeId} {k : IntKind} {v : Value} {y : DataW H × List MemPlace} (ht : Tryz.prog.underlying t = some (.int k)) (h : DataW.trod enc Tryz.prog w 0 (fun _ => true) true n t [v] = some y) : ∃ z, v = .int k z ∧ (Lit.int k z).wf = true := by
  obtain ⟨z, e, _, hw⟩ := DataW.trod_int ht h
  simp at e
  exact ⟨z, e, hw⟩
theorem read_str {n : Nat} {v : Value} {y : DataW H × List MemPlace} (h : DataW.trod enc Tryz.prog w 0 (fun _ => true) true n 9 [v] = some y) : ∃ s, v = .string s ∧ s.size ≤ maxLen := by
  obtain ⟨s, e, _, hw⟩ := DataW.trod_string Tryz.underlying9 h
  simp at e
  exact ⟨s, e, by simpa using hw⟩
end

structure CallS where
  kind : Int
  step : Int
  nm : ByteArray
  b : List UInt8
  n : Int
  keep : List Int

/-- A call as it lies. -/
structure CallAt (w : World) (vs : Nat → Option Value) (x : CallS) : Prop where
  kind : vs 0 = some (.int .u8 x.kind) ∧ 0 ≤ x.kind ∧ x.kind ≤ 255
  step : vs 1 = some (.int .i64 x.step) ∧ -9223372036854775808 ≤ x.step ∧ x.step ≤ 9223372036854775807
  nm : vs 2 = some (.string x.nm) ∧ x.nm.size ≤ maxLen
  b : ∃ v, vs 3 = some v ∧ Bs w (fun _ => True) v x.b
  n : vs 4 = some (.int .i64 x.n) ∧ -9223372036854775808 ≤ x.n ∧ x.n ≤ 9223372036854775807
  keep : ∃ v, vs 5 = some v ∧ Is w (fun _ => True) v x.keep ∧ ∀ z ∈ x.keep, -9223372036854775808 ≤ z ∧ z ≤ 9223372036854775807

/-- A row of calls. -/
def CallsAt (w : World) (v : Value) (xs : List CallS) : Prop :=
  xs = [] ∧ v = .slice none 0 0 ∨ ∃ a c, v = .slice (some a) xs.length c ∧ xs.length ≤ c ∧ c ≤ maxLen ∧ ∀ (i : Nat) (x : CallS), xs[i]? = some x → CallAt w (fun j => w.cell? (a.add (i * 6 + j))) x

theorem Tryz.cells94 : Tryz.prog.cellsOf 94 = 6 := by kernel_rfl

set_option maxRecDepth 100000 in
theorem open_callrow {H : Type} {enc : TypeId × Value → H} {w : World} {base : Nat} {v : Value} {d : DataW H} {ps : List MemPlace} (hval : Value.okWide Tryz.prog w .any base 87 v) (h : DataW.Trod enc Tryz.prog w 0 (fun _ => true) true 87 v d ps) : ∃ xs, CallsAt w v xs := by
  obtain ⟨a1, len, cap, rfl⟩ := okWide_slice Tryz.underlying87 hval
  obtain ⟨fuel, hf⟩ := h
  rcases struct_cells Tryz.underlying87 Tryz.underlying94 (by kernel_rfl) Tryz.cells94 hf with hcs | ⟨a, len', cap', hcs, hl, hm, hr⟩
  · simp [Value.cells] at hcs
    obtain ⟨rfl, rfl, rfl⟩ := hcs
    exact ⟨[], .inl ⟨rfl, rfl⟩⟩
  · simp [Value.cells] at hcs
    obtain ⟨rfl, rfl, rfl⟩ := hcs
    have each : ∀ i, i < len → ∃ x : CallS, CallAt w (fun j => w.cell? (a.add (i * 6 + j))) x := by
      intro i hi
      obtain ⟨v0, y0, n0, c0, t0⟩ := hr i hi 0 _ rfl
      obtain ⟨v1, y1, n1, c1, t1⟩ := hr i hi 1 _ rfl
      obtain ⟨v2, y2, n2, c2, t2⟩ := hr i hi 2 _ rfl
      obtain ⟨v3, y3, n3, c3, t3⟩ := hr i hi 3 _ rfl
      obtain ⟨v4, y4, n4, c4, t4⟩ := hr i hi 4 _ rfl
      obtain ⟨v5, y5, n5, c5, t5⟩ := hr i hi 5 _ rfl
      obtain ⟨z0, rfl, w0⟩ := read_int Tryz.underlying5 t0
      obtain ⟨z1, rfl, w1⟩ := read_int Tryz.underlying3 t1
      obtain ⟨s2, rfl, w2⟩ := read_str t2
      obtain ⟨l3, b3⟩ := read_bs t3
      obtain ⟨z4, rfl, w4⟩ := read_int Tryz.underlying3 t4
      obtain ⟨l5, b5, r5⟩ := read_is t5
      simp only [Lit.wf, Bool.and_eq_true, decide_eq_true_eq] at w0 w1 w4
      exact ⟨⟨z0, z1, s2, l3, z4, l5⟩, ⟨c0, w0.1, w0.2⟩, ⟨c1, w1.1, w1.2⟩, ⟨c2, w2⟩, ⟨v3, c3, b3⟩, ⟨c4, w4.1, w4.2⟩, ⟨v5, c5, b5, r5⟩⟩
    obtain ⟨f, hf⟩ : ∃ f : Nat → CallS, ∀ i, i < len → CallAt w (fun j => w.cell? (a.add (i * 6 + j))) (f i) := by
      classical
      refine ⟨fun i => if hi : i < len then Classical.choose (each i hi) else ⟨0, 0, ⟨#[]⟩, [], 0, []⟩, fun i hi => ?_⟩
      simp only [dif_pos hi]
      exact Classical.choose_spec (each i hi)
    refine ⟨(List.range len).map f, .inr ⟨a, cap, by simp, by simpa using hl, hm, fun i x hx => ?_⟩⟩
    simp only [List.getElem?_map, Option.map_eq_some_iff, List.getElem?_eq_some_iff, List.length_range] at hx
    obtain ⟨r, ⟨hi, e⟩, rfl⟩ := hx
    simp at e
    subst e
    exact hf i hi
end Go.Proofs.YtpjekppljaekoaaGreatDoor
namespace Go.Proofs.YtpjekppljaekoaaGreatDoor
open Go Go.RowKit

def hasArr (n : Nat) (c : Cont) : Array Value := ((List.range n).map fun (j : Nat) => Value.bool (c (j : Int)).isSome).toArray
def strOf (c : Cont) (j : Nat) : Value := .string ⟨((c (j : Int)).getD []).toArray⟩
def strArr (n : Nat) (c : Cont) : Array Value := ((List.range n).map fun (j : Nat) => strOf c j).toArray

theorem put_same (c : Cont) (k : Int) (b : List UInt8) : c.put k b k = some b := by simp [Cont.put]
theorem put_other (c : Cont) {k n : Int} (b : List UInt8) (h : n ≠ k) : c.put k b n = c n := by simp [Cont.put, h]
theorem arr_set {n : Nat} {f g : Nat → Value} {k : Nat} {v : Value} (hk : g k = v) (ho : ∀ j, j ≠ k → g j = f j) : ((List.range n).map f).toArray.setIfInBounds k v = ((List.range n).map g).toArray := by
  apply Array.ext'
  simp only [Array.toList_setIfInBounds]
  apply List.ext_getElem?
  intro i
  rw [List.getElem?_set]
  simp only [List.length_map, List.length_range, List.getElem?_map]
  by_cases hi : k = i
  · subst hi
    rw [if_pos rfl]
    by_cases hl : k < n
    · rw [if_pos hl, List.getElem?_range hl]; simp [hk]
    · rw [if_neg hl, List.getElem?_eq_none (by simp; omega)]; rfl
  · rw [if_neg hi]
    by_cases hl : i < n
    · rw [List.getElem?_range hl]; simp [ho i (Ne.symm hi)]
    · rw [List.getElem?_eq_none (by simp; omega)]; rfl
theorem has_set (n : Nat) (c : Cont) (k : Nat) (b : List UInt8) : (hasArr n c).setIfInBounds k (.bool true) = hasArr n (c.put k b) :=
  arr_set (by simp [put_same]) fun j hj => by rw [put_other c b (by omega)]
theorem str_set (n : Nat) (c : Cont) (k : Nat) (b : List UInt8) : (strArr n c).setIfInBounds k (.string ⟨b.toArray⟩) = strArr n (c.put k b) :=
  arr_set (by simp [strOf, put_same]) fun j hj => by unfold strOf; rw [put_other c b (by omega)]
theorem has_at {n : Nat} (c : Cont) {k : Nat} (h : k < n) : (hasArr n c)[k]? = some (.bool (c k).isSome) := by
  simp [hasArr, h]
theorem str_at {n : Nat} (c : Cont) {k : Nat} (h : k < n) : (strArr n c)[k]? = some (strOf c k) := by
  simp [strArr, h]
theorem has_size (n : Nat) (c : Cont) : (hasArr n c).size = n := by simp [hasArr]
theorem str_size (n : Nat) (c : Cont) : (strArr n c).size = n := by simp [strArr]

/-- The steps below j that are there. -/
def rowC (c : Cont) (j : Nat) : List Int := ((List.range j).filter fun (k : Nat) => (c (k : Int)).isSome).map fun (k : Nat) => (k : Int)
theorem rowC_yes {c : Cont} {j : Nat} (h : (c j).isSome = true) : rowC c (j + 1) = rowC c j ++ [(j : Int)] := by
  simp [rowC, List.range_succ, h]
theorem rowC_no {c : Cont} {j : Nat} (h : (c j).isSome = false) : rowC c (j + 1) = rowC c j := by
  simp [rowC, List.range_succ, h]
theorem rowC_le (c : Cont) (j : Nat) : (rowC c j).length ≤ j := by
  unfold rowC
  rw [List.length_map]
  exact Nat.le_trans (List.length_filter_le _ _) (by simp)
theorem rowC_sorted (c : Cont) (j : Nat) : (rowC c j).Pairwise (· < ·) := by
  unfold rowC
  rw [List.pairwise_map]
  refine List.Pairwise.filter _ ?_
  exact List.pairwise_lt_range.imp (fun h => by omega)
theorem rowC_mem {c : Cont} {j : Nat} (hc : ∀ n b, c n = some b → 0 ≤ n ∧ n < j) (n : Int) : n ∈ rowC c j ↔ (c n).isSome = true := by
  unfold rowC
  simp only [List.mem_map, List.mem_filter, List.mem_range]
  constructor
  · rintro ⟨k, ⟨_, h⟩, rfl⟩; exact h
  · intro h
    obtain ⟨b, hb⟩ := Option.isSome_iff_exists.1 h
    have := hc n b hb
    refine ⟨n.toNat, ⟨by omega, ?_⟩, by omega⟩
    rw [show ((n.toNat : Nat) : Int) = n from by omega]
    exact h
theorem from_some {c : Cont} {below n : Int} : (c.from below n).isSome = ((c n).isSome && decide (below ≤ n)) := by
  unfold Cont.from
  by_cases h : n < below
  · rw [if_pos h]; simp; omega
  · rw [if_neg h]; simp; omega
end Go.Proofs.YtpjekppljaekoaaGreatDoor
namespace Go.Proofs.YtpjekppljaekoaaGreatDoor
open Go Go.RowKit

/-- No cell of a block is a byte. -/
def NoBytes (cs : Array Value) : Prop := ∀ (i : Nat) (c : UInt8), cs[i]? ≠ some (bv c)

theorem Bs.far {w : World} {p : Nat → Prop} {v : Value} {l : List UInt8} (h : Bs w p v l) {g : Nat} {t : TypeId} {cs : Array Value} (hb : Blk w g t cs) (hn : NoBytes cs) : Bs w (fun k => p k ∧ k ≠ g) v l := by
  obtain ⟨A, c, rfl, h1, h2, h3, hr⟩ := h
  refine ⟨A, c, rfl, h1, h2, h3, ?_⟩
  cases l with
  | nil => exact .inl rfl
  | cons x l =>
    rcases hr with hr | ⟨g', o, e, hg, hp, hc⟩
    · cases hr
    · refine .inr ⟨g', o, e, hg, ⟨hp, ?_⟩, hc⟩
      rintro rfl
      have := hc 0 (bv x) rfl
      rw [hb.cell] at this
      exact hn _ x this
theorem FRow.far {w : World} {p : Nat → Prop} {g : Nat} {t : TypeId} {cs : Array Value} (hb : Blk w g t cs) (hn : NoBytes cs) : ∀ {xs : List Value} {fs : List FileS}, FRow w p xs fs → FRow w (fun k => p k ∧ k ≠ g) xs fs
  | _, [], h => h
  | _, _ :: _, ⟨b, r, e, hs, h⟩ => ⟨b, r, e, hs.far hb hn, FRow.far hb hn h⟩
theorem DiskAt.other {w w' : World} {d : Nat} {sv : Value} {s : DiskS} (h : DiskAt w d sv s) {g : Nat} {t : TypeId} {cs : Array Value} (hb : Blk w g t cs) (hn : NoBytes cs) (hg : g ∉ DF d sv) (hx : Ext [g] w w') : DiskAt w' d sv s := by
  obtain ⟨xs, h1, h2⟩ := h.files.own
  have hd : d ∉ [g] := fun hk => by
    simp at hk
    exact hg (by rw [← hk]; simp [DF])
  have hf : Files w' (· ∉ DF d sv) sv s.files := by
    refine ⟨xs, ⟨h1.1, ?_⟩, ((h2.far hb hn).ext hx fun k _ hk => by simpa using hk.2).imp fun k _ hk => hk.1⟩
    rcases h1.2 with h | ⟨g', cap, cur, e, hb', hh, r⟩
    · exact .inl h
    · exact .inr ⟨g', cap, cur, e, hb', by
        rw [hx.block g' (lt_of_heap hh) (fun hk => by
          simp at hk
          exact hg (by rw [← hk, e]; simp [DF, Value.ownBlock]))]
        exact hh, r⟩
  exact ⟨h.blk.ext hx hd, hf, h.rise, h.used, h.many, h.steps, h.left⟩
theorem Dk.other {w0 w w' : World} {d : Nat} {sv : Value} {s : DiskS} {c : Cont} {q T : Int} {N U : Nat} (h : Dk w0 w d sv s c q T N U) {g : Nat} {t : TypeId} {cs : Array Value} (hb : Blk w g t cs) (hn : NoBytes cs) (hg : g ∉ DF d sv) (h0 : w0.heap.size ≤ g) (hx : Ext [g] w w') : Dk w0 w' d sv s c q T N U :=
  ⟨h.disk.other hb hn hg hx, h.old, h.ext.trans hx fun k hk hl => by simp at hk; omega, h.holds, h.quota, h.steps, h.num, h.used⟩
theorem Dk.mono {w0 w : World} {d : Nat} {sv : Value} {s : DiskS} {c : Cont} {q T T' : Int} {N N' U U' : Nat} (h : Dk w0 w d sv s c q T N U) (hT : T ≤ T') (hN : N ≤ N') (hU : U ≤ U') : Dk w0 w d sv s c q T' N' U' :=
  ⟨h.disk, h.old, h.ext, h.holds, h.quota, Int.le_trans h.steps hT, Nat.le_trans h.num hN, Nat.le_trans h.used hU⟩
theorem StAt.other {w0 w w' : World} {gs d : Nat} {sv : Value} (h : StAt w0 w gs d sv) {g : Nat} {t : TypeId} {cs : Array Value} (hb : Blk w g t cs) (ht : t ≠ 193) (hx : Ext [g] w w') : StAt w0 w' gs d sv :=
  ⟨h.blk.ext hx (by have := hb.ne h.blk ht; simp; omega), h.ne, h.old⟩
theorem has_noBytes (n : Nat) (c : Cont) : NoBytes (hasArr n c) := fun i x h => by
  unfold hasArr at h
  simp only [List.getElem?_toArray, List.getElem?_map, Option.map_eq_some_iff] at h
  obtain ⟨j, _, e⟩ := h
  cases e
theorem str_noBytes (n : Nat) (c : Cont) : NoBytes (strArr n c) := fun i x h => by
  unfold strArr at h
  simp only [List.getElem?_toArray, List.getElem?_map, Option.map_eq_some_iff] at h
  obtain ⟨j, _, e⟩ := h
  cases e
/-- Bytes of an argument lie nowhere in what is behind w0. -/
theorem Bs.arg {w0 w : World} {v : Value} {l : List UInt8} (h : Bs w0 (fun _ => True) v l) (hx : Ext [] w0 w) (q : Nat → Prop) (hq : ∀ g, g < w0.heap.size → q g) : Bs w q v l := (h.imp fun g hg _ => hq g hg).keep hx
end Go.Proofs.YtpjekppljaekoaaGreatDoor
namespace Go.Proofs.YtpjekppljaekoaaGreatDoor
open Go Go.RowKit

theorem i64_and15 (n : Int) : bits .and .i64 n 15 = n % 16 := by
  have h15 : (BitVec.ofInt 64 15).toNat = 2 ^ 4 - 1 := by decide
  have key : (BitVec.ofInt 64 n &&& BitVec.ofInt 64 15).toNat = (n % ((2 ^ 64 : Nat) : Int)).toNat % 2 ^ 4 := by
    rw [BitVec.toNat_and, BitVec.toNat_ofInt, h15, Nat.and_two_pow_sub_one_eq_mod]
  show IntKind.i64.wrap ((BitVec.ofInt 64 n &&& BitVec.ofInt 64 15).toNat : Nat) = n % 16
  rw [key, IntKind.wrap_i64]
  omega
theorem i64_and7 (n : Int) : bits .and .i64 n 7 = n % 8 := by
  have h7 : (BitVec.ofInt 64 7).toNat = 2 ^ 3 - 1 := by decide
  have key : (BitVec.ofInt 64 n &&& BitVec.ofInt 64 7).toNat = (n % ((2 ^ 64 : Nat) : Int)).toNat % 2 ^ 3 := by
    rw [BitVec.toNat_and, BitVec.toNat_ofInt, h7, Nat.and_two_pow_sub_one_eq_mod]
  show IntKind.i64.wrap ((BitVec.ofInt 64 n &&& BitVec.ofInt 64 7).toNat : Nat) = n % 8
  rw [key, IntKind.wrap_i64]
  omega

def wtC (x : CallS) : Nat := 1 + min x.nm.size 5001 + min x.b.length 5001 + min x.keep.length 5001
def sumW (xs : List CallS) : Nat := (xs.map wtC).sum
theorem sumW_snoc {xs : List CallS} {k : Nat} {x : CallS} (h : xs[k]? = some x) : sumW (xs.take (k + 1)) = sumW (xs.take k) + wtC x := by
  unfold sumW
  rw [List.take_add_one, h]
  simp
theorem sumW_le (xs : List CallS) (k : Nat) : sumW (xs.take k) ≤ sumW xs := by
  have h : sumW xs = sumW (xs.take k) + sumW (xs.drop k) := by
    unfold sumW
    rw [← List.sum_append_nat, ← List.map_append, List.take_append_drop]
  omega
def largeB (xs : List CallS) : Bool := decide (60 < xs.length) || decide (5000 < sumW xs)

theorem CallsAt.len {w : World} {v : Value} {xs : List CallS} (h : CallsAt w v xs) : ∃ A c, v = .slice A xs.length c ∧ xs.length ≤ c ∧ c ≤ maxLen := by
  rcases h with ⟨rfl, rfl⟩ | ⟨a, c, rfl, h1, h2, _⟩
  · exact ⟨none, 0, rfl, Nat.le_refl _, Nat.zero_le _⟩
  · exact ⟨some a, c, rfl, h1, h2⟩
/-- A call's cells, at its place. -/
theorem CallsAt.at {w : World} {A : Option Addr} {n c : Nat} {xs : List CallS} (h : CallsAt w (.slice A n c) xs) {k : Nat} {x : CallS} (hk : xs[k]? = some x) :
    ∃ g o, A = some ⟨g, o, none⟩ ∧ g < w.heap.size ∧ CallAt w (fun j => w.cell? ⟨g, o + k * 6 + j, none⟩) x := by
  rcases h with ⟨rfl, _⟩ | ⟨a, c', e, _, _, hx⟩
  · cases hk
  · injection e with e1 e2 e3
    subst e1
    have h0 := hx k x hk
    obtain ⟨x0, hx0⟩ : ∃ x0, xs[0]? = some x0 := ⟨_, List.getElem?_eq_getElem (by have := (List.getElem?_eq_some_iff.1 hk).1; omega)⟩
    obtain ⟨b, o, spot⟩ := a
    have hs : spot = none := by simpa [Addr.add] using World.cell?_spot (hx 0 x0 hx0).kind.1
    subst hs
    have e : (fun j => w.cell? (Addr.add ⟨b, o, none⟩ (k * 6 + j))) = fun j => w.cell? ⟨b, o + k * 6 + j, none⟩ := by
      funext j
      rw [Addr.add_lit, Nat.add_assoc]
    rw [e] at h0
    exact ⟨b, o, rfl, World.block_lt_of_cell? _ _ h0.kind.1, h0⟩

set_option maxRecDepth 100000 in
set_option maxHeartbeats 4000000 in
theorem large_calls (v : Value) (xs : List CallS) (w : World) (h : CallsAt w v xs) :
    Calls Tryz.prog 36 #[v] w fun e w' => e = .returned (.bool (largeB xs)) ∧ Ext [] w w' := by
  obtain ⟨A, c, rfl, hl, hm⟩ := h.len
  unfold maxLen at hm
  generalize hn : xs.length = n at *
  have hcI : (c : Int) ≤ 9223372036854775807 := by omega
  have hlI : (n : Int) ≤ c := by omega
  replace h := Lib.hid h
  replace hl := Lib.hid hl
  clear hm
  by_cases h60 : 60 < n
  · have hr : largeB xs = true := by unfold largeB; rw [hn]; simp [h60]
    rw [hr]
    have h60' : (60 : Int) < n := by omega
    replace hn := Lib.hid hn
    replace hr := Lib.hid hr
    clear h60
    go_enter Tryz.func36, Tryz.ntmps36
    go_wp2
    go_ret
    exact ⟨rfl, Ext.refl _ _⟩
  · have h60' : (n : Int) ≤ 60 := by omega
    have hr : largeB xs = decide (5000 < sumW xs) := by unfold largeB; rw [hn]; simp [h60]
    rw [hr]
    replace hn := Lib.hid hn
    replace hr := Lib.hid hr
    clear h60
    go_enter Tryz.func36, Tryz.ntmps36
    go_wp2
    go_loopw [3, 4] (fun s i wr => ∃ k : Nat, k ≤ n ∧ i = .int .i64 k ∧ s = .int .i64 (sumW (xs.take k) : Nat) ∧ sumW (xs.take k) ≤ 25000 ∧ Hid (Ext [] w wr)) (fun _ i _ => n - (intOf i).toNat)
    case atStart => exact ⟨0, by omega, rfl, rfl, by simp [sumW], Lib.hid (Ext.refl _ _)⟩
    case round =>
      obtain ⟨k, hk, rfl, rfl, hs25, hx⟩ := hrel
      have hle := sumW_le xs k
      by_cases hkn : k < n
      · by_cases hs5 : sumW (xs.take k) ≤ 5000
        · obtain ⟨x, hget⟩ : ∃ x, xs[k]? = some x := ⟨_, List.getElem?_eq_getElem (by have := hn.out; omega)⟩
          obtain ⟨g, o, rfl, hg, hc⟩ := h.out.at hget
          obtain ⟨vb, cb, hb⟩ := hc.b
          obtain ⟨B, bc, rfl, _⟩ := hb.slice
          obtain ⟨vk, ck, hkp, _⟩ := hc.keep
          obtain ⟨K, kc, rfl, _⟩ := hkp
          have q2 := hx.out.cell_some hc.nm.1
          have q3 := hx.out.cell_some cb
          have q5 := hx.out.cell_some ck
          have hsn := sumW_snoc hget
          have hw : wtC x = 1 + min x.nm.size 5001 + min x.b.length 5001 + min x.keep.length 5001 := rfl
          have hkI : (k : Int) < n := by omega
          have hk0 : (0 : Int) ≤ k := by omega
          have hs0 : (0 : Int) ≤ (sumW (xs.take k) : Nat) := by omega
          have hs5I : ((sumW (xs.take k) : Nat) : Int) ≤ 5000 := by omega
          have m1 : min ((x.nm.size : Nat) : Int) 5001 = ((min x.nm.size 5001 : Nat) : Int) := by omega
          have m2 : min ((x.b.length : Nat) : Int) 5001 = ((min x.b.length 5001 : Nat) : Int) := by omega
          have m3 : min ((x.keep.length : Nat) : Int) 5001 = ((min x.keep.length 5001 : Nat) : Int) := by omega
          have b1 : min x.nm.size 5001 ≤ 5001 := by omega
          have b2 : min x.b.length 5001 ≤ 5001 := by omega
          have b3 : min x.keep.length 5001 ≤ 5001 := by omega
          generalize hS : sumW (xs.take k) = S at *
          generalize min x.nm.size 5001 = n1 at *
          generalize min x.b.length 5001 = n2 at *
          generalize min x.keep.length 5001 = n3 at *
          replace hget := Lib.hid hget
          replace hc := Lib.hid hc
          replace hb := Lib.hid hb
          replace hsn := Lib.hid hsn
          replace hw := Lib.hid hw
          replace hS := Lib.hid hS
          replace hle := Lib.hid hle
          replace hs25 := Lib.hid hs25
          replace hs5 := Lib.hid hs5
          go_wp2_with (fail)
          go_quiet (fail)
          go_wp2
          go_roundw
          case rel => exact ⟨k + 1, by omega, by go_num, by rw [hsn.out, hw.out]; go_num, by rw [hsn.out, hw.out]; have := hs5.out; omega, Lib.hid (hx.out.drewN _)⟩
          case measure => simp [intOf]; omega
        · have hr2 : decide (5000 < sumW xs) = true := by simp; omega
          have hkI : (k : Int) < n := by omega
          have hk0 : (0 : Int) ≤ k := by omega
          have hs5I : (5000 : Int) < ((sumW (xs.take k) : Nat) : Int) := by omega
          generalize sumW (xs.take k) = S at *
          replace hle := Lib.hid hle
          replace hs25 := Lib.hid hs25
          replace hr2 := Lib.hid hr2
          clear hs5
          go_wp2
          go_ret
          exact ⟨by rw [hr2.out]; rfl, hx.out⟩
      · obtain rfl : k = n := by omega
        have hS : sumW (xs.take k) = sumW xs := by rw [List.take_of_length_le (by have := hn.out; omega)]
        generalize sumW (xs.take k) = S at *
        have hr3 : decide ((5000 : Int) < ((S : Nat) : Int)) = decide (5000 < sumW xs) := by rw [decide_eq_decide, hS]; omega
        replace hle := Lib.hid hle
        replace hS := Lib.hid hS
        replace hs25 := Lib.hid hs25
        replace hr3 := Lib.hid hr3
        go_wp2
        go_ret
        exact ⟨by rw [hr3.out]; rfl, hx.out⟩
end Go.Proofs.YtpjekppljaekoaaGreatDoor
namespace Go.Proofs.YtpjekppljaekoaaGreatDoor
open Go Go.RowKit

set_option maxRecDepth 100000 in
set_option maxHeartbeats 1000000 in
theorem drops_many (A0 : Option Addr) (n0 c0 : Nat) (v1 : Value) (below : Int) (W : World) (hL : Lai W) (hn : 20 < n0) :
    Calls Tryz.prog 6 #[.slice A0 n0 c0, v1, .int .i64 below] W fun e W' => e = .returned (.bool true) ∧ Ext [] W W' := by
  have hW := works_calls W hL
  have hnI : (20 : Int) < n0 := by omega
  clear hn
  replace hL := Lib.hid hL
  go_enter Tryz.func6, Tryz.ntmps6
  go_wp2_with (go_at_call 37; refine hW.mono ?_; rintro e w1 ⟨rfl, hx⟩; replace hx := Lib.hid hx)
  go_ret
  exact ⟨rfl, hx.out⟩

theorem arr0 : (#[.bool false, .bool false, .bool false, .bool false, .bool false, .bool false, .bool false, .bool false, .bool false, .bool false, .bool false, .bool false, .bool false, .bool false, .bool false, .bool false, .bool false, .bool false, .bool false, .bool false, .bool false, .bool false, .bool false, .bool false, .bool false, .bool false, .bool false, .bool false, .bool false, .bool false, .bool false, .bool false, .bool false, .bool false, .bool false, .bool false, .bool false, .bool false, .bool false, .bool false, .bool false] : Array Value) = hasArr 41 (fun _ => none) := by rfl
theorem arr1 : (#[.string ⟨#[]⟩, .string ⟨#[]⟩, .string ⟨#[]⟩, .string ⟨#[]⟩, .string ⟨#[]⟩, .string ⟨#[]⟩, .string ⟨#[]⟩, .string ⟨#[]⟩, .string ⟨#[]⟩, .string ⟨#[]⟩, .string ⟨#[]⟩, .string ⟨#[]⟩, .string ⟨#[]⟩, .string ⟨#[]⟩, .string ⟨#[]⟩, .string ⟨#[]⟩, .string ⟨#[]⟩, .string ⟨#[]⟩, .string ⟨#[]⟩, .string ⟨#[]⟩, .string ⟨#[]⟩, .string ⟨#[]⟩, .string ⟨#[]⟩, .string ⟨#[]⟩, .string ⟨#[]⟩, .string ⟨#[]⟩, .string ⟨#[]⟩, .string ⟨#[]⟩, .string ⟨#[]⟩, .string ⟨#[]⟩, .string ⟨#[]⟩, .string ⟨#[]⟩, .string ⟨#[]⟩, .string ⟨#[]⟩, .string ⟨#[]⟩, .string ⟨#[]⟩, .string ⟨#[]⟩, .string ⟨#[]⟩, .string ⟨#[]⟩, .string ⟨#[]⟩, .string ⟨#[]⟩] : Array Value) = strArr 41 (fun _ => none) := by rfl

/-- Between two rounds of the first loop. -/
structure D1 (W : World) (d gs g10 g11 k : Nat) (sv : Value) (s : DiskS) (c : Cont) (wr : World) : Prop where
  dk : Dk W wr d sv s c 100000 (3 * k) k (217 * k)
  st : StAt W wr gs d sv
  b10 : Blk wr g10 102 (hasArr 41 c)
  b11 : Blk wr g11 103 (strArr 41 c)
  n10 : g10 ∉ DF d sv
  n11 : g11 ∉ DF d sv
  o10 : W.heap.size ≤ g10
  o11 : W.heap.size ≤ g11
  ne : g10 ≠ g11
  bnd : ∀ n b, c n = some b → 0 ≤ n ∧ n < 41 ∧ b.length ≤ 200

theorem sread_none {w0 w : World} {gs d : Nat} {sv : Value} {s : DiskS} {c : Cont} {q T : Int} {N U : Nat} (h : Dk w0 w d sv s c q T N U) (st : StAt w0 w gs d sv) (hL : Lai w0) (k : Int) (h0 : 0 ≤ k) (h1 : k ≤ 1073741824) (hc : c k = none) :
    Calls Tryz.prog 42 #[.pointer (some ⟨gs, 0, none⟩), .int .i64 k] w (BytesPost [] 190 w) := by
  refine (sread h st hL k h0 h1).mono ?_
  rintro e w' ⟨v, rfl, hb, hx⟩
  rw [hc] at hb ⊢
  obtain ⟨A, c', rfl, hb'⟩ := hb.slice
  exact ⟨A, c', rfl, hb', hx⟩

/-- Behind the call of Drop. -/
structure D2 (W : World) (d gs g10 g11 : Nat) (below : Int) (sv : Value) (s : DiskS) (c : Cont) (wr : World) : Prop where
  dk : Dk W wr d sv s (c.from below) 100000 1000 100 10000
  st : StAt W wr gs d sv
  b10 : Blk wr g10 102 (hasArr 41 c)
  b11 : Blk wr g11 103 (strArr 41 c)
  n10 : g10 ∉ DF d sv
  n11 : g11 ∉ DF d sv
  bnd : ∀ n b, c n = some b → 0 ≤ n ∧ n < 41 ∧ b.length ≤ 200
theorem D2.keep {W : World} {d gs g10 g11 : Nat} {below : Int} {sv : Value} {s : DiskS} {c : Cont} {w w' : World} (h : D2 W d gs g10 g11 below sv s c w) (hx : Ext [] w w') : D2 W d gs g10 g11 below sv s c w' :=
  ⟨h.dk.keep hx, h.st.keep hx, h.b10.keep hx, h.b11.keep hx, h.n10, h.n11, h.bnd⟩
theorem from_mem {c : Cont} {below : Int} (h : ∀ n b, c n = some b → 0 ≤ n ∧ n < 41 ∧ b.length ≤ 200) : ∀ n b, c.from below n = some b → 0 ≤ n ∧ n < ((41 : Nat) : Int) := fun n b hn => by
  unfold Cont.from at hn
  split at hn
  · cases hn
  · have := h n b hn
    omega

set_option maxRecDepth 100000 in
set_option maxHeartbeats 4000000 in
theorem drops_main (v0 v1 : Value) (sl : List UInt8) (ls : List (List UInt8)) (below : Int) (W : World) (hL : Lai W) (h0 : Bs W (fun _ => True) v0 sl) (h1 : Bss W v1 ls) (hn : sl.length ≤ 20) :
    Calls Tryz.prog 6 #[v0, v1, .int .i64 below] W fun e W' => e = .returned (.bool true) ∧ Ext [] W W' := by
  obtain ⟨A0, c0, rfl, hl0, hm0, _, hr0⟩ := h0
  obtain ⟨A1, c1, vs, rfl, hl1, hm1, hr1, hvl, hvs⟩ := h1
  generalize hn0 : sl.length = n0 at *
  generalize hn1 : ls.length = n1 at *
  have hnI : (n0 : Int) ≤ 20 := by omega
  have hc0 : (n0 : Int) ≤ c0 := by omega
  have hc1 : (n1 : Int) ≤ c1 := by omega
  unfold maxLen at hm0 hm1
  have hm0' : (c0 : Int) ≤ 9223372036854775807 := by omega
  have hm1' : (c1 : Int) ≤ 9223372036854775807 := by omega
  have hN := snew (w0 := W) (w := W) 100000 (Ext.refl _ _) (by omega) (by omega)
  replace hL := Lib.hid hL
  replace hr0 := Lib.hid hr0
  replace hr1 := Lib.hid hr1
  replace hvl := Lib.hid hvl
  replace hvs := Lib.hid hvs
  replace hn0 := Lib.hid hn0
  replace hn1 := Lib.hid hn1
  replace hl0 := Lib.hid hl0
  replace hl1 := Lib.hid hl1
  clear hm0 hm1
  go_enter Tryz.func6, Tryz.ntmps6
  go_wp2_with (first
    | (go_at_call 13; (with_reducible refine hN.mono ?_); rintro e w1 ⟨d, sv1, s1, rfl, h1, hx1, hd1⟩; have hO := sopen h1 (by omega); replace h1 := Lib.hid h1; replace hx1 := Lib.hid hx1; replace hd1 := Lib.hid hd1)
    | (go_at_call 38; (with_reducible refine hO.mono ?_); rintro e w2 ⟨gs, rfl, hg2, sv2, s2, h2, st2, ht2⟩; replace h2 := Lib.hid h2; replace st2 := Lib.hid st2; replace ht2 := Lib.hid ht2; replace hg2 := Lib.hid hg2))
  rw [arr0, arr1]
  generalize hW2 : (w2.alloc (.cells (hasArr 41 (fun _ => none)) 102)).alloc (.cells (strArr 41 (fun _ => none)) 103) = W2
  have hxW2 : Ext [] w2 W2 := by rw [← hW2]; exact ((Ext.refl _ _).alloc _).alloc _
  have b10 : Blk W2 w2.heap.size 102 (hasArr 41 (fun _ => none)) := by rw [← hW2]; exact (Blk.new _ _ _).alloc _
  have b11 : Blk W2 (w2.heap.size + 1) 103 (strArr 41 (fun _ => none)) := by rw [← hW2]; exact Blk.new' _ _ _ (by simp)
  generalize hg10 : w2.heap.size = g10 at *
  generalize hg11 : g10 + 1 = g11 at *
  have hlt2 := h2.out.disk.dlt
  have d0 : D1 W d gs g10 g11 0 sv2 s2 (fun _ => none) W2 := ⟨h2.out.keep hxW2, st2.out.keep hxW2, b10, b11, (fun hk => by have := hlt2 _ hk; omega), (fun hk => by have := hlt2 _ hk; omega), by have := h2.out.ext.size; omega, by have := h2.out.ext.size; omega, by omega, fun _ _ h => by cases h⟩
  replace d0 := Lib.hid d0
  replace hW2 := Lib.hid hW2
  replace hxW2 := Lib.hid hxW2
  replace hg10 := Lib.hid hg10
  replace hg11 := Lib.hid hg11
  clear b10 b11 hlt2
  go_loopw [12] (fun i wr => ∃ k : Nat, k ≤ n0 ∧ i = .int .i64 k ∧ ∃ sv s c, Hid (D1 W d gs g10 g11 k sv s c wr)) (fun i _ => n0 - (intOf i).toNat)
  case atStart => exact ⟨0, by omega, rfl, sv2, s2, _, d0⟩
  case round =>
    obtain ⟨k, hk, rfl, sv, s, c, hd⟩ := hrel
    by_cases hkn : k < n0
    · obtain ⟨x, hx⟩ : ∃ x, sl[k]? = some x := ⟨_, List.getElem?_eq_getElem (by have := hn0.out; omega)⟩
      obtain ⟨ga, oa, rfl, hga, _, q0⟩ := hr0.out.at (k := k) (u := bv x) (by rw [List.getElem?_map, hx]; rfl)
      replace q0 := hd.out.dk.ext.cell_some q0
      unfold bv at q0
      have hx0 : (0 : Int) ≤ x.toNat := by omega
      have hx1 : (x.toNat : Int) ≤ 255 := by have := x.toNat_lt; omega
      generalize (x.toNat : Int) = xv at *
      obtain ⟨kk, hkk⟩ : ∃ kk : Nat, xv % 41 = (kk : Int) := ⟨(xv % 41).toNat, by omega⟩
      have hk41 : kk < 41 := by omega
      have hk41' : (kk : Int) < 41 := by omega
      have hkk0 : (0 : Int) ≤ kk := by omega
      have hkI : (k : Int) < n0 := by omega
      have hk0 : (0 : Int) ≤ k := by omega
      have hlw : Lai wr := hL.out.keep hd.out.dk.ext
      have hWk := works_calls wr hlw
      have hxw := hd.out.dk.ext
      replace hx := Lib.hid hx
      replace hga := Lib.hid hga
      replace hlw := Lib.hid hlw
      replace hxw := Lib.hid hxw
      replace hk := Lib.hid hk
      replace hk41 := Lib.hid hk41
      by_cases hl : k < n1
      · obtain ⟨u, hu⟩ : ∃ u, vs[k]? = some u := ⟨_, List.getElem?_eq_getElem (by have := hvl.out; have := hn1.out; omega)⟩
        obtain ⟨b, hbl⟩ : ∃ b, ls[k]? = some b := ⟨_, List.getElem?_eq_getElem (by have := hn1.out; omega)⟩
        obtain ⟨B, bc, rfl, hb⟩ := (hvs.out k u b hu hbl).slice
        obtain ⟨gb, ob, rfl, hgb, _, q1⟩ := hr1.out.at hu
        replace q1 := hd.out.dk.ext.cell_some q1
        have hlI : (k : Int) < n1 := by omega
        replace hu := Lib.hid hu
        replace hbl := Lib.hid hbl
        replace hgb := Lib.hid hgb
        obtain ⟨m, hm⟩ : ∃ m, b.length = m := ⟨_, rfl⟩
        rw [hm] at q1 hb
        have hbm := hm
        clear hm hl
        have hbD : Bs wr (· ∉ DF d sv) (.slice B m bc) b := hb.arg hxw.out _ fun g hg hk => by have := hd.out.dk.old _ hk; omega
        by_cases h200 : 200 < m
        · have h200' : ((200 : Int) < ((m : Nat) : Int)) := by omega
          replace hb := Lib.hid hb
          replace hbD := Lib.hid hbD
          replace hbm := Lib.hid hbm
          clear h200
          go_wp2_with (go_at_call 37; (with_reducible refine hWk.mono ?_); rintro e w3 ⟨rfl, hx3⟩; replace hx3 := Lib.hid hx3)
          go_ret
          exact ⟨rfl, hxw.out.trans' hx3.out⟩
        · have h200' : ((m : Nat) : Int) ≤ 200 := by omega
          have hWr := swrite hd.out.dk hd.out.st hL.out (kk : Int) _ b hbD (by omega) (by omega) (by omega) (by omega) (by omega) (by omega) (by omega)
          replace hb := Lib.hid hb
          replace hbD := Lib.hid hbD
          replace hbm := Lib.hid hbm
          replace h200 := Lib.hid h200
          clear hWk
          go_upto_region 21 with (go_at_call 39; (with_reducible refine hWr.mono ?_); rintro e w3 ⟨rfl, sv3, s3, h3, st3, ht3⟩; obtain ⟨b10, n10⟩ := ht3.blk hd.out.b10 hd.out.n10; obtain ⟨b11, n11⟩ := ht3.blk hd.out.b11 hd.out.n11; have p10 : w3.cell? ⟨g10, kk, none⟩ = some (.bool (c kk).isSome) := (b10.cell kk).trans (has_at c hk41.out); have f10 := b10.froz kk; replace h3 := Lib.hid h3; replace st3 := Lib.hid st3; replace ht3 := Lib.hid ht3; replace b10 := Lib.hid b10; replace b11 := Lib.hid b11; replace n10 := Lib.hid n10; replace n11 := Lib.hid n11)
          have hx4 : Ext [g10] w3 (w3.setCell ⟨g10, kk, none⟩ (.bool true)) := (Ext.refl _ _).set (.inl (by simp)) _
          have c10 : Blk (w3.setCell ⟨g10, kk, none⟩ (.bool true)) g10 102 (hasArr 41 (c.put kk b)) := by have := b10.out.set kk (.bool true); rwa [has_set 41 c kk b] at this
          generalize hw4 : w3.setCell ⟨g10, kk, none⟩ (.bool true) = w4 at *
          have h4 := h3.out.other b10.out (has_noBytes _ _) n10.out hd.out.o10 hx4
          have st4 := st3.out.other b10.out (by decide) hx4
          have c11 := b11.out.ext hx4 (by have := hd.out.ne; simp; omega)
          have p11 : w4.cell? ⟨g11, kk, none⟩ = some (strOf c kk) := (c11.cell kk).trans (str_at c hk41.out)
          have f11 := c11.froz kk
          have hcv := (hb.out.keep h4.ext).str
          replace h4 := Lib.hid h4
          replace st4 := Lib.hid st4
          replace c10 := Lib.hid c10
          replace c11 := Lib.hid c11
          replace hx4 := Lib.hid hx4
          replace hw4 := Lib.hid hw4
          clear p10 f10
          go_wp2
          have hx5 : Ext [g11] w4 (w4.setCell ⟨g11, kk, none⟩ (.string ⟨b.toArray⟩)) := (Ext.refl _ _).set (.inl (by simp)) _
          have d11 : Blk (w4.setCell ⟨g11, kk, none⟩ (.string ⟨b.toArray⟩)) g11 103 (strArr 41 (c.put kk b)) := by have := c11.out.set kk (.string ⟨b.toArray⟩); rwa [str_set 41 c kk b] at this
          have d10 := c10.out.ext hx5 (by have := hd.out.ne; simp; omega)
          have h5 := h4.out.other c11.out (str_noBytes _ _) n11.out hd.out.o11 hx5
          have st5 := st4.out.other c11.out (by decide) hx5
          generalize w4.setCell ⟨g11, kk, none⟩ (.string ⟨b.toArray⟩) = w5 at *
          go_roundw
          case rel =>
            refine ⟨k + 1, by omega, by go_num, sv3, s3, c.put kk b, Lib.hid ⟨h5.mono (by omega) (by omega) ?_, st5, d10, d11, n10.out, n11.out, hd.out.o10, hd.out.o11, hd.out.ne, ?_⟩⟩
            · have := hbm.out
              have := h200.out
              omega
            · intro n y hy
              unfold Cont.put at hy
              split at hy
              · next e =>
                injection hy with hy
                subst hy
                have := hbm.out
                have := h200.out
                have := hk41.out
                omega
              · exact hd.out.bnd n y hy
          case measure => simp [intOf]; omega
      · have hb : Bs W (fun _ => True) (.slice none 0 0) [] := Bs.nil
        obtain ⟨b, hbe⟩ : ∃ b : List UInt8, b = [] := ⟨_, rfl⟩
        rw [← hbe] at hb
        have hbm : b.length = 0 := by rw [hbe]; rfl
        have hlI : (n1 : Int) ≤ k := by omega
        replace hbe := Lib.hid hbe
        clear hl
        have hbD : Bs wr (· ∉ DF d sv) (.slice none 0 0) b := hb.arg hxw.out _ fun g hg hk => by have := hd.out.dk.old _ hk; omega
        by_cases h200 : 200 < 0
        · exact absurd h200 (by omega)
        · have h200' : ((0 : Nat) : Int) ≤ 200 := by omega
          have hWr := swrite hd.out.dk hd.out.st hL.out (kk : Int) _ b hbD (by omega) (by omega) (by omega) (by omega) (by omega) (by omega) (by omega)
          replace hb := Lib.hid hb
          replace hbD := Lib.hid hbD
          replace hbm := Lib.hid hbm
          replace h200 := Lib.hid h200
          clear hWk
          go_upto_region 21 with (go_at_call 39; (with_reducible refine hWr.mono ?_); rintro e w3 ⟨rfl, sv3, s3, h3, st3, ht3⟩; obtain ⟨b10, n10⟩ := ht3.blk hd.out.b10 hd.out.n10; obtain ⟨b11, n11⟩ := ht3.blk hd.out.b11 hd.out.n11; have p10 : w3.cell? ⟨g10, kk, none⟩ = some (.bool (c kk).isSome) := (b10.cell kk).trans (has_at c hk41.out); have f10 := b10.froz kk; replace h3 := Lib.hid h3; replace st3 := Lib.hid st3; replace ht3 := Lib.hid ht3; replace b10 := Lib.hid b10; replace b11 := Lib.hid b11; replace n10 := Lib.hid n10; replace n11 := Lib.hid n11)
          have hx4 : Ext [g10] w3 (w3.setCell ⟨g10, kk, none⟩ (.bool true)) := (Ext.refl _ _).set (.inl (by simp)) _
          have c10 : Blk (w3.setCell ⟨g10, kk, none⟩ (.bool true)) g10 102 (hasArr 41 (c.put kk b)) := by have := b10.out.set kk (.bool true); rwa [has_set 41 c kk b] at this
          generalize hw4 : w3.setCell ⟨g10, kk, none⟩ (.bool true) = w4 at *
          have h4 := h3.out.other b10.out (has_noBytes _ _) n10.out hd.out.o10 hx4
          have st4 := st3.out.other b10.out (by decide) hx4
          have c11 := b11.out.ext hx4 (by have := hd.out.ne; simp; omega)
          have p11 : w4.cell? ⟨g11, kk, none⟩ = some (strOf c kk) := (c11.cell kk).trans (str_at c hk41.out)
          have f11 := c11.froz kk
          have hcv := (hb.out.keep h4.ext).str
          replace h4 := Lib.hid h4
          replace st4 := Lib.hid st4
          replace c10 := Lib.hid c10
          replace c11 := Lib.hid c11
          replace hx4 := Lib.hid hx4
          replace hw4 := Lib.hid hw4
          clear p10 f10
          go_wp2
          have hx5 : Ext [g11] w4 (w4.setCell ⟨g11, kk, none⟩ (.string ⟨b.toArray⟩)) := (Ext.refl _ _).set (.inl (by simp)) _
          have d11 : Blk (w4.setCell ⟨g11, kk, none⟩ (.string ⟨b.toArray⟩)) g11 103 (strArr 41 (c.put kk b)) := by have := c11.out.set kk (.string ⟨b.toArray⟩); rwa [str_set 41 c kk b] at this
          have d10 := c10.out.ext hx5 (by have := hd.out.ne; simp; omega)
          have h5 := h4.out.other c11.out (str_noBytes _ _) n11.out hd.out.o11 hx5
          have st5 := st4.out.other c11.out (by decide) hx5
          generalize w4.setCell ⟨g11, kk, none⟩ (.string ⟨b.toArray⟩) = w5 at *
          go_roundw
          case rel =>
            refine ⟨k + 1, by omega, by go_num, sv3, s3, c.put kk b, Lib.hid ⟨h5.mono (by omega) (by omega) ?_, st5, d10, d11, n10.out, n11.out, hd.out.o10, hd.out.o11, hd.out.ne, ?_⟩⟩
            · have := hbm.out
              have := h200.out
              omega
            · intro n y hy
              unfold Cont.put at hy
              split at hy
              · next e =>
                injection hy with hy
                subst hy
                have := hbm.out
                have := h200.out
                have := hk41.out
                omega
              · exact hd.out.bnd n y hy
          case measure => simp [intOf]; omega
    · obtain rfl : k = n0 := by omega
      have hDr := sdrop hd.out.dk hd.out.st hL.out below (by omega)
      have hbnd := hd.out.bnd
      go_wp2_with (go_at_call 40; (with_reducible refine hDr.mono ?_); rintro e w3 ⟨rfl, sv3, s3, h3, st3, ht3⟩; replace h3 := Lib.hid h3; replace st3 := Lib.hid st3; replace ht3 := Lib.hid ht3)
      obtain ⟨e10, m10⟩ := ht3.out.blk hd.out.b10 hd.out.n10
      obtain ⟨e11, m11⟩ := ht3.out.blk hd.out.b11 hd.out.n11
      have d2 : D2 W d gs g10 g11 below sv3 s3 c w3 := ⟨h3.out.mono (by omega) (by omega) (by omega), st3.out, e10, e11, m10, m11, hbnd⟩
      clear e10 e11 m10 m11 hDr
      replace d2 := Lib.hid d2
      replace hbnd := Lib.hid hbnd
      go_loopw [8, 15] (fun g t wr => ∃ k : Nat, k ≤ 2 ∧ t = .int .i64 k ∧ ∃ gs sv s, g = .pointer (some ⟨gs, 0, none⟩) ∧ Hid (D2 W d gs g10 g11 below sv s c wr)) (fun _ t _ => 2 - (intOf t).toNat)
      case atStart => exact ⟨0, by omega, rfl, gs, sv3, s3, rfl, d2⟩
      case round =>
        obtain ⟨j, hj, rfl, gs', sv', s', rfl, hr⟩ := hrel
        by_cases hj2 : j < 2
        · have hj2I : (j : Int) < 2 := by omega
          have hj0 : (0 : Int) ≤ j := by omega
          go_wp2_with (fail)
          go_loopw [16, 17, 18] (fun n last t wr => ∃ i : Nat, i ≤ 41 ∧ t = .int .i64 i ∧ n = .int .i64 ((rowC (c.from below) i).length : Nat) ∧ last = .int .i64 ((rowC (c.from below) i).getLast?.getD (-1)) ∧ Hid (D2 W d gs' g10 g11 below sv' s' c wr)) (fun _ _ t _ => 41 - (intOf t).toNat)
          case atStart => exact ⟨0, by omega, rfl, rfl, rfl, hr⟩
          case round =>
            obtain ⟨i, hi, rfl, rfl, rfl, hr⟩ := hrel
            have hle := rowC_le (c.from below) i
            by_cases hi41 : i < 41
            · have hi0 : (0 : Int) ≤ i := by omega
              have hiI : (i : Int) < 41 := by omega
              have hlI : ((rowC (c.from below) i).length : Int) ≤ 41 := by omega
              have p10 : wr.cell? ⟨g10, i, none⟩ = some (.bool (c i).isSome) := (hr.out.b10.cell i).trans (has_at c hi41)
              have p11 : wr.cell? ⟨g11, i, none⟩ = some (strOf c i) := (hr.out.b11.cell i).trans (str_at c hi41)
              have hfs := from_some (c := c) (below := below) (n := i)
              by_cases hcs : (c.from below i).isSome = true
              · obtain ⟨b, hb⟩ := Option.isSome_iff_exists.1 hcs
                have hRd := sread_some hr.out.dk hr.out.st hL.out (i : Int) (by omega) (by omega) hb
                rw [hcs] at hfs
                have hfs' : (c i).isSome = true ∧ below ≤ (i : Int) := by simpa using hfs.symm
                obtain ⟨hf1, hf2⟩ := hfs'
                have hcb : c i = some b := by
                  unfold Cont.from at hb
                  split at hb
                  · cases hb
                  · exact hb
                rw [hf1] at p10
                unfold strOf at p11
                rw [hcb] at p11
                simp only [Option.getD_some] at p11
                have hyes := rowC_yes hcs
                generalize hR : rowC (c.from below) i = R at *
                replace hle := Lib.hid hle
                replace hi := Lib.hid hi
                replace hfs := Lib.hid hfs
                replace hcs := Lib.hid hcs
                replace hb := Lib.hid hb
                replace hcb := Lib.hid hcb
                replace hyes := Lib.hid hyes
                replace hR := Lib.hid hR
                replace hf1 := Lib.hid hf1
                go_upto_region 35 with (go_at_call 42; (with_reducible refine hRd.mono ?_); rintro e w4 ⟨A4, c4, rfl, hb4, hx4⟩; have r10 := hx4.cell_some p10; have r11 := hx4.cell_some p11; clear p10 p11; have hcv := fun nd : Nat => (hb4.keep ((Ext.refl [] w4).drewN nd)).str; replace hx4 := Lib.hid hx4; replace hb4 := Lib.hid hb4)
                go_quiet (fail)
                go_wp2
                go_roundw
                case rel => exact ⟨i + 1, by omega, by go_num, by rw [hyes.out, List.length_append]; go_num, by rw [hyes.out]; simp, Lib.hid (hr.out.keep ((hx4.out).drewN _))⟩
                case measure => simp [intOf]; omega
              · have hcn : c.from below i = none := by simpa using hcs
                have hRd := sread_none hr.out.dk hr.out.st hL.out (i : Int) (by omega) (by omega) hcn
                have hcs' : (c.from below i).isSome = false := by simpa using hcs
                have hno := rowC_no hcs'
                generalize hR : rowC (c.from below) i = R at *
                replace hle := Lib.hid hle
                replace hi := Lib.hid hi
                replace hcs := Lib.hid hcs
                replace hcs' := Lib.hid hcs'
                replace hcn := Lib.hid hcn
                replace hno := Lib.hid hno
                replace hR := Lib.hid hR
                by_cases hci : (c i).isSome = true
                · have hbi : (i : Int) < below := by
                    have h1 := hcs'.out
                    rw [hfs, hci] at h1
                    simpa using h1
                  rw [hci] at p10
                  replace hfs := Lib.hid hfs
                  replace hci := Lib.hid hci
                  go_wp2_with (go_at_call 42; (with_reducible refine hRd.mono ?_); rintro e w4 ⟨A4, c4, rfl, hb4, hx4⟩; have r10 := hx4.cell_some p10; clear p10 p11; replace hx4 := Lib.hid hx4; replace hb4 := Lib.hid hb4)
                  go_roundw
                  case rel => exact ⟨i + 1, by omega, by go_num, by rw [hno.out], by rw [hno.out], Lib.hid (hr.out.keep hx4.out)⟩
                  case measure => simp [intOf]; omega
                · have hci' : (c i).isSome = false := by simpa using hci
                  rw [hci'] at p10
                  replace hfs := Lib.hid hfs
                  replace hci := Lib.hid hci
                  replace hci' := Lib.hid hci'
                  go_wp2_with (go_at_call 42; (with_reducible refine hRd.mono ?_); rintro e w4 ⟨A4, c4, rfl, hb4, hx4⟩; have r10 := hx4.cell_some p10; clear p10 p11; replace hx4 := Lib.hid hx4; replace hb4 := Lib.hid hb4)
                  go_roundw
                  case rel => exact ⟨i + 1, by omega, by go_num, by rw [hno.out], by rw [hno.out], Lib.hid (hr.out.keep hx4.out)⟩
                  case measure => simp [intOf]; omega
            · obtain rfl : i = 41 := by omega
              have hmem := rowC_mem (from_mem (below := below) hbnd.out)
              have hsrt := rowC_sorted (c.from below) 41
              have hNw := snewest hr.out.dk hr.out.st hL.out _ hsrt hmem
              have hSt := fun w4 (hx : Ext [] wr w4) => ssteps (hr.out.dk.keep hx) (hr.out.st.keep hx) hL.out _ hsrt hmem
              have hOp := fun w4 (hx : Ext [] wr w4) => sopen (hr.out.dk.keep hx) (by omega)
              generalize hR : rowC (c.from below) 41 = R at *
              have hlI : (R.length : Int) ≤ 41 := by omega
              replace hle := Lib.hid hle
              replace hi := Lib.hid hi
              replace hmem := Lib.hid hmem
              replace hsrt := Lib.hid hsrt
              replace hR := Lib.hid hR
              replace hSt := Lib.hid hSt
              replace hOp := Lib.hid hOp
              by_cases hR0 : R = []
              · subst hR0
                go_wp2_with (first
                  | (go_at_call 43; (with_reducible refine hNw.mono ?_); rintro e w4 ⟨rfl, hx4⟩; have hSt4 := hSt.out w4 hx4; replace hx4 := Lib.hid hx4)
                  | (go_at_call 41; (with_reducible refine hSt4.mono ?_); rintro e w5 ⟨A5, c5, rfl, ho5, hx5⟩; have hOp5 := hOp.out w5 (hx4.out.trans' hx5); replace ho5 := Lib.hid ho5; replace hx5 := Lib.hid hx5)
                  | (go_at_call 38; (with_reducible refine hOp5.mono ?_); rintro e w6 ⟨gs6, rfl, hg6, sv6, s6, h6, st6, ht6⟩; replace h6 := Lib.hid h6; replace st6 := Lib.hid st6; replace ht6 := Lib.hid ht6; replace hg6 := Lib.hid hg6))
                go_roundw
                case rel =>
                  have hxx := hx4.out.trans' hx5.out
                  obtain ⟨e10, m10⟩ := ht6.out.blk (hr.out.b10.keep hxx) hr.out.n10
                  obtain ⟨e11, m11⟩ := ht6.out.blk (hr.out.b11.keep hxx) hr.out.n11
                  exact ⟨j + 1, by omega, by go_num, gs6, sv6, s6, rfl, Lib.hid ⟨h6.out, st6.out, e10, e11, m10, m11, hbnd.out⟩⟩
                case measure => simp [intOf]; omega
              · obtain ⟨z, hz⟩ : ∃ z, R.getLast? = some z := by
                  cases hq : R.getLast? with
                  | none => exact absurd (List.getLast?_eq_none_iff.1 hq) hR0
                  | some z => exact ⟨z, rfl⟩
                have hem : R.isEmpty = false := by simpa using hR0
                have hpos : (0 : Int) < R.length := by
                  have := List.length_pos_iff.2 hR0
                  omega
                rw [hz, hem] at hNw
                rw [hz]
                simp only [Option.getD_some] at hNw ⊢
                replace hz := Lib.hid hz
                replace hem := Lib.hid hem
                replace hR0 := Lib.hid hR0
                go_wp2_with (first
                  | (go_at_call 43; (with_reducible refine hNw.mono ?_); rintro e w4 ⟨rfl, hx4⟩; have hSt4 := hSt.out w4 hx4; replace hx4 := Lib.hid hx4)
                  | (go_at_call 41; (with_reducible refine hSt4.mono ?_); rintro e w5 ⟨A5, c5, rfl, ho5, hx5⟩; have hOp5 := hOp.out w5 (hx4.out.trans' hx5); replace ho5 := Lib.hid ho5; replace hx5 := Lib.hid hx5)
                  | (go_at_call 38; (with_reducible refine hOp5.mono ?_); rintro e w6 ⟨gs6, rfl, hg6, sv6, s6, h6, st6, ht6⟩; replace h6 := Lib.hid h6; replace st6 := Lib.hid st6; replace ht6 := Lib.hid ht6; replace hg6 := Lib.hid hg6))
                go_roundw
                case rel =>
                  have hxx := hx4.out.trans' hx5.out
                  obtain ⟨e10, m10⟩ := ht6.out.blk (hr.out.b10.keep hxx) hr.out.n10
                  obtain ⟨e11, m11⟩ := ht6.out.blk (hr.out.b11.keep hxx) hr.out.n11
                  exact ⟨j + 1, by omega, by go_num, gs6, sv6, s6, rfl, Lib.hid ⟨h6.out, st6.out, e10, e11, m10, m11, hbnd.out⟩⟩
                case measure => simp [intOf]; omega
        · obtain rfl : j = 2 := by omega
          have hWk := works_calls wr (hL.out.keep hr.out.dk.ext)
          go_wp2_with (go_at_call 37; (with_reducible refine hWk.mono ?_); rintro e w4 ⟨rfl, hx4⟩; replace hx4 := Lib.hid hx4)
          go_ret
          exact ⟨rfl, hr.out.dk.ext.trans' hx4.out⟩

theorem drops_law (v0 v1 : Value) (sl : List UInt8) (ls : List (List UInt8)) (below : Int) (W : World) (hL : Lai W) (h0 : Bs W (fun _ => True) v0 sl) (h1 : Bss W v1 ls) :
    Calls Tryz.prog 6 #[v0, v1, .int .i64 below] W fun e W' => e = .returned (.bool true) ∧ Ext [] W W' := by
  by_cases hn : sl.length ≤ 20
  · exact drops_main v0 v1 sl ls below W hL h0 h1 hn
  · obtain ⟨A0, c0, rfl, _⟩ := h0
    exact drops_many A0 sl.length c0 v1 below W hL (by omega)
end Go.Proofs.YtpjekppljaekoaaGreatDoor

/- The statement CkptAgain: its walk. -/
import Derived.Test.YtpjekppljaekoaaGreatDoorKA15
import Derived.Deep.Cut
namespace Go.Proofs.YtpjekppljaekoaaGreatDoor
open Go Go.RowKit

theorem made_strs (n : Nat) (h : n ≤ 1000) (w : World) : (Instr.makeSlice 92 (.int .i64 n) (.int .i64 n)).run Tryz.prog w = .ok (.slice (some ⟨w.heap.size, 0, none⟩) n n) (w.alloc (.cells (strArr n (fun _ => none)) 9)) := by
  obtain ⟨i0, hi, hz0, hz1, hz2⟩ := info_parts Tryz.info9
  have e : madeCells (Value.string ⟨#[]⟩).cells (n * 1) = strArr n (fun _ => none) := by
    apply Array.toList_inj.1
    have := toList_madeCells_one (.string ⟨#[]⟩) n
    simp only [Value.cells, Nat.mul_one] at this ⊢
    rw [this]
    simp [strArr, strOf, List.map_const']
  have := run_make (P := Tryz.prog) w 92 9 i0 _ Tryz.underlying92 hi hz0 .i64 .i64 n n (by omega) (by omega) (by rw [hz2]; omega) (by omega)
  rw [this, hz1]
  simp only [Int.toNat_natCast, e]
theorem Tryz.info4 : (Tryz.prog.info? 4).map (fun i => (i.zero, i.size, i.bytes)) = some (some (.bool false), 1, 1) := by kernel_rfl
theorem made_bools (n : Nat) (h : n ≤ 1000) (w : World) : (Instr.makeSlice 80 (.int .i64 n) (.int .i64 n)).run Tryz.prog w = .ok (.slice (some ⟨w.heap.size, 0, none⟩) n n) (w.alloc (.cells (hasArr n (fun _ => none)) 4)) := by
  obtain ⟨i0, hi, hz0, hz1, hz2⟩ := info_parts Tryz.info4
  have e : madeCells (Value.bool false).cells (n * 1) = hasArr n (fun _ => none) := by
    apply Array.toList_inj.1
    have := toList_madeCells_one (.bool false) n
    simp only [Value.cells, Nat.mul_one] at this ⊢
    rw [this]
    simp [hasArr, List.map_const']
  have := run_make (P := Tryz.prog) w 80 4 i0 _ Tryz.underlying80 hi hz0 .i64 .i64 n n (by omega) (by omega) (by rw [hz2]; omega) (by omega)
  rw [this, hz1]
  simp only [Int.toNat_natCast, e]

theorem rowC_at {c : Cont} {n j : Nat} (hj : j < n) (h : (c j).isSome = true) : (rowC c n)[(rowC c j).length]? = some (j : Int) := by
  induction n with
  | zero => omega
  | succ n ih =>
    by_cases hn : j = n
    · subst hn
      rw [rowC_yes h, List.getElem?_append_right (Nat.le_refl _)]
      simp
    · have hi := ih (by omega)
      have hl := (List.getElem?_eq_some_iff.1 hi).1
      cases hc : (c n).isSome with
      | true => rw [rowC_yes hc, List.getElem?_append_left hl]; exact hi
      | false => rw [rowC_no hc]; exact hi

/-- What is read of a row of ints. -/
def LRow (w : World) (A : Option Addr) (L : List Int) : Prop := ∀ (k : Nat) (n : Int), L[k]? = some n → ∃ g, A = some ⟨g, 0, none⟩ ∧ w.cell? ⟨g, k, none⟩ = some (.int .i64 n)
theorem LRow.keep {w w' : World} {A : Option Addr} {L : List Int} (h : LRow w A L) (hx : Ext [] w w') : LRow w' A L := fun k n hk => by
  obtain ⟨g, e, hc⟩ := h k n hk
  exact ⟨g, e, hx.cell_some hc⟩
theorem LRow.of {w : World} {base : Nat} {A : Option Addr} {L : List Int} {c : Nat} (ho : w.ownsRow base 3 1 (.slice A L.length c) L.length (L.map intV)) : LRow w A L := fun k n hk => by
  obtain ⟨g, e, _, _, cur, hb, hq⟩ := ints_cells ho (by rintro rfl; cases hk)
  exact ⟨g, e, (hb.cell k).trans (hq k n hk)⟩

set_option maxRecDepth 100000 in
set_option maxHeartbeats 1000000 in
theorem again_many (v : Value) (xs : List CallS) (bl : Int) (W : World) (hL : Lai W) (h : CallsAt W v xs) (hn : 40 < xs.length) :
    Calls Tryz.prog 5 #[v, .int .u8 bl] W fun e W' => e = .returned (.bool true) ∧ Ext [] W W' := by
  obtain ⟨A, c, rfl, _, _⟩ := h.len
  have hW := works_calls W hL
  generalize xs.length = n at *
  have hnI : (40 : Int) < n := by omega
  clear hn h
  replace hL := Lib.hid hL
  go_enter Tryz.func5, Tryz.ntmps5
  go_wp2_with (go_at_call 37; refine hW.mono ?_; rintro e w1 ⟨rfl, hx⟩; replace hx := Lib.hid hx)
  go_ret
  exact ⟨rfl, hx.out⟩
set_option maxRecDepth 100000 in
set_option maxHeartbeats 1000000 in
theorem again_large (v : Value) (xs : List CallS) (bl : Int) (W : World) (hL : Lai W) (h : CallsAt W v xs) (hn : xs.length ≤ 40) (hl : largeB xs = true) :
    Calls Tryz.prog 5 #[v, .int .u8 bl] W fun e W' => e = .returned (.bool true) ∧ Ext [] W W' := by
  have hG := large_calls v xs W h
  rw [hl] at hG
  obtain ⟨A, c, rfl, _, _⟩ := h.len
  generalize xs.length = n at *
  have hnI : (n : Int) ≤ 40 := by omega
  replace hL := Lib.hid hL
  clear hn h hl
  go_enter Tryz.func5, Tryz.ntmps5
  go_wp2_with (first
    | (go_at_call 36; refine hG.mono ?_; rintro e w1 ⟨rfl, hx1⟩; have hW := works_calls w1 (hL.out.keep hx1); replace hx1 := Lib.hid hx1)
    | (go_at_call 37; refine hW.mono ?_; rintro e w2 ⟨rfl, hx2⟩; replace hx2 := Lib.hid hx2))
  go_ret
  exact ⟨rfl, hx1.out.trans' hx2.out⟩

/-- Between two rounds of the first loop. -/
structure A1 (W : World) (d gs g8 g9 k : Nat) (sv : Value) (s : DiskS) (c : Cont) (wr : World) : Prop where
  dk : Dk W wr d sv s c 1048576 (3 * k) k (3017 * k)
  st : StAt W wr gs d sv
  b8 : Blk wr g8 9 (strArr 16 c)
  b9 : Blk wr g9 4 (hasArr 16 c)
  n8 : g8 ∉ DF d sv
  n9 : g9 ∉ DF d sv
  o8 : W.heap.size ≤ g8
  o9 : W.heap.size ≤ g9
  ne : g8 ≠ g9
  bnd : ∀ n b, c n = some b → 0 ≤ n ∧ n < 16 ∧ b.length ≤ 3000
/-- Behind Drop. -/
structure A2 (W : World) (d gs g8 g9 : Nat) (below : Int) (A : Option Addr) (sv : Value) (s : DiskS) (c : Cont) (wr : World) : Prop where
  dk : Dk W wr d sv s (c.from below) 1048576 1000 100 200000
  st : StAt W wr gs d sv
  b8 : Blk wr g8 9 (strArr 16 c)
  b9 : Blk wr g9 4 (hasArr 16 c)
  row : LRow wr A (rowC (c.from below) 16)
theorem A2.keep {W : World} {d gs g8 g9 : Nat} {below : Int} {A : Option Addr} {sv : Value} {s : DiskS} {c : Cont} {w w' : World} (h : A2 W d gs g8 g9 below A sv s c w) (hx : Ext [] w w') : A2 W d gs g8 g9 below A sv s c w' :=
  ⟨h.dk.keep hx, h.st.keep hx, h.b8.keep hx, h.b9.keep hx, h.row.keep hx⟩
theorem from_mem16 {c : Cont} {below : Int} (h : ∀ n b, c n = some b → 0 ≤ n ∧ n < 16 ∧ b.length ≤ 3000) : ∀ n b, c.from below n = some b → 0 ≤ n ∧ n < ((16 : Nat) : Int) := fun n b hn => by
  unfold Cont.from at hn
  split at hn
  · cases hn
  · have := h n b hn
    omega

set_option maxRecDepth 100000 in
set_option maxHeartbeats 4000000 in
theorem again_main (v : Value) (xs : List CallS) (bl : Int) (W : World) (hL : Lai W) (h : CallsAt W v xs) (hn : xs.length ≤ 40) (hl : largeB xs = false) (hb0 : 0 ≤ bl) (hb1 : bl ≤ 255) :
    Calls Tryz.prog 5 #[v, .int .u8 bl] W fun e W' => e = .returned (.bool true) ∧ Ext [] W W' := by
  have hG := large_calls v xs W h
  rw [hl] at hG
  obtain ⟨A, cc, rfl, hlc, hmc⟩ := h.len
  unfold maxLen at hmc
  generalize hxn : xs.length = n at *
  have hnI : (n : Int) ≤ 40 := by omega
  have hcI : (cc : Int) ≤ 9223372036854775807 := by omega
  have hlI : (n : Int) ≤ cc := by omega
  obtain ⟨bb, hbb⟩ : ∃ bb : Nat, bl % 20 = (bb : Int) := ⟨(bl % 20).toNat, by omega⟩
  have hbb20 : (bb : Int) ≤ 19 := by omega
  have hbb0 : (0 : Int) ≤ bb := by omega
  have hm1 : ∀ w : World, (Instr.makeSlice 92 (.int .i64 16) (.int .i64 16)).run Tryz.prog w = .ok (.slice (some ⟨w.heap.size, 0, none⟩) 16 16) (w.alloc (.cells (strArr 16 (fun _ => none)) 9)) := made_strs 16 (by omega)
  have hm2 : ∀ w : World, (Instr.makeSlice 80 (.int .i64 16) (.int .i64 16)).run Tryz.prog w = .ok (.slice (some ⟨w.heap.size, 0, none⟩) 16 16) (w.alloc (.cells (hasArr 16 (fun _ => none)) 4)) := made_bools 16 (by omega)
  replace h := Lib.hid h
  replace hL := Lib.hid hL
  replace hn := Lib.hid hn
  replace hlc := Lib.hid hlc
  replace hxn := Lib.hid hxn
  clear hmc hl
  go_enter Tryz.func5, Tryz.ntmps5
  go_wp2_with (first
    | (go_at_call 36; (with_reducible refine hG.mono ?_); rintro e w0 ⟨rfl, hx0⟩; have hN := snew (w0 := W) (w := w0) 1048576 hx0 (by omega) (by omega); replace hx0 := Lib.hid hx0)
    | (go_at_call 13; (with_reducible refine hN.mono ?_); rintro e w1 ⟨d, sv1, s1, rfl, h1, hx1, hd1⟩; have hO := sopen h1 (by omega); replace h1 := Lib.hid h1; replace hx1 := Lib.hid hx1; replace hd1 := Lib.hid hd1)
    | (go_at_call 38; (with_reducible refine hO.mono ?_); rintro e w2 ⟨gs, rfl, hg2, sv2, s2, h2, st2, ht2⟩; replace h2 := Lib.hid h2; replace st2 := Lib.hid st2; replace ht2 := Lib.hid ht2; replace hg2 := Lib.hid hg2))
  clear hm1 hm2
  generalize hW2 : (w2.alloc (.cells (strArr 16 (fun _ => none)) 9)).alloc (.cells (hasArr 16 (fun _ => none)) 4) = W2
  have hxW2 : Ext [] w2 W2 := by rw [← hW2]; exact ((Ext.refl _ _).alloc _).alloc _
  have b8 : Blk W2 w2.heap.size 9 (strArr 16 (fun _ => none)) := by rw [← hW2]; exact (Blk.new _ _ _).alloc _
  have b9 : Blk W2 (w2.heap.size + 1) 4 (hasArr 16 (fun _ => none)) := by rw [← hW2]; exact Blk.new' _ _ _ (by simp)
  generalize hg8 : w2.heap.size = g8 at *
  generalize hg9 : g8 + 1 = g9 at *
  have hlt2 := h2.out.disk.dlt
  have d0 : A1 W d gs g8 g9 0 sv2 s2 (fun _ => none) W2 := ⟨h2.out.keep hxW2, st2.out.keep hxW2, b8, b9, (fun hk => by have := hlt2 _ hk; omega), (fun hk => by have := hlt2 _ hk; omega), by have := h2.out.ext.size; omega, by have := h2.out.ext.size; omega, by omega, fun _ _ h => by cases h⟩
  replace d0 := Lib.hid d0
  replace hW2 := Lib.hid hW2
  replace hxW2 := Lib.hid hxW2
  replace hg8 := Lib.hid hg8
  replace hg9 := Lib.hid hg9
  clear b8 b9 hlt2
  go_loopw [10] (fun i wr => ∃ k : Nat, k ≤ n ∧ i = .int .i64 k ∧ ∃ sv s c, Hid (A1 W d gs g8 g9 k sv s c wr)) (fun i _ => n - (intOf i).toNat)
  case atStart => exact ⟨0, by omega, rfl, sv2, s2, _, d0⟩
  case round =>
    obtain ⟨k, hk, rfl, sv, s, c, hd⟩ := hrel
    by_cases hkn : k < n
    · obtain ⟨x, hx⟩ : ∃ x, xs[k]? = some x := ⟨_, List.getElem?_eq_getElem (by have := hxn.out; omega)⟩
      obtain ⟨ga, oa, rfl, hga, hc⟩ := h.out.at hx
      obtain ⟨vb, cb, hb⟩ := hc.b
      obtain ⟨B, bc, rfl, hb⟩ := hb.slice
      have hs1 := hc.step.1
      have q1 := hd.out.dk.ext.cell_some hs1
      have q3 := hd.out.dk.ext.cell_some cb
      generalize hbx : x.b = b at *
      obtain ⟨m, hbm⟩ : ∃ m, b.length = m := ⟨_, rfl⟩
      rw [hbm] at q3 cb hb
      obtain ⟨kk, hkk⟩ : ∃ kk : Nat, bits .and .i64 x.step 15 = (kk : Int) := ⟨(x.step % 16).toNat, by rw [i64_and15]; omega⟩
      have hk16 : kk < 16 := by rw [i64_and15] at hkk; omega
      have hk16' : (kk : Int) < 16 := by omega
      have hkk0 : (0 : Int) ≤ kk := by omega
      have hkI : (k : Int) < n := by omega
      have hk0 : (0 : Int) ≤ k := by omega
      have hlw : Lai wr := hL.out.keep hd.out.dk.ext
      have hWk := works_calls wr hlw
      have hxw := hd.out.dk.ext
      replace hx := Lib.hid hx
      replace hga := Lib.hid hga
      replace hlw := Lib.hid hlw
      replace hxw := Lib.hid hxw
      replace hk := Lib.hid hk
      replace hk16 := Lib.hid hk16
      replace hbx := Lib.hid hbx
      replace hc := Lib.hid hc
      replace cb := Lib.hid cb
      replace hs1 := Lib.hid hs1
      have hbD : Bs wr (· ∉ DF d sv) (.slice B m bc) b := hb.arg hxw.out _ fun g hg hk => by have := hd.out.dk.old _ hk; omega
      by_cases h3k : 3000 < m
      · have h3k' : (3000 : Int) < (m : Int) := by omega
        replace hb := Lib.hid hb
        replace hbD := Lib.hid hbD
        replace hbm := Lib.hid hbm
        clear h3k
        go_wp2_with (go_at_call 37; (with_reducible refine hWk.mono ?_); rintro e w3 ⟨rfl, hx3⟩; replace hx3 := Lib.hid hx3)
        go_ret
        exact ⟨rfl, hxw.out.trans' hx3.out⟩
      · have h3k' : (m : Int) ≤ 3000 := by omega
        have hWr := swrite hd.out.dk hd.out.st hL.out (kk : Int) _ b hbD (by omega) (by omega) (by omega) (by omega) (by omega) (by omega) (by omega)
        replace hb := Lib.hid hb
        replace hbD := Lib.hid hbD
        replace hbm := Lib.hid hbm
        replace h3k := Lib.hid h3k
        clear hWk
        go_upto_region 18 with (go_at_call 39; (with_reducible refine hWr.mono ?_); rintro e w3 ⟨rfl, sv3, s3, h3, st3, ht3⟩; obtain ⟨b8, n8⟩ := ht3.blk hd.out.b8 hd.out.n8; obtain ⟨b9, n9⟩ := ht3.blk hd.out.b9 hd.out.n9; have p8 : w3.cell? ⟨g8, kk, none⟩ = some (strOf c kk) := (b8.cell kk).trans (str_at c hk16.out); have f8 := b8.froz kk; have p3 := h3.ext.cell_some cb.out; have hcv := (hb.out.keep h3.ext).str; replace h3 := Lib.hid h3; replace st3 := Lib.hid st3; replace ht3 := Lib.hid ht3; replace b8 := Lib.hid b8; replace b9 := Lib.hid b9; replace n8 := Lib.hid n8; replace n9 := Lib.hid n9)
        have hx4 : Ext [g8] w3 (w3.setCell ⟨g8, kk, none⟩ (.string ⟨b.toArray⟩)) := (Ext.refl _ _).set (.inl (by simp)) _
        have c8 : Blk (w3.setCell ⟨g8, kk, none⟩ (.string ⟨b.toArray⟩)) g8 9 (strArr 16 (c.put kk b)) := by have := b8.out.set kk (.string ⟨b.toArray⟩); rwa [str_set 16 c kk b] at this
        generalize hw4 : w3.setCell ⟨g8, kk, none⟩ (.string ⟨b.toArray⟩) = w4 at *
        have h4 := h3.out.other b8.out (str_noBytes _ _) n8.out hd.out.o8 hx4
        have st4 := st3.out.other b8.out (by decide) hx4
        have c9 := b9.out.ext hx4 (by have := hd.out.ne; simp; omega)
        have p9 : w4.cell? ⟨g9, kk, none⟩ = some (.bool (c kk).isSome) := (c9.cell kk).trans (has_at c hk16.out)
        have f9 := c9.froz kk
        replace h4 := Lib.hid h4
        replace st4 := Lib.hid st4
        replace c8 := Lib.hid c8
        replace c9 := Lib.hid c9
        replace hx4 := Lib.hid hx4
        replace hw4 := Lib.hid hw4
        clear p8 f8 p3 hcv
        go_wp2
        have hx5 : Ext [g9] w4 (w4.setCell ⟨g9, kk, none⟩ (.bool true)) := (Ext.refl _ _).set (.inl (by simp)) _
        have d9 : Blk (w4.setCell ⟨g9, kk, none⟩ (.bool true)) g9 4 (hasArr 16 (c.put kk b)) := by have := c9.out.set kk (.bool true); rwa [has_set 16 c kk b] at this
        have d8 := c8.out.ext hx5 (by have := hd.out.ne; simp; omega)
        have h5 := h4.out.other c9.out (has_noBytes _ _) n9.out hd.out.o9 hx5
        have st5 := st4.out.other c9.out (by decide) hx5
        generalize w4.setCell ⟨g9, kk, none⟩ (.bool true) = w5 at *
        go_roundw
        case rel =>
          refine ⟨k + 1, by omega, by go_num, sv3, s3, c.put kk b, Lib.hid ⟨h5.mono (by omega) (by omega) ?_, st5, d8, d9, n8.out, n9.out, hd.out.o8, hd.out.o9, hd.out.ne, ?_⟩⟩
          · have := hbm.out
            have := h3k.out
            omega
          · intro n y hy
            unfold Cont.put at hy
            split at hy
            · next e =>
              injection hy with hy
              subst hy
              have := hbm.out
              have := h3k.out
              have := hk16.out
              omega
            · exact hd.out.bnd n y hy
        case measure => simp [intOf]; omega
    · obtain rfl : k = n := by omega
      have hbnd := hd.out.bnd
      have hO2 := sopen hd.out.dk (by omega)
      replace hbnd := Lib.hid hbnd
      have hsrt := rowC_sorted (c.from bb) 16
      have hmem := rowC_mem (from_mem16 (below := bb) hbnd.out)
      replace hsrt := Lib.hid hsrt
      replace hmem := Lib.hid hmem
      go_wp2_with (first
        | (go_at_call 38; (with_reducible refine hO2.mono ?_); rintro e w3 ⟨gs3, rfl, hg3, sv3, s3, h3, st3, ht3⟩; have hDr := sdrop h3 st3 hL.out (bb : Int) (by omega); replace h3 := Lib.hid h3; replace st3 := Lib.hid st3; replace ht3 := Lib.hid ht3; replace hg3 := Lib.hid hg3)
        | (go_at_call 40; (with_reducible refine hDr.mono ?_); rintro e w4 ⟨rfl, sv4, s4, h4, st4, ht4⟩; have hO5 := sopen h4 (by omega); replace h4 := Lib.hid h4; replace st4 := Lib.hid st4; replace ht4 := Lib.hid ht4)
        | (go_at_call 38; (with_reducible refine hO5.mono ?_); rintro e w5 ⟨gs5, rfl, hg5, sv5, s5, h5, st5, ht5⟩; have hSt := ssteps h5 st5 hL.out _ hsrt.out hmem.out; replace h5 := Lib.hid h5; replace st5 := Lib.hid st5; replace ht5 := Lib.hid ht5; replace hg5 := Lib.hid hg5)
        | (go_at_call 41; (with_reducible refine hSt.mono ?_); rintro e w6 ⟨A6, c6, rfl, ho6, hx6⟩; obtain ⟨_, c6', e6, hc6, hm6, _⟩ := own_form ho6; replace e6 := Lib.hid e6; replace hc6 := Lib.hid hc6; replace hm6 := Lib.hid hm6; replace ho6 := Lib.hid ho6; replace hx6 := Lib.hid hx6))
      obtain ⟨e8, m8⟩ := ht3.out.blk hd.out.b8 hd.out.n8
      obtain ⟨e9, m9⟩ := ht3.out.blk hd.out.b9 hd.out.n9
      obtain ⟨e8, m8⟩ := ht4.out.blk e8 m8
      obtain ⟨e9, m9⟩ := ht4.out.blk e9 m9
      obtain ⟨e8, m8⟩ := ht5.out.blk e8 m8
      obtain ⟨e9, m9⟩ := ht5.out.blk e9 m9
      have a2 : A2 W d gs5 g8 g9 bb A6 sv5 s5 c w6 := ⟨(h5.out.keep hx6.out).mono (by omega) (by omega) (by omega), st5.out.keep hx6.out, e8.keep hx6.out, e9.keep hx6.out, LRow.of ho6.out⟩
      have hLle := rowC_le (c.from bb) 16
      have hLl : ((rowC (c.from bb) 16).length : Int) ≤ 16 := by omega
      replace a2 := Lib.hid a2
      clear e8 e9 m8 m9 hLle hDr hO5 hSt hO2
      go_loopw [17, 18] (fun q t wr => ∃ i : Nat, i ≤ 16 ∧ t = .int .i64 i ∧ q = .int .i64 ((rowC (c.from bb) i).length : Nat) ∧ Hid (A2 W d gs5 g8 g9 bb A6 sv5 s5 c wr)) (fun _ t _ => 16 - (intOf t).toNat)
      case atStart => exact ⟨0, by omega, rfl, rfl, a2⟩
      case round =>
        obtain ⟨i, hi, rfl, rfl, hr⟩ := hrel
        have hle := rowC_le (c.from bb) i
        by_cases hi16 : i < 16
        · have hi0 : (0 : Int) ≤ i := by omega
          have hiI : (i : Int) < 16 := by omega
          have hlI2 : ((rowC (c.from bb) i).length : Int) ≤ 16 := by omega
          have hl0 : (0 : Int) ≤ ((rowC (c.from bb) i).length : Nat) := by omega
          have p9 : wr.cell? ⟨g9, i, none⟩ = some (.bool (c i).isSome) := (hr.out.b9.cell i).trans (has_at c hi16)
          have p8 : wr.cell? ⟨g8, i, none⟩ = some (strOf c i) := (hr.out.b8.cell i).trans (str_at c hi16)
          have hfs := from_some (c := c) (below := bb) (n := i)
          by_cases hcs : (c.from bb i).isSome = true
          · obtain ⟨b, hb⟩ := Option.isSome_iff_exists.1 hcs
            have hRd := sread_some hr.out.dk hr.out.st hL.out (i : Int) (by omega) (by omega) hb
            rw [hcs] at hfs
            have hfs' : (c i).isSome = true ∧ (bb : Int) ≤ (i : Int) := by simpa using hfs.symm
            obtain ⟨hf1, hf2⟩ := hfs'
            have hcb : c i = some b := by
              unfold Cont.from at hb
              split at hb
              · cases hb
              · exact hb
            rw [hf1] at p9
            unfold strOf at p8
            rw [hcb] at p8
            simp only [Option.getD_some] at p8
            have hyes := rowC_yes hcs
            have hat := rowC_at hi16 hcs
            obtain ⟨g6, e6', p6⟩ := hr.out.row _ _ hat
            have hlt := (List.getElem?_eq_some_iff.1 hat).1
            have hltI : ((rowC (c.from bb) i).length : Int) < ((rowC (c.from bb) 16).length : Nat) := by omega
            have hc6I : ((rowC (c.from bb) 16).length : Int) ≤ c6 := by
              have h1 := e6.out
              injection h1 with _ _ h1
              have := hc6.out
              omega
            subst e6'
            generalize hR : rowC (c.from bb) i = R at *
            generalize hQ : rowC (c.from bb) 16 = Q at *
            replace hle := Lib.hid hle
            replace hi := Lib.hid hi
            replace hfs := Lib.hid hfs
            replace hcs := Lib.hid hcs
            replace hb := Lib.hid hb
            replace hcb := Lib.hid hcb
            replace hyes := Lib.hid hyes
            replace hR := Lib.hid hR
            replace hQ := Lib.hid hQ
            replace hf1 := Lib.hid hf1
            replace hat := Lib.hid hat
            replace hlt := Lib.hid hlt
            go_upto_region 30 with (go_at_call 42; (with_reducible refine hRd.mono ?_); rintro e w7 ⟨A7, c7, rfl, hb7, hx7⟩; have r9 := hx7.cell_some p9; have r8 := hx7.cell_some p8; have r6 := hx7.cell_some p6; clear p9 p8 p6; have hcv := fun nd : Nat => (hb7.keep ((Ext.refl [] w7).drewN nd)).str; replace hx7 := Lib.hid hx7; replace hb7 := Lib.hid hb7)
            go_quiet (fail)
            go_wp2
            go_roundw
            case rel => exact ⟨i + 1, by omega, by go_num, by rw [hyes.out, List.length_append]; go_num, Lib.hid (hr.out.keep ((hx7.out).drewN _))⟩
            case measure => simp [intOf]; omega
          · have hcn : c.from bb i = none := by simpa using hcs
            have hRd := sread_none hr.out.dk hr.out.st hL.out (i : Int) (by omega) (by omega) hcn
            have hcs' : (c.from bb i).isSome = false := by simpa using hcs
            have hno := rowC_no hcs'
            generalize hR : rowC (c.from bb) i = R at *
            replace hle := Lib.hid hle
            replace hi := Lib.hid hi
            replace hcs := Lib.hid hcs
            replace hcs' := Lib.hid hcs'
            replace hcn := Lib.hid hcn
            replace hno := Lib.hid hno
            replace hR := Lib.hid hR
            by_cases hci : (c i).isSome = true
            · have hbi : (i : Int) < bb := by
                have h1 := hcs'.out
                rw [hfs, hci] at h1
                simpa using h1
              have hbd : decide (bb ≤ i) = false := by simp; omega
              rw [hci] at p9
              replace hfs := Lib.hid hfs
              replace hci := Lib.hid hci
              go_upto_region 30 with (go_at_call 42; (with_reducible refine hRd.mono ?_); rintro e w7 ⟨A7, c7, rfl, hb7, hx7⟩; have r9 := hx7.cell_some p9; clear p9 p8; replace hx7 := Lib.hid hx7; replace hb7 := Lib.hid hb7)
              go_quiet (fail)
              go_wp2
              go_roundw
              case rel => exact ⟨i + 1, by omega, by go_num, by rw [hno.out], Lib.hid (hr.out.keep ((hx7.out).drewN _))⟩
              case measure => simp [intOf]; omega
            · have hci' : (c i).isSome = false := by simpa using hci
              rw [hci'] at p9
              replace hfs := Lib.hid hfs
              replace hci := Lib.hid hci
              replace hci' := Lib.hid hci'
              go_upto_region 30 with (go_at_call 42; (with_reducible refine hRd.mono ?_); rintro e w7 ⟨A7, c7, rfl, hb7, hx7⟩; have r9 := hx7.cell_some p9; clear p9 p8; replace hx7 := Lib.hid hx7; replace hb7 := Lib.hid hb7)
              go_quiet (fail)
              go_wp2
              go_roundw
              case rel => exact ⟨i + 1, by omega, by go_num, by rw [hno.out], Lib.hid (hr.out.keep ((hx7.out).drewN _))⟩
              case measure => simp [intOf]; omega
        · obtain rfl : i = 16 := by omega
          have hWk := works_calls wr (hL.out.keep hr.out.dk.ext)
          go_wp2_with (go_at_call 37; (with_reducible refine hWk.mono ?_); rintro e w7 ⟨rfl, hx7⟩; replace hx7 := Lib.hid hx7)
          go_ret
          exact ⟨rfl, hr.out.dk.ext.trans' hx7.out⟩

theorem again_law (v : Value) (xs : List CallS) (bl : Int) (W : World) (hL : Lai W) (h : CallsAt W v xs) (hb0 : 0 ≤ bl) (hb1 : bl ≤ 255) :
    Calls Tryz.prog 5 #[v, .int .u8 bl] W fun e W' => e = .returned (.bool true) ∧ Ext [] W W' := by
  by_cases hn : xs.length ≤ 40
  · cases hl : largeB xs with
    | true => exact again_large v xs bl W hL h hn hl
    | false => exact again_main v xs bl W hL h hn hl hb0 hb1
  · exact again_many v xs bl W hL h (by omega)
end Go.Proofs.YtpjekppljaekoaaGreatDoor

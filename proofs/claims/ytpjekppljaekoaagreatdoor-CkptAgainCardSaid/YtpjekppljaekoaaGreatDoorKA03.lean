/- Contracts of package disk: safely. The order of names: what stays rising. Contracts of package disk: moves. Indexing an array of functions that is written out. Contracts of package disk: does, step, and the calls that are steps. Contracts of package disk: step. Contracts of package disk: Sync, Cut, Rename, Remove; Read. Contracts of package disk: Read. Contracts of package disk: slices.Concat of two rows of bytes. -/
import Derived.Test.YtpjekppljaekoaaGreatDoorKA02
import Derived.Test.YtpjekppljaekoaaGreatDoorKA01
import Derived.Deep.RegionWith
namespace Go.Proofs.YtpjekppljaekoaaGreatDoor
open Go Go.RowKit

theorem Bs.take {w : World} {p : Nat → Prop} {A : Option Addr} {L c n : Nat} {l : List UInt8} (h : Bs w p (.slice A L c) l) (hn : n ≤ L) : Bs w p (.slice A n n) (l.take n) := by
  obtain ⟨A', c', e, h1, h2, h3, hr⟩ := h
  injection e with e1 e2 e3
  subst e1; subst e2; subst e3
  refine ⟨A, n, ?_, ?_, by omega, ?_, ?_⟩
  · rw [List.length_take, Nat.min_eq_left hn]
  · rw [List.length_take]; omega
  · intro ha; have := h3 ha; omega
  · rcases hr with hr | ⟨g, o, e, hg, hp, hc⟩
    · left
      rw [List.map_eq_nil_iff] at hr
      rw [hr]; simp
    · refine .inr ⟨g, o, e, hg, hp, fun j u hu => hc j u ?_⟩
      rw [List.map_take] at hu
      rw [List.getElem?_take] at hu
      split at hu
      · exact hu
      · cases hu

set_option maxRecDepth 100000 in
set_option maxHeartbeats 1000000 in
theorem safely_calls (d : Nat) (sv : Value) (s : DiskS) (i n : Nat) (f : FileS) (to : Value) (w : World) (h : DiskAt w d sv s) (hi : s.files[i]? = some f) (hn : n ≤ f.l.length) :
    Calls Tryz.prog 259 #[.pointer (some ⟨d, 0, none⟩), .int .i64 i, .int .i64 n, to] w (TurnPost d sv { s with files := s.files.set i { f with l := f.l.take n, safe := n } } w) := by
  obtain ⟨c0, _⟩ := h.cells
  have hil : i < s.files.length := (List.getElem?_eq_some_iff.1 hi).1
  obtain ⟨g, cap, rfl, hcap⟩ := h.files.some (by omega)
  obtain ⟨g', b, eg, cn, cb, cs, hb, hfz, _⟩ := h.files.at hi
  injection eg with eg
  injection eg with eg _ _
  subst eg
  have hgd : g ≠ d := h.own_ne rfl
  have hD : DF d (.slice (some ⟨g, 0, none⟩) s.files.length cap) = [d, g] := rfl
  obtain ⟨cur, hcur, hcs, hturn⟩ := h.files.turn hil
  obtain ⟨A, c, rfl, hLc, _, _, _⟩ := id hb
  have hfin : ∀ w2, w2 = (w.setCell ⟨g, i * 3 + 1, none⟩ (.slice A n n)).setCell ⟨g, i * 3 + 2, none⟩ (.int .i64 n) →
      TurnPost d (.slice (some ⟨g, 0, none⟩) s.files.length cap) { s with files := s.files.set i { f with l := f.l.take n, safe := n } } w (.returned (.tuple #[])) w2 := by
    intro w2 e2
    have hx2 : Ext [g] w w2 := by rw [e2]; exact ((Ext.refl [g] w).set (.inl (by simp)) _).set (.inl (by simp)) _
    have hb2 : Blk w2 g 180 (((cur.setIfInBounds (i * 3) (.string f.nm)).setIfInBounds (i * 3 + 1) (.slice A n n)).setIfInBounds (i * 3 + 2) (.int .i64 n)) := by
      have e0 : cur.setIfInBounds (i * 3) (.string f.nm) = cur := by
        apply Array.ext_getElem?
        intro j
        rw [Array.getElem?_setIfInBounds]
        split
        · next e => subst e; rw [if_pos (by omega), ← hcur.cell]; exact cn.symm
        · rfl
      rw [e0, e2]
      exact (hcur.set (i * 3 + 1) _).set (i * 3 + 2) _
    have hbs : Bs w2 (· ∉ DF d (.slice (some ⟨g, 0, none⟩) s.files.length cap)) (.slice A n n) (f.l.take n) := (hb.take hn).ext hx2 (fun k _ hk => by rw [hD] at hk; simp only [List.mem_cons, not_or] at hk; simpa using hk.2.1)
    refine ⟨rfl, _, h.refile (h.blk.ext hx2 (by simpa using hgd.symm)) (fs' := s.files.set i { f with l := f.l.take n, safe := n }) ?_ (rising_set h.rise hi rfl) ?_ (by rw [List.length_set]; exact h.many), hx2.mono (by rw [hD]; simp), fun k hk => .inl hk⟩
    · exact hturn w2 (.slice A n n) { f with l := f.l.take n, safe := n } hb2 hx2 (by rw [hD]; simp) hbs
    · have := used_set (f' := { f with l := f.l.take n, safe := n }) hi
      have := h.used
      simp only [List.length_take] at *
      omega
  have hm := h.many
  have hi' : (i : Int) < s.files.length := by omega
  have hi0 : (0 : Int) ≤ i := by omega
  have hn' : (n : Int) ≤ f.l.length := by omega
  have hn0 : (0 : Int) ≤ n := by omega
  have hnc : (n : Int) ≤ c := by omega
  have hm' : (s.files.length : Int) ≤ 100000 := by omega
  have fz1 := hfz (i * 3 + 1)
  have fz2 := hfz (i * 3 + 2)
  have hC := fun w => clip_calls A n n w (Int.le_refl _)
  have hC2 := clip_calls A n c w hnc
  replace hfin := Lib.hid hfin
  clear hfz hb h hturn hcur hcs hD hi hcap
  replace hgd := Lib.hid hgd
  generalize s.files.length = m at *
  generalize f.l.length = L at *
  go_enter Tryz.func259, Tryz.ntmps259
  go_wp2_with (go_at_call 95; refine hC2.mono ?_; rintro e w1 ⟨rfl, rfl⟩)
  go_end0
  exact hfin.out _ rfl
end Go.Proofs.YtpjekppljaekoaaGreatDoor
namespace Go.Proofs.YtpjekppljaekoaaGreatDoor
open Go Go.RowKit

theorem idx_nil (nm : ByteArray) : idx [] nm = 0 := rfl
theorem idx_cons (f : FileS) (fs : List FileS) (nm : ByteArray) : idx (f :: fs) nm = if ltN f.nm nm then idx fs nm + 1 else 0 := by
  unfold idx
  rw [List.takeWhile_cons]
  split <;> rfl
theorem idx_lt : ∀ {fs : List FileS} {nm : ByteArray} {j : Nat} {f : FileS}, j < idx fs nm → fs[j]? = some f → ltN f.nm nm = true
  | [], _, _, _, h, _ => by simp [idx_nil] at h
  | g :: fs, nm, j, f, h, hf => by
    rw [idx_cons] at h
    split at h
    · next hg =>
      cases j with
      | zero => simp at hf; rw [← hf]; exact hg
      | succ j => exact idx_lt (fs := fs) (j := j) (by omega) (by simpa using hf)
    · omega
theorem idx_at : ∀ {fs : List FileS} {nm : ByteArray} {f : FileS}, fs[idx fs nm]? = some f → ltN f.nm nm = false
  | [], _, _, h => by cases h
  | g :: fs, nm, f, h => by
    rw [idx_cons] at h
    split at h
    · exact idx_at (fs := fs) (by simpa using h)
    · next hg => simp at h; rw [← h]; simpa using hg
theorem ltN_conn {a b : ByteArray} (h : ltN a b = false) (hne : a.toList ≠ b.toList) : ltN b a = true := by
  rw [ltN_iff]
  have h1 : ¬ a.toList < b.toList := by rw [← ltN_iff, h]; simp
  rcases List.le_iff_lt_or_eq.1 (List.not_lt.1 h1) with h2 | h2
  · exact h2
  · exact absurd h2.symm hne
theorem ge_gt {fs : List FileS} (hr : Rising fs) {nm : ByteArray} (hh : has fs nm = false) {j : Nat} {f : FileS} (hj : idx fs nm ≤ j) (hf : fs[j]? = some f) : ltN nm f.nm = true := by
  obtain ⟨hl, e⟩ := List.getElem?_eq_some_iff.1 hf
  have h0 := List.getElem?_eq_getElem (l := fs) (i := idx fs nm) (by omega)
  have h1 := idx_at h0
  have h2 := hh
  rw [has_some h0] at h2
  have h3 := ltN_conn h1 (by simpa using h2)
  by_cases e : idx fs nm = j
  · rw [← e, h0] at hf; cases hf; exact h3
  · exact ltN_trans h3 (rising_get hr (by omega) h0 hf)
theorem rising_insert {fs : List FileS} (hr : Rising fs) {f : FileS} (hh : has fs f.nm = false) : Rising (insertAt fs (idx fs f.nm) f) := by
  unfold Rising insertAt
  rw [List.pairwise_append]
  refine ⟨hr.sublist (List.take_sublist _ _), ?_, ?_⟩
  · rw [List.pairwise_cons]
    refine ⟨fun y hy => ?_, hr.sublist (List.drop_sublist _ _)⟩
    obtain ⟨j, hj⟩ := List.mem_iff_getElem?.1 hy
    rw [List.getElem?_drop] at hj
    exact ge_gt hr hh (Nat.le_add_right _ _) hj
  · intro x hx y hy
    obtain ⟨j, hj⟩ := List.mem_iff_getElem?.1 hx
    rw [List.getElem?_take] at hj
    split at hj
    · next hlt =>
      have h1 := idx_lt hlt hj
      rcases List.mem_cons.1 hy with rfl | hy
      · exact h1
      · obtain ⟨k, hk⟩ := List.mem_iff_getElem?.1 hy
        rw [List.getElem?_drop] at hk
        exact ltN_trans h1 (ge_gt hr hh (Nat.le_add_right _ _) hk)
    · cases hj
theorem rising_lists {fs gs : List FileS} (h : Rising fs) (e : gs.map (·.nm.toList) = fs.map (·.nm.toList)) : Rising gs := by
  have : (gs.map (·.nm.toList)).Pairwise fun a b => Op.bytesLess a b = true := by rw [e]; exact List.pairwise_map.2 h
  exact List.pairwise_map.1 this
theorem rising_set' {fs : List FileS} (h : Rising fs) {i : Nat} {f f' : FileS} (hi : fs[i]? = some f) (hn : f'.nm.toList = f.nm.toList) : Rising (fs.set i f') := by
  refine rising_lists h ?_
  apply List.ext_getElem?
  intro j
  simp only [List.map_set]
  by_cases e : i = j
  · subst e
    obtain ⟨hl, _⟩ := List.getElem?_eq_some_iff.1 hi
    rw [List.getElem?_set_self (by simpa using hl), List.getElem?_map, hi]
    simp [hn]
  · rw [List.getElem?_set_ne e]
theorem used_insert (fs : List FileS) (i : Nat) (f : FileS) : usedL (insertAt fs i f) = usedL fs + f.l.length := by
  have h : usedL fs = usedL (fs.take i) + usedL (fs.drop i) := by rw [← used_app, List.take_append_drop]
  unfold insertAt
  rw [h, used_app]
  simp only [usedL, List.map_cons, List.sum_cons]
  omega
theorem length_insert (fs : List FileS) (i : Nat) (f : FileS) : (insertAt fs i f).length = fs.length + 1 := by
  unfold insertAt
  rw [List.length_append, List.length_cons, List.length_take, List.length_drop]
  omega
end Go.Proofs.YtpjekppljaekoaaGreatDoor
namespace Go.Proofs.YtpjekppljaekoaaGreatDoor
open Go Go.RowKit

theorem splice3 (a b c : Value) : ∀ (off : Nat) (cur : List Value), off + 3 ≤ cur.length → splice cur off [a, b, c] = ((cur.set off a).set (off + 1) b).set (off + 2) c
  | 0, x :: y :: z :: r, _ => by simp [splice]
  | 0, [], h => by simp at h
  | 0, [_], h => by simp at h
  | 0, [_, _], h => by simp at h
  | off + 1, [], h => by simp at h
  | off + 1, x :: r, h => by
    have := splice3 a b c off r (by simp at h; omega)
    simp only [splice, List.length_cons, List.length_nil] at this ⊢
    rw [show off + 1 + 1 = (off + 1) + 1 from rfl, show off + 1 + 2 = (off + 2) + 1 from rfl, show off + 1 + (0 + 1 + 1 + 1) = (off + (0 + 1 + 1 + 1)) + 1 from by omega]
    simp only [List.take_succ_cons, List.drop_succ_cons, List.set_cons_succ, List.cons_append]
    rw [← this]
    simp

theorem files_turn' {w : World} {p : Nat → Prop} {g n cap : Nat} {fs : List FileS} {i : Nat} (h : Files w p (.slice (some ⟨g, 0, none⟩) n cap) fs) (hi : i < fs.length) :
    ∃ cur, Blk w g 180 cur ∧ i * 3 + 3 ≤ cur.size ∧ ∀ (w' : World) (b' : Value) (f' : FileS), Blk w' g 180 (splice cur.toList (i * 3) [.string f'.nm, b', .int .i64 f'.safe]).toArray → Ext [g] w w' → ¬ p g → Bs w' p b' f'.l →
      Files w' p (.slice (some ⟨g, 0, none⟩) n cap) (fs.set i f') := by
  obtain ⟨cur, h1, h2, h3⟩ := h.turn hi
  refine ⟨cur, h1, h2, fun w' b' f' hb => h3 w' b' f' ?_⟩
  rw [splice3 _ _ _ _ _ (by rw [Array.length_toList]; omega)] at hb
  simpa [← Array.toList_setIfInBounds] using hb

/-- A struct stored into a row that is known whole. -/
theorem wpList_store_in {P : Program} {ops : Array Oper} {rest : List Oper} {o : Oper} {a : Act} {w : World} {Q : Exit → Act → World → Prop} (hgd : o.guard = none) (ty : TypeId) (x v : Operand) (ho : o.op = .store ty x v)
    (g off : Nat) (hx : a.eval x = .pointer (some ⟨g, off, none⟩)) (vs : List Value) (hv : a.eval v = .agg vs.toArray) (cur : Array Value) (t : TypeId) (hg : Blk w g t cur)
    (hi : (P.info? ty).map (·.size) = some vs.length) (hs : off + vs.length ≤ cur.size) (h1 : ∀ v ∈ vs, v.oneCell' = true)
    (h : ∀ w', Blk w' g t (splice cur.toList off vs).toArray → Ext [g] w w' → wpList P ops Q rest (a.put o.dst undef) w') : wpList P ops Q (o :: rest) a w :=
  wpList_plain hgd fun _ hK => by
    have hst := run_storeCells_at P g off t vs 0 cur w hg (by omega) h1
    have hr : (storeVar ty ⟨g, off, none⟩ (.agg vs.toArray)).run P w = .ok () (w.setRow g (splice cur.toList off vs).toArray) := by
      cases hq : P.info? ty with
      | none => simp [hq] at hi
      | some i =>
        have hs' : vs.length = i.size := by simp [hq] at hi; omega
        simp only [Nat.add_zero] at hst
        simp [storeVar, sizeOf, typeInfo, hq, Value.cells, hs', splice]
        rw [← hs'] at *
        simpa using hst
    unfold Oper.wp execOp
    simp only [ho, hx, hv, Instr.storeAt, Instr.sureAddr, Sem.run_bind, Sem.run_pure, Result.andThen_ok, hr]
    exact hK _ _ (h _ (setRow_heap w g cur _ t (0, 0) hg) ⟨rfl, rfl, rfl, by simp, fun k _ hn => setRow_other w g k _ (by simpa using hn)⟩)

set_option maxRecDepth 100000 in
set_option maxHeartbeats 4000000 in
theorem moves_calls (d : Nat) (sv : Value) (s : DiskS) (i n : Nat) (f : FileS) (to : ByteArray) (w : World) (h : DiskAt w d sv s) (hi : s.files[i]? = some f) :
    Calls Tryz.prog 260 #[.pointer (some ⟨d, 0, none⟩), .int .i64 i, .int .i64 n, .string to] w (TurnPost d sv { s with files := doesTo 2 s.files i n to } w) := by
  obtain ⟨c0, _⟩ := h.cells
  have hil : i < s.files.length := (List.getElem?_eq_some_iff.1 hi).1
  obtain ⟨g, cap, rfl, hcap⟩ := h.files.some (by omega)
  obtain ⟨g', b, eg, cn, cb, cs, hb, hfz, _⟩ := h.files.at hi
  injection eg with eg
  injection eg with eg _ _
  subst eg
  obtain ⟨A, c, rfl, hLc, _, _, _⟩ := id hb
  have hm := h.many
  have hi' : (i : Int) < s.files.length := by omega
  have hi0 : (0 : Int) ≤ i := by omega
  have hm' : (s.files.length : Int) ≤ 100000 := by omega
  have hcap' : (s.files.length : Int) ≤ cap := by omega
  replace h := Lib.hid h
  replace hfz := Lib.hid hfz
  replace hb := Lib.hid hb
  replace hi := Lib.hid hi
  go_enter Tryz.func260, Tryz.ntmps260
  go_wp2_with (refine wpList_store_whole rfl 180 _ _ rfl _ rfl _ rfl _ _ (Blk.new _ _ _) (by kernel_rfl) rfl (by kernel_rfl) ?_; intro w1 hb1 hx1; have q0 := hb1.cell 0; have q2 := hb1.cell 2; have fz0 := hb1.froz 0; have fz2 := hb1.froz 2; simp only [List.getElem?_toArray, List.getElem?_cons_zero, List.getElem?_cons_succ] at q0 q2; replace hb1 := Lib.hid hb1; replace hx1 := Lib.hid hx1)
  have hb2 : Blk ((w1.setCell ⟨w.heap.size, 0, none⟩ (.string to)).setCell ⟨w.heap.size, 2, none⟩ (.int .i64 n)) w.heap.size 180 #[.string to, .slice A f.l.length c, .int .i64 n] := by
    have := (hb1.out.set 0 (.string to)).set 2 (.int .i64 n)
    simpa using this
  have hx2 : Ext [] w ((w1.setCell ⟨w.heap.size, 0, none⟩ (.string to)).setCell ⟨w.heap.size, 2, none⟩ (.int .i64 n)) := by
    have h1 : Ext [] w w1 := ((Ext.refl [] w).alloc _).trans hx1.out (fun k hk hl => by simp at hk; omega)
    exact (h1.set (.inr (Nat.le_refl _)) _).set (.inr (Nat.le_refl _)) _
  clear q0 q2 fz0 fz2 hb1 hx1
  generalize (w1.setCell ⟨w.heap.size, 0, none⟩ (.string to)).setCell ⟨w.heap.size, 2, none⟩ (.int .i64 n) = w2 at *
  have hlt2 : w.heap.size < w2.heap.size := hb2.lt
  have hvd : ∀ k ∈ DF d (.slice (some ⟨g, 0, none⟩) s.files.length cap), k < w.heap.size := h.out.dlt
  replace hb2 := Lib.hid hb2
  replace hx2 := Lib.hid hx2
  replace hvd := Lib.hid hvd
  go_at_call 261
  refine (drops_calls d _ s i _ _ w2 (h.out.keep hx2.out) hil).mono ?_
  rintro e w3 ⟨rfl, sv3, h3, hx3, hd3⟩
  have hb3 : Blk w3 w.heap.size 180 #[.string to, .slice A f.l.length c, .int .i64 n] := hb2.out.ext hx3 (fun hk => Nat.lt_irrefl _ (hvd.out _ hk))
  have hbs3 : Bs w3 (fun k => k ∉ DF d sv3 ∧ k < w3.heap.size ∧ k ≠ w.heap.size) (.slice A f.l.length c) f.l := by
    refine (((hb.out.imp (q := fun k => k ∉ DF d (.slice (some ⟨g, 0, none⟩) s.files.length cap) ∧ k < w.heap.size) fun k hk hp => ⟨hp, hk⟩).keep hx2.out).ext hx3 fun k _ hk => hk.1).imp fun k hk hp => ⟨fun hq => ?_, hk, by omega⟩
    rcases hd3 k hq with h5 | h5
    · exact hp.1 h5
    · omega
  replace hb3 := Lib.hid hb3
  replace hbs3 := Lib.hid hbs3
  replace hx3 := Lib.hid hx3
  replace hd3 := Lib.hid hd3
  replace h3 := Lib.hid h3
  clear c0 cn cb cs
  cases hh : has (s.files.eraseIdx i) to
  · have hF := find_calls d sv3 _ to w3 h3.out
    simp only [hh] at hF
    have hk : idx (s.files.eraseIdx i) to ≤ (s.files.eraseIdx i).length := idx_le _ _
    go_wp2_with (go_at_call 127; refine hF.mono ?_; rintro e w4 ⟨rfl, hx4⟩; replace hx4 := Lib.hid hx4)
    have h4 := h3.out.keep hx4.out
    obtain ⟨e0, _⟩ := h4.cells
    have hb4 : Blk w4 w.heap.size 180 #[.string to, .slice A f.l.length c, .int .i64 n] := hb3.out.keep hx4.out
    have q0 := hb4.cell 0
    have q1 := hb4.cell 1
    have q2 := hb4.cell 2
    simp only [List.getElem?_toArray, List.getElem?_cons_zero, List.getElem?_cons_succ] at q0 q1 q2
    obtain ⟨A3, cap3, hsv3, _, _, _⟩ := h4.files.form
    have hm3 : (s.files.eraseIdx i).length ≤ 100000 := h4.many
    generalize hW : (w4.alloc (.cells #[.string to, .slice A f.l.length c, .int .i64 n] 180)).drew = W
    have hx4W : Ext [] w4 W := by rw [← hW]; exact ((Ext.refl _ w4).alloc _).drew
    have hbW : Blk W w4.heap.size 180 #[.string to, .slice A f.l.length c, .int .i64 n] := by rw [← hW]; exact (Blk.new w4 _ _).drew
    have hdlt : ∀ k ∈ DF d sv3, k < w4.heap.size := h4.dlt
    have hI := insertF_calls (fun k => k ∉ DF d sv3 ∧ k < w4.heap.size) sv3 (s.files.eraseIdx i) (idx (s.files.eraseIdx i) to) w4.heap.size { f with nm := to, safe := n } (.slice A f.l.length c) W
      (by
        obtain ⟨xs, h5, h6⟩ := h4.files.own
        exact Files.ext (F := []) ⟨xs, h5, h6.imp fun k hk hp => ⟨hp, hk⟩⟩ hx4W (fun _ _ => by simp) (fun _ _ _ => by simp))
      (fun k _ hp e => hp.1 (by unfold DF; rw [e]; simp)) hbW
      (((hbs3.out.keep hx4.out).imp fun k hk hp => ⟨hp.1, hk⟩).keep hx4W) (by omega) hk
      (fun e => Nat.lt_irrefl _ (hdlt _ (by unfold DF; rw [e]; simp)))
    have hWe := hx4W.size
    have hb5 : ∀ w5, Ext sv3.ownBlock.toList W w5 → Blk w5 d 125 #[sv3, .int .i64 s.quota, .int .i64 s.steps, .int .i64 s.left, .bool s.off] := fun w5 hx => (h4.blk.keep hx4W).ext hx (fun hd => h4.own_ne (by simpa using hd) rfl)
    have hfin : ∀ w5 A5 c5, Files w5 (fun k => k ∉ DF d sv3 ∧ k < w4.heap.size) (.slice A5 (insertAt (s.files.eraseIdx i) (idx (s.files.eraseIdx i) to) { f with nm := to, safe := n }).length c5) (insertAt (s.files.eraseIdx i) (idx (s.files.eraseIdx i) to) { f with nm := to, safe := n }) → Ext sv3.ownBlock.toList W w5 →
        (∀ k, (Value.slice A5 (insertAt (s.files.eraseIdx i) (idx (s.files.eraseIdx i) to) { f with nm := to, safe := n }).length c5).ownBlock = some k → sv3.ownBlock = some k ∨ W.heap.size ≤ k) → ∀ w6, w6 = w5.setCell ⟨d, 0, none⟩ (.slice A5 (insertAt (s.files.eraseIdx i) (idx (s.files.eraseIdx i) to) { f with nm := to, safe := n }).length c5) →
        TurnPost d (.slice (some ⟨g, 0, none⟩) s.files.length cap) { s with files := doesTo 2 s.files i n to } w (.returned (.tuple #[])) w6 := by
      intro w5 A5 c5 hf5 hx5 hk5 w6 e6
      have hx56 : Ext [d] w5 w6 := by rw [e6]; exact (Ext.refl [d] w5).set (.inl (by simp)) _
      have hdone : doesTo 2 s.files i n to = insertAt (s.files.eraseIdx i) (idx (s.files.eraseIdx i) to) { f with nm := to, safe := n } := by
        unfold doesTo
        simp only [hi.out, hh]
        simp
      rw [hdone]
      generalize hsv6 : Value.slice A5 (insertAt (s.files.eraseIdx i) (idx (s.files.eraseIdx i) to) { f with nm := to, safe := n }).length c5 = sv6 at *
      have hd : d < w4.heap.size := h4.blk.lt
      have hd6 : ∀ k ∈ DF d sv6, k ∈ DF d sv3 ∨ W.heap.size ≤ k := by
        intro k hk
        simp only [DF, List.mem_cons, Option.mem_toList] at hk ⊢
        rcases hk with rfl | hk
        · exact .inl (.inl rfl)
        · rcases hk5 k hk with h7 | h7
          · exact .inl (.inr h7)
          · exact .inr h7
      have h2s := hx2.out.size
      have h3s := hx3.out.size
      have h4s := hx4.out.size
      refine ⟨rfl, sv6, (h4.keep hx4W).refile (s := { s with files := s.files.eraseIdx i }) ?_ ?_ ?_ ?_ ?_, ?_, ?_⟩
      · rw [e6]; have := (hb5 w5 hx5).set 0 sv6; simpa using this
      · obtain ⟨xs, h8, h9⟩ := hf5.own
        refine Files.ext (w := w5) (F := [d]) ⟨xs, h8, h9.imp fun k hk hp hq => ?_⟩ hx56 (fun k hk e => ?_) (fun k _ hk e => hk ?_)
        · rcases hd6 k hq with h7 | h7
          · exact hp.1 h7
          · omega
        · obtain rfl : k = d := by simpa using e
          rcases hk5 k hk with h7 | h7
          · exact h4.own_ne h7 rfl
          · omega
        · obtain rfl : k = d := by simpa using e
          simp [DF]
      · exact rising_insert (f := { f with nm := to, safe := n }) (rising_erase h.out.rise i) hh
      · rw [used_insert]; have h1 := used_erase hi.out; have h2 := h.out.used; simp only; omega
      · rw [length_insert, List.length_eraseIdx, if_pos hil]; omega
      · refine ((((hx2.out.mono (by simp)).trans' hx3.out).new hx4.out).new hx4W).trans hx5 (fun k hk hl => ?_) |>.trans hx56 fun k hk _ => ?_
        · rcases hd3.out k (by simp only [DF, List.mem_cons]; exact .inr hk) with h5 | h5
          · exact h5
          · omega
        · obtain rfl : k = d := by simpa using hk
          simp [DF]
      · intro k hk
        rcases hd6 k hk with h7 | h7
        · rcases hd3.out k h7 with h5 | h5
          · exact .inl h5
          · right; omega
        · right; omega
    replace hfin := Lib.hid hfin
    have e0W : W.cell? ⟨d, 0, none⟩ = some sv3 := (h4.keep hx4W).cells.1
    have q0W := (hb4.keep hx4W).cell 0
    have q1W := (hb4.keep hx4W).cell 1
    have q2W := (hb4.keep hx4W).cell 2
    simp only [List.getElem?_toArray, List.getElem?_cons_zero, List.getElem?_cons_succ] at q0W q1W q2W
    subst hW
    subst hsv3
    rw [World.cell?_drew] at e0W q0W q1W q2W
    replace h4 := Lib.hid h4
    replace hb4 := Lib.hid hb4
    replace hh := Lib.hid hh
    replace hb5 := Lib.hid hb5
    replace hx4W := Lib.hid hx4W
    replace hbW := Lib.hid hbW
    replace hdlt := Lib.hid hdlt
    generalize hkk : idx (s.files.eraseIdx i) to = k at *
    have hk0 : (0 : Int) ≤ k := by omega
    go_region_with (go_at_call 130; refine hI.mono ?_; rintro e w5 ⟨A5, c5, rfl, hf5, hx5, hk5⟩; have b5 := hb5.out w5 hx5; have c50 := b5.cell 0; have f50 := b5.froz 0; simp only [List.getElem?_toArray, List.getElem?_cons_zero] at c50; replace hf5 := Lib.hid hf5; replace hx5 := Lib.hid hx5; replace hk5 := Lib.hid hk5; replace b5 := Lib.hid b5)
    all_goals
      go_end0
      exact hfin.out _ _ _ hf5.out hx5.out hk5.out _ rfl
  · have hF := find_calls d sv3 _ to w3 h3.out
    simp only [hh] at hF
    have hk : idx (s.files.eraseIdx i) to < (s.files.eraseIdx i).length := by
      rcases Nat.lt_or_ge (idx (s.files.eraseIdx i) to) (s.files.eraseIdx i).length with h | h
      · exact h
      · rw [has_none h] at hh; cases hh
    have hkn : ((s.files.eraseIdx i)[idx (s.files.eraseIdx i) to]).nm.toList = to.toList := by
      rw [has_some (List.getElem?_eq_getElem hk)] at hh
      simpa using hh
    replace hkn := Lib.hid hkn
    go_wp2_with (go_at_call 127; refine hF.mono ?_; rintro e w4 ⟨rfl, hx4⟩; replace hx4 := Lib.hid hx4)
    have h4 := h3.out.keep hx4.out
    obtain ⟨e0, _⟩ := h4.cells
    obtain ⟨g3, cap3, rfl, hcap3⟩ := h4.files.some (by simp only; omega)
    obtain ⟨cur, hcur, hcs, hturn⟩ := files_turn' h4.files hk
    have hb4 : Blk w4 w.heap.size 180 #[.string to, .slice A f.l.length c, .int .i64 n] := hb3.out.keep hx4.out
    have q0 := hb4.cell 0
    have q1 := hb4.cell 1
    have q2 := hb4.cell 2
    simp only [List.getElem?_toArray, List.getElem?_cons_zero, List.getElem?_cons_succ] at q0 q1 q2
    have hk' : (idx (s.files.eraseIdx i) to : Int) < (s.files.eraseIdx i).length := by omega
    have hm3 : ((s.files.eraseIdx i).length : Int) ≤ 100000 := by have := h4.many; simp only at this; omega
    replace h4 := Lib.hid h4
    replace hb4 := Lib.hid hb4
    replace hcur := Lib.hid hcur
    replace hturn := Lib.hid hturn
    replace hh := Lib.hid hh
    generalize hkk : idx (s.files.eraseIdx i) to = k at *
    have hk0 : (0 : Int) ≤ k := by omega
    go_still_tail 7, (by kernel_rfl)
    change wpList _ _ _ _ _ w4.drew
    refine wpList_store_in rfl 180 _ _ rfl g3 (k * 3) rfl [.string to, .slice A f.l.length c, .int .i64 n] rfl cur 180 hcur.out.drew (by kernel_rfl) (by simpa using hcs) (by simp [Value.oneCell']) ?_
    intro w5 hb5 hx5
    replace hb5 := Lib.hid hb5
    replace hx5 := Lib.hid hx5
    go_wp2
    go_end0
    have hD : DF d (.slice (some ⟨g3, 0, none⟩) (s.files.eraseIdx i).length cap3) = [d, g3] := rfl
    have hgd3 : g3 ≠ d := h4.out.own_ne rfl
    have hx45 : Ext [g3] w4 w5 := ((Ext.refl _ w4).drew).trans' hx5.out
    have hdone : doesTo 2 s.files i n to = (s.files.eraseIdx i).set k { f with nm := to, safe := n } := by
      unfold doesTo
      simp only [hi.out, hkk, hh.out]
      simp
    have hget := List.getElem?_eq_getElem hk
    rw [hdone]
    refine ⟨rfl, _, h4.out.refile (h4.out.blk.ext hx45 (by simpa using hgd3.symm)) (hturn.out w5 (.slice A f.l.length c) { f with nm := to, safe := n } hb5.out hx45 (by rw [hD]; simp) ((hbs3.out.imp (fun k _ hp => hp.1)).keep hx4.out |>.ext hx45 (fun k _ hp => by rw [hD] at hp; simp only [List.mem_cons, not_or] at hp; simpa using hp.2.1))) ?_ ?_ ?_, ?_, ?_⟩
    · exact rising_set' h4.out.rise hget hkn.out.symm
    · have h1 := used_set (f' := { f with nm := to, safe := n }) hget
      have h2 := used_erase hi.out
      have h3 := h.out.used
      simp only at h1
      omega
    · rw [List.length_set]; exact h4.out.many
    · refine (((hx2.out.mono (by simp)).trans' hx3.out).new hx4.out).trans hx45 fun k hk hl => ?_
      obtain rfl : k = g3 := by simpa using hk
      rcases hd3.out k (by rw [hD]; simp) with h5 | h5
      · exact h5
      · have := hx2.out.size; omega
    · intro k hk
      have h1 := hx2.out.size
      rcases hd3.out k hk with h5 | h5
      · exact .inl h5
      · right; omega
end Go.Proofs.YtpjekppljaekoaaGreatDoor
namespace Go.Proofs.YtpjekppljaekoaaGreatDoor
open Go Go.RowKit

theorem und351 : Tryz.prog.underlying 351 = some (.array 4 305) := by kernel_rfl
theorem siz305 : (Tryz.prog.info? 305).map (·.size) = some 1 := by kernel_rfl

theorem agg_not {P : Program} {t : TypeId} (h : (P.underlying t).map (fun | .struct _ => true | .array _ _ => true | _ => false) = some false) (w : World) : (isAgg t).run P w = .ok false w := by
  unfold isAgg
  cases hu : P.underlying t with
  | none => rw [hu] at h; cases h
  | some d =>
    rw [hu] at h
    simp only [Sem.run_bind, run_underlying hu, Result.andThen_ok]
    cases d <;> first | rfl | (simp at h)
theorem agg305 (w : World) : (isAgg 305).run Tryz.prog w = .ok false w := agg_not (by kernel_rfl) w
theorem run_index_fn (cs : Array Value) (k : Nat) (hk : k < 4) (v : Value) (hv : cs[k]? = some v) (w : World) : (Instr.index 351 (.agg cs) (.int .i64 k)).run Tryz.prog w = .ok v w := by
  have hs := siz305
  cases hq : Tryz.prog.info? 305 with
  | none => rw [hq] at hs; cases hs
  | some i =>
    have hi : i.size = 1 := by rw [hq] at hs; simpa using hs
    have h1 : (0 : Int) ≤ k ∧ (k : Int) < 4 := by omega
    simp [Instr.index, asIntOf, run_underlying und351, sizeOf, typeInfo, hq, hi, part, hv]
    intro h; omega
end Go.Proofs.YtpjekppljaekoaaGreatDoor
namespace Go.Proofs.YtpjekppljaekoaaGreatDoor
open Go Go.RowKit

def fnOf (k : Nat) : Nat := if k ≤ 1 then 259 else if k = 2 then 260 else 261

set_option maxRecDepth 100000 in
set_option maxHeartbeats 1000000 in
theorem does_calls (dv : Value) (k : Nat) (w : World) (hk : k ≤ 3) :
    Calls Tryz.prog 206 #[dv, .int .i64 k] w fun e w' => e = .returned (.func (.func (fnOf k)) #[] #[]) ∧ w = w' := by
  have h : k = 0 ∨ k = 1 ∨ k = 2 ∨ k = 3 := by omega
  rcases h with rfl | rfl | rfl | rfl
  all_goals
    have h0 := run_index_fn #[.func (.func 259) #[] #[], .func (.func 259) #[] #[], .func (.func 260) #[] #[], .func (.func 261) #[] #[]] 0 (by omega) _ rfl
    have h1 := run_index_fn #[.func (.func 259) #[] #[], .func (.func 259) #[] #[], .func (.func 260) #[] #[], .func (.func 261) #[] #[]] 1 (by omega) _ rfl
    have h2 := run_index_fn #[.func (.func 259) #[] #[], .func (.func 259) #[] #[], .func (.func 260) #[] #[], .func (.func 261) #[] #[]] 2 (by omega) _ rfl
    have h3 := run_index_fn #[.func (.func 259) #[] #[], .func (.func 259) #[] #[], .func (.func 260) #[] #[], .func (.func 261) #[] #[]] 3 (by omega) _ rfl
    simp only [Int.cast_ofNat_Int] at h0 h1 h2 h3
    go_enter Tryz.func206, Tryz.ntmps206
    go_wp2
    go_ret
    exact ⟨rfl, rfl⟩

theorem acts_calls (d : Nat) (sv : Value) (s : DiskS) (kind i n : Nat) (f : FileS) (to : ByteArray) (w : World) (h : DiskAt w d sv s) (hk : kind ≤ 3) (hi : s.files[i]? = some f) (hn : n ≤ f.l.length) :
    Calls Tryz.prog (fnOf kind) #[.pointer (some ⟨d, 0, none⟩), .int .i64 i, .int .i64 n, .string to] w (TurnPost d sv { s with files := doesTo kind s.files i n to } w) := by
  have hil := (List.getElem?_eq_some_iff.1 hi).1
  have h4 : kind = 0 ∨ kind = 1 ∨ kind = 2 ∨ kind = 3 := by omega
  rcases h4 with rfl | rfl | rfl | rfl
  · have := safely_calls d sv s i n f (.string to) w h hi hn
    simpa [doesTo, hi, fnOf] using this
  · have := safely_calls d sv s i n f (.string to) w h hi hn
    simpa [doesTo, hi, fnOf] using this
  · exact moves_calls d sv s i n f to w h hi
  · have := drops_calls d sv s i (.int .i64 n) (.string to) w h hil
    simpa [doesTo, hi, fnOf] using this
end Go.Proofs.YtpjekppljaekoaaGreatDoor
namespace Go.Proofs.YtpjekppljaekoaaGreatDoor
open Go Go.RowKit

theorem alloc_ext (w : World) (o : Obj) : Ext [] w (w.alloc o) := (Ext.refl [] w).alloc o

theorem asked2_calls (d : Nat) (sv : Value) (s : DiskS) (nm to : ByteArray) (w : World) (h : DiskAt w d sv s) :
    Calls Tryz.prog 126 #[.pointer (some ⟨d, 0, none⟩), .slice (some ⟨w.heap.size, 0, none⟩) 2 2] (w.alloc (.cells #[.string nm, .string to] 9)) fun e w' => e = .returned (.int .i64 (s.asked [nm, to])) ∧ w.alloc (.cells #[.string nm, .string to] 9) = w' :=
  asked_calls d sv s (fun _ => True) (some ⟨w.heap.size, 0, none⟩) 2 [nm, to] 2 _ (h.keep (alloc_ext _ _)) (Row.of_blk (Blk.new w 9 _) trivial 0 (fun j u hu => by simpa using hu)) rfl (by omega)
theorem asked1_calls (d : Nat) (sv : Value) (s : DiskS) (nm : ByteArray) (w : World) (h : DiskAt w d sv s) :
    Calls Tryz.prog 126 #[.pointer (some ⟨d, 0, none⟩), .slice (some ⟨w.heap.size, 0, none⟩) 1 1] (w.alloc (.cells #[.string nm] 9)) fun e w' => e = .returned (.int .i64 (s.asked [nm])) ∧ w.alloc (.cells #[.string nm] 9) = w' :=
  asked_calls d sv s (fun _ => True) (some ⟨w.heap.size, 0, none⟩) 1 [nm] 1 _ (h.keep (alloc_ext _ _)) (Row.of_blk (Blk.new w 9 _) trivial 0 (fun j u hu => by simpa using hu)) rfl (by omega)

theorem DiskPost.same {d : Nat} {sv : Value} {s : DiskS} {ans : Int} {w w' : World} (h : DiskAt w' d sv s) (hx : Ext [] w w') : DiskPost d sv s ans w (.returned (.int .i64 ans)) w' :=
  ⟨rfl, sv, h, hx.mono (by simp), fun _ hk => .inl hk⟩

set_option maxRecDepth 100000 in
set_option maxHeartbeats 1000000 in
theorem step_bad (d : Nat) (sv : Value) (s : DiskS) (kind : Nat) (nm to : ByteArray) (n : Int) (all : Bool) (w : World) (h : DiskAt w d sv s) (he : s.asked [nm, to] ≠ 0) :
    Calls Tryz.prog 137 #[.pointer (some ⟨d, 0, none⟩), .int .i64 kind, .string nm, .string to, .int .i64 n, .bool all] w (DiskPost d sv s (s.asked [nm, to]) w) := by
  have hA := asked2_calls d sv s nm to w h
  have hfin := DiskPost.same (ans := s.asked [nm, to]) (h.keep (alloc_ext w (.cells #[.string nm, .string to] 9))) (alloc_ext w _)
  have he' : (s.asked [nm, to] == 0) = false := by simpa using he
  replace h := Lib.hid h
  replace he := Lib.hid he
  replace hfin := Lib.hid hfin
  go_enter Tryz.func137, Tryz.ntmps137
  go_wp2_with (go_at_call 126; refine hA.mono ?_; rintro e w1 ⟨rfl, rfl⟩)
  go_ret
  exact hfin.out

set_option maxRecDepth 100000 in
set_option maxHeartbeats 1000000 in
theorem step_none (d : Nat) (sv : Value) (s : DiskS) (kind : Nat) (nm to : ByteArray) (n : Int) (all : Bool) (w : World) (h : DiskAt w d sv s) (he : s.asked [nm, to] = 0) (hh : has s.files nm = false) :
    Calls Tryz.prog 137 #[.pointer (some ⟨d, 0, none⟩), .int .i64 kind, .string nm, .string to, .int .i64 n, .bool all] w (DiskPost d sv s 5 w) := by
  have hA := asked2_calls d sv s nm to w h
  have hF := find_calls d sv s nm _ (h.keep (alloc_ext w (.cells #[.string nm, .string to] 9)))
  rw [he] at hA
  rw [hh] at hF
  replace h := Lib.hid h
  replace he := Lib.hid he
  replace hh := Lib.hid hh
  go_enter Tryz.func137, Tryz.ntmps137
  go_wp2_with (first | (go_at_call 126; refine hA.mono ?_; rintro e w1 ⟨rfl, rfl⟩) | (go_at_call 127; refine hF.mono ?_; rintro e w1 ⟨rfl, hx⟩; replace hx := Lib.hid hx))
  go_ret
  exact DiskPost.same ((h.out.keep (alloc_ext w _)).keep hx.out) ((alloc_ext w _).new hx.out)

/-- What a walk reads of a file that is there. -/
theorem DiskAt.file {d : Nat} {sv : Value} {s : DiskS} {w : World} (h : DiskAt w d sv s) {i : Nat} {f : FileS} (hf : s.files[i]? = some f) {g cap : Nat} (e : sv = .slice (some ⟨g, 0, none⟩) s.files.length cap) :
    ∃ A c, w.cell? ⟨d, 0, none⟩ = some (.slice (some ⟨g, 0, none⟩) s.files.length cap) ∧ w.cell? ⟨g, i * 3, none⟩ = some (.string f.nm) ∧ w.cell? ⟨g, i * 3 + 1, none⟩ = some (.slice A f.l.length c) ∧ w.cell? ⟨g, i * 3 + 2, none⟩ = some (.int .i64 f.safe) ∧
      (f.l.length : Int) ≤ c ∧ Bs w (· ∉ DF d sv) (.slice A f.l.length c) f.l ∧ f.l.length ≤ 50000000 := by
  subst e
  obtain ⟨g', b, eg, cn, cb, cs, hb, _, _⟩ := h.files.at hf
  injection eg with eg
  injection eg with eg _ _
  subst eg
  obtain ⟨A, c, rfl, hLc, _, _, _⟩ := id hb
  exact ⟨A, c, h.cells.1, cn, cb, cs, by omega, hb, Nat.le_trans (used_get hf) h.used⟩

set_option maxRecDepth 100000 in
set_option maxHeartbeats 1000000 in
theorem step_arg (d : Nat) (sv : Value) (s : DiskS) (kind : Nat) (nm to : ByteArray) (n : Int) (f : FileS) (w : World) (h : DiskAt w d sv s) (he : s.asked [nm, to] = 0) (hh : has s.files nm = true) (hf : s.files[idx s.files nm]? = some f) (hm : n < 0 ∨ (f.l.length : Int) < n) :
    Calls Tryz.prog 137 #[.pointer (some ⟨d, 0, none⟩), .int .i64 kind, .string nm, .string to, .int .i64 n, .bool false] w (DiskPost d sv s 2 w) := by
  have hA := asked2_calls d sv s nm to w h
  have hF := find_calls d sv s nm _ (h.keep (alloc_ext w (.cells #[.string nm, .string to] 9)))
  rw [he] at hA
  rw [hh] at hF
  have hil := (List.getElem?_eq_some_iff.1 hf).1
  obtain ⟨g, cap, hsv, hcap⟩ := h.files.some (by omega)
  have hm1 := h.many
  replace h := Lib.hid h
  replace he := Lib.hid he
  replace hh := Lib.hid hh
  replace hf := Lib.hid hf
  replace hsv := Lib.hid hsv
  generalize idx s.files nm = i at *
  have hi' : (i : Int) < s.files.length := by omega
  have hi0 : (0 : Int) ≤ i := by omega
  have hcap' : (s.files.length : Int) ≤ cap := by omega
  have hm1' : (s.files.length : Int) ≤ 100000 := by omega
  by_cases hn : n < 0
  · clear hm
    go_enter Tryz.func137, Tryz.ntmps137
    go_wp2_with (first | (go_at_call 126; refine hA.mono ?_; rintro e w1 ⟨rfl, rfl⟩) | (go_at_call 127; refine hF.mono ?_; rintro e w1 ⟨rfl, hx⟩; obtain ⟨A, c, c0, cn, cb, cs, hLc, hb, hL⟩ := ((h.out.keep (alloc_ext w _)).keep hx).file hf.out hsv.out; replace hb := Lib.hid hb; replace hx := Lib.hid hx))
    go_ret
    exact DiskPost.same ((h.out.keep (alloc_ext w _)).keep hx.out) ((alloc_ext w _).new hx.out)
  · have hm' : (f.l.length : Int) < n := by omega
    have hn' : 0 ≤ n := by omega
    clear hm
    go_enter Tryz.func137, Tryz.ntmps137
    go_wp2_with (first | (go_at_call 126; refine hA.mono ?_; rintro e w1 ⟨rfl, rfl⟩) | (go_at_call 127; refine hF.mono ?_; rintro e w1 ⟨rfl, hx⟩; obtain ⟨A, c, c0, cn, cb, cs, hLc, hb, hL⟩ := ((h.out.keep (alloc_ext w _)).keep hx).file hf.out hsv.out; replace hb := Lib.hid hb; replace hx := Lib.hid hx))
    go_ret
    exact DiskPost.same ((h.out.keep (alloc_ext w _)).keep hx.out) ((alloc_ext w _).new hx.out)

theorem power_files (s : DiskS) : s.power.1.files = s.files := by
  unfold DiskS.power
  split
  · rfl
  · split <;> rfl

set_option maxRecDepth 100000 in
set_option maxHeartbeats 4000000 in
theorem step_do (d : Nat) (sv : Value) (s : DiskS) (kind : Nat) (nm to : ByteArray) (n : Int) (all : Bool) (f : FileS) (m : Nat) (w : World) (h : DiskAt w d sv s) (hs : s.steps < 1000000000000) (hk : kind ≤ 3) (he : s.asked [nm, to] = 0) (hh : has s.files nm = true) (hf : s.files[idx s.files nm]? = some f) (hm : m ≤ f.l.length) (ha : (all = true ∧ m = f.l.length) ∨ (all = false ∧ n = m)) :
    Calls Tryz.prog 137 #[.pointer (some ⟨d, 0, none⟩), .int .i64 kind, .string nm, .string to, .int .i64 n, .bool all] w
      (DiskPost d sv (if s.power.2 = 0 then { s.power.1 with files := doesTo kind s.files (idx s.files nm) m to } else s.power.1) s.power.2 w) := by
  have hA := asked2_calls d sv s nm to w h
  have hF := find_calls d sv s nm _ (h.keep (alloc_ext w (.cells #[.string nm, .string to] 9)))
  have hP := fun w1 (h1 : DiskAt w1 d sv s) => power_calls d sv s w1 h1 hs
  have hG := fun w1 => does_calls (.pointer (some ⟨d, 0, none⟩)) kind w1 hk
  have hpf := power_files s
  have hT := fun w1 (h1 : DiskAt w1 d sv s.power.1) => acts_calls d sv s.power.1 kind (idx s.files nm) m f to w1 h1 hk (by rw [hpf]; exact hf) hm
  rw [hpf] at hT
  rw [he] at hA
  rw [hh] at hF
  have hil := (List.getElem?_eq_some_iff.1 hf).1
  obtain ⟨g, cap, hsv, hcap⟩ := h.files.some (by omega)
  have hm1 := h.many
  generalize s.power.2 = q at *
  generalize s.power.1 = s1 at *
  have hx1 := alloc_ext w (.cells #[.string nm, .string to] 9)
  have hfin1 : ∀ w1 w2, Ext [] (w.alloc (.cells #[.string nm, .string to] 9)) w1 → DiskAt w2 d sv s1 → Ext [d] w1 w2 → DiskPost d sv s1 q w (.returned (.int .i64 q)) w2 := fun w1 w2 hx h2 hx2 =>
    ⟨rfl, sv, h2, ((hx1.new hx).mono (by simp)).trans (hx2.mono (G := DF d sv) (by simp [DF])) (fun _ h _ => h), fun k hk => .inl hk⟩
  have hfin2 : ∀ w1 w2 w3, Ext [] (w.alloc (.cells #[.string nm, .string to] 9)) w1 → Ext [d] w1 w2 → TurnPost d sv { s1 with files := doesTo kind s.files (idx s.files nm) m to } w2 (.returned (.tuple #[])) w3 → DiskPost d sv { s1 with files := doesTo kind s.files (idx s.files nm) m to } q w (.returned (.int .i64 q)) w3 := by
    rintro w1 w2 w3 hx hx2 ⟨_, sv3, h3, hx3, hd3⟩
    have hA := (hx1.new hx).size
    have hB := hx2.size
    refine ⟨rfl, sv3, h3, (((hx1.new hx).mono (by simp)).trans (hx2.mono (G := DF d sv) (by simp [DF])) (fun _ h _ => h)).trans' hx3, fun k hk => ?_⟩
    rcases hd3 k hk with h | h
    · exact .inl h
    · right; omega
  replace h := Lib.hid h
  replace he := Lib.hid he
  replace hh := Lib.hid hh
  replace hf := Lib.hid hf
  replace hsv := Lib.hid hsv
  replace hpf := Lib.hid hpf
  replace hT := Lib.hid hT
  replace hP := Lib.hid hP
  replace hx1 := Lib.hid hx1
  replace hfin1 := Lib.hid hfin1
  replace hfin2 := Lib.hid hfin2
  generalize idx s.files nm = i at *
  have hi' : (i : Int) < s.files.length := by omega
  have hi0 : (0 : Int) ≤ i := by omega
  have hcap' : (s.files.length : Int) ≤ cap := by omega
  have hm1' : (s.files.length : Int) ≤ 100000 := by omega
  have hmL : (m : Int) ≤ f.l.length := by omega
  have hm0 : (0 : Int) ≤ m := by omega
  rcases ha with ⟨rfl, rfl⟩ | ⟨rfl, rfl⟩
  all_goals
    by_cases hp : q = 0
    · subst hp
      rw [if_pos rfl]
      have h4 : kind = 0 ∨ kind = 1 ∨ kind = 2 ∨ kind = 3 := by omega
      rcases h4 with rfl | rfl | rfl | rfl
      all_goals
        simp only [fnOf, Nat.zero_le, Nat.le_refl, if_true, Nat.reduceLeDiff, if_false, Nat.reduceEqDiff] at hG
        go_enter Tryz.func137, Tryz.ntmps137
        go_wp2_with (first | (go_at_call 126; refine hA.mono ?_; rintro e w1 ⟨rfl, rfl⟩) | (go_at_call 127; refine hF.mono ?_; rintro e w1 ⟨rfl, hx⟩; obtain ⟨A, c, c0, cn, cb, cs, hLc, hb, hL⟩ := ((h.out.keep (alloc_ext w _)).keep hx).file hf.out hsv.out; replace hb := Lib.hid hb; replace hx := Lib.hid hx) | (go_at_call 131; refine (hP.out _ ((h.out.keep (alloc_ext w _)).keep hx.out)).mono ?_; rintro e w2 ⟨rfl, h2, hx2⟩; replace h2 := Lib.hid h2; replace hx2 := Lib.hid hx2) | (go_at_call 206; refine (hG _).mono ?_; rintro e w1 ⟨rfl, rfl⟩) | (go_at_call 259; refine (hT.out _ h2.out).mono ?_; rintro e w3 ⟨rfl, h3⟩; replace h3 := Lib.hid h3) | (go_at_call 260; refine (hT.out _ h2.out).mono ?_; rintro e w3 ⟨rfl, h3⟩; replace h3 := Lib.hid h3) | (go_at_call 261; refine (hT.out _ h2.out).mono ?_; rintro e w3 ⟨rfl, h3⟩; replace h3 := Lib.hid h3))
        go_ret
        exact hfin2.out _ _ _ hx.out hx2.out ⟨rfl, h3.out⟩
    · have hp' : (q == 0) = false := by simpa using hp
      rw [if_neg hp]
      replace hp := Lib.hid hp
      go_enter Tryz.func137, Tryz.ntmps137
      go_wp2_with (first | (go_at_call 126; refine hA.mono ?_; rintro e w1 ⟨rfl, rfl⟩) | (go_at_call 127; refine hF.mono ?_; rintro e w1 ⟨rfl, hx⟩; obtain ⟨A, c, c0, cn, cb, cs, hLc, hb, hL⟩ := ((h.out.keep (alloc_ext w _)).keep hx).file hf.out hsv.out; replace hb := Lib.hid hb; replace hx := Lib.hid hx) | (go_at_call 131; refine (hP.out _ ((h.out.keep (alloc_ext w _)).keep hx.out)).mono ?_; rintro e w2 ⟨rfl, h2, hx2⟩; replace h2 := Lib.hid h2; replace hx2 := Lib.hid hx2))
      go_ret
      exact hfin1.out _ _ hx.out h2.out hx2.out
end Go.Proofs.YtpjekppljaekoaaGreatDoor
namespace Go.Proofs.YtpjekppljaekoaaGreatDoor
open Go Go.RowKit

theorem has_get {fs : List FileS} {nm : ByteArray} (h : has fs nm = true) : ∃ f, fs[idx fs nm]? = some f := by
  rcases Nat.lt_or_ge (idx fs nm) fs.length with h1 | h1
  · exact ⟨_, List.getElem?_eq_getElem h1⟩
  · rw [has_none h1] at h; cases h

theorem step_calls (d : Nat) (sv : Value) (s : DiskS) (kind : Nat) (nm to : ByteArray) (n : Int) (all : Bool) (w : World) (h : DiskAt w d sv s) (hs : s.steps < 1000000000000) (hk : kind ≤ 3) :
    Calls Tryz.prog 137 #[.pointer (some ⟨d, 0, none⟩), .int .i64 kind, .string nm, .string to, .int .i64 n, .bool all] w (DiskPost d sv (s.step kind nm to n all).1 (s.step kind nm to n all).2 w) := by
  unfold DiskS.step
  by_cases he : s.asked [nm, to] = 0
  · simp only [he, ne_eq, not_true, if_false]
    cases hh : has s.files nm with
    | false =>
      simp only [if_true]
      exact step_none d sv s kind nm to n all w h he hh
    | true =>
      obtain ⟨f, hf⟩ := has_get hh
      have hg : s.files.getD (idx s.files nm) ⟨nm, [], -1⟩ = f := by rw [List.getD_eq_getElem?_getD, hf]; rfl
      simp only [hg, Bool.true_eq_false, if_false]
      have key : ∀ m : Nat, m ≤ f.l.length → ((all = true ∧ m = f.l.length) ∨ (all = false ∧ n = m)) → Calls Tryz.prog 137 #[.pointer (some ⟨d, 0, none⟩), .int .i64 kind, .string nm, .string to, .int .i64 n, .bool all] w
          (DiskPost d sv (if s.power.2 = 0 then ({ s.power.1 with files := doesTo kind s.files (idx s.files nm) m to }, (0 : Int)) else s.power).1 (if s.power.2 = 0 then ({ s.power.1 with files := doesTo kind s.files (idx s.files nm) m to }, (0 : Int)) else s.power).2 w) := by
        intro m hm ha
        have h1 := step_do d sv s kind nm to n all f m w h hs hk he hh hf hm ha
        by_cases hp : s.power.2 = 0
        · rw [hp] at h1 ⊢
          simp only [if_true] at h1 ⊢
          exact h1
        · simp only [hp, if_false] at h1 ⊢
          exact h1
      cases all with
      | true =>
        simp only [if_true]
        rw [if_neg (by omega)]
        have := key f.l.length (Nat.le_refl _) (.inl ⟨rfl, rfl⟩)
        simpa using this
      | false =>
        simp only [Bool.false_eq_true, if_false]
        by_cases hn : n < 0 ∨ (f.l.length : Int) < n
        · rw [if_pos hn]
          exact step_arg d sv s kind nm to n f w h he hh hf hn
        · rw [if_neg hn]
          have := key n.toNat (by omega) (.inr ⟨rfl, by omega⟩)
          exact this
  · simp only [he, ne_eq, not_false_eq_true, if_true]
    exact step_bad d sv s kind nm to n all w h he

set_option maxRecDepth 100000 in
set_option maxHeartbeats 400000 in
theorem sync_calls (d : Nat) (sv : Value) (s : DiskS) (nm : ByteArray) (w : World) (h : DiskAt w d sv s) (hs : s.steps < 1000000000000) :
    Calls Tryz.prog 106 #[.pointer (some ⟨d, 0, none⟩), .string nm] w (DiskPost d sv (s.step 0 nm nm 0 true).1 (s.step 0 nm nm 0 true).2 w) := by
  have hC := step_calls d sv s 0 nm nm 0 true w h hs (by omega)
  clear h
  go_enter Tryz.func106, Tryz.ntmps106
  go_wp2_with (go_at_call 137; refine hC.mono ?_; rintro e w1 ⟨rfl, h1⟩; replace h1 := Lib.hid h1)
  go_ret
  exact ⟨rfl, h1.out⟩

set_option maxRecDepth 100000 in
set_option maxHeartbeats 400000 in
theorem cut_calls (d : Nat) (sv : Value) (s : DiskS) (nm : ByteArray) (n : Int) (w : World) (h : DiskAt w d sv s) (hs : s.steps < 1000000000000) :
    Calls Tryz.prog 57 #[.pointer (some ⟨d, 0, none⟩), .string nm, .int .i64 n] w (DiskPost d sv (s.step 1 nm nm n false).1 (s.step 1 nm nm n false).2 w) := by
  have hC := step_calls d sv s 1 nm nm n false w h hs (by omega)
  clear h
  go_enter Tryz.func57, Tryz.ntmps57
  go_wp2_with (go_at_call 137; refine hC.mono ?_; rintro e w1 ⟨rfl, h1⟩; replace h1 := Lib.hid h1)
  go_ret
  exact ⟨rfl, h1.out⟩

set_option maxRecDepth 100000 in
set_option maxHeartbeats 400000 in
theorem rename_calls (d : Nat) (sv : Value) (s : DiskS) (nm to : ByteArray) (w : World) (h : DiskAt w d sv s) (hs : s.steps < 1000000000000) :
    Calls Tryz.prog 108 #[.pointer (some ⟨d, 0, none⟩), .string nm, .string to] w (DiskPost d sv (s.step 2 nm to 0 true).1 (s.step 2 nm to 0 true).2 w) := by
  have hC := step_calls d sv s 2 nm to 0 true w h hs (by omega)
  clear h
  go_enter Tryz.func108, Tryz.ntmps108
  go_wp2_with (go_at_call 137; refine hC.mono ?_; rintro e w1 ⟨rfl, h1⟩; replace h1 := Lib.hid h1)
  go_ret
  exact ⟨rfl, h1.out⟩

set_option maxRecDepth 100000 in
set_option maxHeartbeats 400000 in
theorem remove_calls (d : Nat) (sv : Value) (s : DiskS) (nm : ByteArray) (w : World) (h : DiskAt w d sv s) (hs : s.steps < 1000000000000) :
    Calls Tryz.prog 111 #[.pointer (some ⟨d, 0, none⟩), .string nm] w (DiskPost d sv (s.step 3 nm nm 0 true).1 (s.step 3 nm nm 0 true).2 w) := by
  have hC := step_calls d sv s 3 nm nm 0 true w h hs (by omega)
  clear h
  go_enter Tryz.func111, Tryz.ntmps111
  go_wp2_with (go_at_call 137; refine hC.mono ?_; rintro e w1 ⟨rfl, h1⟩; replace h1 := Lib.hid h1)
  go_ret
  exact ⟨rfl, h1.out⟩
end Go.Proofs.YtpjekppljaekoaaGreatDoor
namespace Go.Proofs.YtpjekppljaekoaaGreatDoor
open Go Go.RowKit

def ReadDPost (s : DiskS) (nm : ByteArray) (w : World) (e : Ending) (w' : World) : Prop :=
  ∃ v, e = .returned (.tuple #[v, .int .i64 (s.read nm).2]) ∧ Bs w' (w.heap.size ≤ ·) v (s.read nm).1 ∧ Ext [] w w'

set_option maxRecDepth 100000 in
set_option maxHeartbeats 1000000 in
theorem read_calls (d : Nat) (sv : Value) (s : DiskS) (nm : ByteArray) (w : World) (h : DiskAt w d sv s) :
    Calls Tryz.prog 101 #[.pointer (some ⟨d, 0, none⟩), .string nm] w (ReadDPost s nm w) := by
  have hA := asked1_calls d sv s nm w h
  have hF := find_calls d sv s nm _ (h.keep (alloc_ext w (.cells #[.string nm] 9)))
  have hx0 := alloc_ext w (.cells #[.string nm] 9)
  have hm1 := h.many
  by_cases he : s.asked [nm] = 0
  · rw [he] at hA
    cases hh : has s.files nm with
    | false =>
      have hr : s.read nm = ([], 5) := by unfold DiskS.read; simp [he, hh]
      rw [hh] at hF
      replace h := Lib.hid h
      replace he := Lib.hid he
      replace hh := Lib.hid hh
      replace hr := Lib.hid hr
      replace hx0 := Lib.hid hx0
      go_enter Tryz.func101, Tryz.ntmps101
      go_wp2_with (first | (go_at_call 126; refine hA.mono ?_; rintro e w1 ⟨rfl, rfl⟩) | (go_at_call 127; refine hF.mono ?_; rintro e w1 ⟨rfl, hx⟩; replace hx := Lib.hid hx))
      go_ret2
      exact ⟨_, by rw [hr.out]; rfl, by rw [hr.out]; exact Bs.nil, hx0.out.new hx.out⟩
    | true =>
      rw [hh] at hF
      obtain ⟨f, hf⟩ := has_get hh
      have hg : s.files.getD (idx s.files nm) ⟨nm, [], -1⟩ = f := by rw [List.getD_eq_getElem?_getD, hf]; rfl
      have hr : s.read nm = (f.l, 0) := by unfold DiskS.read; simp only [he, hh, hg, ne_eq, not_true, if_false, Bool.true_eq_false]
      have hil := (List.getElem?_eq_some_iff.1 hf).1
      obtain ⟨g, cap, hsv, hcap⟩ := h.files.some (by omega)
      have hi' : (idx s.files nm : Int) < s.files.length := by omega
      have hi0 : (0 : Int) ≤ idx s.files nm := by omega
      have hcap' : (s.files.length : Int) ≤ cap := by omega
      have hm1' : (s.files.length : Int) ≤ 100000 := by omega
      replace h := Lib.hid h
      replace he := Lib.hid he
      replace hh := Lib.hid hh
      replace hr := Lib.hid hr
      replace hf := Lib.hid hf
      replace hg := Lib.hid hg
      replace hsv := Lib.hid hsv
      replace hx0 := Lib.hid hx0
      generalize idx s.files nm = i at *
      go_enter Tryz.func101, Tryz.ntmps101
      go_wp2_with (first | (go_at_call 126; refine hA.mono ?_; rintro e w1 ⟨rfl, rfl⟩) | (go_at_call 127; refine hF.mono ?_; rintro e w1 ⟨rfl, hx⟩; obtain ⟨A, c, c0, cn, cb, cs, hLc, hb, hL⟩ := ((h.out.keep (alloc_ext w _)).keep hx).file hf.out hsv.out; have hC := clone_calls _ _ _ _ hb (by omega); replace hb := Lib.hid hb; replace hx := Lib.hid hx) | (go_at_call 183; refine hC.mono ?_; rintro e w2 h2; obtain ⟨v, rfl, hv, hx2⟩ := h2; replace hv := Lib.hid hv; replace hx2 := Lib.hid hx2))
      go_ret2
      have hs1 := (hx0.out.new hx.out).size
      exact ⟨_, by rw [hr.out]; rfl, by rw [hr.out]; exact hv.out.imp fun k _ hk => Nat.le_trans hs1 hk, (hx0.out.new hx.out).new hx2.out⟩
  · have he' : (s.asked [nm] == 0) = false := by simpa using he
    have hr : s.read nm = ([], s.asked [nm]) := by unfold DiskS.read; simp [he]
    replace h := Lib.hid h
    replace he := Lib.hid he
    replace hr := Lib.hid hr
    replace hx0 := Lib.hid hx0
    go_enter Tryz.func101, Tryz.ntmps101
    go_wp2_with (go_at_call 126; refine hA.mono ?_; rintro e w1 ⟨rfl, rfl⟩)
    go_ret2
    exact ⟨_, by rw [hr.out]; rfl, by rw [hr.out]; exact Bs.nil, hx0.out⟩
end Go.Proofs.YtpjekppljaekoaaGreatDoor
namespace Go.Proofs.YtpjekppljaekoaaGreatDoor
open Go Go.RowKit

def catTo (a b : List UInt8) : Nat → List UInt8
  | 0 => []
  | 1 => a
  | _ => a ++ b

set_option maxRecDepth 100000 in
set_option maxHeartbeats 1000000 in
theorem concat_calls (g : Nat) (v1 v2 : Value) (l1 l2 : List UInt8) (p : Nat → Prop) (w : World) (c0 : w.cell? ⟨g, 0, none⟩ = some v1) (c1 : w.cell? ⟨g, 1, none⟩ = some v2) (h1 : Bs w p v1 l1) (h2 : Bs w p v2 l2)
    (hl : l1.length + l2.length ≤ 100000000) :
    Calls Tryz.prog 129 #[.slice (some ⟨g, 0, none⟩) 2 2] w (NewBs (l1 ++ l2) w) := by
  have hl' : (l1.length : Int) + l2.length ≤ 100000000 := by omega
  have hG := grow_calls (l1.length + l2.length) w hl
  have hgl : g < w.heap.size := World.block_lt_of_cell? _ _ c0
  have b1 := h1
  have b2 := h2
  obtain ⟨A1, k1, rfl, _⟩ := h1
  obtain ⟨A2, k2, rfl, _⟩ := h2
  replace b1 := Lib.hid b1
  replace b2 := Lib.hid b2
  have e12 : ((l1.length + l2.length : Nat) : Int) = (l1.length : Int) + l2.length := by omega
  rw [e12] at hG
  replace hl := Lib.hid hl
  generalize hL1 : l1.length = L1 at *
  generalize hL2 : l2.length = L2 at *
  replace hL1 := Lib.hid hL1
  replace hL2 := Lib.hid hL2
  clear e12
  go_enter Tryz.func129, Tryz.ntmps129
  go_wp2
  go_loop [3, 11] (fun n i => ∃ k : Nat, k ≤ 2 ∧ i = .int .i64 k ∧ n = .int .i64 (match k with | 0 => 0 | 1 => (L1 : Int) | _ => (L1 : Int) + L2)) (fun _ i => 2 - (intOf i).toNat)
  case atStart => exact ⟨0, by omega, rfl, rfl⟩
  case round =>
    obtain ⟨k, hk, rfl, rfl⟩ := hrel
    have hk' : k = 0 ∨ k = 1 ∨ k = 2 := by omega
    clear hk
    rcases hk' with rfl | rfl | rfl
    · go_wp2
      go_round
      case rel => exact ⟨1, by omega, rfl, by simp⟩
      case measure => simp [intOf]
    · go_wp2
      go_round
      case rel => exact ⟨2, by omega, rfl, by simp⟩
      case measure => simp [intOf]
    · go_wp2_with (first | (go_at_call 202; refine hG.mono ?_; rintro e w1 ⟨v, rfl, hown, hx⟩; obtain ⟨A, c, rfl, _⟩ := own_form hown; replace hown := Lib.hid hown; replace hx := Lib.hid hx))
      go_loopw [6, 27] (fun v i wr => ∃ k : Nat, k ≤ 2 ∧ i = .int .i64 k ∧ ∃ A c m, v = .slice A m c ∧ Hid (wr.ownsRow w.heap.size 5 1 (.slice A m c) m ((catTo l1 l2 k).map bv)) ∧ Hid (Ext [] w wr)) (fun _ i _ => 2 - (intOf i).toNat)
      case atStart => exact ⟨0, by omega, rfl, A, c, 0, rfl, hown, hx⟩
      case round =>
        obtain ⟨k, hk, rfl, A', c', m, rfl, hown', hx'⟩ := hrel
        have hk' : k = 0 ∨ k = 1 ∨ k = 2 := by omega
        have d0 := (hx'.out.cell (p := ⟨g, 0, none⟩) hgl (by simp)).trans c0
        have d1 := (hx'.out.cell (p := ⟨g, 1, none⟩) hgl (by simp)).trans c1
        have hm : m = (catTo l1 l2 k).length := by have := hown'.out.1; simpa using this.symm
        have hsz : w.heap.size ≤ wr.heap.size := hx'.out.size
        have hfr : ∀ kk, kk ∈ (Value.slice A' m c').ownBlock.toList → kk < w.heap.size → kk ∈ ([] : List Nat) := fun kk hkk hlt => by
          have := (hown'.out.lt kk (by simpa using hkk)).1
          omega
        replace hfr := Lib.hid hfr
        clear hk
        rcases hk' with rfl | rfl | rfl
        · have hb := b1.out.keep hx'.out
          replace hb := Lib.hid hb
          replace hm := Lib.hid hm
          go_wp2_with (first | (refine append_bytes rfl _ _ rfl w.heap.size (.slice A' m c') (catTo l1 l2 0) m rfl hown'.out p (.slice A1 L1 k1) l1 rfl hb.out (by have := hm.out; have := hl.out; have := hL1.out; simp only [catTo, List.length_nil] at *; omega) hsz ?_; intro A2' c2' w2 ho2 hx2; replace ho2 := Lib.hid ho2; replace hx2 := Lib.hid hx2))
          go_roundw
          case rel =>
            have := ho2.out
            exact ⟨1, by omega, rfl, A2', c2', m + l1.length, rfl, this, hx'.out.trans hx2.out hfr.out⟩
          case measure => simp [intOf]
        · have hb := b2.out.keep hx'.out
          replace hb := Lib.hid hb
          replace hm := Lib.hid hm
          go_wp2_with (first | (refine append_bytes rfl _ _ rfl w.heap.size (.slice A' m c') (catTo l1 l2 1) m rfl hown'.out p (.slice A2 L2 k2) l2 rfl hb.out (by have := hm.out; have := hl.out; have := hL2.out; have := hL1.out; simp only [catTo] at *; omega) hsz ?_; intro A2' c2' w2 ho2 hx2; replace ho2 := Lib.hid ho2; replace hx2 := Lib.hid hx2))
          go_roundw
          case rel =>
            have := ho2.out
            exact ⟨2, by omega, rfl, A2', c2', m + l2.length, rfl, this, hx'.out.trans hx2.out hfr.out⟩
          case measure => simp [intOf]
        · go_wp2
          go_ret
          refine ⟨_, rfl, ?_, hx'.out⟩
          exact Bs.own hown'.out
end Go.Proofs.YtpjekppljaekoaaGreatDoor

/- Contracts of package ckpt: Steps. Contracts of package ckpt: Newest. Contracts of package ckpt: Drop. Calls of package ckpt on a disk that holds just the files of checkpoints, in plain words: what is there, step by step. Contract of works (package treadwheellaw19). -/
import Derived.Test.YtpjekppljaekoaaGreatDoorKA10
import Derived.Test.YtpjekppljaekoaaGreatDoorKA02
import Derived.Maps.OwnIn
import Derived.Laws.IdiomStrings
import Derived.Laws.BytesArg
import Derived.Lib.SlBytesConst
namespace Go.Proofs.YtpjekppljaekoaaGreatDoor
open Go Go.RowKit Go.Shelf

attribute [local go_sem] Oper.semAt_some

theorem own_ext {w w' : World} {F : List Nat} {base : Nat} {e : TypeId} {size n : Nat} {v : Value} {xs : List Value} (h : w.ownsRow base e size v n xs) (hx : Ext F w w') (hn : ∀ r, v.ownBlock = some r → r ∉ F) : w'.ownsRow base e size v n xs := by
  refine ⟨h.1, ?_⟩
  rcases h.2 with h | ⟨g, cap, cur, e, hb, hh, r⟩
  · exact .inl h
  · exact .inr ⟨g, cap, cur, e, hb, by rw [hx.block g (lt_of_heap hh) (hn g (by rw [e]; rfl))]; exact hh, r⟩
theorem own_base {w : World} {base base' : Nat} {e : TypeId} {size n : Nat} {v : Value} {xs : List Value} (h : w.ownsRow base e size v n xs) (hb : ∀ r, v.ownBlock = some r → base' ≤ r) : w.ownsRow base' e size v n xs := by
  refine ⟨h.1, ?_⟩
  rcases h.2 with h | ⟨g, cap, cur, e, _, hh, r⟩
  · exact .inl h
  · exact .inr ⟨g, cap, cur, e, hb g (by rw [e]; rfl), hh, r⟩
theorem own_lt {w : World} {base : Nat} {e : TypeId} {size n : Nat} {v : Value} {xs : List Value} (h : w.ownsRow base e size v n xs) {r : Nat} (hr : v.ownBlock = some r) : r < w.heap.size := by
  rcases h.2 with ⟨e, _⟩ | ⟨g, cap, cur, e, _, hh, _⟩
  · rw [e] at hr; cases hr
  · rw [e] at hr
    obtain rfl : g = r := by simpa [Value.ownBlock] using hr
    exact lt_of_heap hh
theorem ext_put (w : World) (l : Nat) (o : Obj) : Ext [l] w (w.putObj l o) := ext_grown (grownBy_putObj' w l o)
theorem obj_ext {w w' : World} {F : List Nat} {k : Nat} {o : Obj} (h : w.heap[k]? = some o) (hx : Ext F w w') (hn : k ∉ F) : w'.heap[k]? = some o := (hx.block k (lt_of_heap h) hn).trans h

/-- Between two rounds of AppendSeq's loop. -/
structure AppJ (w : World) (rec : Loop) (g : Nat) (xs : List Int) (W : World) : Prop where
  ext : Ext [] w W
  l : W.heap[w.heap.size + 2]? = some (.loop rec)
  d : W.heap[w.heap.size + 1]? = some (.deferred (some []))
  row : ∃ v, Blk W w.heap.size 72 #[v] ∧ W.ownsRow 0 3 1 v xs.length (xs.map intV) ∧ ∀ r, v.ownBlock = some r → r ≠ g ∧ w.heap.size + 3 ≤ r

set_option maxRecDepth 100000 in
set_option maxHeartbeats 4000000 in
theorem appendSeq_calls (gs d : Nat) (sv : Value) (s : DiskS) (w : World) (h : DiskAt w d sv s) (hst : Blk w gs 193 #[.pointer (some ⟨d, 0, none⟩)]) (hL : Lai w) (hnm : ∀ f ∈ s.files, f.nm.size ≤ 1000000) :
    Calls Tryz.prog 189 #[.slice none 0 0, .func (.func 113) #[.pointer (some ⟨gs, 0, none⟩)] #[]] w fun e w' => ∃ A c, e = .returned (.slice A s.stepsL.length c) ∧ w'.ownsRow w.heap.size 3 1 (.slice A s.stepsL.length c) s.stepsL.length (s.stepsL.map intV) ∧ Ext [] w w' := by
  obtain ⟨i0, hi0, hz0, hz1, hz2⟩ := info_parts Tryz.info3
  have hall : s.all.length ≤ 100000 := Nat.le_trans (all_le s) h.many
  refine (callsIn_wide (n := 5)).1 ?_
  refine callsIn_of_wp_marks Tryz.func189 rfl trivial ?_ rfl
  simp only [Tryz.ntmps189, List.size_toArray, List.length_cons, List.length_nil, Nat.reduceAdd, Nat.reduceSub, Array.replicate_succ, Array.replicate_zero, List.push_toArray, List.append_toArray, List.nil_append, List.cons_append]
  replace hi0 := Lib.hid hi0
  replace hz0 := Lib.hid hz0
  replace hz1 := Lib.hid hz1
  replace hz2 := Lib.hid hz2
  replace hall := Lib.hid hall
  gi_wp2
  refine wpIn_range_bound rfl (by omega) (gf := 113) (fb := #[.pointer (some ⟨gs, 0, none⟩)]) (lb := #[]) rfl trivial (enters_of Tryz.func113 (by kernel_rfl) rfl) ?_
  intro fn rec W1 hfn hrec hW1
  generalize hW0 : w.alloc (.cells #[.slice none 0 0] 72) = W0 at *
  have hs0 : W0.heap.size = w.heap.size + 1 := by rw [← hW0]; simp
  have b0 : Blk W0 w.heap.size 72 #[.slice none 0 0] := by rw [← hW0]; exact Blk.new w 72 _
  have hx0 : Ext [] w W0 := by rw [← hW0]; exact (Ext.refl [] w).alloc _
  rw [hs0] at hrec ⊢
  have hx1 : Ext [] w W1 := by rw [← hW1]; exact (hx0.alloc _).alloc _
  have b1 : Blk W1 w.heap.size 72 #[.slice none 0 0] := by rw [← hW1]; exact (b0.alloc _).alloc _
  have hd1 : W1.heap[w.heap.size + 1]? = some (.deferred (some [])) := by
    rw [← hW1, Below.heap_alloc _ _ _ (by simp [hs0])]
    have := heap_alloc_new W0 (.deferred (some []))
    rwa [hs0] at this
  have hl1 : W1.heap[w.heap.size + 2]? = some (.loop rec) := by
    rw [← hW1]
    have := heap_alloc_new (W0.alloc (.deferred (some []))) (.loop rec)
    simpa [hs0] using this
  have hs1 : W1.heap.size = w.heap.size + 3 := by rw [← hW1]; simp [hs0]
  have hY : ∀ g pre x W2, AppJ w rec g pre W2 → W1.heap.size ≤ g → g < W2.heap.size → pre.length < s.all.length → (∃ cs, Blk W2 g 3 cs) → YieldAt Fence.wide (5 - 1 - 1) Tryz.prog (w.heap.size + 1 + 1) #[.int .i64 x] W2 fun e W' => e = .returned (.bool true) ∧ AppJ w rec g (pre ++ [x]) W' ∧ W'.heap[g]? = W2.heap[g]? := by
    intro g pre x W2 hJ hg1 hg2 hlen hgb
    obtain ⟨hx, hl, hd, v, hbv, hov, hrv⟩ := hJ
    obtain ⟨A, c, rfl, hof⟩ := own_form hov
    clear hof
    have hrl : ∀ r, (Value.slice A pre.length c).ownBlock = some r → r ∉ [w.heap.size + 2, w.heap.size] ∧ r ≠ g ∧ w.heap.size + 3 ≤ r := fun r hr => by
      have := hrv r hr
      simp only [List.mem_cons, List.not_mem_nil, or_false, not_or]
      omega
    refine yield_round hrec hl rfl trivial ?_
    replace hrec := Lib.hid hrec
    replace hl := Lib.hid hl
    replace hg1 := Lib.hid hg1
    replace hg2 := Lib.hid hg2
    gi_wp2
    refine ⟨hl.out, ?_⟩
    obtain ⟨Wb, hWb⟩ : ∃ Wb, W2.putObj (w.heap.size + 1 + 1) (.loop { rec with state := .busy }) = Wb := ⟨_, rfl⟩
    rw [hWb]
    have hl2 := (Array.getElem?_eq_some_iff.1 hl.out).1
    have hxb : Ext [w.heap.size + 2] W2 Wb := by rw [← hWb]; exact ext_put _ _ _
    have hlb : Wb.heap[w.heap.size + 2]? = some (.loop { rec with state := .busy }) := by rw [← hWb]; exact World.putObj_heap_same hl2
    replace hWb := Lib.hid hWb
    have hbb := hbv.ext hxb (by simp)
    have hob := own_ext hov hxb (fun r hr => by have := hrv r hr; simp; omega)
    have hdb := obj_ext hd hxb (by simp)
    have c0 := hbb.cell 0
    have f0 := hbb.froz 0
    simp only [List.getElem?_toArray, List.getElem?_cons_zero] at c0
    have hml : pre.length ≤ 100000 := by have := hall.out; omega
    have hsz := hxb.size
    replace hob := Lib.hid hob
    replace hbb := Lib.hid hbb
    replace hdb := Lib.hid hdb
    replace hlb := Lib.hid hlb
    replace hxb := Lib.hid hxb
    replace hx := Lib.hid hx
    replace hrl := Lib.hid hrl
    replace hml := Lib.hid hml
    replace hd := Lib.hid hd
    replace hgb := Lib.hid hgb
    replace hsz := Lib.hid hsz
    clear hrv hbv hov hlen
    generalize hm : pre.length = m at *
    replace hm := Lib.hid hm
    gi_wp2_with (gi_at_builtin; refine wpListIn_append_own_at _ rfl _ _ 72 rfl 0 3 i0 _ 1 8 Tryz.underlying72 hi0.out hz0.out hz1.out hz2.out rfl (by decide) (.slice A m c) m _ rfl (own_keep hob.out ((Ext.refl [] Wb).alloc (.cells #[.int .i64 x] 3))) ⟨Wb.heap.size, 0, none⟩ 1 1 [intV x] rfl rfl (fun j u hu => (by cases j with | zero => (simp at hu; subst hu; rw [Addr.add_lit]; exact (Blk.new Wb 3 _).cell 0) | succ j => simp at hu)) (fun u hu => (by simp at hu; rw [hu]; rfl)) (by have := hml.out; unfold maxLen; omega) (by have := hml.out; omega) (Nat.zero_le _) ?_
                 intro v5 w5 ho5 hg5 _ hv5
                 obtain ⟨A5, c5, rfl, hof5⟩ := own_form ho5
                 clear hof5
                 have hx5 : Ext (w.heap.size :: (Value.slice A m c).ownBlock.toList) Wb w5 := (((Ext.refl _ Wb).alloc _).trans (ext_grown hg5) (fun k hk _ => List.mem_cons_of_mem _ hk))
                 have hns : ∀ r, (Value.slice A m c).ownBlock = some r → r ∉ [w.heap.size] := fun r hr => (by have := (hrl.out r hr).1; simp at this ⊢; exact this.2)
                 have hb5 : Blk w5 w.heap.size 72 #[.slice A m c] := (hbb.out.alloc _).ext (ext_grown hg5) (fun hk => (by simp at hk; exact absurd (by simp) (hns _ hk)))
                 have f5 := hb5.froz 0
                 have q5 : w5.cell? ⟨w.heap.size, 0, none⟩ = some (.slice A m c) := hb5.cell 0
                 replace hb5 := Lib.hid hb5
                 replace hx5 := Lib.hid hx5
                 replace ho5 := Lib.hid ho5
                 replace hv5 := Lib.hid hv5
                 replace hns := Lib.hid hns
                 clear hg5)
    have hs6 : Ext [w.heap.size] w5 (w5.setCell ⟨w.heap.size, 0, none⟩ (.slice A5 (m + 1) c5)) := (Ext.refl _ w5).set (.inl (by simp)) _
    have hb6 : Blk (w5.setCell ⟨w.heap.size, 0, none⟩ (.slice A5 (m + 1) c5)) w.heap.size 72 #[.slice A5 (m + 1) c5] := by
      have := hb5.out.set 0 (.slice A5 (m + 1) c5)
      simpa using this
    generalize w5.setCell ⟨w.heap.size, 0, none⟩ (.slice A5 (m + 1) c5) = w6 at *
    have hx6 : Ext (w.heap.size :: (Value.slice A m c).ownBlock.toList) Wb w6 := hx5.out.trans hs6 (fun k hk _ => by simp at hk; simp [hk])
    have hal : ∀ k, k ∈ w.heap.size :: (Value.slice A m c).ownBlock.toList → k = w.heap.size ∨ (k ≠ g ∧ w.heap.size + 3 ≤ k) := fun k hk => by
      rcases List.mem_cons.1 hk with e | e
      · exact .inl e
      · exact .inr (hrl.out k (by simpa using e)).2
    have hl6 : w6.heap[w.heap.size + 2]? = some (.loop { rec with state := .busy }) := obj_ext hlb.out hx6 (fun hk => by have := hal _ hk; omega)
    have hd6 : w6.heap[w.heap.size + 1]? = some (.deferred (some [])) := obj_ext hdb.out hx6 (fun hk => by have := hal _ hk; omega)
    have hr5 : ∀ r, (Value.slice A5 (m + 1) c5).ownBlock = some r → r ≠ g ∧ w.heap.size + 3 ≤ r := fun r hr => by
      rcases hv5.out with e | e
      · exact (hrl.out r (e ▸ hr)).2
      · rw [e] at hr
        injection hr with hr
        have h1 := hg2.out
        have h2 := hsz.out
        have h3 := hx.out.size
        have h4 := (Array.getElem?_eq_some_iff.1 hl.out).1
        simp at hr
        omega
    have hx7 := ext_put w6 (w.heap.size + 2) (.loop rec)
    refine ⟨hl6, rfl, ⟨?_, World.putObj_heap_same (Array.getElem?_eq_some_iff.1 hl6).1, obj_ext hd6 hx7 (by simp), _, hb6.ext hx7 (by simp), ?_, hr5⟩, ?_⟩
    · refine ((hx.out.trans hxb.out fun k hk hl => ?_).trans hx6 fun k hk hl => ?_).trans hx7 fun k hk hl => ?_
      · simp at hk; omega
      · rcases hal k hk with e | e <;> omega
      · simp at hk; omega
    · have h1 : w6.ownsRow 0 3 1 (.slice A5 (m + 1) c5) (m + 1) (pre.map intV ++ [intV x]) := own_ext ho5.out hs6 (fun r hr => by have := (hr5 r hr).2; simp; omega)
      have h2 := own_ext h1 hx7 (fun r hr => by
        have h3 := own_lt h1 hr
        rcases h1.2 with ⟨e, _⟩ | ⟨g', cap, cur, e, _, hh, _⟩
        · rw [e] at hr; cases hr
        · rw [e] at hr
          obtain rfl : g' = r := by simpa [Value.ownBlock] using hr
          rw [List.mem_singleton]
          rintro rfl
          rw [hl6] at hh
          cases hh)
      simpa [hm.out] using h2
    · have h1 := hxb.out.block g hg2.out (by have := hg1.out; simp; omega)
      have h2 := hx6.block g (by have := hxb.out.size; have := hg2.out; omega) (fun hk => by have := hal g hk; have := hg1.out; omega)
      have h3 := hx7.block g (by have := hxb.out.size; have := hx6.size; have := hg2.out; omega) (by have := hg1.out; simp; omega)
      exact (h3.trans h2).trans h1
  have keep : ∀ g xs W2 W3, AppJ w rec g xs W2 → Ext [] W2 W3 → AppJ w rec g xs W3 := fun g xs W2 W3 hJ hx => by
    obtain ⟨v, a1, a2, a3⟩ := hJ.row
    exact ⟨hJ.ext.trans' hx, obj_ext hJ.l hx (by simp), obj_ext hJ.d hx (by simp), v, a1.keep hx, own_keep a2 hx, a3⟩
  refine (right_in 4 (w.heap.size + 2) (by omega) gs d sv s w W1 h hst hL hnm hx1 (AppJ w rec) ⟨fun W2 g hx _ => keep g [] W1 W2 ⟨hx1, hl1, hd1, _, b1, World.ownsRow_nil _ _ _ _, fun r hr => by cases hr⟩ hx, keep, fun _ _ _ hJ => hJ.ext⟩ hY).mono ?_
  rintro e W2 ⟨hv, g, hx, hl, hd, v, hbv, hov, hrv⟩
  obtain ⟨A, c, rfl, hof⟩ := own_form hov
  clear hof
  refine ⟨hv, hl, ?_⟩
  have hxp := ext_put W2 (w.heap.size + 2) (.loop { rec with state := .exhausted })
  have hb3 := hbv.ext hxp (by simp)
  have hd3 := obj_ext hd hxp (by simp)
  have hl3 : (W2.putObj (w.heap.size + 2) (.loop { rec with state := .exhausted })).heap[w.heap.size + 2]? = some (.loop { rec with state := .exhausted }) := World.putObj_heap_same (Array.getElem?_eq_some_iff.1 hl).1
  have notD : ∀ r, (Value.slice A s.stepsL.length c).ownBlock = some r → r ∉ [w.heap.size + 2, w.heap.size + 1] := fun r hr => by
    have := (hrv r hr).2
    simp; omega
  have ho3 := own_ext hov hxp (fun r hr => by have := (hrv r hr).2; simp; omega)
  have hx3 : Ext [] w (W2.putObj (w.heap.size + 2) (.loop { rec with state := .exhausted })) := hx.trans hxp fun k hk hl => by simp at hk; omega
  generalize W2.putObj (w.heap.size + 2) (.loop { rec with state := .exhausted }) = W3 at *
  have c0 := hb3.cell 0
  simp only [List.getElem?_toArray, List.getElem?_cons_zero] at c0
  replace hx3 := Lib.hid hx3
  replace hd3 := Lib.hid hd3
  replace ho3 := Lib.hid ho3
  replace hrv := Lib.hid hrv
  replace notD := Lib.hid notD
  clear hl3 hxp hl hd hbv hov hv hx hY keep hrec hW1 hW0
  gi_wp2
  refine ⟨by simp, .inl ⟨_, _, rfl, run_takeDeferred hd3.out, ?_⟩⟩
  have hxq := ext_put W3 (w.heap.size + 1) (.deferred none)
  refine ⟨_, results_tmp rfl _ _ _, A, c, rfl, ?_, hx3.out.trans hxq fun k hk hl => by simp at hk; omega⟩
  refine own_base (own_ext ho3.out hxq fun r hr => ?_) fun r hr => ?_
  · have := notD.out r hr
    simp at this ⊢
    exact this.2
  · have := (hrv.out r hr).2
    omega

/-- A call that answers a new row of ints. -/
def IntsPost (l : List Int) (w : World) (e : Ending) (w' : World) : Prop :=
  ∃ A c, e = .returned (.slice A l.length c) ∧ w'.ownsRow w.heap.size 3 1 (.slice A l.length c) l.length (l.map intV) ∧ Ext [] w w'

set_option maxRecDepth 100000 in
set_option maxHeartbeats 400000 in
theorem collect_calls (gs : Nat) (l : List Int) (w : World)
    (hC : Calls Tryz.prog 189 #[.slice none 0 0, .func (.func 113) #[.pointer (some ⟨gs, 0, none⟩)] #[]] w (IntsPost l w)) :
    Calls Tryz.prog 112 #[.func (.func 113) #[.pointer (some ⟨gs, 0, none⟩)] #[]] w (IntsPost l w) := by
  go_enter Tryz.func112, Tryz.ntmps112
  go_wp2_with (go_at_call 189; refine hC.mono ?_; rintro e w1 ⟨A, c, rfl, ho, hx⟩; replace ho := Lib.hid ho; replace hx := Lib.hid hx)
  go_ret
  exact ⟨A, c, rfl, ho.out, hx.out⟩

set_option maxRecDepth 100000 in
set_option maxHeartbeats 400000 in
theorem ksteps_calls (gs d : Nat) (sv : Value) (s : DiskS) (w : World) (h : DiskAt w d sv s) (hst : Blk w gs 193 #[.pointer (some ⟨d, 0, none⟩)]) (hL : Lai w) (hnm : ∀ f ∈ s.files, f.nm.size ≤ 1000000) :
    Calls Tryz.prog 41 #[.pointer (some ⟨gs, 0, none⟩)] w (IntsPost s.stepsL w) := by
  have hC := collect_calls gs s.stepsL w (appendSeq_calls gs d sv s w h hst hL hnm)
  clear h hst hL hnm
  generalize s.stepsL = l at *
  go_enter Tryz.func41, Tryz.ntmps41
  go_wp2_with (go_at_call 112; refine hC.mono ?_; rintro e w1 ⟨A, c, rfl, ho, hx⟩; replace ho := Lib.hid ho; replace hx := Lib.hid hx)
  go_ret
  exact ⟨A, c, rfl, ho.out, hx.out⟩
end Go.Proofs.YtpjekppljaekoaaGreatDoor
namespace Go.Proofs.YtpjekppljaekoaaGreatDoor
open Go Go.RowKit Go.Shelf

attribute [local go_sem] Oper.semAt_some

/-- Between two rounds of Newest's loop. -/
structure NewJ (w : World) (rec : Loop) (g : Nat) (xs : List Int) (W : World) : Prop where
  ext : Ext [] w W
  l : W.heap[w.heap.size + 3]? = some (.loop rec)
  d : W.heap[w.heap.size + 2]? = some (.deferred (some []))
  b1 : Blk W w.heap.size 3 #[.int .i64 (xs.getLast?.getD 0)]
  b2 : Blk W (w.heap.size + 1) 4 #[.bool (!xs.isEmpty)]

set_option maxRecDepth 100000 in
set_option maxHeartbeats 4000000 in
theorem newest_calls (gs d : Nat) (sv : Value) (s : DiskS) (w : World) (h : DiskAt w d sv s) (hst : Blk w gs 193 #[.pointer (some ⟨d, 0, none⟩)]) (hL : Lai w) (hnm : ∀ f ∈ s.files, f.nm.size ≤ 1000000) :
    Calls Tryz.prog 43 #[.pointer (some ⟨gs, 0, none⟩)] w fun e w' => e = .returned (.tuple #[.int .i64 (s.stepsL.getLast?.getD 0), .bool (!s.stepsL.isEmpty)]) ∧ Ext [] w w' := by
  refine (callsIn_wide (n := 5)).1 ?_
  refine callsIn_of_wp_marks Tryz.func43 rfl trivial ?_ rfl
  simp only [Tryz.ntmps43, List.size_toArray, List.length_cons, List.length_nil, Nat.reduceAdd, Nat.reduceSub, Array.replicate_succ, Array.replicate_zero, List.push_toArray, List.append_toArray, List.nil_append, List.cons_append]
  gi_wp2
  refine wpIn_range_bound rfl (by omega) (gf := 113) (fb := #[.pointer (some ⟨gs, 0, none⟩)]) (lb := #[]) rfl trivial (enters_of Tryz.func113 (by kernel_rfl) rfl) ?_
  intro fn rec W1 hfn hrec hW1
  generalize hW0 : (w.alloc (.cells #[.int .i64 0] 3)).alloc (.cells #[.bool false] 4) = W0 at *
  have hs0 : W0.heap.size = w.heap.size + 2 := by rw [← hW0]; simp
  have a1 : Blk W0 w.heap.size 3 #[.int .i64 0] := by rw [← hW0]; exact (Blk.new w 3 _).alloc _
  have a2 : Blk W0 (w.heap.size + 1) 4 #[.bool false] := by rw [← hW0]; exact Blk.new' _ 4 _ (by simp)
  have hx0 : Ext [] w W0 := by rw [← hW0]; exact ((Ext.refl [] w).alloc _).alloc _
  rw [hs0] at hrec ⊢
  have hx1 : Ext [] w W1 := by rw [← hW1]; exact (hx0.alloc _).alloc _
  have b1 : Blk W1 w.heap.size 3 #[.int .i64 0] := by rw [← hW1]; exact (a1.alloc _).alloc _
  have b2 : Blk W1 (w.heap.size + 1) 4 #[.bool false] := by rw [← hW1]; exact (a2.alloc _).alloc _
  have hd1 : W1.heap[w.heap.size + 2]? = some (.deferred (some [])) := by
    rw [← hW1, Below.heap_alloc _ _ _ (by simp [hs0])]
    have := heap_alloc_new W0 (.deferred (some []))
    rwa [hs0] at this
  have hl1 : W1.heap[w.heap.size + 3]? = some (.loop rec) := by
    rw [← hW1]
    have := heap_alloc_new (W0.alloc (.deferred (some []))) (.loop rec)
    simpa [hs0] using this
  have hs1 : W1.heap.size = w.heap.size + 4 := by rw [← hW1]; simp [hs0]
  have hY : ∀ g pre x W2, NewJ w rec g pre W2 → W1.heap.size ≤ g → g < W2.heap.size → pre.length < s.all.length → (∃ cs, Blk W2 g 3 cs) → YieldAt Fence.wide (5 - 1 - 1) Tryz.prog (w.heap.size + 2 + 1) #[.int .i64 x] W2 fun e W' => e = .returned (.bool true) ∧ NewJ w rec g (pre ++ [x]) W' ∧ W'.heap[g]? = W2.heap[g]? := by
    intro g pre x W2 hJ hg1 hg2 _ _
    obtain ⟨hx, hl, hd, h1, h2⟩ := hJ
    refine yield_round hrec hl rfl trivial ?_
    replace hrec := Lib.hid hrec
    replace hl := Lib.hid hl
    replace hg1 := Lib.hid hg1
    replace hg2 := Lib.hid hg2
    gi_wp2
    refine ⟨hl.out, ?_⟩
    obtain ⟨Wb, hWb⟩ : ∃ Wb, W2.putObj (w.heap.size + 2 + 1) (.loop { rec with state := .busy }) = Wb := ⟨_, rfl⟩
    rw [hWb]
    have hl2 := (Array.getElem?_eq_some_iff.1 hl.out).1
    have hxb : Ext [w.heap.size + 3] W2 Wb := by rw [← hWb]; exact ext_put _ _ _
    have hlb : Wb.heap[w.heap.size + 3]? = some (.loop { rec with state := .busy }) := by rw [← hWb]; exact World.putObj_heap_same hl2
    replace hWb := Lib.hid hWb
    have hb1 := h1.ext hxb (by simp)
    have hb2 := h2.ext hxb (by simp)
    have hdb := obj_ext hd hxb (by simp)
    have c1 := hb1.cell 0
    have f1 := hb1.froz 0
    have c2 := hb2.cell 0
    have f2 := hb2.froz 0
    simp only [List.getElem?_toArray, List.getElem?_cons_zero] at c1 c2
    replace hb1 := Lib.hid hb1
    replace hb2 := Lib.hid hb2
    replace hdb := Lib.hid hdb
    replace hlb := Lib.hid hlb
    replace hxb := Lib.hid hxb
    replace hx := Lib.hid hx
    replace hd := Lib.hid hd
    clear h1 h2
    gi_wp2
    have hx6 : Ext [w.heap.size, w.heap.size + 1] Wb ((Wb.setCell ⟨w.heap.size, 0, none⟩ (.int .i64 x)).setCell ⟨w.heap.size + 1, 0, none⟩ (.bool true)) := ((Ext.refl _ Wb).set (.inl (by simp)) _).set (.inl (by simp)) _
    have g1 : Blk ((Wb.setCell ⟨w.heap.size, 0, none⟩ (.int .i64 x)).setCell ⟨w.heap.size + 1, 0, none⟩ (.bool true)) w.heap.size 3 #[.int .i64 x] := by
      have := (hb1.out.set 0 (.int .i64 x)).far (p := ⟨w.heap.size + 1, 0, none⟩) (by simp) (.bool true)
      simpa using this
    have g2 : Blk ((Wb.setCell ⟨w.heap.size, 0, none⟩ (.int .i64 x)).setCell ⟨w.heap.size + 1, 0, none⟩ (.bool true)) (w.heap.size + 1) 4 #[.bool true] := by
      have := (hb2.out.far (p := ⟨w.heap.size, 0, none⟩) (by simp) (.int .i64 x)).set 0 (.bool true)
      simpa using this
    generalize (Wb.setCell ⟨w.heap.size, 0, none⟩ (.int .i64 x)).setCell ⟨w.heap.size + 1, 0, none⟩ (.bool true) = w6 at *
    have hl6 : w6.heap[w.heap.size + 3]? = some (.loop { rec with state := .busy }) := obj_ext hlb.out hx6 (by simp)
    have hd6 : w6.heap[w.heap.size + 2]? = some (.deferred (some [])) := obj_ext hdb.out hx6 (by simp)
    have hx7 := ext_put w6 (w.heap.size + 3) (.loop rec)
    refine ⟨hl6, rfl, ⟨?_, World.putObj_heap_same (Array.getElem?_eq_some_iff.1 hl6).1, obj_ext hd6 hx7 (by simp), ?_, ?_⟩, ?_⟩
    · refine ((hx.out.trans hxb.out fun k hk hl => ?_).trans hx6 fun k hk hl => ?_).trans hx7 fun k hk hl => ?_
      all_goals (simp at hk; omega)
    · have := g1.ext hx7 (by simp)
      simpa using this
    · have := g2.ext hx7 (by simp)
      rw [show (!(pre ++ [x]).isEmpty) = true by simp]
      exact this
    · have e1 := hxb.out.block g hg2.out (by have := hg1.out; simp; omega)
      have e2 := hx6.block g (by have := hxb.out.size; have := hg2.out; omega) (by have := hg1.out; simp; omega)
      have e3 := hx7.block g (by have := hxb.out.size; have := hx6.size; have := hg2.out; omega) (by have := hg1.out; simp; omega)
      exact (e3.trans e2).trans e1
  have keep : ∀ g xs W2 W3, NewJ w rec g xs W2 → Ext [] W2 W3 → NewJ w rec g xs W3 := fun g xs W2 W3 hJ hx =>
    ⟨hJ.ext.trans' hx, obj_ext hJ.l hx (by simp), obj_ext hJ.d hx (by simp), hJ.b1.keep hx, hJ.b2.keep hx⟩
  refine (right_in 4 (w.heap.size + 3) (by omega) gs d sv s w W1 h hst hL hnm hx1 (NewJ w rec) ⟨fun W2 g hx _ => keep g [] W1 W2 ⟨hx1, hl1, hd1, b1, b2⟩ hx, keep, fun _ _ _ hJ => hJ.ext⟩ hY).mono ?_
  rintro e W2 ⟨hv, g, hx, hl, hd, h1, h2⟩
  refine ⟨hv, hl, ?_⟩
  have hxp := ext_put W2 (w.heap.size + 3) (.loop { rec with state := .exhausted })
  have h13 := h1.ext hxp (by simp)
  have h23 := h2.ext hxp (by simp)
  have hd3 := obj_ext hd hxp (by simp)
  have hx3 : Ext [] w (W2.putObj (w.heap.size + 3) (.loop { rec with state := .exhausted })) := hx.trans hxp fun k hk hl => by simp at hk; omega
  generalize W2.putObj (w.heap.size + 3) (.loop { rec with state := .exhausted }) = W3 at *
  obtain ⟨top, htop⟩ : ∃ t, s.stepsL.getLast?.getD 0 = t := ⟨_, rfl⟩
  obtain ⟨em, hem⟩ : ∃ t, s.stepsL.isEmpty = t := ⟨_, rfl⟩
  rw [htop] at h13
  rw [hem] at h23
  replace htop := Lib.hid htop
  replace hem := Lib.hid hem
  have c1 := h13.cell 0
  have f1 := h13.froz 0
  have c2 := h23.cell 0
  have f2 := h23.froz 0
  simp only [List.getElem?_toArray, List.getElem?_cons_zero] at c1 c2
  replace hx3 := Lib.hid hx3
  replace hd3 := Lib.hid hd3
  replace h13 := Lib.hid h13
  replace h23 := Lib.hid h23
  clear hxp hl hd h1 h2 hv hx hY keep hrec hW1 hW0
  gi_wp2
  refine wpIn_wide.2 ?_
  go_region_with (fail)
  all_goals
    have hx4 : Ext [] w (((W3.setCell ⟨w.heap.size, 0, none⟩ (.int .i64 top)).setCell ⟨w.heap.size + 1, 0, none⟩ (.bool !em)).drew) := (hx3.out.trans (((Ext.refl [w.heap.size, w.heap.size + 1] W3).set (.inl (by simp)) _).set (.inl (by simp)) _) fun k hk hl => by simp at hk; omega).drew
    have g1 : Blk (((W3.setCell ⟨w.heap.size, 0, none⟩ (.int .i64 top)).setCell ⟨w.heap.size + 1, 0, none⟩ (.bool !em)).drew) w.heap.size 3 #[.int .i64 top] := by
      have := ((h13.out.set 0 (.int .i64 top)).far (p := ⟨w.heap.size + 1, 0, none⟩) (by simp) (.bool !em)).drew
      simpa using this
    have g2 : Blk (((W3.setCell ⟨w.heap.size, 0, none⟩ (.int .i64 top)).setCell ⟨w.heap.size + 1, 0, none⟩ (.bool !em)).drew) (w.heap.size + 1) 4 #[.bool !em] := by
      have := ((h23.out.far (p := ⟨w.heap.size, 0, none⟩) (by simp) (.int .i64 top)).set 0 (.bool !em)).drew
      simpa using this
    have hd4 : (((W3.setCell ⟨w.heap.size, 0, none⟩ (.int .i64 top)).setCell ⟨w.heap.size + 1, 0, none⟩ (.bool !em)).drew).heap[w.heap.size + 2]? = some (.deferred (some [])) := obj_ext hd3.out (((Ext.refl [w.heap.size, w.heap.size + 1] W3).set (.inl (by simp)) _).set (.inl (by simp)) _).drew (by simp)
    generalize ((W3.setCell ⟨w.heap.size, 0, none⟩ (.int .i64 top)).setCell ⟨w.heap.size + 1, 0, none⟩ (.bool !em)).drew = W4 at *
    have hxq := ext_put W4 (w.heap.size + 2) (.deferred none)
    have q1 := (g1.ext hxq (by simp)).cell 0
    have q2 := (g2.ext hxq (by simp)).cell 0
    simp only [List.getElem?_toArray, List.getElem?_cons_zero] at q1 q2
    have hx5 : Ext [] w (W4.putObj (w.heap.size + 2) (.deferred none)) := hx4.trans hxq fun k hk hl => by simp at hk; omega
    have hd5 := run_takeDeferred (P := Tryz.prog) hd4
    generalize W4.putObj (w.heap.size + 2) (.deferred none) = W5 at *
    clear hxq g1 g2 hx4 hd4
    replace hx5 := Lib.hid hx5
    replace hd5 := Lib.hid hd5
    show Exit.then _ _ _ _ _
    simp only [Exit.then]
    gi_wp2
    refine ⟨by simp, .inl ⟨_, _, rfl, hd5.out, ?_⟩⟩
    rw [htop.out, hem.out]
    refine ⟨.tuple #[.int .i64 top, .bool !em], by simp [results, Tryz.results43, go_sem, q1, q2], rfl, hx5.out⟩
end Go.Proofs.YtpjekppljaekoaaGreatDoor
namespace Go.Proofs.YtpjekppljaekoaaGreatDoor
open Go Go.RowKit

structure DropR (d : Nat) (sv : Value) (s : DiskS) (below : Int) (w w1 : World) (k : Nat) (sv' : Value) (s' : DiskS) (wr : World) : Prop where
  disk : DiskAt wr d sv' s'
  ext : Ext (DF d sv) w wr
  own : ∀ q ∈ DF d sv', q ∈ DF d sv ∨ w1.heap.size ≤ q
  size : w1.heap.size ≤ wr.heap.size
  eq : dropL s below s.all = dropL s' below (s.all.drop k)
  steps : s'.steps ≤ s.steps + k

theorem dropL_stop {s : DiskS} {below n : Int} {r : List Int} (h : below ≤ n) : dropL s below (n :: r) = (s, 0) := by rw [dropL, if_pos h]
theorem dropL_go {s : DiskS} {below n : Int} {r : List Int} (h : n < below) (h2 : (s.step 3 (nameOf n) (nameOf n) 0 true).2 = 0) : dropL s below (n :: r) = dropL (s.step 3 (nameOf n) (nameOf n) 0 true).1 below r := by
  rw [dropL, if_neg (by omega)]
  simp [h2]
theorem dropL_bad {s : DiskS} {below n : Int} {r : List Int} (h : n < below) (h2 : (s.step 3 (nameOf n) (nameOf n) 0 true).2 ≠ 0) : dropL s below (n :: r) = s.step 3 (nameOf n) (nameOf n) 0 true := by
  rw [dropL, if_neg (by omega)]
  simp [h2]
theorem drop_cons {l : List Int} {k : Nat} {n : Int} (h : l[k]? = some n) : l.drop k = n :: l.drop (k + 1) := by
  obtain ⟨hk, e⟩ := List.getElem?_eq_some_iff.1 h
  rw [List.drop_eq_getElem_cons hk, e]

set_option maxRecDepth 100000 in
set_option maxHeartbeats 4000000 in
theorem drop_on (gs d : Nat) (sv : Value) (s : DiskS) (below : Int) (w : World) (h : DiskAt w d sv s) (hst : Blk w gs 193 #[.pointer (some ⟨d, 0, none⟩)]) (ns : gs ∉ DF d sv) (hL : Lai w) (hD6 : ∀ k ∈ DF d sv, 6 ≤ k) (hnm : ∀ f ∈ s.files, f.nm.size ≤ 1000000)
    (hs : s.steps + 200000 < 1000000000000) (ho : s.off = false) :
    Calls Tryz.prog 40 #[.pointer (some ⟨gs, 0, none⟩), .int .i64 below] w (DiskPost d sv (s.drop below).1 (s.drop below).2 w) := by
  have hR : s.drop below = dropL s below s.all := by unfold DiskS.drop; rw [ho]; rfl
  generalize s.drop below = R at *
  have hO := off_calls d sv s w h
  rw [ho] at hO
  have hA := all_calls gs d sv s w h hst hL hnm
  have hal := all_le s
  have hmany := h.many
  have hdlt := h.dlt
  have cs := hst.cell 0
  simp only [List.getElem?_toArray, List.getElem?_cons_zero] at cs
  generalize hnl : s.all.length = nl at *
  have hnl' : (nl : Int) ≤ 100000 := by omega
  replace h := Lib.hid h
  replace hst := Lib.hid hst
  replace ns := Lib.hid ns
  replace hL := Lib.hid hL
  replace hD6 := Lib.hid hD6
  replace hnm := Lib.hid hnm
  replace hs := Lib.hid hs
  replace ho := Lib.hid ho
  replace hR := Lib.hid hR
  replace hal := Lib.hid hal
  replace hmany := Lib.hid hmany
  replace hdlt := Lib.hid hdlt
  replace hnl := Lib.hid hnl
  go_enter Tryz.func40, Tryz.ntmps40
  go_wp2_with (first
    | (go_at_call 20; refine hO.mono ?_; rintro e w1 ⟨rfl, rfl⟩)
    | (go_at_call 110; refine hA.mono ?_; rintro e w1 ⟨A, c, rfl, ho1, hx1⟩; replace ho1 := Lib.hid ho1; replace hx1 := Lib.hid hx1))
  obtain ⟨g, hgW, hg1, hg⟩ : ∃ g, w.heap.size ≤ g ∧ g ≤ w1.heap.size ∧ (nl = 0 ∨ A = some ⟨g, 0, none⟩ ∧ g < w1.heap.size ∧ ∃ cur : Array Value, Blk w1 g 3 cur ∧ ∀ (k : Nat) (n : Int), s.all[k]? = some n → cur[k]? = some (intV n)) := by
    rcases ho1.out.2 with ⟨_, e0⟩ | ⟨g, cap, cur, e, hb, hh, _, _, _, _⟩
    · exact ⟨w.heap.size, Nat.le_refl _, hx1.out.size, .inl e0⟩
    · injection e with e1 _ _
      refine ⟨g, hb, Nat.le_of_lt (lt_of_heap hh), .inr ⟨e1, lt_of_heap hh, cur, hh, fun k n hk => ?_⟩⟩
      have h1 := ho1.out.cells (g := g) (by rw [e1]; rfl) k (intV n) (by rw [List.getElem?_map, hk]; rfl)
      rw [Addr.add_lit, Nat.zero_add] at h1
      exact (Blk.cell hh k).symm.trans h1
  replace hg := Lib.hid hg
  replace hgW := Lib.hid hgW
  replace hg1 := Lib.hid hg1
  go_loopw [20] (fun i wr => ∃ k : Nat, k ≤ nl ∧ i = .int .i64 k ∧ ∃ sv' s', Hid (DropR d sv s below w w1 k sv' s' wr) ∧ Hid (nl = 0 ∨ A = some ⟨g, 0, none⟩ ∧ g < w1.heap.size ∧ ∃ cur : Array Value, Blk wr g 3 cur ∧ ∀ (k : Nat) (n : Int), s.all[k]? = some n → cur[k]? = some (intV n))) (fun i _ => nl - (intOf i).toNat)
  case atStart => exact ⟨0, by omega, rfl, sv, s, Lib.hid ⟨h.out.keep hx1.out, hx1.out.mono (by simp), fun q hq => .inl hq, Nat.le_refl _, rfl, by simp⟩, hg⟩
  case round =>
    obtain ⟨k, hk, rfl, sv', s', hr, hgr⟩ := hrel
    by_cases hkn : k < nl
    · obtain ⟨n, hget⟩ : ∃ n, s.all[k]? = some n := ⟨_, List.getElem?_eq_getElem (by have := hnl.out; omega)⟩
      obtain ⟨rfl, hglt, cur, hcur, hcells⟩ : A = some ⟨g, 0, none⟩ ∧ g < w1.heap.size ∧ ∃ cur : Array Value, Blk wr g 3 cur ∧ ∀ (k : Nat) (n : Int), s.all[k]? = some n → cur[k]? = some (intV n) := by
        rcases hgr.out with h | h
        · omega
        · exact h
      have q0 : wr.cell? ⟨g, k, none⟩ = some (.int .i64 n) := (hcur.cell k).trans (hcells k n hget)
      have hnb := all_bd (List.mem_iff_getElem?.2 ⟨k, hget⟩)
      have hkI : (k : Int) < nl := by omega
      have hk0 : (0 : Int) ≤ k := by omega
      have hgD : g ∉ DF d sv' := fun hk => by
        rcases hr.out.own _ hk with h1 | h1
        · have := hdlt.out _ h1
          have := hgW.out
          omega
        · omega
      have hgsD : gs ∉ DF d sv' := fun hk => by
        rcases hr.out.own _ hk with h1 | h1
        · exact ns.out h1
        · have := hst.out.lt
          have := hx1.out.size
          omega
      have hstr : Blk wr gs 193 #[.pointer (some ⟨d, 0, none⟩)] := hst.out.ext hr.out.ext ns.out
      have cr := hstr.cell 0
      simp only [List.getElem?_toArray, List.getElem?_cons_zero] at cr
      have hLr := hL.out.ext hr.out.ext hD6.out
      have hsr : s'.steps < 1000000000000 := by have := hr.out.steps; have := hs.out; omega
      have heq := hr.out.eq
      rw [drop_cons hget] at heq
      replace hget := Lib.hid hget
      replace hcur := Lib.hid hcur
      replace hcells := Lib.hid hcells
      replace hglt := Lib.hid hglt
      by_cases hb : below ≤ n
      · replace heq := Lib.hid (heq.trans (dropL_stop hb))
        replace hnb := Lib.hid hnb
        replace hgD := Lib.hid hgD
        replace hgsD := Lib.hid hgsD
        replace hstr := Lib.hid hstr
        replace hLr := Lib.hid hLr
        replace hsr := Lib.hid hsr
        go_wp2
        go_ret
        rw [hR.out, heq.out]
        have := hx1.out.size
        exact ⟨rfl, sv', hr.out.disk, hr.out.ext, fun q hq => by
          rcases hr.out.own q hq with h1 | h1
          · exact .inl h1
          · right; omega⟩
      · have hb' : n < below := by omega
        have hF := name_calls n wr.drew (by omega) (by omega) (hLr.keep (Ext.refl [] wr).drew)
        have hD := fun w2 (hx : Ext [] wr.drew w2) => remove_calls d sv' s' (nameOf n) w2 (hr.out.disk.keep ((Ext.refl [] wr).drew.trans' hx)) hsr
        have hsp := step_steps s' 3 (nameOf n) (nameOf n) 0 true
        have hS : ∀ w2, Ext [] wr.drew w2 → w2.cell? ⟨gs, 0, none⟩ = some (.pointer (some ⟨d, 0, none⟩)) := fun w2 hx => hx.cell_some (p := ⟨gs, 0, none⟩) cr
        have hS2 : ∀ w2 w3, Ext [] wr.drew w2 → Ext (DF d sv') w2 w3 → w3.cell? ⟨gs, 0, none⟩ = some (.pointer (some ⟨d, 0, none⟩)) := fun w2 w3 hx hx2 => (hx2.cell (World.block_lt_of_cell? _ _ (hS w2 hx)) hgsD).trans (hS w2 hx)
        have hRf := Ext.refl [] wr.drew
        have hown2 : ∀ w2 sv2, Ext [] wr.drew w2 → (∀ q ∈ DF d sv2, q ∈ DF d sv' ∨ w2.heap.size ≤ q) → ∀ q ∈ DF d sv2, q ∈ DF d sv ∨ w1.heap.size ≤ q := fun w2 sv2 hx hd q hq => by
          rcases hd q hq with h1 | h1
          · exact hr.out.own q h1
          · have h2 := hx.size
            have h3 := hr.out.size
            have h4 : wr.drew.heap.size = wr.heap.size := rfl
            right; omega
        have hext2 : ∀ w2 w3, Ext [] wr.drew w2 → Ext (DF d sv') w2 w3 → Ext (DF d sv) w w3 := fun w2 w3 hx hx2 => by
          refine (hr.out.ext.new ((Ext.refl [] wr).drew.trans' hx)).trans hx2 fun q hq hl => ?_
          rcases hr.out.own q hq with h1 | h1
          · exact h1
          · have := hx1.out.size
            omega
        have hcur2 : ∀ w2 w3, Ext [] wr.drew w2 → Ext (DF d sv') w2 w3 → Blk w3 g 3 cur := fun w2 w3 hx hx2 => (hcur.out.keep ((Ext.refl [] wr).drew.trans' hx)).ext hx2 hgD
        have hsz2 : ∀ w2 w3, Ext [] wr.drew w2 → Ext (DF d sv') w2 w3 → w1.heap.size ≤ w3.heap.size := fun w2 w3 hx hx2 => Nat.le_trans hr.out.size (Nat.le_trans (((Ext.refl [] wr).drew.trans' hx).size) hx2.size)
        have hsk := hr.out.steps
        by_cases he : (s'.step 3 (nameOf n) (nameOf n) 0 true).2 = 0
        · replace heq := Lib.hid (heq.trans (dropL_go hb' he))
          rw [he] at hD
          generalize (s'.step 3 (nameOf n) (nameOf n) 0 true).1 = s2 at *
          replace he := Lib.hid he
          replace hsp := Lib.hid hsp
          replace hsk := Lib.hid hsk
          replace hnb := Lib.hid hnb
          replace hgD := Lib.hid hgD
          replace hgsD := Lib.hid hgsD
          replace hstr := Lib.hid hstr
          replace hLr := Lib.hid hLr
          replace hsr := Lib.hid hsr
          replace hD := Lib.hid hD
          replace hS := Lib.hid hS
          replace hS2 := Lib.hid hS2
          replace hRf := Lib.hid hRf
          replace hown2 := Lib.hid hown2
          replace hext2 := Lib.hid hext2
          replace hcur2 := Lib.hid hcur2
          replace hsz2 := Lib.hid hsz2
          clear hb
          go_wp2_with (fail)
          go_region_held3 (fun w' => w'.cell? ⟨gs, 0, none⟩ = some (.pointer (some ⟨d, 0, none⟩)))
            (first | exact hS2.out _ _ hx2.out hx3.out | exact hS.out _ hx2.out | exact hS.out _ hRf.out)
            (first
              | (go_at_call 109; refine hF.mono ?_; rintro e w2 ⟨rfl, hx2⟩; replace hx2 := Lib.hid hx2)
              | (go_at_call 111; refine (hD.out _ hx2.out).mono ?_; rintro e w3 ⟨rfl, sv2, h2, hx3, hd3⟩; replace h2 := Lib.hid h2; replace hx3 := Lib.hid hx3; replace hd3 := Lib.hid hd3))
          all_goals
            go_wp2
            go_roundw
            case rel =>
              refine ⟨k + 1, by omega, by go_num, sv2, s2, Lib.hid ⟨h2.out, hext2.out _ _ hx2.out hx3.out, hown2.out _ _ hx2.out hd3.out, hsz2.out _ _ hx2.out hx3.out, heq.out, ?_⟩, Lib.hid (.inr ⟨trivial, hglt.out, cur, hcur2.out _ _ hx2.out hx3.out, hcells.out⟩)⟩
              have := hsp.out
              have := hsk.out
              omega
            case measure => simp [intOf]; omega
        · replace heq := Lib.hid (heq.trans (dropL_bad hb' he))
          have he0 : ((s'.step 3 (nameOf n) (nameOf n) 0 true).2 == 0) = false := by simpa using he
          have he1 : ((s'.step 3 (nameOf n) (nameOf n) 0 true).2 != 0) = true := by simpa using he
          generalize s'.step 3 (nameOf n) (nameOf n) 0 true = P at *
          obtain ⟨s2, a2⟩ := P
          simp only at hD he0 he1 he
          replace he := Lib.hid he
          replace hsp := Lib.hid hsp
          replace hsk := Lib.hid hsk
          replace hnb := Lib.hid hnb
          replace hgD := Lib.hid hgD
          replace hgsD := Lib.hid hgsD
          replace hstr := Lib.hid hstr
          replace hLr := Lib.hid hLr
          replace hsr := Lib.hid hsr
          replace hD := Lib.hid hD
          replace hS := Lib.hid hS
          replace hS2 := Lib.hid hS2
          replace hRf := Lib.hid hRf
          replace hown2 := Lib.hid hown2
          replace hext2 := Lib.hid hext2
          replace hcur2 := Lib.hid hcur2
          replace hsz2 := Lib.hid hsz2
          clear hb
          go_wp2_with (fail)
          go_region_held3 (fun w' => w'.cell? ⟨gs, 0, none⟩ = some (.pointer (some ⟨d, 0, none⟩)))
            (first | exact hS2.out _ _ hx2.out hx3.out | exact hS.out _ hx2.out | exact hS.out _ hRf.out)
            (first
              | (go_at_call 109; refine hF.mono ?_; rintro e w2 ⟨rfl, hx2⟩; replace hx2 := Lib.hid hx2)
              | (go_at_call 111; refine (hD.out _ hx2.out).mono ?_; rintro e w3 ⟨rfl, sv2, h2, hx3, hd3⟩; replace h2 := Lib.hid h2; replace hx3 := Lib.hid hx3; replace hd3 := Lib.hid hd3))
          all_goals
            go_wp2
            go_ret
            rw [hR.out, heq.out]
            have := hx1.out.size
            exact ⟨rfl, sv2, h2.out, hext2.out _ _ hx2.out hx3.out, fun q hq => by
              rcases hown2.out _ _ hx2.out hd3.out q hq with h1 | h1
              · exact .inl h1
              · right; omega⟩
    · obtain rfl : k = nl := by omega
      go_wp2
      go_ret
      rw [hR.out, hr.out.eq, List.drop_of_length_le (by have := hnl.out; omega)]
      have := hx1.out.size
      exact ⟨rfl, sv', hr.out.disk, hr.out.ext, fun q hq => by
        rcases hr.out.own q hq with h1 | h1
        · exact .inl h1
        · right; omega⟩

set_option maxRecDepth 100000 in
set_option maxHeartbeats 1000000 in
theorem kdrop_calls (gs d : Nat) (sv : Value) (s : DiskS) (below : Int) (w : World) (h : DiskAt w d sv s) (hst : Blk w gs 193 #[.pointer (some ⟨d, 0, none⟩)]) (ns : gs ∉ DF d sv) (hL : Lai w) (hD6 : ∀ k ∈ DF d sv, 6 ≤ k) (hnm : ∀ f ∈ s.files, f.nm.size ≤ 1000000)
    (hs : s.steps + 200000 < 1000000000000) :
    Calls Tryz.prog 40 #[.pointer (some ⟨gs, 0, none⟩), .int .i64 below] w (DiskPost d sv (s.drop below).1 (s.drop below).2 w) := by
  cases ho : s.off with
  | false => exact drop_on gs d sv s below w h hst ns hL hD6 hnm hs ho
  | true =>
    have hR : s.drop below = (s, 160) := by unfold DiskS.drop; rw [ho]; rfl
    rw [hR]
    have hO := off_calls d sv s w h
    rw [ho] at hO
    have cs := hst.cell 0
    simp only [List.getElem?_toArray, List.getElem?_cons_zero] at cs
    replace h := Lib.hid h
    clear hst ns hL hD6 hnm hs hR ho
    go_enter Tryz.func40, Tryz.ntmps40
    go_wp2_with (go_at_call 20; refine hO.mono ?_; rintro e w1 ⟨rfl, rfl⟩)
    go_ret
    exact DiskPost.same h.out (Ext.refl _ _)
end Go.Proofs.YtpjekppljaekoaaGreatDoor
namespace Go.Proofs.YtpjekppljaekoaaGreatDoor
open Go Go.RowKit

/-- A disk of the call's own (all of it lies behind w0), with just these checkpoints; of quota q, at most T steps, N files, U bytes. -/
structure Dk (w0 w : World) (d : Nat) (sv : Value) (s : DiskS) (c : Cont) (q T : Int) (N U : Nat) : Prop where
  disk : DiskAt w d sv s
  old : ∀ k ∈ DF d sv, w0.heap.size ≤ k
  ext : Ext [] w0 w
  holds : Holds s c
  quota : s.quota = q
  steps : s.steps ≤ T
  num : s.files.length ≤ N
  used : usedL s.files ≤ U
/-- A store over it. -/
structure StAt (w0 w : World) (gs d : Nat) (sv : Value) : Prop where
  blk : Blk w gs 193 #[.pointer (some ⟨d, 0, none⟩)]
  ne : gs ∉ DF d sv
  old : w0.heap.size ≤ gs
structure Turn (d : Nat) (sv sv' : Value) (w w' : World) : Prop where
  ext : Ext (DF d sv) w w'
  own : ∀ k ∈ DF d sv', k ∈ DF d sv ∨ w.heap.size ≤ k

theorem Turn.blk {d : Nat} {sv sv' : Value} {w w' : World} (h : Turn d sv sv' w w') {g : Nat} {t : TypeId} {cs : Array Value} (hb : Blk w g t cs) (hn : g ∉ DF d sv) : Blk w' g t cs ∧ g ∉ DF d sv' :=
  ⟨hb.ext h.ext hn, fun hk => by
    rcases h.own g hk with h1 | h1
    · exact hn h1
    · have := hb.lt; omega⟩
theorem StAt.turn {w0 w w' : World} {gs d : Nat} {sv sv' : Value} (h : StAt w0 w gs d sv) (ht : Turn d sv sv' w w') : StAt w0 w' gs d sv' :=
  ⟨(ht.blk h.blk h.ne).1, (ht.blk h.blk h.ne).2, h.old⟩
theorem StAt.keep {w0 w w' : World} {gs d : Nat} {sv : Value} (h : StAt w0 w gs d sv) (hx : Ext [] w w') : StAt w0 w' gs d sv := ⟨h.blk.keep hx, h.ne, h.old⟩
theorem Dk.keep {w0 w w' : World} {d : Nat} {sv : Value} {s : DiskS} {c : Cont} {q T : Int} {N U : Nat} (h : Dk w0 w d sv s c q T N U) (hx : Ext [] w w') : Dk w0 w' d sv s c q T N U :=
  ⟨h.disk.keep hx, h.old, h.ext.trans' hx, h.holds, h.quota, h.steps, h.num, h.used⟩
theorem Turn.refl (d : Nat) (sv : Value) (w : World) : Turn d sv sv w w := ⟨Ext.refl _ _, fun _ hk => .inl hk⟩
theorem Turn.new {d : Nat} {sv : Value} {w w' : World} (hx : Ext [] w w') : Turn d sv sv w w' := ⟨hx.mono (by simp), fun _ hk => .inl hk⟩
theorem Turn.trans {d : Nat} {sv sv1 sv2 : Value} {w w1 w2 : World} (h : Turn d sv sv1 w w1) (k : Turn d sv1 sv2 w1 w2) : Turn d sv sv2 w w2 :=
  ⟨h.ext.trans k.ext fun n hn hl => by
    rcases h.own n hn with h1 | h1
    · exact h1
    · omega, fun n hn => by
    rcases k.own n hn with h1 | h1
    · exact h.own n h1
    · have := h.ext.size; right; omega⟩
/-- Behind a turn. -/
theorem Dk.turned {w0 w w' : World} {d : Nat} {sv sv' : Value} {s s' : DiskS} {c c' : Cont} {q q' T T' : Int} {N N' U U' : Nat} (h : Dk w0 w d sv s c q T N U) (hd : DiskAt w' d sv' s') (ht : Turn d sv sv' w w') (hh : Holds s' c') (h1 : s'.quota = q') (h2 : s'.steps ≤ T') (h3 : s'.files.length ≤ N') (h4 : usedL s'.files ≤ U') :
    Dk w0 w' d sv' s' c' q' T' N' U' :=
  ⟨hd, fun k hk => by
    rcases ht.own k hk with h5 | h5
    · exact h.old k h5
    · have := h.ext.size; omega, h.ext.trans ht.ext fun k hk hl => by have := h.old k hk; omega, hh, h1, h2, h3, h4⟩

theorem Holds.nm {s : DiskS} {c : Cont} (h : Holds s c) : ∀ f ∈ s.files, f.nm.size ≤ 1000000 := by
  intro f hf
  obtain ⟨k, b, hc, rfl⟩ := (h.mem f).1 hf
  obtain ⟨a0, a1, _⟩ := h.bnd k b hc
  have := nameOk_name k a0 a1
  unfold nameOk at this
  simp at this
  show (nameOf k).size ≤ _
  omega
theorem Holds.stepsL {s : DiskS} {c : Cont} (h : Holds s c) {l : List Int} (hl : l.Pairwise (· < ·)) (hm : ∀ n, n ∈ l ↔ (c n).isSome = true) : s.stepsL = l := by
  obtain ⟨h1, h2⟩ := h.all
  have e : s.stepsL = s.all := by
    unfold DiskS.stepsL
    rw [List.filter_eq_self]
    intro n hn
    obtain ⟨b, hb⟩ := Option.isSome_iff_exists.1 ((h2 n).1 hn)
    have := all_bd hn
    unfold rightB
    rw [h.read this.1 this.2, hb]
    rfl
  rw [e]
  exact sorted_ext h1 hl fun n => (h2 n).trans (hm n).symm

def KPost (w0 w : World) (gs d : Nat) (sv : Value) (c : Cont) (q T : Int) (N U : Nat) (e : Ending) (w' : World) : Prop :=
  e = .returned (.int .i64 0) ∧ ∃ sv' s', Dk w0 w' d sv' s' c q T N U ∧ StAt w0 w' gs d sv' ∧ Turn d sv sv' w w'

section
variable {w0 w : World} {gs d : Nat} {sv : Value} {s : DiskS} {c : Cont} {q T : Int} {N U : Nat}
theorem Dk.six (h : Dk w0 w d sv s c q T N U) (hL : Lai w0) : ∀ k ∈ DF d sv, 6 ≤ k := fun k hk => Nat.le_trans hL.big (h.old k hk)

theorem swrite (h : Dk w0 w d sv s c q T N U) (st : StAt w0 w gs d sv) (hL : Lai w0) (k : Int) (bv' : Value) (b : List UInt8) (hb : Bs w (· ∉ DF d sv) bv' b) (h0 : 0 ≤ k) (h1 : k ≤ 1073741824) (hbl : b.length ≤ 4194304)
    (hq : (U : Int) + b.length + 17 ≤ q) (hT : T + 8 < 1000000000000) (hN : N < 99999) (hU : U + b.length + 17 ≤ 50000000) :
    Calls Tryz.prog 39 #[.pointer (some ⟨gs, 0, none⟩), .int .i64 k, bv'] w (KPost w0 w gs d sv (c.put k b) q (T + 3) (N + 1) (U + (b.length + 17))) := by
  have hu := h.used
  have hn := h.num
  have hs := h.steps
  obtain ⟨s', e, hh, q', t', n', u'⟩ := h.holds.write h0 h1 hbl (by rw [h.quota]; omega)
  refine (write_calls gs d sv s k bv' b w h.disk st.blk st.ne hb (hL.keep h.ext) (h.six hL) (by omega) (by omega) (by omega)).mono ?_
  rintro e' w' ⟨rfl, sv', hd, hx, ho⟩
  rw [e] at hd ⊢
  have ht : Turn d sv sv' w w' := ⟨hx, ho⟩
  exact ⟨rfl, sv', s', h.turned hd ht hh (q'.trans h.quota) (by omega) (by omega) (by omega), st.turn ht, ht⟩
theorem sdrop (h : Dk w0 w d sv s c q T N U) (st : StAt w0 w gs d sv) (hL : Lai w0) (below : Int) (hT : T + 200000 < 1000000000000) :
    Calls Tryz.prog 40 #[.pointer (some ⟨gs, 0, none⟩), .int .i64 below] w (KPost w0 w gs d sv (c.from below) q (T + N) N U) := by
  have hu := h.used
  have hn := h.num
  have hs := h.steps
  have ha := all_le s
  obtain ⟨s', e, hh, q', t1, t', n', u'⟩ := h.holds.drop below
  refine (kdrop_calls gs d sv s below w h.disk st.blk st.ne (hL.keep h.ext) (h.six hL) h.holds.nm (by omega)).mono ?_
  rintro e' w' ⟨rfl, sv', hd, hx, ho⟩
  rw [e] at hd ⊢
  have ht : Turn d sv sv' w w' := ⟨hx, ho⟩
  exact ⟨rfl, sv', s', h.turned hd ht hh (q'.trans h.quota) (by omega) (by omega) (by omega), st.turn ht, ht⟩

def SReadPost (c : Cont) (k : Int) (w : World) (e : Ending) (w' : World) : Prop :=
  ∃ v, e = .returned (.tuple #[v, .int .i64 (if (c k).isSome then 0 else 190)]) ∧ Bs w' (w.heap.size ≤ ·) v ((c k).getD []) ∧ Ext [] w w'
theorem sread (h : Dk w0 w d sv s c q T N U) (st : StAt w0 w gs d sv) (hL : Lai w0) (k : Int) (h0 : 0 ≤ k) (h1 : k ≤ 1073741824) :
    Calls Tryz.prog 42 #[.pointer (some ⟨gs, 0, none⟩), .int .i64 k] w (SReadPost c k w) := by
  refine (readC_calls gs d sv s k w h.disk st.blk (hL.keep h.ext)).mono ?_
  rintro e' w' ⟨v, rfl, hb, hx⟩
  rw [h.holds.read h0 h1] at hb ⊢
  refine ⟨v, ?_, ?_, hx⟩
  · cases c k <;> rfl
  · cases hc : c k <;> (rw [hc] at hb; exact hb)
theorem ssteps (h : Dk w0 w d sv s c q T N U) (st : StAt w0 w gs d sv) (hL : Lai w0) (l : List Int) (hl : l.Pairwise (· < ·)) (hm : ∀ n, n ∈ l ↔ (c n).isSome = true) :
    Calls Tryz.prog 41 #[.pointer (some ⟨gs, 0, none⟩)] w (IntsPost l w) := by
  have := ksteps_calls gs d sv s w h.disk st.blk (hL.keep h.ext) h.holds.nm
  rwa [h.holds.stepsL hl hm] at this
theorem snewest (h : Dk w0 w d sv s c q T N U) (st : StAt w0 w gs d sv) (hL : Lai w0) (l : List Int) (hl : l.Pairwise (· < ·)) (hm : ∀ n, n ∈ l ↔ (c n).isSome = true) :
    Calls Tryz.prog 43 #[.pointer (some ⟨gs, 0, none⟩)] w fun e w' => e = .returned (.tuple #[.int .i64 (l.getLast?.getD 0), .bool (!l.isEmpty)]) ∧ Ext [] w w' := by
  have := newest_calls gs d sv s w h.disk st.blk (hL.keep h.ext) h.holds.nm
  rwa [h.holds.stepsL hl hm] at this

def SOpenPost (w0 w : World) (d : Nat) (sv : Value) (c : Cont) (q T : Int) (N U : Nat) (e : Ending) (w' : World) : Prop :=
  ∃ gs, e = .returned (.tuple #[.pointer (some ⟨gs, 0, none⟩), .int .i64 0]) ∧ w.heap.size ≤ gs ∧ ∃ sv' s', Dk w0 w' d sv' s' c q T N U ∧ StAt w0 w' gs d sv' ∧ Turn d sv sv' w w'
theorem sopen (h : Dk w0 w d sv s c q T N U) (hT : T < 1000000000000) : Calls Tryz.prog 38 #[.pointer (some ⟨d, 0, none⟩)] w (SOpenPost w0 w d sv c q T N U) := by
  have hs := h.steps
  refine (open_calls d sv s w h.disk (by omega)).mono ?_
  rintro e w' ⟨pv, rfl, _, h2, sv', hd, hx, ho⟩
  rw [h.holds.opened] at h2 hd ⊢
  obtain ⟨gs, rfl, hb, hg⟩ := h2 rfl
  have ht : Turn d sv sv' w w' := ⟨hx, fun k hk => by
    rcases ho k hk with h1 | h1
    · exact .inl h1
    · exact .inr h1.1⟩
  refine ⟨gs, rfl, hg, sv', s, h.turned hd ht h.holds h.quota hs h.num h.used, ⟨hb, fun hk => ?_, by have := h.ext.size; omega⟩, ht⟩
  rcases ho gs hk with h1 | h1
  · have := h.disk.dlt gs h1
    omega
  · exact h1.2 rfl

def SNewPost (w0 : World) (q : Int) (w : World) (e : Ending) (w' : World) : Prop :=
  ∃ d sv s, e = .returned (.pointer (some ⟨d, 0, none⟩)) ∧ Dk w0 w' d sv s (fun _ => none) q 0 0 0 ∧ Ext [] w w' ∧ w.heap.size ≤ d
theorem snew (q : Int) (hx : Ext [] w0 w) (h0 : 0 ≤ q) (h1 : q ≤ 9223372036854775807) : Calls Tryz.prog 13 #[.int .i64 q] w (SNewPost w0 q w) := by
  refine (new_calls q w ⟨by omega, h1⟩).mono ?_
  rintro e w' ⟨rfl, hd, hx'⟩
  refine ⟨_, _, _, rfl, ⟨hd, fun k hk => ?_, hx.trans' hx', Holds.new q, by simp [DiskS.new]; omega, by simp [DiskS.new], by simp [DiskS.new], by simp [DiskS.new, usedL]⟩, hx', Nat.le_refl _⟩
  obtain rfl : k = w.heap.size := by simpa [DF, Value.ownBlock] using hk
  exact hx.size
end
end Go.Proofs.YtpjekppljaekoaaGreatDoor
namespace Go.Proofs.YtpjekppljaekoaaGreatDoor
open Go Go.RowKit

set_option maxRecDepth 100000 in
theorem Bs.str {w : World} {p : Nat → Prop} {A : Option Addr} {n c : Nat} {l : List UInt8} (h : Bs w p (.slice A n c) l) : (convert 25 9 (.slice A n c)).run Tryz.prog w = .ok (.string ⟨l.toArray⟩) w := by
  obtain ⟨A', c', e, h1, h2, h3, hr⟩ := h
  injection e with e1 e2 e3
  subst e1; subst e2; subst e3
  cases A with
  | none =>
    have : l = [] := by
      rcases hr with h | ⟨g, o, e, _⟩
      · simpa using h
      · cases e
    subst this
    exact run_convert_bytes_nil w 25 5 Tryz.underlying25 Tryz.underlying5 _ _ 9 Tryz.underlying9
  | some a =>
    refine run_convert_bytes_back w 25 9 5 a c l Tryz.underlying25 Tryz.underlying5 Tryz.underlying9 fun j hj => ?_
    obtain ⟨g, o, e, _⟩ := hr.at (k := j) (u := bv l[j]) (by simp [hj])
    injection e with e
    subst e
    exact hr.src rfl j _ (by simp [hj, bv])

theorem ints_cells {l : List Int} {base : Nat} {w' : World} {A : Option Addr} {c : Nat} (ho : w'.ownsRow base 3 1 (.slice A l.length c) l.length (l.map intV)) (hl : l ≠ []) :
    ∃ g, A = some ⟨g, 0, none⟩ ∧ base ≤ g ∧ l.length ≤ c ∧ ∃ cur : Array Value, Blk w' g 3 cur ∧ ∀ (k : Nat) (n : Int), l[k]? = some n → cur[k]? = some (intV n) := by
  rcases ho.2 with ⟨_, e0⟩ | ⟨g, cap, cur, e, hb, hh, hnc, _, _, _⟩
  · exact absurd (List.eq_nil_of_length_eq_zero e0) hl
  · injection e with e1 _ e3
    subst e3
    refine ⟨g, e1, hb, hnc, cur, hh, fun k n hk => ?_⟩
    have h1 := ho.cells (g := g) (by rw [e1]; rfl) k (intV n) (by rw [List.getElem?_map, hk]; rfl)
    rw [Addr.add_lit, Nat.zero_add] at h1
    exact (Blk.cell hh k).symm.trans h1

def wc1 : Cont := (Cont.put (fun _ => none) 3 [97, 98])
def wc2 : Cont := wc1.put 10 [99, 100]
def wc3 : Cont := wc2.from 10
theorem wc2_mem (n : Int) : n ∈ [(3 : Int), 10] ↔ (wc2 n).isSome = true := by
  unfold wc2 wc1 Cont.put
  by_cases h1 : n = 10 <;> by_cases h2 : n = 3 <;> simp [h1, h2]
theorem wc3_mem (n : Int) : n ∈ [(10 : Int)] ↔ (wc3 n).isSome = true := by
  unfold wc3 wc2 wc1 Cont.put Cont.from
  by_cases h1 : n = 10 <;> by_cases h2 : n = 3 <;> simp [h1, h2]

theorem lit_bytes {w : World} {d : Nat} {sv : Value} {s : DiskS} (h : DiskAt w d sv s) (a b : UInt8) (x y : Int) (hx : (a.toNat : Int) = x) (hy : (b.toNat : Int) = y) : Bs (w.alloc (.cells #[.int .u8 x, .int .u8 y] 5 (2, 3))) (· ∉ DF d sv) (.slice (some ⟨w.heap.size, 0, none⟩) 2 2) [a, b] := by
  subst hx; subst hy
  refine ⟨some ⟨w.heap.size, 0, none⟩, 2, rfl, by simp, by simp [maxLen], (fun h => by cases h), .inr ⟨w.heap.size, 0, rfl, by simp, (fun hk => by have := h.dlt _ hk; omega), fun j u hu => ?_⟩⟩
  rw [Nat.zero_add]
  exact (cell_of_row _ _ j _ 5 (2, 3) (heap_alloc_new w _)).trans (by simpa [bv] using hu)

theorem Bs.slice {w : World} {p : Nat → Prop} {v : Value} {l : List UInt8} (h : Bs w p v l) : ∃ A c, v = .slice A l.length c ∧ Bs w p (.slice A l.length c) l := by
  obtain ⟨A, c, rfl, _⟩ := id h
  exact ⟨A, c, rfl, h⟩

def BytesPost (l : List UInt8) (a : Int) (w : World) (e : Ending) (w' : World) : Prop :=
  ∃ A c, e = .returned (.tuple #[.slice A l.length c, .int .i64 a]) ∧ Bs w' (w.heap.size ≤ ·) (.slice A l.length c) l ∧ Ext [] w w'
theorem sread_some {w0 w : World} {gs d : Nat} {sv : Value} {s : DiskS} {c : Cont} {q T : Int} {N U : Nat} (h : Dk w0 w d sv s c q T N U) (st : StAt w0 w gs d sv) (hL : Lai w0) (k : Int) (h0 : 0 ≤ k) (h1 : k ≤ 1073741824) {b : List UInt8} (hc : c k = some b) :
    Calls Tryz.prog 42 #[.pointer (some ⟨gs, 0, none⟩), .int .i64 k] w (BytesPost b 0 w) := by
  refine (sread h st hL k h0 h1).mono ?_
  rintro e w' ⟨v, rfl, hb, hx⟩
  rw [hc] at hb ⊢
  obtain ⟨A, c', rfl, hb'⟩ := hb.slice
  exact ⟨A, c', rfl, hb', hx⟩
theorem name10 : nameOf 10 = ⟨#[99, 107, 46, 49, 48]⟩ := by
  apply ByteArray.ext
  apply Array.toList_inj.1
  rw [name_list]
  simp [Lib.itoa, Lib.decDigits]
theorem dread_some {w0 w : World} {d : Nat} {sv : Value} {s : DiskS} {c : Cont} {q T : Int} {N U : Nat} (h : Dk w0 w d sv s c q T N U) (k : Int) (h0 : 0 ≤ k) (h1 : k ≤ 1073741824) {b : List UInt8} (hc : c k = some b) :
    Calls Tryz.prog 101 #[.pointer (some ⟨d, 0, none⟩), .string (nameOf k)] w (BytesPost (fileL k b) 0 w) := by
  have hm : fileOf k b ∈ s.files := (h.holds.mem _).2 ⟨k, b, hc, rfl⟩
  have hr : s.read (nameOf k) = (fileL k b, 0) := read_live h.holds.live h.holds.rise hm (nameOk_name k h0 h1)
  refine (read_calls d sv s (nameOf k) w h.disk).mono ?_
  rintro e w' ⟨v, rfl, hb, hx⟩
  rw [hr] at hb ⊢
  obtain ⟨A, c', rfl, hb'⟩ := hb.slice
  exact ⟨A, c', rfl, hb', hx⟩

set_option maxRecDepth 100000 in
set_option maxHeartbeats 4000000 in
theorem works_calls (w : World) (hL : Lai w) : Calls Tryz.prog 37 #[] w fun e w' => e = .returned (.bool true) ∧ Ext [] w w' := by
  have hN := snew (w0 := w) (w := w) 1000 (Ext.refl _ _) (by omega) (by omega)
  have kc := fun (w : World) (C : Array Value) (n c : Nat) => Lib.run_convert_bytes_const (P := Tryz.prog) w 25 5 C n c Tryz.underlying25 Tryz.underlying5
  replace hL := Lib.hid hL
  go_enter Tryz.func37, Tryz.ntmps37
  go_wp2_with (first
    | (go_at_call 13; (with_reducible refine hN.mono ?_); rintro e w1 ⟨d, sv1, s1, rfl, h1, hx1, hd1⟩; have hO := sopen h1 (by omega); replace h1 := Lib.hid h1; replace hx1 := Lib.hid hx1; replace hd1 := Lib.hid hd1)
    | (go_at_call 38; (with_reducible refine hO.mono ?_); rintro e w2 ⟨gs, rfl, hg2, sv2, s2, h2, st2, ht2⟩; have hx2 := (Ext.refl [] w2).alloc (.cells #[.int .u8 97, .int .u8 98] 5 (2, 3)); have hW := swrite (h2.keep hx2) (st2.keep hx2) hL.out 3 _ [97, 98] (lit_bytes h2.disk 97 98 97 98 rfl rfl) (by omega) (by omega) (by simp) (by simp) (by omega) (by omega) (by simp); replace h2 := Lib.hid h2; replace st2 := Lib.hid st2; replace ht2 := Lib.hid ht2; replace hg2 := Lib.hid hg2; replace hx2 := Lib.hid hx2)
    | (go_at_call 39; (with_reducible refine hW.mono ?_); rintro e w3 ⟨rfl, sv3, s3, h3, st3, ht3⟩; have hx3 := (Ext.refl [] w3).alloc (.cells #[.int .u8 99, .int .u8 100] 5 (2, 3)); have hW2 := swrite (h3.keep hx3) (st3.keep hx3) hL.out 10 _ [99, 100] (lit_bytes h3.disk 99 100 99 100 rfl rfl) (by omega) (by omega) (by simp) (by simp) (by omega) (by omega) (by simp); replace h3 := Lib.hid h3; replace st3 := Lib.hid st3; replace ht3 := Lib.hid ht3; replace hx3 := Lib.hid hx3)
    | (go_at_call 39; (with_reducible refine hW2.mono ?_); rintro e w4 ⟨rfl, sv4, s4, h4, st4, ht4⟩; have hS := ssteps h4 st4 hL.out [3, 10] (by simp) wc2_mem; replace h4 := Lib.hid h4; replace st4 := Lib.hid st4; replace ht4 := Lib.hid ht4)
    | (go_at_call 41; (with_reducible refine hS.mono ?_); rintro e w5 ⟨A5, c5, rfl, ho5, hx5⟩; obtain ⟨g5, rfl, hg5, hc5, cur5, hb5, hq5⟩ := ints_cells ho5 (by simp); have hNw := snewest (h4.out.keep hx5) (st4.out.keep hx5) hL.out [3, 10] (by simp) wc2_mem; replace hx5 := Lib.hid hx5; replace ho5 := Lib.hid ho5; replace hg5 := Lib.hid hg5; replace hc5 := Lib.hid hc5; replace hb5 := Lib.hid hb5; replace hq5 := Lib.hid hq5)
    | (go_at_call 43; (with_reducible refine hNw.mono ?_); rintro e w6 ⟨rfl, hx6⟩; have hRd := sread_some ((h4.out.keep hx5.out).keep hx6) ((st4.out.keep hx5.out).keep hx6) hL.out 3 (by omega) (by omega) (b := [97, 98]) (by rfl); replace hx6 := Lib.hid hx6)
    | (go_at_call 42; (with_reducible refine hRd.mono ?_); rintro e w7 ⟨A7, c7, rfl, hb7, hx7⟩; have hDr := sdrop (((h4.out.keep hx5.out).keep hx6.out).keep hx7) (((st4.out.keep hx5.out).keep hx6.out).keep hx7) hL.out 10 (by omega); replace hx7 := Lib.hid hx7; replace hb7 := Lib.hid hb7)
    | (go_at_call 40; (with_reducible refine hDr.mono ?_); rintro e w8 ⟨rfl, sv8, s8, h8, st8, ht8⟩; have hS2 := ssteps h8 st8 hL.out [10] (by simp) wc3_mem; replace h8 := Lib.hid h8; replace st8 := Lib.hid st8; replace ht8 := Lib.hid ht8)
    | (go_at_call 41; (with_reducible refine hS2.mono ?_); rintro e w9 ⟨A9, c9, rfl, ho9, hx9⟩; obtain ⟨g9, rfl, hg9, hc9, cur9, hb9, hq9⟩ := ints_cells ho9 (by simp); have hDk := dread_some (h8.out.keep hx9) 10 (by omega) (by omega) (b := [99, 100]) (by rfl); rw [name10] at hDk; replace hx9 := Lib.hid hx9; replace ho9 := Lib.hid ho9; replace hg9 := Lib.hid hg9; replace hc9 := Lib.hid hc9; replace hb9 := Lib.hid hb9; replace hq9 := Lib.hid hq9)
    | (go_at_call 101; (with_reducible refine hDk.mono ?_); rintro e w10 ⟨A10, c10, rfl, hb10, hx10⟩
       have hd7 := (((h4.out.keep hx5.out).keep hx6.out).keep hx7.out).disk.dlt
       have hd6 := ((h4.out.keep hx5.out).keep hx6.out).disk.dlt
       have hd5 := h4.out.disk.dlt
       have b5 : Blk w10 g5 3 cur5 := (((((hb5.out.keep hx6.out).keep hx7.out).ext ht8.out.ext (fun hk => (by have := hd5 _ hk; have := hg5.out; omega))).keep hx9.out).keep hx10)
       have q50 : w10.cell? ⟨g5, 0, none⟩ = some (.int .i64 3) := (b5.cell 0).trans (hq5.out 0 3 rfl)
       have q51 : w10.cell? ⟨g5, 1, none⟩ = some (.int .i64 10) := (b5.cell 1).trans (hq5.out 1 10 rfl)
       have q90 : w10.cell? ⟨g9, 0, none⟩ = some (.int .i64 10) := ((hb9.out.keep hx10).cell 0).trans (hq9.out 0 10 rfl)
       have hs7 : (convert 25 9 (.slice A7 2 c7)).run Tryz.prog w10 = .ok (.string ⟨#[97, 98]⟩) w10 := Bs.str (((hb7.out.ext ht8.out.ext (fun g _ hg hk => (by have := hd6 _ hk; omega))).keep hx9.out).keep hx10)
       have hfin : Ext [] w w10 := (h8.out.ext.trans' hx9.out).trans' hx10
       replace hfin := Lib.hid hfin
       replace hx10 := Lib.hid hx10
       replace hb10 := Lib.hid hb10
       replace b5 := Lib.hid b5
       clear hd7 hd6 hd5))
  go_ret
  rw [fileL_length]
  exact ⟨rfl, hfin.out⟩
end Go.Proofs.YtpjekppljaekoaaGreatDoor

/- Contracts of package disk: Append. Contracts of package disk: Append of a new file. Contracts of package disk: Append, whole. Contracts of package ckpt: there, clear, Open. Contracts of package ckpt: Open. -/
import Derived.Test.YtpjekppljaekoaaGreatDoorKA03
import Derived.Test.YtpjekppljaekoaaGreatDoorKA01
import Derived.Deep.RegionWith
namespace Go.Proofs.YtpjekppljaekoaaGreatDoor
open Go Go.RowKit

theorem Bs.form {w : World} {p : Nat → Prop} {v : Value} {l : List UInt8} (h : Bs w p v l) : ∃ A c, v = .slice A l.length c ∧ l.length ≤ c := by
  obtain ⟨A, c, e, h1, _⟩ := h
  exact ⟨A, c, e, h1⟩

theorem Ext.cell_some {a b : World} {p : Addr} {v : Value} (h : Ext [] a b) (hc : a.cell? p = some v) : b.cell? p = some v := (h.cell (World.block_lt_of_cell? _ _ hc) (by simp)).trans hc

set_option maxRecDepth 100000 in
set_option maxHeartbeats 8000000 in
theorem append_there (d : Nat) (sv : Value) (s : DiskS) (nm : ByteArray) (bv : Value) (b : List UInt8) (p : Nat → Prop) (f : FileS) (w : World) (h : DiskAt w d sv s) (hb : Bs w p bv b) (hs : s.steps < 1000000000000) (hu : usedL s.files + b.length ≤ 50000000)
    (he : s.asked [nm] = 0) (hh : has s.files nm = true) (hf : s.files[idx s.files nm]? = some f) :
    Calls Tryz.prog 55 #[.pointer (some ⟨d, 0, none⟩), .string nm, bv] w
      (DiskPost d sv (if 8388608 < f.l.length + b.length then (s, (3 : Int)) else if s.quota < usedL s.files + b.length then (s, 161) else DiskS.power { s with files := s.files.set (idx s.files nm) { f with l := f.l ++ b } }).1
        (if 8388608 < f.l.length + b.length then (s, (3 : Int)) else if s.quota < usedL s.files + b.length then (s, 161) else DiskS.power { s with files := s.files.set (idx s.files nm) { f with l := f.l ++ b } }).2 w) := by
  generalize hR : (if 8388608 < f.l.length + b.length then (s, (3 : Int)) else if s.quota < usedL s.files + b.length then (s, 161) else DiskS.power { s with files := s.files.set (idx s.files nm) { f with l := f.l ++ b } }) = R
  obtain ⟨B, bc, rfl, hbc⟩ := hb.form
  have hA := asked1_calls d sv s nm w h
  have hF := find_calls d sv s nm _ (h.keep (alloc_ext w (.cells #[.string nm] 9)))
  rw [he] at hA
  rw [hh] at hF
  have hil := (List.getElem?_eq_some_iff.1 hf).1
  obtain ⟨g, cap, hsv, hcap⟩ := h.files.some (by omega)
  obtain ⟨A, c, c0, cn, cb, cs, hLc, hfb, hL⟩ := h.file hf hsv
  have hm1 := h.many
  replace c0 := Lib.hid c0
  replace cn := Lib.hid cn
  replace cb := Lib.hid cb
  replace cs := Lib.hid cs
  replace hfb := Lib.hid hfb
  have hbl : (b.length : Int) ≤ 50000000 := by omega
  have hu' : (usedL s.files : Int) + b.length ≤ 50000000 := by omega
  have hi' : (idx s.files nm : Int) < s.files.length := by omega
  have hi0 : (0 : Int) ≤ idx s.files nm := by omega
  have hcap' : (s.files.length : Int) ≤ cap := by omega
  have hm1' : (s.files.length : Int) ≤ 100000 := by omega
  have hb0 : (0 : Int) ≤ b.length := by omega
  replace h := Lib.hid h
  replace he := Lib.hid he
  replace hh := Lib.hid hh
  replace hf := Lib.hid hf
  replace hsv := Lib.hid hsv
  replace hb := Lib.hid hb
  generalize idx s.files nm = i at *
  by_cases h1 : 8388608 < f.l.length + b.length
  · have h1' : (8388608 : Int) < f.l.length + b.length := by omega
    rw [if_pos h1] at hR
    subst hR
    clear h1
    go_enter Tryz.func55, Tryz.ntmps55
    go_wp2_with (first | (go_at_call 126; refine hA.mono ?_; rintro e w1 ⟨rfl, rfl⟩) | (go_at_call 127; refine hF.mono ?_; rintro e w1 ⟨rfl, hx1⟩; replace hx1 := Lib.hid hx1) | (refine wpList_store_whole rfl 180 _ _ rfl _ rfl _ rfl _ _ hb2.out (by kernel_rfl) rfl (by kernel_rfl) ?_; intro w3 hb3 hx3; have hx03 : Ext [] w w3 := hx02.out.trans hx3 (fun k hk hl => by have := hlt.out; simp at hk; omega); have q1 := hb3.cell 1; have fz1 := hb3.froz 1; simp only [List.getElem?_toArray, List.getElem?_cons_zero, List.getElem?_cons_succ] at q1; replace hb3 := Lib.hid hb3; replace hx03 := Lib.hid hx03; clear c02 cn2 cb2 cs2 hb2 hx02 hx3) | (refine wpList_store_whole rfl 180 _ _ rfl _ rfl _ rfl _ _ (Blk.new _ _ _) (by kernel_rfl) rfl (by kernel_rfl) ?_; intro w2 hb2 hx2; have hlt := (((alloc_ext w (.cells #[.string nm] 9)).new hx1.out)).size; have hx02 : Ext [] w w2 := (((alloc_ext w _).new hx1.out).alloc _).trans hx2 (fun k hk hl => by simp at hk; omega); have c02 := hx02.cell_some c0.out; have cn2 := hx02.cell_some cn.out; have cb2 := hx02.cell_some cb.out; have cs2 := hx02.cell_some cs.out; replace hb2 := Lib.hid hb2; replace hlt := Lib.hid hlt; replace hx02 := Lib.hid hx02; clear hx2))
    go_ret
    exact DiskPost.same (h.out.keep hx03.out) hx03.out
  · have h1' : (f.l.length : Int) + b.length ≤ 8388608 := by omega
    rw [if_neg h1] at hR
    clear h1
    go_enter Tryz.func55, Tryz.ntmps55
    go_wp2_with (first | (go_at_call 126; refine hA.mono ?_; rintro e w1 ⟨rfl, rfl⟩) | (go_at_call 127; refine hF.mono ?_; rintro e w1 ⟨rfl, hx1⟩; replace hx1 := Lib.hid hx1) | (refine wpList_store_whole rfl 180 _ _ rfl _ rfl _ rfl _ _ hb2.out (by kernel_rfl) rfl (by kernel_rfl) ?_; intro w3 hb3 hx3; have hx03 : Ext [] w w3 := hx02.out.trans hx3 (fun k hk hl => by have := hlt.out; simp at hk; omega); have q1 := hb3.cell 1; have fz1 := hb3.froz 1; simp only [List.getElem?_toArray, List.getElem?_cons_zero, List.getElem?_cons_succ] at q1; replace hb3 := Lib.hid hb3; replace hx03 := Lib.hid hx03; clear c02 cn2 cb2 cs2 hb2 hx02 hx3) | (refine wpList_store_whole rfl 180 _ _ rfl _ rfl _ rfl _ _ (Blk.new _ _ _) (by kernel_rfl) rfl (by kernel_rfl) ?_; intro w2 hb2 hx2; have hlt := (((alloc_ext w (.cells #[.string nm] 9)).new hx1.out)).size; have hx02 : Ext [] w w2 := (((alloc_ext w _).new hx1.out).alloc _).trans hx2 (fun k hk hl => by simp at hk; omega); have c02 := hx02.cell_some c0.out; have cn2 := hx02.cell_some cn.out; have cb2 := hx02.cell_some cb.out; have cs2 := hx02.cell_some cs.out; replace hb2 := Lib.hid hb2; replace hlt := Lib.hid hlt; replace hx02 := Lib.hid hx02; clear hx2))
    have hv1 := hb3.out.lt
    have h3 := h.out.keep hx03.out
    have hU := used_calls d sv s w3.drew (h3.keep (Ext.refl [] w3).drew)
    obtain ⟨e0, e1, _⟩ := h3.cells
    have sW : IntKind.i64.wrap ((usedL s.files : Int) + b.length) = (usedL s.files : Int) + b.length := by rw [IntKind.wrap_i64]; omega
    replace h3 := Lib.hid h3
    by_cases h2 : s.quota < (usedL s.files : Int) + b.length
    · rw [if_pos h2] at hR
      go_region_with (go_at_call 128; refine hU.mono ?_; rintro e w4 ⟨rfl, hx4⟩; have hx4' : Ext [] w w4 := hx03.out.trans' ((Ext.refl [] w3).drew.trans' hx4); have e14 : w4.cell? ⟨d, 1, none⟩ = _ := (h.out.keep hx4').cells.2.1; replace hx4 := Lib.hid hx4; replace hx4' := Lib.hid hx4')
      all_goals
        go_wp2
        go_ret
        subst hR
        exact DiskPost.same (h.out.keep hx4'.out) hx4'.out
    · rw [if_neg h2] at hR
      replace hR := Lib.hid hR
      go_region_with (go_at_call 128; refine hU.mono ?_; rintro e w4 ⟨rfl, hx4⟩; have hx4' : Ext [] w w4 := hx03.out.trans' ((Ext.refl [] w3).drew.trans' hx4); have e14 : w4.cell? ⟨d, 1, none⟩ = _ := (h.out.keep hx4').cells.2.1; replace hx4 := Lib.hid hx4; replace hx4' := Lib.hid hx4')
      all_goals
        have hb4 : Blk w4 w1.heap.size 180 #[.string f.nm, .slice A f.l.length c, .int .i64 f.safe] := hb3.out.ext ((Ext.refl [] w3).drew.trans' hx4.out) (by simp)
        have q14 := hb4.cell 1
        have fz14 := hb4.froz 1
        simp only [List.getElem?_toArray, List.getElem?_cons_zero, List.getElem?_cons_succ] at q14
        replace hb4 := Lib.hid hb4
        go_wp2_with (fail)
        go_at_call 129
        refine (concat_calls w4.heap.size (.slice A f.l.length c) (.slice B b.length bc) f.l b (fun _ => True) _ ((Blk.new w4 25 _).cell 0) ((Blk.new w4 25 _).cell 1) ((hfb.out.keep hx4'.out).keep (alloc_ext _ _)).any ((hb.out.keep hx4'.out).keep (alloc_ext _ _)).any (by omega)).mono ?_
        rintro e w5 ⟨v5, rfl, hv5, hx5⟩
        have hlen : (f.l ++ b).length = f.l.length + b.length := List.length_append
        generalize hlb : f.l ++ b = lb at *
        replace hlb := Lib.hid hlb
        replace hlen := Lib.hid hlen
        have hx45 : Ext [] w4 w5 := (alloc_ext _ _).trans' hx5
        have hb5 := hb4.out.keep hx45
        have q15 := hb5.cell 1
        have fz15 := hb5.froz 1
        simp only [List.getElem?_toArray, List.getElem?_cons_zero, List.getElem?_cons_succ] at q15
        have hb6 : Blk (w5.setCell ⟨w1.heap.size, 1, none⟩ v5) w1.heap.size 180 #[.string f.nm, v5, .int .i64 f.safe] := by
          have := hb5.set 1 v5
          simpa using this
        have hx6 : Ext [] w (w5.setCell ⟨w1.heap.size, 1, none⟩ v5) := (hx4'.out.trans' hx45).set (.inr hlt.out) _
        have hv6 : Bs (w5.setCell ⟨w1.heap.size, 1, none⟩ v5) (fun k => w4.heap.size < k) v5 lb := by
          have h8 : Ext [w1.heap.size] w5 (w5.setCell ⟨w1.heap.size, 1, none⟩ v5) := (Ext.refl _ w5).set (.inl (by simp)) _
          have h9 := hb4.out.lt
          refine (hv5.ext h8 fun k _ hk => ?_).imp fun k _ hk => ?_
          · have hk' : w4.heap.size + 1 ≤ k := by simpa using hk
            rw [List.mem_singleton]; omega
          · have hk' : w4.heap.size + 1 ≤ k := by simpa using hk
            omega
        obtain ⟨A6, c6, rfl, _, _, _, _⟩ := id hv6
        have h6 := h.out.keep hx6
        have hsv' := hsv.out
        subst hsv'
        obtain ⟨e06, _⟩ := h6.cells
        have q06 := hb6.cell 0
        have q16 := hb6.cell 1
        have q26 := hb6.cell 2
        simp only [List.getElem?_toArray, List.getElem?_cons_zero, List.getElem?_cons_succ] at q06 q16 q26
        obtain ⟨cur, hcur, hcs, hturn⟩ := files_turn' h6.files hil
        replace h6 := Lib.hid h6
        replace hb5 := Lib.hid hb5
        replace hb6 := Lib.hid hb6
        replace hx6 := Lib.hid hx6
        replace hv6 := Lib.hid hv6
        replace hv5 := Lib.hid hv5
        replace hx5 := Lib.hid hx5
        replace hx45 := Lib.hid hx45
        replace hcur := Lib.hid hcur
        replace hturn := Lib.hid hturn
        go_wp2
        generalize w5.setCell ⟨w1.heap.size, 1, none⟩ (.slice A6 lb.length c6) = w6 at *
        go_still_tail 7, (by kernel_rfl)
        change wpList _ _ _ _ _ w6.drew
        refine wpList_store_in rfl 180 _ _ rfl g (i * 3) rfl [.string f.nm, .slice A6 lb.length c6, .int .i64 f.safe] rfl cur 180 hcur.out.drew (by kernel_rfl) (by simpa using hcs) (by simp [Value.oneCell']) ?_
        intro w7 hb7 hx7
        have hx67 : Ext [g] w6 w7 := ((Ext.refl _ _).drew).trans' hx7
        have hD : DF d (.slice (some ⟨g, 0, none⟩) s.files.length cap) = [d, g] := rfl
        have hgd : g ≠ d := h6.out.own_ne rfl
        have h4s := hx4'.out.size
        have hdl := h.out.dlt
        have h7 : DiskAt w7 d (.slice (some ⟨g, 0, none⟩) s.files.length cap) { s with files := s.files.set i { f with l := lb } } := by
          refine h6.out.refile (h6.out.blk.ext hx67 (by simpa using hgd.symm)) (hturn.out w7 (.slice A6 lb.length c6) { f with l := lb } hb7 hx67 (by rw [hD]; simp) ?_) (rising_set h6.out.rise hf.out rfl) ?_ (by rw [List.length_set]; exact hm1)
          · refine (hv6.out.ext hx67 fun k _ hk => ?_).imp fun k _ hk hq => ?_
            · have := hdl g (by rw [hD]; simp)
              rw [List.mem_singleton]; omega
            · have := hdl k hq; omega
          · have h1 := used_set (f' := { f with l := lb }) hf.out
            have h2 := hlen.out
            simp only at h1
            omega
        have hP := power_calls d _ _ w7 h7 hs
        replace h7 := Lib.hid h7
        replace hx67 := Lib.hid hx67
        clear hb7 hx7
        have hx7' : Ext (DF d (.slice (some ⟨g, 0, none⟩) s.files.length cap)) w w7 := (hx6.out.mono (by simp)).trans (hx67.out.mono (G := DF d (.slice (some ⟨g, 0, none⟩) s.files.length cap)) (by simp [DF, Value.ownBlock])) (fun _ h _ => h)
        replace hx7' := Lib.hid hx7'
        replace hP := Lib.hid hP
        go_wp2_with (go_at_call 131; refine hP.out.mono ?_; rintro e w8 ⟨rfl, h8, hx8⟩; replace h8 := Lib.hid h8; replace hx8 := Lib.hid hx8)
        go_ret
        rw [← hR.out]
        exact ⟨rfl, _, h8.out, hx7'.out.trans (hx8.out.mono (G := DF d (.slice (some ⟨g, 0, none⟩) s.files.length cap)) (by simp [DF])) (fun _ h _ => h), fun k hk => .inl hk⟩
end Go.Proofs.YtpjekppljaekoaaGreatDoor
namespace Go.Proofs.YtpjekppljaekoaaGreatDoor
open Go Go.RowKit

theorem inserted {d : Nat} {sv sv8 : Value} {s : DiskS} {w6 W w8 w9 : World} {i : Nat} {f : FileS} (h6 : DiskAt w6 d sv s) (hxW : Ext [] w6 W) (hf8 : Files w8 (fun k => k ∉ DF d sv ∧ k < w6.heap.size) sv8 (insertAt s.files i f)) (hx8 : Ext sv.ownBlock.toList W w8)
    (hk8 : ∀ k, sv8.ownBlock = some k → sv.ownBlock = some k ∨ W.heap.size ≤ k) (e9 : w9 = w8.setCell ⟨d, 0, none⟩ sv8) (hr : Rising (insertAt s.files i f)) (hu : usedL (insertAt s.files i f) ≤ 50000000) (hm : (insertAt s.files i f).length ≤ 100000) :
    DiskAt w9 d sv8 { s with files := insertAt s.files i f } ∧ Ext (DF d sv) w6 w9 ∧ ∀ k ∈ DF d sv8, k ∈ DF d sv ∨ w6.heap.size ≤ k := by
  have hx89 : Ext [d] w8 w9 := by rw [e9]; exact (Ext.refl [d] w8).set (.inl (by simp)) _
  have hd : d < w6.heap.size := h6.blk.lt
  have hWs := hxW.size
  have hd8 : ∀ k ∈ DF d sv8, k ∈ DF d sv ∨ W.heap.size ≤ k := by
    intro k hk
    simp only [DF, List.mem_cons, Option.mem_toList] at hk ⊢
    rcases hk with rfl | hk
    · exact .inl (.inl rfl)
    · rcases hk8 k hk with h7 | h7
      · exact .inl (.inr h7)
      · exact .inr h7
  have hb8 : Blk w8 d 125 #[sv, .int .i64 s.quota, .int .i64 s.steps, .int .i64 s.left, .bool s.off] := (h6.blk.keep hxW).ext hx8 (fun hd => h6.own_ne (by simpa using hd) rfl)
  refine ⟨(h6.keep hxW).refile ?_ ?_ hr hu hm, ?_, ?_⟩
  · rw [e9]; have := hb8.set 0 sv8; simpa using this
  · obtain ⟨xs, h8, h9⟩ := hf8.own
    refine Files.ext (w := w8) (F := [d]) ⟨xs, h8, h9.imp fun k hk hp hq => ?_⟩ hx89 (fun k hk e => ?_) (fun k _ hk e => hk ?_)
    · rcases hd8 k hq with h7 | h7
      · exact hp.1 h7
      · omega
    · obtain rfl : k = d := by simpa using e
      rcases hk8 k hk with h7 | h7
      · exact h6.own_ne h7 rfl
      · omega
    · obtain rfl : k = d := by simpa using e
      simp [DF]
  · refine ((hxW.mono (by simp)).trans (hx8.mono (G := DF d sv) fun k hk _ => ?_) (fun _ h _ => h)).trans hx89 fun k hk _ => ?_
    · simp only [DF, List.mem_cons]; exact .inr hk
    · obtain rfl : k = d := by simpa using hk
      simp [DF]
  · intro k hk
    rcases hd8 k hk with h7 | h7
    · exact .inl h7
    · right; omega

set_option maxRecDepth 100000 in
set_option maxHeartbeats 8000000 in
theorem append_new (d : Nat) (sv : Value) (s : DiskS) (nm : ByteArray) (bv : Value) (b : List UInt8) (p : Nat → Prop) (w : World) (h : DiskAt w d sv s) (hb : Bs w p bv b) (hs : s.steps < 1000000000000) (hu : usedL s.files + b.length ≤ 50000000) (hmany : s.files.length < 100000)
    (he : s.asked [nm] = 0) (hh : has s.files nm = false) :
    Calls Tryz.prog 55 #[.pointer (some ⟨d, 0, none⟩), .string nm, bv] w
      (DiskPost d sv (if 8388608 < b.length then (s, (3 : Int)) else if s.quota < usedL s.files + b.length then (s, 161) else DiskS.power { s with files := insertAt s.files (idx s.files nm) ⟨nm, b, -1⟩ }).1
        (if 8388608 < b.length then (s, (3 : Int)) else if s.quota < usedL s.files + b.length then (s, 161) else DiskS.power { s with files := insertAt s.files (idx s.files nm) ⟨nm, b, -1⟩ }).2 w) := by
  generalize hR : (if 8388608 < b.length then (s, (3 : Int)) else if s.quota < usedL s.files + b.length then (s, 161) else DiskS.power { s with files := insertAt s.files (idx s.files nm) ⟨nm, b, -1⟩ }) = R
  obtain ⟨B, bc, rfl, hbc⟩ := hb.form
  have hA := asked1_calls d sv s nm w h
  have hF := find_calls d sv s nm _ (h.keep (alloc_ext w (.cells #[.string nm] 9)))
  rw [he] at hA
  rw [hh] at hF
  have hil := idx_le s.files nm
  have hins : Rising (insertAt s.files (idx s.files nm) ⟨nm, b, -1⟩) := rising_insert (f := ⟨nm, b, -1⟩) h.rise hh
  have hm1 := h.many
  have hbl : (b.length : Int) ≤ 50000000 := by omega
  have hu' : (usedL s.files : Int) + b.length ≤ 50000000 := by omega
  have hi0 : (0 : Int) ≤ idx s.files nm := by omega
  have hm1' : (s.files.length : Int) ≤ 100000 := by omega
  have hb0 : (0 : Int) ≤ b.length := by omega
  replace h := Lib.hid h
  replace he := Lib.hid he
  replace hh := Lib.hid hh
  replace hb := Lib.hid hb
  replace hins := Lib.hid hins
  generalize idx s.files nm = i at *
  by_cases h1 : 8388608 < b.length
  · have h1' : (8388608 : Int) < b.length := by omega
    rw [if_pos h1] at hR
    subst hR
    clear h1
    go_enter Tryz.func55, Tryz.ntmps55
    go_wp2_with (first | (go_at_call 126; refine hA.mono ?_; rintro e w1 ⟨rfl, rfl⟩) | (go_at_call 127; refine hF.mono ?_; rintro e w1 ⟨rfl, hx1⟩; replace hx1 := Lib.hid hx1) | (refine wpList_store_whole rfl 180 _ _ rfl _ rfl _ rfl _ _ (Blk.new _ _ _) (by kernel_rfl) rfl (by kernel_rfl) ?_; intro w3 hb3 hx3; have hlt := (((alloc_ext w (.cells #[.string nm] 9)).new hx1.out)).size; have hx03 : Ext [] w w3 := (((alloc_ext w _).new hx1.out).alloc _).trans hx3 (fun k hk hl => by simp at hk; omega); have q1 := hb3.cell 1; have fz1 := hb3.froz 1; simp only [List.getElem?_toArray, List.getElem?_cons_zero, List.getElem?_cons_succ] at q1; replace hb3 := Lib.hid hb3; replace hlt := Lib.hid hlt; replace hx03 := Lib.hid hx03; clear hx3))
    go_ret
    exact DiskPost.same (h.out.keep hx03.out) hx03.out
  · have h1' : (b.length : Int) ≤ 8388608 := by omega
    rw [if_neg h1] at hR
    clear h1
    go_enter Tryz.func55, Tryz.ntmps55
    go_wp2_with (first | (go_at_call 126; refine hA.mono ?_; rintro e w1 ⟨rfl, rfl⟩) | (go_at_call 127; refine hF.mono ?_; rintro e w1 ⟨rfl, hx1⟩; replace hx1 := Lib.hid hx1) | (refine wpList_store_whole rfl 180 _ _ rfl _ rfl _ rfl _ _ (Blk.new _ _ _) (by kernel_rfl) rfl (by kernel_rfl) ?_; intro w3 hb3 hx3; have hlt := (((alloc_ext w (.cells #[.string nm] 9)).new hx1.out)).size; have hx03 : Ext [] w w3 := (((alloc_ext w _).new hx1.out).alloc _).trans hx3 (fun k hk hl => by simp at hk; omega); have q1 := hb3.cell 1; have fz1 := hb3.froz 1; simp only [List.getElem?_toArray, List.getElem?_cons_zero, List.getElem?_cons_succ] at q1; replace hb3 := Lib.hid hb3; replace hlt := Lib.hid hlt; replace hx03 := Lib.hid hx03; clear hx3))
    have hv1 := hb3.out.lt
    have h3 := h.out.keep hx03.out
    have hU := used_calls d sv s w3.drew (h3.keep (Ext.refl [] w3).drew)
    obtain ⟨e0, e1, _⟩ := h3.cells
    have sW : IntKind.i64.wrap ((usedL s.files : Int) + b.length) = (usedL s.files : Int) + b.length := by rw [IntKind.wrap_i64]; omega
    replace h3 := Lib.hid h3
    by_cases h2 : s.quota < (usedL s.files : Int) + b.length
    · rw [if_pos h2] at hR
      go_region_with (go_at_call 128; refine hU.mono ?_; rintro e w4 ⟨rfl, hx4⟩; have hx4' : Ext [] w w4 := hx03.out.trans' ((Ext.refl [] w3).drew.trans' hx4); have e14 : w4.cell? ⟨d, 1, none⟩ = _ := (h.out.keep hx4').cells.2.1; replace hx4 := Lib.hid hx4; replace hx4' := Lib.hid hx4')
      all_goals
        go_wp2
        go_ret
        subst hR
        exact DiskPost.same (h.out.keep hx4'.out) hx4'.out
    · rw [if_neg h2] at hR
      replace hR := Lib.hid hR
      go_region_with (go_at_call 128; refine hU.mono ?_; rintro e w4 ⟨rfl, hx4⟩; have hx4' : Ext [] w w4 := hx03.out.trans' ((Ext.refl [] w3).drew.trans' hx4); have e14 : w4.cell? ⟨d, 1, none⟩ = _ := (h.out.keep hx4').cells.2.1; replace hx4 := Lib.hid hx4; replace hx4' := Lib.hid hx4')
      all_goals
        have hb4 : Blk w4 w1.heap.size 180 #[.string nm, .slice none 0 0, .int .i64 (-1)] := hb3.out.ext ((Ext.refl [] w3).drew.trans' hx4.out) (by simp)
        have q14 := hb4.cell 1
        have fz14 := hb4.froz 1
        simp only [List.getElem?_toArray, List.getElem?_cons_zero, List.getElem?_cons_succ] at q14
        replace hb4 := Lib.hid hb4
        go_wp2_with (fail)
        go_at_call 129
        refine (concat_calls w4.heap.size (.slice none 0 0) (.slice B b.length bc) [] b (fun _ => True) _ ((Blk.new w4 25 _).cell 0) ((Blk.new w4 25 _).cell 1) Bs.nil ((hb.out.keep hx4'.out).keep (alloc_ext _ _)).any (by simp only [List.length_nil]; omega)).mono ?_
        rintro e w5 ⟨v5, rfl, hv5, hx5⟩
        rw [List.nil_append] at hv5
        have hx45 : Ext [] w4 w5 := (alloc_ext _ _).trans' hx5
        have hb5 := hb4.out.keep hx45
        have q15 := hb5.cell 1
        have fz15 := hb5.froz 1
        simp only [List.getElem?_toArray, List.getElem?_cons_zero, List.getElem?_cons_succ] at q15
        have hb6 : Blk (w5.setCell ⟨w1.heap.size, 1, none⟩ v5) w1.heap.size 180 #[.string nm, v5, .int .i64 (-1)] := by
          have := hb5.set 1 v5
          simpa using this
        have hx6 : Ext [] w (w5.setCell ⟨w1.heap.size, 1, none⟩ v5) := (hx4'.out.trans' hx45).set (.inr hlt.out) _
        have hv6 : Bs (w5.setCell ⟨w1.heap.size, 1, none⟩ v5) (fun k => w4.heap.size < k) v5 b := by
          have h8 : Ext [w1.heap.size] w5 (w5.setCell ⟨w1.heap.size, 1, none⟩ v5) := (Ext.refl _ w5).set (.inl (by simp)) _
          have h9 := hb4.out.lt
          refine (hv5.ext h8 fun k _ hk => ?_).imp fun k _ hk => ?_
          · have hk' : w4.heap.size + 1 ≤ k := by simpa using hk
            rw [List.mem_singleton]; omega
          · have hk' : w4.heap.size + 1 ≤ k := by simpa using hk
            omega
        obtain ⟨A6, c6, rfl, _, _, _, _⟩ := id hv6
        have h6 := h.out.keep hx6
        obtain ⟨e06, _⟩ := h6.cells
        have q06 := hb6.cell 0
        have q16 := hb6.cell 1
        have q26 := hb6.cell 2
        simp only [List.getElem?_toArray, List.getElem?_cons_zero, List.getElem?_cons_succ] at q06 q16 q26
        replace h6 := Lib.hid h6
        replace hb5 := Lib.hid hb5
        replace hb6 := Lib.hid hb6
        replace hx6 := Lib.hid hx6
        replace hv6 := Lib.hid hv6
        replace hv5 := Lib.hid hv5
        replace hx5 := Lib.hid hx5
        replace hx45 := Lib.hid hx45
        go_wp2_with (fail)
        generalize w5.setCell ⟨w1.heap.size, 1, none⟩ (.slice A6 b.length c6) = w6 at *
        obtain ⟨A3, cap3, hsv3, _, _, _⟩ := h6.out.files.form
        have hdlt : ∀ k ∈ DF d sv, k < w6.heap.size := h6.out.dlt
        have h4s := hx4'.out.size
        have hdl := h.out.dlt
        generalize hW : (w6.alloc (.cells #[.string nm, .slice A6 b.length c6, .int .i64 (-1)] 180)).drew = W
        have hx6W : Ext [] w6 W := by rw [← hW]; exact ((Ext.refl _ w6).alloc _).drew
        have hbW : Blk W w6.heap.size 180 #[.string nm, .slice A6 b.length c6, .int .i64 (-1)] := by rw [← hW]; exact (Blk.new w6 _ _).drew
        have hI := insertF_calls (fun k => k ∉ DF d sv ∧ k < w6.heap.size) sv s.files i w6.heap.size ⟨nm, b, -1⟩ (.slice A6 b.length c6) W
          (by
            obtain ⟨xs, h5, h6⟩ := h6.out.files.own
            exact Files.ext (F := []) ⟨xs, h5, h6.imp fun k hk hp => ⟨hp, hk⟩⟩ hx6W (fun _ _ => by simp) (fun _ _ _ => by simp))
          (fun k _ hp e => hp.1 (by unfold DF; rw [e]; simp)) hbW
          ((hv6.out.imp fun k hk hp => ⟨fun hq => by have := hdl k hq; omega, hk⟩).keep hx6W) (by omega) hil
          (fun e => Nat.lt_irrefl _ (hdlt _ (by unfold DF; rw [e]; simp)))
        have hb5' : ∀ w5, Ext sv.ownBlock.toList W w5 → Blk w5 d 125 #[sv, .int .i64 s.quota, .int .i64 s.steps, .int .i64 s.left, .bool s.off] := fun w5 hx => (h6.out.blk.keep hx6W).ext hx (fun hd => h6.out.own_ne (by simpa using hd) rfl)
        have e0W : W.cell? ⟨d, 0, none⟩ = some sv := (h6.out.keep hx6W).cells.1
        have q0W := (hb6.out.keep hx6W).cell 0
        have q1W := (hb6.out.keep hx6W).cell 1
        have q2W := (hb6.out.keep hx6W).cell 2
        simp only [List.getElem?_toArray, List.getElem?_cons_zero, List.getElem?_cons_succ] at q0W q1W q2W
        subst hW
        subst hsv3
        rw [World.cell?_drew] at e0W q0W q1W q2W
        replace hb5' := Lib.hid hb5'
        replace hx6W := Lib.hid hx6W
        replace hbW := Lib.hid hbW
        replace hdlt := Lib.hid hdlt
        replace hdl := Lib.hid hdl
        replace hU := Lib.hid hU
        go_region_with (go_at_call 130; refine hI.mono ?_; rintro e w8 ⟨A8, c8, rfl, hf8, hx8, hk8⟩; have b5 := hb5'.out w8 hx8; have c50 := b5.cell 0; have f50 := b5.froz 0; simp only [List.getElem?_toArray, List.getElem?_cons_zero] at c50; replace hf8 := Lib.hid hf8; replace hx8 := Lib.hid hx8; replace hk8 := Lib.hid hk8; replace b5 := Lib.hid b5)
        all_goals
          obtain ⟨h9, hx9, hd9⟩ := inserted h6.out hx6W.out hf8.out hx8.out hk8.out rfl hins.out (by rw [used_insert]; exact hu) (by rw [length_insert]; omega)
          have hP := power_calls d _ _ _ h9 hs
          replace h9 := Lib.hid h9
          replace hx9 := Lib.hid hx9
          replace hd9 := Lib.hid hd9
          replace hP := Lib.hid hP
          go_wp2_with (go_at_call 131; refine hP.out.mono ?_; rintro e w10 ⟨rfl, h10, hx10⟩; replace h10 := Lib.hid h10; replace hx10 := Lib.hid hx10)
          go_ret
          rw [← hR.out]
          have hs6 := hx6.out.size
          refine ⟨rfl, _, h10.out, ((hx6.out.mono (by simp)).trans hx9.out (fun _ h _ => h)).trans (hx10.out.mono (G := [d]) (by simp)) (fun k hk _ => by simp only [List.mem_singleton] at hk; subst hk; simp [DF]), fun k hk => ?_⟩
          rcases hd9.out k hk with h11 | h11
          · exact .inl h11
          · right; omega
end Go.Proofs.YtpjekppljaekoaaGreatDoor
namespace Go.Proofs.YtpjekppljaekoaaGreatDoor
open Go Go.RowKit

set_option maxRecDepth 100000 in
set_option maxHeartbeats 1000000 in
theorem append_bad (d : Nat) (sv : Value) (s : DiskS) (nm : ByteArray) (bv : Value) (w : World) (h : DiskAt w d sv s) (he : s.asked [nm] ≠ 0) :
    Calls Tryz.prog 55 #[.pointer (some ⟨d, 0, none⟩), .string nm, bv] w (DiskPost d sv s (s.asked [nm]) w) := by
  have hA := asked1_calls d sv s nm w h
  have hfin := DiskPost.same (ans := s.asked [nm]) (h.keep (alloc_ext w (.cells #[.string nm] 9))) (alloc_ext w _)
  have he' : (s.asked [nm] == 0) = false := by simpa using he
  replace h := Lib.hid h
  replace he := Lib.hid he
  replace hfin := Lib.hid hfin
  go_enter Tryz.func55, Tryz.ntmps55
  go_wp2_with (go_at_call 126; refine hA.mono ?_; rintro e w1 ⟨rfl, rfl⟩)
  go_ret
  exact hfin.out

theorem append_calls (d : Nat) (sv : Value) (s : DiskS) (nm : ByteArray) (bv : Value) (b : List UInt8) (p : Nat → Prop) (w : World) (h : DiskAt w d sv s) (hb : Bs w p bv b) (hs : s.steps < 1000000000000) (hu : usedL s.files + b.length ≤ 50000000) (hmany : s.files.length < 100000) :
    Calls Tryz.prog 55 #[.pointer (some ⟨d, 0, none⟩), .string nm, bv] w (DiskPost d sv (s.append nm b).1 (s.append nm b).2 w) := by
  unfold DiskS.append
  by_cases he : s.asked [nm] = 0
  · simp only [he, ne_eq, not_true, if_false]
    cases hh : has s.files nm with
    | false =>
      have := append_new d sv s nm bv b p w h hb hs hu hmany he hh
      simpa only [Bool.false_eq_true, if_false, List.length_nil, Nat.zero_add, List.nil_append] using this
    | true =>
      obtain ⟨f, hf⟩ := has_get hh
      have hg : s.files.getD (idx s.files nm) ⟨nm, [], -1⟩ = f := by rw [List.getD_eq_getElem?_getD, hf]; rfl
      have := append_there d sv s nm bv b p f w h hb hs hu he hh hf
      simpa only [if_true, hg] using this
  · simp only [he, ne_eq, not_false_eq_true, if_true]
    exact append_bad d sv s nm bv w h he
end Go.Proofs.YtpjekppljaekoaaGreatDoor
namespace Go.Proofs.YtpjekppljaekoaaGreatDoor
open Go Go.RowKit

def tmpN : ByteArray := ⟨#[99, 107, 46, 116, 109, 112]⟩
def DiskS.clear (s : DiskS) : DiskS × Int := if (s.read tmpN).2 = 0 then s.step 3 tmpN tmpN 0 true else (s, 0)

set_option maxRecDepth 100000 in
set_option maxHeartbeats 400000 in
theorem there_calls (g d : Nat) (sv : Value) (s : DiskS) (nm : ByteArray) (w : World) (hg : Blk w g 193 #[.pointer (some ⟨d, 0, none⟩)]) (h : DiskAt w d sv s) :
    Calls Tryz.prog 184 #[.pointer (some ⟨g, 0, none⟩), .string nm] w fun e w' => e = .returned (.bool ((s.read nm).2 == 0)) ∧ Ext [] w w' := by
  have c0 := hg.cell 0
  simp only [List.getElem?_toArray, List.getElem?_cons_zero] at c0
  have hC := read_calls d sv s nm w h
  clear h hg
  go_enter Tryz.func184, Tryz.ntmps184
  go_wp2_with (go_at_call 101; refine hC.mono ?_; rintro e w1 ⟨v, rfl, hv, hx⟩; replace hv := Lib.hid hv; replace hx := Lib.hid hx)
  go_ret
  exact ⟨rfl, hx.out⟩

set_option maxRecDepth 100000 in
set_option maxHeartbeats 400000 in
theorem clear_calls (g d : Nat) (sv : Value) (s : DiskS) (w : World) (hg : Blk w g 193 #[.pointer (some ⟨d, 0, none⟩)]) (h : DiskAt w d sv s) (hs : s.steps < 1000000000000) :
    Calls Tryz.prog 102 #[.pointer (some ⟨g, 0, none⟩)] w (DiskPost d sv s.clear.1 s.clear.2 w) := by
  have hC := there_calls g d sv s tmpN w hg h
  unfold tmpN at hC
  have hcl : s.clear = if (s.read tmpN).2 = 0 then s.step 3 tmpN tmpN 0 true else (s, 0) := rfl
  generalize s.clear = R at *
  change Calls Tryz.prog 184 #[_, _] w fun e w' => e = .returned (.bool ((s.read tmpN).2 == 0)) ∧ Ext [] w w' at hC
  by_cases hr : (s.read tmpN).2 = 0
  · rw [if_pos hr] at hcl
    rw [hr] at hC
    subst hcl
    replace h := Lib.hid h
    replace hg := Lib.hid hg
    replace hr := Lib.hid hr
    go_enter Tryz.func102, Tryz.ntmps102
    go_wp2_with (first | (go_at_call 184; refine hC.mono ?_; rintro e w1 ⟨rfl, hx⟩; have hD := remove_calls d sv s tmpN w1 (h.out.keep hx) hs; have c0 := (hg.out.keep hx).cell 0; simp only [List.getElem?_toArray, List.getElem?_cons_zero] at c0; replace hx := Lib.hid hx; replace hD := Lib.hid hD) | (go_at_call 111; refine hD.out.mono ?_; rintro e w2 ⟨rfl, h2⟩; replace h2 := Lib.hid h2))
    go_ret
    obtain ⟨sv', h3, hx3, hd3⟩ := h2.out
    have := hx.out.size
    refine ⟨rfl, sv', h3, (hx.out.mono (by simp)).trans' hx3, fun k hk => ?_⟩
    rcases hd3 k hk with h4 | h4
    · exact .inl h4
    · right; omega
  · rw [if_neg hr] at hcl
    have hr' : ((s.read tmpN).2 == 0) = false := by simpa using hr
    rw [hr'] at hC
    subst hcl
    replace h := Lib.hid h
    replace hr := Lib.hid hr
    go_enter Tryz.func102, Tryz.ntmps102
    go_wp2_with (go_at_call 184; refine hC.mono ?_; rintro e w1 ⟨rfl, hx⟩; replace hx := Lib.hid hx)
    go_ret
    exact DiskPost.same (h.out.keep hx.out) hx.out
end Go.Proofs.YtpjekppljaekoaaGreatDoor
namespace Go.Proofs.YtpjekppljaekoaaGreatDoor
open Go Go.RowKit

/-- What Open makes of a disk. -/
def DiskS.opened (s : DiskS) : DiskS × Int := if s.off then (s, 160) else s.clear

def OpenKPost (d : Nat) (sv : Value) (R : DiskS × Int) (w : World) (e : Ending) (w' : World) : Prop :=
  ∃ pv, e = .returned (.tuple #[pv, .int .i64 R.2]) ∧ (R.2 ≠ 0 → pv = .pointer none) ∧ (R.2 = 0 → ∃ g, pv = .pointer (some ⟨g, 0, none⟩) ∧ Blk w' g 193 #[.pointer (some ⟨d, 0, none⟩)] ∧ w.heap.size ≤ g) ∧
    ∃ sv', DiskAt w' d sv' R.1 ∧ Ext (DF d sv) w w' ∧ ∀ k ∈ DF d sv', k ∈ DF d sv ∨ (w.heap.size ≤ k ∧ pv ≠ .pointer (some ⟨k, 0, none⟩))

set_option maxRecDepth 100000 in
set_option maxHeartbeats 400000 in
theorem open_calls (d : Nat) (sv : Value) (s : DiskS) (w : World) (h : DiskAt w d sv s) (hs : s.steps < 1000000000000) :
    Calls Tryz.prog 38 #[.pointer (some ⟨d, 0, none⟩)] w (OpenKPost d sv s.opened w) := by
  have hO := off_calls d sv s w h
  have hop : s.opened = if s.off then (s, 160) else s.clear := rfl
  generalize s.opened = R at *
  cases ho : s.off with
  | true =>
    rw [ho] at hO
    rw [ho, if_pos rfl] at hop
    subst hop
    replace h := Lib.hid h
    replace ho := Lib.hid ho
    go_enter Tryz.func38, Tryz.ntmps38
    go_wp2_with (go_at_call 20; refine hO.mono ?_; rintro e w1 ⟨rfl, rfl⟩)
    go_ret2
    exact ⟨_, rfl, fun _ => rfl, fun h => by simp at h, sv, h.out, Ext.refl _ _, fun k hk => .inl hk⟩
  | false =>
    rw [ho] at hO
    rw [ho] at hop
    simp only [Bool.false_eq_true, if_false] at hop
    subst hop
    have hx0 := alloc_ext w (.cells #[.pointer (some ⟨d, 0, none⟩)] 193)
    have hb0 := Blk.new w 193 #[.pointer (some ⟨d, 0, none⟩)]
    have hC := clear_calls w.heap.size d sv s _ hb0 (h.keep hx0) hs
    have hdlt := h.dlt
    replace h := Lib.hid h
    replace ho := Lib.hid ho
    replace hx0 := Lib.hid hx0
    replace hb0 := Lib.hid hb0
    replace hdlt := Lib.hid hdlt
    generalize hR1 : s.clear.1 = R1 at *
    generalize hR2 : s.clear.2 = R2 at *
    have hR : s.clear = (R1, R2) := by rw [← hR1, ← hR2]
    rw [hR]
    clear hR hR1 hR2
    by_cases hr : R2 = 0
    · subst hr
      go_enter Tryz.func38, Tryz.ntmps38
      go_wp2_with (first | (go_at_call 20; refine hO.mono ?_; rintro e w1 ⟨rfl, rfl⟩) | (go_at_call 102; refine hC.mono ?_; rintro e w2 ⟨rfl, h2⟩; replace h2 := Lib.hid h2))
      go_ret2
      obtain ⟨sv', h3, hx3, hd3⟩ := h2.out
      have hne : w.heap.size ∉ DF d sv := fun hk => Nat.lt_irrefl _ (hdlt.out _ hk)
      refine ⟨_, rfl, fun h => absurd rfl h, fun _ => ⟨w.heap.size, rfl, hb0.out.ext hx3 hne, Nat.le_refl _⟩, sv', h3, (hx0.out.mono (by simp)).trans' hx3, fun k hk => ?_⟩
      rcases hd3 k hk with h4 | h4
      · exact .inl h4
      · have h5 : w.heap.size + 1 ≤ k := by simpa using h4
        right
        refine ⟨by omega, fun e => ?_⟩
        have e2 : (Value.pointer (some ⟨w.heap.size, 0, none⟩)) = .pointer (some ⟨k, 0, none⟩) := e
        injection e2 with e2
        injection e2 with e2
        injection e2 with e2 _ _
        omega
    · have hr' : (R2 == 0) = false := by simpa using hr
      replace hr := Lib.hid hr
      go_enter Tryz.func38, Tryz.ntmps38
      go_wp2_with (first | (go_at_call 20; refine hO.mono ?_; rintro e w1 ⟨rfl, rfl⟩) | (go_at_call 102; refine hC.mono ?_; rintro e w2 ⟨rfl, h2⟩; replace h2 := Lib.hid h2))
      go_ret2
      obtain ⟨sv', h3, hx3, hd3⟩ := h2.out
      refine ⟨_, rfl, fun _ => rfl, fun h => absurd h hr.out, sv', h3, (hx0.out.mono (by simp)).trans' hx3, fun k hk => ?_⟩
      rcases hd3 k hk with h4 | h4
      · exact .inl h4
      · have h5 : w.heap.size + 1 ≤ k := by simpa using h4
        exact .inr ⟨by omega, fun e => by cases e⟩
end Go.Proofs.YtpjekppljaekoaaGreatDoor

/- Contracts of package ckpt: Write, whole. Contracts of package fields, fourth part: a reader's Left, Bad, next. Contracts of package fields: numbers that a reader reads. Contracts of package fields: a reader's Byte, Short, Word, Long, Raw, Open. Contracts of package ckpt: Read. -/
import Derived.Test.YtpjekppljaekoaaGreatDoorKA07
import Derived.Test.YtpjekppljaekoaaGreatDoorKA01
import Derived.StillTailTactics
import Derived.Deep.QuietTactic
import Derived.BigQuiet
import Derived.Test.YtpjekppljaekoaaGreatDoorKA06
namespace Go.Proofs.YtpjekppljaekoaaGreatDoor
open Go Go.RowKit

set_option maxRecDepth 100000 in
set_option maxHeartbeats 1000000 in
theorem write_early (gs d : Nat) (sv : Value) (s : DiskS) (k : Int) (bv' : Value) (b : List UInt8) (w : World) (h : DiskAt w d sv s) (hst : Blk w gs 193 #[.pointer (some ⟨d, 0, none⟩)]) (hb : Bs w (· ∉ DF d sv) bv' b)
    (he : k < 0 ∨ 1073741824 < k ∨ 4194304 < b.length ∨ s.off = true) :
    Calls Tryz.prog 39 #[.pointer (some ⟨gs, 0, none⟩), .int .i64 k, bv'] w (DiskPost d sv (s.write k b).1 (s.write k b).2 w) := by
  have hR : s.write k b = if k < 0 ∨ 1073741824 < k then (s, 2) else if 4194304 < b.length then (s, 3) else (s, 160) := by
    unfold DiskS.write
    by_cases h1 : k < 0 ∨ 1073741824 < k
    · rw [if_pos h1, if_pos h1]
    · rw [if_neg h1, if_neg h1]
      by_cases h2 : 4194304 < b.length
      · rw [if_pos h2, if_pos h2]
      · rw [if_neg h2, if_neg h2]
        have : s.off = true := by
          rcases he with e | e | e | e
          · omega
          · omega
          · omega
          · exact e
        rw [if_pos this]
  generalize s.write k b = R at *
  obtain ⟨B, bc, rfl, hbc⟩ := hb.form
  generalize hW : ((w.alloc (.cells #[.pointer (some ⟨gs, 0, none⟩)] 89)).alloc (.cells #[.int .i64 k] 3)).alloc (.cells #[.slice B b.length bc] 25) = W
  have hxW : Ext [] w W := by rw [← hW]; exact (((Ext.refl [] w).alloc _).alloc _).alloc _
  have hb0 : Blk W w.heap.size 89 #[.pointer (some ⟨gs, 0, none⟩)] := by rw [← hW]; exact ((Blk.new w 89 _).alloc _).alloc _
  have hb1 : Blk W (w.heap.size + 1) 3 #[.int .i64 k] := by rw [← hW]; exact (Blk.new' (w.alloc (.cells #[.pointer (some ⟨gs, 0, none⟩)] 89)) 3 _ (by simp)).alloc _
  have hb2 : Blk W (w.heap.size + 1 + 1) 25 #[.slice B b.length bc] := by rw [← hW]; exact Blk.new' ((w.alloc (.cells #[.pointer (some ⟨gs, 0, none⟩)] 89)).alloc (.cells #[.int .i64 k] 3)) 25 _ (by simp)
  have hO := off_calls d sv s W (h.keep hxW)
  have q0 := hb0.cell 0
  have q1 := hb1.cell 0
  have q2 := hb2.cell 0
  have qs := (hst.keep hxW).cell 0
  simp only [List.getElem?_toArray, List.getElem?_cons_zero] at q0 q1 q2 qs
  have hfin : ∀ a, DiskPost d sv s a w (.returned (.int .i64 a)) W := fun a => DiskPost.same (h.keep hxW) hxW
  subst hW
  replace h := Lib.hid h
  replace hst := Lib.hid hst
  replace hb := Lib.hid hb
  replace hxW := Lib.hid hxW
  replace hb0 := Lib.hid hb0
  replace hb1 := Lib.hid hb1
  replace hb2 := Lib.hid hb2
  replace hfin := Lib.hid hfin
  by_cases h1 : k < 0 ∨ 1073741824 < k
  · rw [if_pos h1] at hR
    subst hR
    have h1' : (k < 0) = true ∨ (1073741824 < k) = true := by simpa using h1
    clear he hO
    by_cases h3 : k < 0
    · clear h1 h1'
      go_enter Tryz.func39, Tryz.ntmps39
      go_wp2
      go_ret
      exact hfin.out _
    · have h4 : 1073741824 < k := by omega
      have h5 : 0 ≤ k := by omega
      clear h1 h1' h3
      go_enter Tryz.func39, Tryz.ntmps39
      go_wp2
      go_ret
      exact hfin.out _
  · rw [if_neg h1] at hR
    have h5 : 0 ≤ k := by omega
    have h6 : k ≤ 1073741824 := by omega
    by_cases h2 : 4194304 < b.length
    · rw [if_pos h2] at hR
      subst hR
      have h2' : (4194304 : Int) < b.length := by omega
      clear he hO h1 h2
      go_enter Tryz.func39, Tryz.ntmps39
      go_wp2
      go_ret
      exact hfin.out _
    · rw [if_neg h2] at hR
      subst hR
      have h2' : (b.length : Int) ≤ 4194304 := by omega
      have ho : s.off = true := by
        rcases he with e | e | e | e
        · omega
        · omega
        · omega
        · exact e
      rw [ho] at hO
      replace ho := Lib.hid ho
      clear he h1 h2
      go_enter Tryz.func39, Tryz.ntmps39
      go_wp2_with (go_at_call 20; refine hO.mono ?_; rintro e w1 ⟨rfl, rfl⟩)
      go_ret
      exact hfin.out _

theorem write_calls (gs d : Nat) (sv : Value) (s : DiskS) (k : Int) (bv' : Value) (b : List UInt8) (w : World) (h : DiskAt w d sv s) (hst : Blk w gs 193 #[.pointer (some ⟨d, 0, none⟩)]) (ns : gs ∉ DF d sv) (hb : Bs w (· ∉ DF d sv) bv' b) (hL : Lai w) (hD6 : ∀ k ∈ DF d sv, 6 ≤ k)
    (hs : s.steps + 8 < 1000000000000) (hu : usedL s.files + b.length + 17 ≤ 50000000) (hm : s.files.length < 99999) :
    Calls Tryz.prog 39 #[.pointer (some ⟨gs, 0, none⟩), .int .i64 k, bv'] w (DiskPost d sv (s.write k b).1 (s.write k b).2 w) := by
  by_cases he : k < 0 ∨ 1073741824 < k ∨ 4194304 < b.length ∨ s.off = true
  · exact write_early gs d sv s k bv' b w h hst hb he
  · refine write_main gs d sv s k bv' b w h hst ns hb hL hD6 hs hu hm (by omega) (by omega) (by omega) ?_
    cases ho : s.off with
    | false => rfl
    | true => exact absurd (.inr (.inr (.inr ho))) he
end Go.Proofs.YtpjekppljaekoaaGreatDoor
namespace Go.Proofs.YtpjekppljaekoaaGreatDoor
open Go Go.RowKit

structure RdS where
  l : List UInt8
  pos : Nat
  bad : Bool

/-- What an item of n bytes takes; nothing: it falls. -/
def RdS.piece (r : RdS) (n : Int) : Option (List UInt8) :=
  if r.bad = true ∨ n < 0 ∨ (r.l.length : Int) - r.pos < n then none else some ((r.l.drop r.pos).take n.toNat)
def RdS.next (r : RdS) (n : Int) : RdS :=
  if r.bad = true ∨ n < 0 ∨ (r.l.length : Int) - r.pos < n then { r with bad := true, pos := r.l.length } else { r with pos := r.pos + n.toNat }

def ReaderAt (w : World) (g : Nat) (r : RdS) : Prop :=
  r.pos ≤ r.l.length ∧ r.l.length ≤ 100000000 ∧ ∃ v, Blk w g 292 #[v, .int .i64 (r.pos : Int), .bool r.bad] ∧ Bs w (· ≠ g) v r.l

theorem ReaderAt.ext {w w' : World} {F : List Nat} {g : Nat} {r : RdS} (h : ReaderAt w g r) (hx : Ext F w w') (hn : ∀ k, k < w.heap.size → k ∉ F) : ReaderAt w' g r := by
  obtain ⟨h1, h2, v, hb, hs⟩ := h
  exact ⟨h1, h2, v, hb.ext hx (hn g hb.lt), hs.ext hx fun k hk _ => hn k hk⟩
theorem ReaderAt.keep {w w' : World} {g : Nat} {r : RdS} (h : ReaderAt w g r) (hx : Ext [] w w') : ReaderAt w' g r := h.ext hx fun _ _ => by simp
theorem ReaderAt.lt {w : World} {g : Nat} {r : RdS} (h : ReaderAt w g r) : g < w.heap.size := by
  obtain ⟨_, _, _, hb, _⟩ := h
  exact hb.lt

set_option maxRecDepth 100000 in
set_option maxHeartbeats 400000 in
theorem left_calls (g : Nat) (r : RdS) (w : World) (hr : ReaderAt w g r) :
    Calls Tryz.prog 120 #[.pointer (some ⟨g, 0, none⟩)] w fun e w' => e = .returned (.int .i64 ((r.l.length : Int) - r.pos)) ∧ ∃ n, w' = w.drewN n := by
  obtain ⟨h1, h2, v, hb, A, c, rfl, h3, h4, h5, h6⟩ := hr
  have c0 := hb.cell 0
  have c1 := hb.cell 1
  simp only [List.getElem?_toArray, List.getElem?_cons_zero, List.getElem?_cons_succ] at c0 c1
  clear h3 h4 h5 h6 hb
  generalize hL : r.l.length = L at *
  generalize hP : r.pos = P at *
  clear hL hP
  have h2' : (L : Int) ≤ 100000000 := by omega
  clear h2
  go_enter Tryz.func120, Tryz.ntmps120
  go_wp2
  go_quiet (fail)
  go_wp2
  go_ret
  exact ⟨rfl, _, rfl⟩

set_option maxRecDepth 100000 in
set_option maxHeartbeats 400000 in
theorem bad_calls (g : Nat) (r : RdS) (w : World) (hr : ReaderAt w g r) :
    Calls Tryz.prog 119 #[.pointer (some ⟨g, 0, none⟩)] w fun e w' => e = .returned (.bool r.bad) ∧ w = w' := by
  obtain ⟨h1, h2, v, hb, _⟩ := hr
  have c2 := hb.cell 2
  simp only [List.getElem?_toArray, List.getElem?_cons_zero, List.getElem?_cons_succ] at c2
  clear h1 h2 hb
  go_enter Tryz.func119, Tryz.ntmps119
  go_wp2
  go_ret
  exact ⟨rfl, rfl⟩

def NextPost (g : Nat) (r : RdS) (n : Int) (w : World) (e : Ending) (w' : World) : Prop :=
  ∃ v, e = .returned v ∧ Bs w' (· ≠ g) v ((r.piece n).getD []) ∧ ReaderAt w' g (r.next n) ∧ Ext [g] w w'

set_option maxRecDepth 100000 in
set_option maxHeartbeats 400000 in
theorem next_calls (g : Nat) (r : RdS) (n : Int) (w : World) (hr : ReaderAt w g r) (hn : n ≤ 4611686018427387904) (hn0 : -4611686018427387904 ≤ n) :
    Calls Tryz.prog 193 #[.pointer (some ⟨g, 0, none⟩), .int .i64 n] w (NextPost g r n w) := by
  have hL := left_calls g r w hr
  have hR := Lib.hid hr
  obtain ⟨h1, h2, v, hb, hs⟩ := hr
  have hS := Lib.hid hs
  obtain ⟨A, c, rfl, h3, h4, h5, h6⟩ := hs
  have c0 := hb.cell 0
  have c1 := hb.cell 1
  have c2 := hb.cell 2
  have f1 := hb.froz 1
  have f2 := hb.froz 2
  simp only [List.getElem?_toArray, List.getElem?_cons_zero, List.getElem?_cons_succ] at c0 c1 c2
  replace hb := Lib.hid hb
  replace h6 := Lib.hid h6
  replace h5 := Lib.hid h5
  replace h4 := Lib.hid h4
  have hx0 : Ext [g] w w := Ext.refl _ _
  have Hl : Hid (r.l.length ≤ 100000000) := Lib.hid h2
  have g1 : (r.pos : Int) ≤ r.l.length := by omega
  have g2 : (r.l.length : Int) ≤ 100000000 := by omega
  have g3 : (r.l.length : Int) ≤ c := by omega
  clear h1 h2 h3
  generalize hLL : r.l.length = L at *
  generalize hPP : r.pos = P at *
  generalize hBB : r.bad = B at *
  replace hLL := Lib.hid hLL
  replace hPP := Lib.hid hPP
  replace hBB := Lib.hid hBB
  by_cases hok : B = true ∨ n < 0 ∨ (L : Int) - P < n
  · have e1 : r.piece n = none := by unfold RdS.piece; rw [hBB.out, hLL.out, hPP.out, if_pos hok]
    have e2 : r.next n = { r with bad := true, pos := L } := by unfold RdS.next; rw [hBB.out, hLL.out, hPP.out, if_pos hok]
    replace e1 := Lib.hid e1
    replace e2 := Lib.hid e2
    have fin : ∀ k, NextPost g r n w (.returned (.slice none 0 0)) (((w.drewN k).setCell ⟨g, 2, none⟩ (.bool true)).setCell ⟨g, 1, none⟩ (.int .i64 (L : Int))) := by
      intro k
      have hx : Ext [g] w (((w.drewN k).setCell ⟨g, 2, none⟩ (.bool true)).setCell ⟨g, 1, none⟩ (.int .i64 (L : Int))) := (((Ext.refl [g] w).drewN k).set (.inl (by simp)) _).set (.inl (by simp)) _
      refine ⟨_, rfl, by rw [e1.out]; exact Bs.nil, ?_, hx⟩
      rw [e2.out]
      refine ⟨by rw [hLL.out]; exact Nat.le_refl _, by rw [hLL.out]; exact Hl.out, _, ?_, hS.out.ext hx (fun k _ h => by simpa using h)⟩
      have := ((hb.out.drewN k).set 2 (.bool true)).set 1 (.int .i64 (L : Int))
      simpa using this
    replace fin := Lib.hid fin
    cases B with
    | true =>
      clear hok
      go_enter Tryz.func193, Tryz.ntmps193
      go_wp2
      go_ret
      exact fin.out 0
    | false =>
      by_cases hn1 : n < 0
      · clear hok
        go_enter Tryz.func193, Tryz.ntmps193
        go_wp2
        go_ret
        exact fin.out 0
      · have hn2 : (L : Int) - P < n := by rcases hok with h | h | h <;> first | omega | cases h
        clear hok
        go_enter Tryz.func193, Tryz.ntmps193
        go_wp2_with (go_at_call 120; refine hL.mono ?_; rintro e w1 ⟨rfl, k, rfl⟩)
        go_ret
        exact fin.out k
  · have e1 : r.piece n = some ((r.l.drop P).take n.toNat) := by unfold RdS.piece; rw [hBB.out, hLL.out, hPP.out, if_neg hok]
    have e2 : r.next n = { r with pos := P + n.toNat } := by unfold RdS.next; rw [hBB.out, hLL.out, hPP.out, if_neg hok]
    replace e1 := Lib.hid e1
    replace e2 := Lib.hid e2
    cases B with
    | true => exact absurd (.inl rfl) hok
    | false =>
      have hn1 : 0 ≤ n := by omega
      have hn2 : ¬ ((L : Int) - P < n) := by omega
      obtain ⟨k, rfl⟩ := Int.eq_ofNat_of_zero_le hn1
      clear hok hn hn0 hn1
      have fin : ∀ j q A' c', A' = (if c = P then A else A.map (·.add P)) → c' = c - P → NextPost g r k w (.returned (.slice A' k c')) (((w.drewN j).setCell ⟨g, 1, none⟩ (.int .i64 ((P : Int) + k))).drewN q) := by
        intro j q A' c' hA hc'
        have hx : Ext [g] w (((w.drewN j).setCell ⟨g, 1, none⟩ (.int .i64 ((P : Int) + k))).drewN q) := (((Ext.refl [g] w).drewN j).set (.inl (by simp)) _).drewN q
        have hlen : ((r.l.drop P).take k).length = k := by rw [List.length_take, List.length_drop, hLL.out]; omega
        refine ⟨_, rfl, ?_, ?_, hx⟩
        · rw [e1.out]
          show Bs _ _ (.slice A' k c') ((r.l.drop P).take k)
          have hrow := (h6.out.cut P k (cap := c) (by rw [List.length_map, hLL.out]; omega)).ext hx (fun _ _ h => by simpa using h)
          rw [← hA, ← List.map_drop, ← List.map_take] at hrow
          refine ⟨A', c', by rw [hlen], by rw [hlen]; omega, by have := h4.out; omega, ?_, hrow⟩
          intro hnone
          rw [hA] at hnone
          split at hnone
          · omega
          · have := h5.out (by simpa using hnone); omega
        · rw [e2.out]
          have := ((hb.out.drewN j).set 1 (.int .i64 ((P : Int) + k))).drewN q
          refine ⟨by simp only [hLL.out, Int.toNat_natCast]; omega, by rw [hLL.out]; exact Hl.out, _, ?_, hS.out.ext hx (fun k _ h => by simpa using h)⟩
          simpa [hBB.out] using this
      replace fin := Lib.hid fin
      go_enter Tryz.func193, Tryz.ntmps193
      go_wp2_with (go_at_call 120; refine hL.mono ?_; rintro e w1 ⟨rfl, j, rfl⟩)
      go_quiet (fail)
      go_wp2
      all_goals
        go_ret
        exact fin.out _ _ _ _ (by first | rw [if_pos ‹_›] | rw [if_neg ‹_›]) (by first | rfl | omega)
end Go.Proofs.YtpjekppljaekoaaGreatDoor
namespace Go.Proofs.YtpjekppljaekoaaGreatDoor
open Go Go.RowKit

def valOf (l : List UInt8) : Int := l.foldl (fun n c => n * 256 + (c.toNat : Int)) 0
theorem valOf_snoc (l : List UInt8) (c : UInt8) : valOf (l ++ [c]) = valOf l * 256 + (c.toNat : Int) := by simp [valOf]
theorem valOf_aux (l : List UInt8) : ∀ a : Int, 0 ≤ a → 0 ≤ l.foldl (fun n c => n * 256 + (c.toNat : Int)) a ∧ l.foldl (fun n c => n * 256 + (c.toNat : Int)) a < (a + 1) * 256 ^ l.length := by
  induction l with
  | nil => intro a ha; simp; omega
  | cons c l ih =>
    intro a ha
    have h := c.toNat_lt
    have h1 := ih (a * 256 + (c.toNat : Int)) (by omega)
    refine ⟨h1.1, Int.lt_of_lt_of_le h1.2 ?_⟩
    rw [List.length_cons, Int.pow_succ, Int.mul_comm (256 ^ l.length) 256, ← Int.mul_assoc]
    exact Int.mul_le_mul_of_nonneg_right (by omega) (Int.pow_nonneg (by omega))
theorem valOf_bd (l : List UInt8) : 0 ≤ valOf l ∧ valOf l < 256 ^ l.length := by
  have := valOf_aux l 0 (Int.le_refl _)
  simpa [valOf] using this

def ReadPost (k : IntKind) (W : Nat) (g : Nat) (r : RdS) (w : World) (e : Ending) (w' : World) : Prop :=
  e = .returned (.int k (valOf ((r.piece W).getD []))) ∧ ReaderAt w' g (r.next W) ∧ Ext [g] w w'

theorem piece_len (r : RdS) (n : Nat) : ((r.piece n).getD []).length ≤ n := by
  unfold RdS.piece
  split
  · simp
  · simp; omega

theorem or8 (n c : Int) (h0 : 0 ≤ n) (h1 : n < 1) (c0 : 0 ≤ c) (c1 : c < 256) : bits .or .u8 (n * 256) c = n * 256 + c := by
  rw [u8_or _ _ (by omega) (by omega) c0 (by omega)]
  have e : (n * 256).toNat = 2 ^ 8 * n.toNat := by omega
  rw [e, ← Nat.two_pow_add_eq_or_of_lt (by omega)]
  omega
set_option maxRecDepth 100000 in
set_option maxHeartbeats 400000 in
theorem read8_calls (g : Nat) (r : RdS) (w : World) (hr : ReaderAt w g r) : Calls Tryz.prog 190 #[.pointer (some ⟨g, 0, none⟩)] w (ReadPost .u8 1 g r w) := by
  have hpl := piece_len r 1
  obtain ⟨pc, hpc⟩ : ∃ pc, (r.piece 1).getD [] = pc := ⟨_, rfl⟩
  have hN : Calls Tryz.prog 193 #[.pointer (some ⟨g, 0, none⟩), .int .i64 1] w (fun e w' => ∃ v, e = .returned v ∧ Bs w' (· ≠ g) v pc ∧ ReaderAt w' g (r.next 1) ∧ Ext [g] w w') := by
    rw [← hpc]; exact next_calls g r 1 w hr (by omega) (by omega)
  rw [show (((1 : Nat) : Int)) = 1 from rfl, hpc] at hpl
  replace hpc := Lib.hid hpc
  obtain ⟨n, hn⟩ : ∃ n, pc.length = n := ⟨_, rfl⟩
  rw [hn] at hpl
  go_enter Tryz.func190, Tryz.ntmps190
  go_wp2_with (first | (go_at_call 252; refine (width8_calls _).mono ?_; rintro e w1 ⟨rfl, rfl⟩) | (go_at_call 193; refine hN.mono ?_; rintro e w1 ⟨v, rfl, ⟨A, c, rfl, _, _, _, hrow⟩, hrd, hx⟩; replace hrow := Lib.hid hrow; replace hrd := Lib.hid hrd; replace hx := Lib.hid hx))
  replace hn := Lib.hid hn
  go_loop [2, 9] (fun t i => ∃ k : Nat, k ≤ n ∧ i = .int .i64 k ∧ t = .int .u8 (valOf (pc.take k))) (fun _ i => n - (intOf i).toNat)
  case atStart => exact ⟨0, by omega, rfl, rfl⟩
  case round =>
    obtain ⟨k, hk, rfl, rfl⟩ := hrel
    obtain ⟨v0, v1⟩ := valOf_bd (pc.take k)
    by_cases hlt : k < n
    · have e : pc[k]? = some (pc[k]'(by have := hn.out; omega)) := List.getElem?_eq_getElem _
      generalize pc[k]'(by have := hn.out; omega) = ch at e
      obtain ⟨g', o, rfl, _, _, hc⟩ := hrow.out.at (k := k) (u := bv ch) (by rw [List.getElem?_map, e]; rfl)
      unfold bv at hc
      have hch := ch.toNat_lt
      have hst : valOf (pc.take (k + 1)) = valOf (pc.take k) * 256 + (ch.toNat : Int) := by rw [← valOf_snoc, List.take_add_one, e]; rfl
      replace hst := Lib.hid hst
      have hv1 : valOf (pc.take k) < 1 := by
        have h1 : (pc.take k).length ≤ 0 := by rw [List.length_take]; omega
        have h2 : (256 : Int) ^ (pc.take k).length ≤ 256 ^ 0 := by
          have := Nat.pow_le_pow_right (n := 256) (by omega) h1
          exact_mod_cast this
        have h3 : (256 : Int) ^ 0 = 1 := by decide
        omega
      clear e v1
      go_wp2
      go_round
      case rel =>
        refine ⟨k + 1, by omega, by go_num, ?_⟩
        rw [hst.out, ← or8 _ _ v0 hv1 (by omega) (by omega)]
      case measure => simp [intOf]; omega
    · obtain rfl : k = n := by omega
      go_wp2
      go_ret
      refine ⟨?_, hrd.out, hx.out⟩
      rw [show (((1 : Nat) : Int)) = 1 from rfl, hpc.out, List.take_of_length_le (by have := hn.out; omega)]; rfl

theorem or16 (n c : Int) (h0 : 0 ≤ n) (h1 : n < 256) (c0 : 0 ≤ c) (c1 : c < 256) : bits .or .u16 (n * 256) c = n * 256 + c := by
  rw [u16_or _ _ (by omega) (by omega) c0 (by omega)]
  have e : (n * 256).toNat = 2 ^ 8 * n.toNat := by omega
  rw [e, ← Nat.two_pow_add_eq_or_of_lt (by omega)]
  omega
set_option maxRecDepth 100000 in
set_option maxHeartbeats 400000 in
theorem read16_calls (g : Nat) (r : RdS) (w : World) (hr : ReaderAt w g r) : Calls Tryz.prog 232 #[.pointer (some ⟨g, 0, none⟩)] w (ReadPost .u16 2 g r w) := by
  have hpl := piece_len r 2
  obtain ⟨pc, hpc⟩ : ∃ pc, (r.piece 2).getD [] = pc := ⟨_, rfl⟩
  have hN : Calls Tryz.prog 193 #[.pointer (some ⟨g, 0, none⟩), .int .i64 2] w (fun e w' => ∃ v, e = .returned v ∧ Bs w' (· ≠ g) v pc ∧ ReaderAt w' g (r.next 2) ∧ Ext [g] w w') := by
    rw [← hpc]; exact next_calls g r 2 w hr (by omega) (by omega)
  rw [show (((2 : Nat) : Int)) = 2 from rfl, hpc] at hpl
  replace hpc := Lib.hid hpc
  obtain ⟨n, hn⟩ : ∃ n, pc.length = n := ⟨_, rfl⟩
  rw [hn] at hpl
  go_enter Tryz.func232, Tryz.ntmps232
  go_wp2_with (first | (go_at_call 272; refine (width16_calls _).mono ?_; rintro e w1 ⟨rfl, rfl⟩) | (go_at_call 193; refine hN.mono ?_; rintro e w1 ⟨v, rfl, ⟨A, c, rfl, _, _, _, hrow⟩, hrd, hx⟩; replace hrow := Lib.hid hrow; replace hrd := Lib.hid hrd; replace hx := Lib.hid hx))
  replace hn := Lib.hid hn
  go_loop [2, 9] (fun t i => ∃ k : Nat, k ≤ n ∧ i = .int .i64 k ∧ t = .int .u16 (valOf (pc.take k))) (fun _ i => n - (intOf i).toNat)
  case atStart => exact ⟨0, by omega, rfl, rfl⟩
  case round =>
    obtain ⟨k, hk, rfl, rfl⟩ := hrel
    obtain ⟨v0, v1⟩ := valOf_bd (pc.take k)
    by_cases hlt : k < n
    · have e : pc[k]? = some (pc[k]'(by have := hn.out; omega)) := List.getElem?_eq_getElem _
      generalize pc[k]'(by have := hn.out; omega) = ch at e
      obtain ⟨g', o, rfl, _, _, hc⟩ := hrow.out.at (k := k) (u := bv ch) (by rw [List.getElem?_map, e]; rfl)
      unfold bv at hc
      have hch := ch.toNat_lt
      have hst : valOf (pc.take (k + 1)) = valOf (pc.take k) * 256 + (ch.toNat : Int) := by rw [← valOf_snoc, List.take_add_one, e]; rfl
      replace hst := Lib.hid hst
      have hv1 : valOf (pc.take k) < 256 := by
        have h1 : (pc.take k).length ≤ 1 := by rw [List.length_take]; omega
        have h2 : (256 : Int) ^ (pc.take k).length ≤ 256 ^ 1 := by
          have := Nat.pow_le_pow_right (n := 256) (by omega) h1
          exact_mod_cast this
        have h3 : (256 : Int) ^ 1 = 256 := by decide
        omega
      clear e v1
      go_wp2
      go_round
      case rel =>
        refine ⟨k + 1, by omega, by go_num, ?_⟩
        rw [hst.out, ← or16 _ _ v0 hv1 (by omega) (by omega)]
      case measure => simp [intOf]; omega
    · obtain rfl : k = n := by omega
      go_wp2
      go_ret
      refine ⟨?_, hrd.out, hx.out⟩
      rw [show (((2 : Nat) : Int)) = 2 from rfl, hpc.out, List.take_of_length_le (by have := hn.out; omega)]; rfl

theorem or32 (n c : Int) (h0 : 0 ≤ n) (h1 : n < 16777216) (c0 : 0 ≤ c) (c1 : c < 256) : bits .or .u32 (n * 256) c = n * 256 + c := by
  rw [u32_or _ _ (by omega) (by omega) c0 (by omega)]
  have e : (n * 256).toNat = 2 ^ 8 * n.toNat := by omega
  rw [e, ← Nat.two_pow_add_eq_or_of_lt (by omega)]
  omega
set_option maxRecDepth 100000 in
set_option maxHeartbeats 400000 in
theorem read32_calls (g : Nat) (r : RdS) (w : World) (hr : ReaderAt w g r) : Calls Tryz.prog 192 #[.pointer (some ⟨g, 0, none⟩)] w (ReadPost .u32 4 g r w) := by
  have hpl := piece_len r 4
  obtain ⟨pc, hpc⟩ : ∃ pc, (r.piece 4).getD [] = pc := ⟨_, rfl⟩
  have hN : Calls Tryz.prog 193 #[.pointer (some ⟨g, 0, none⟩), .int .i64 4] w (fun e w' => ∃ v, e = .returned v ∧ Bs w' (· ≠ g) v pc ∧ ReaderAt w' g (r.next 4) ∧ Ext [g] w w') := by
    rw [← hpc]; exact next_calls g r 4 w hr (by omega) (by omega)
  rw [show (((4 : Nat) : Int)) = 4 from rfl, hpc] at hpl
  replace hpc := Lib.hid hpc
  obtain ⟨n, hn⟩ : ∃ n, pc.length = n := ⟨_, rfl⟩
  rw [hn] at hpl
  go_enter Tryz.func192, Tryz.ntmps192
  go_wp2_with (first | (go_at_call 254; refine (width32_calls _).mono ?_; rintro e w1 ⟨rfl, rfl⟩) | (go_at_call 193; refine hN.mono ?_; rintro e w1 ⟨v, rfl, ⟨A, c, rfl, _, _, _, hrow⟩, hrd, hx⟩; replace hrow := Lib.hid hrow; replace hrd := Lib.hid hrd; replace hx := Lib.hid hx))
  replace hn := Lib.hid hn
  go_loop [2, 9] (fun t i => ∃ k : Nat, k ≤ n ∧ i = .int .i64 k ∧ t = .int .u32 (valOf (pc.take k))) (fun _ i => n - (intOf i).toNat)
  case atStart => exact ⟨0, by omega, rfl, rfl⟩
  case round =>
    obtain ⟨k, hk, rfl, rfl⟩ := hrel
    obtain ⟨v0, v1⟩ := valOf_bd (pc.take k)
    by_cases hlt : k < n
    · have e : pc[k]? = some (pc[k]'(by have := hn.out; omega)) := List.getElem?_eq_getElem _
      generalize pc[k]'(by have := hn.out; omega) = ch at e
      obtain ⟨g', o, rfl, _, _, hc⟩ := hrow.out.at (k := k) (u := bv ch) (by rw [List.getElem?_map, e]; rfl)
      unfold bv at hc
      have hch := ch.toNat_lt
      have hst : valOf (pc.take (k + 1)) = valOf (pc.take k) * 256 + (ch.toNat : Int) := by rw [← valOf_snoc, List.take_add_one, e]; rfl
      replace hst := Lib.hid hst
      have hv1 : valOf (pc.take k) < 16777216 := by
        have h1 : (pc.take k).length ≤ 3 := by rw [List.length_take]; omega
        have h2 : (256 : Int) ^ (pc.take k).length ≤ 256 ^ 3 := by
          have := Nat.pow_le_pow_right (n := 256) (by omega) h1
          exact_mod_cast this
        have h3 : (256 : Int) ^ 3 = 16777216 := by decide
        omega
      clear e v1
      go_wp2
      go_round
      case rel =>
        refine ⟨k + 1, by omega, by go_num, ?_⟩
        rw [hst.out, ← or32 _ _ v0 hv1 (by omega) (by omega)]
      case measure => simp [intOf]; omega
    · obtain rfl : k = n := by omega
      go_wp2
      go_ret
      refine ⟨?_, hrd.out, hx.out⟩
      rw [show (((4 : Nat) : Int)) = 4 from rfl, hpc.out, List.take_of_length_le (by have := hn.out; omega)]; rfl

theorem or64 (n c : Int) (h0 : 0 ≤ n) (h1 : n < 72057594037927936) (c0 : 0 ≤ c) (c1 : c < 256) : bits .or .u64 (n * 256) c = n * 256 + c := by
  rw [u64_or _ _ (by omega) (by omega) c0 (by omega)]
  have e : (n * 256).toNat = 2 ^ 8 * n.toNat := by omega
  rw [e, ← Nat.two_pow_add_eq_or_of_lt (by omega)]
  omega
set_option maxRecDepth 100000 in
set_option maxHeartbeats 400000 in
theorem read64_calls (g : Nat) (r : RdS) (w : World) (hr : ReaderAt w g r) : Calls Tryz.prog 191 #[.pointer (some ⟨g, 0, none⟩)] w (ReadPost .u64 8 g r w) := by
  have hpl := piece_len r 8
  obtain ⟨pc, hpc⟩ : ∃ pc, (r.piece 8).getD [] = pc := ⟨_, rfl⟩
  have hN : Calls Tryz.prog 193 #[.pointer (some ⟨g, 0, none⟩), .int .i64 8] w (fun e w' => ∃ v, e = .returned v ∧ Bs w' (· ≠ g) v pc ∧ ReaderAt w' g (r.next 8) ∧ Ext [g] w w') := by
    rw [← hpc]; exact next_calls g r 8 w hr (by omega) (by omega)
  rw [show (((8 : Nat) : Int)) = 8 from rfl, hpc] at hpl
  replace hpc := Lib.hid hpc
  obtain ⟨n, hn⟩ : ∃ n, pc.length = n := ⟨_, rfl⟩
  rw [hn] at hpl
  go_enter Tryz.func191, Tryz.ntmps191
  go_wp2_with (first | (go_at_call 253; refine (width64_calls _).mono ?_; rintro e w1 ⟨rfl, rfl⟩) | (go_at_call 193; refine hN.mono ?_; rintro e w1 ⟨v, rfl, ⟨A, c, rfl, _, _, _, hrow⟩, hrd, hx⟩; replace hrow := Lib.hid hrow; replace hrd := Lib.hid hrd; replace hx := Lib.hid hx))
  replace hn := Lib.hid hn
  go_loop [2, 9] (fun t i => ∃ k : Nat, k ≤ n ∧ i = .int .i64 k ∧ t = .int .u64 (valOf (pc.take k))) (fun _ i => n - (intOf i).toNat)
  case atStart => exact ⟨0, by omega, rfl, rfl⟩
  case round =>
    obtain ⟨k, hk, rfl, rfl⟩ := hrel
    obtain ⟨v0, v1⟩ := valOf_bd (pc.take k)
    by_cases hlt : k < n
    · have e : pc[k]? = some (pc[k]'(by have := hn.out; omega)) := List.getElem?_eq_getElem _
      generalize pc[k]'(by have := hn.out; omega) = ch at e
      obtain ⟨g', o, rfl, _, _, hc⟩ := hrow.out.at (k := k) (u := bv ch) (by rw [List.getElem?_map, e]; rfl)
      unfold bv at hc
      have hch := ch.toNat_lt
      have hst : valOf (pc.take (k + 1)) = valOf (pc.take k) * 256 + (ch.toNat : Int) := by rw [← valOf_snoc, List.take_add_one, e]; rfl
      replace hst := Lib.hid hst
      have hv1 : valOf (pc.take k) < 72057594037927936 := by
        have h1 : (pc.take k).length ≤ 7 := by rw [List.length_take]; omega
        have h2 : (256 : Int) ^ (pc.take k).length ≤ 256 ^ 7 := by
          have := Nat.pow_le_pow_right (n := 256) (by omega) h1
          exact_mod_cast this
        have h3 : (256 : Int) ^ 7 = 72057594037927936 := by decide
        omega
      clear e v1
      go_wp2
      go_round
      case rel =>
        refine ⟨k + 1, by omega, by go_num, ?_⟩
        rw [hst.out, ← or64 _ _ v0 hv1 (by omega) (by omega)]
      case measure => simp [intOf]; omega
    · obtain rfl : k = n := by omega
      go_wp2
      go_ret
      refine ⟨?_, hrd.out, hx.out⟩
      rw [show (((8 : Nat) : Int)) = 8 from rfl, hpc.out, List.take_of_length_le (by have := hn.out; omega)]; rfl

end Go.Proofs.YtpjekppljaekoaaGreatDoor
namespace Go.Proofs.YtpjekppljaekoaaGreatDoor
open Go Go.RowKit

set_option maxRecDepth 100000 in
set_option maxHeartbeats 400000 in
theorem rbyte_calls (g : Nat) (r : RdS) (w : World) (hr : ReaderAt w g r) : Calls Tryz.prog 115 #[.pointer (some ⟨g, 0, none⟩)] w (ReadPost .u8 1 g r w) := by
  have hR := read8_calls g r w hr
  unfold ReadPost at *
  generalize valOf ((r.piece ((1 : Nat) : Int)).getD []) = V at *
  clear hr
  go_enter Tryz.func115, Tryz.ntmps115
  go_wp2_with (go_at_call 190; refine hR.mono ?_; rintro e w1 ⟨rfl, hrd, hx⟩; replace hrd := Lib.hid hrd; replace hx := Lib.hid hx)
  go_ret
  exact ⟨rfl, hrd.out, hx.out⟩

set_option maxRecDepth 100000 in
set_option maxHeartbeats 400000 in
theorem rshort_calls (g : Nat) (r : RdS) (w : World) (hr : ReaderAt w g r) : Calls Tryz.prog 168 #[.pointer (some ⟨g, 0, none⟩)] w (ReadPost .u16 2 g r w) := by
  have hR := read16_calls g r w hr
  unfold ReadPost at *
  generalize valOf ((r.piece ((2 : Nat) : Int)).getD []) = V at *
  clear hr
  go_enter Tryz.func168, Tryz.ntmps168
  go_wp2_with (go_at_call 232; refine hR.mono ?_; rintro e w1 ⟨rfl, hrd, hx⟩; replace hrd := Lib.hid hrd; replace hx := Lib.hid hx)
  go_ret
  exact ⟨rfl, hrd.out, hx.out⟩

set_option maxRecDepth 100000 in
set_option maxHeartbeats 400000 in
theorem rword_calls (g : Nat) (r : RdS) (w : World) (hr : ReaderAt w g r) : Calls Tryz.prog 117 #[.pointer (some ⟨g, 0, none⟩)] w (ReadPost .u32 4 g r w) := by
  have hR := read32_calls g r w hr
  unfold ReadPost at *
  generalize valOf ((r.piece ((4 : Nat) : Int)).getD []) = V at *
  clear hr
  go_enter Tryz.func117, Tryz.ntmps117
  go_wp2_with (go_at_call 192; refine hR.mono ?_; rintro e w1 ⟨rfl, hrd, hx⟩; replace hrd := Lib.hid hrd; replace hx := Lib.hid hx)
  go_ret
  exact ⟨rfl, hrd.out, hx.out⟩

set_option maxRecDepth 100000 in
set_option maxHeartbeats 400000 in
theorem rlong_calls (g : Nat) (r : RdS) (w : World) (hr : ReaderAt w g r) : Calls Tryz.prog 116 #[.pointer (some ⟨g, 0, none⟩)] w (ReadPost .u64 8 g r w) := by
  have hR := read64_calls g r w hr
  unfold ReadPost at *
  generalize valOf ((r.piece ((8 : Nat) : Int)).getD []) = V at *
  clear hr
  go_enter Tryz.func116, Tryz.ntmps116
  go_wp2_with (go_at_call 191; refine hR.mono ?_; rintro e w1 ⟨rfl, hrd, hx⟩; replace hrd := Lib.hid hrd; replace hx := Lib.hid hx)
  go_ret
  exact ⟨rfl, hrd.out, hx.out⟩

def RawPost (g : Nat) (r : RdS) (n : Int) (w : World) (e : Ending) (w' : World) : Prop :=
  ∃ v, e = .returned v ∧ Bs w' (w.heap.size ≤ ·) v ((r.piece n).getD []) ∧ ReaderAt w' g (r.next n) ∧ Ext [g] w w'

theorem piece_le (r : RdS) (n : Int) : ((r.piece n).getD []).length ≤ r.l.length := by
  unfold RdS.piece
  split
  · simp
  · simp [List.length_take, List.length_drop]; omega

set_option maxRecDepth 100000 in
set_option maxHeartbeats 400000 in
theorem rraw_calls (g : Nat) (r : RdS) (n : Int) (w : World) (hr : ReaderAt w g r) (hn : n ≤ 4611686018427387904) (hn0 : -4611686018427387904 ≤ n) :
    Calls Tryz.prog 118 #[.pointer (some ⟨g, 0, none⟩), .int .i64 n] w (RawPost g r n w) := by
  have hN := next_calls g r n w hr hn hn0
  have hl : ((r.piece n).getD []).length ≤ 100000000 := Nat.le_trans (piece_le r n) hr.2.1
  replace hl := Lib.hid hl
  clear hr
  go_enter Tryz.func118, Tryz.ntmps118
  go_wp2_with (first | (go_at_call 193; refine hN.mono ?_; rintro e w1 ⟨v, rfl, hb, hrd, hx⟩; replace hb := Lib.hid hb; replace hrd := Lib.hid hrd; replace hx := Lib.hid hx) | (go_at_call 183; refine (clone_calls _ _ _ _ hb.out hl.out).mono ?_; rintro e w2 ⟨v2, rfl, hb2, hx2⟩; replace hb2 := Lib.hid hb2; replace hx2 := Lib.hid hx2))
  go_ret
  exact ⟨_, rfl, hb2.out.imp (fun k _ hk => Nat.le_trans hx.out.size hk), hrd.out.keep hx2.out, hx.out.new hx2.out⟩

def OpenPost (l : List UInt8) (w : World) (e : Ending) (w' : World) : Prop :=
  ∃ g, e = .returned (.pointer (some ⟨g, 0, none⟩)) ∧ w.heap.size ≤ g ∧ ReaderAt w' g ⟨l, 0, false⟩ ∧ Ext [] w w'

set_option maxRecDepth 100000 in
set_option maxHeartbeats 400000 in
theorem ropen_calls (p : Nat → Prop) (v : Value) (l : List UInt8) (w : World) (hb : Bs w p v l) (hl : l.length ≤ 100000000) :
    Calls Tryz.prog 114 #[v] w (OpenPost l w) := by
  have hC := clone_calls p v l w hb hl
  replace hl := Lib.hid hl
  clear hb
  go_enter Tryz.func114, Tryz.ntmps114
  go_wp2_with (go_at_call 183; refine hC.mono ?_; rintro e w2 ⟨v2, rfl, hb2, hx2⟩; have hb2' := hb2; obtain ⟨A, c, rfl, _⟩ := hb2; replace hb2' := Lib.hid hb2'; replace hx2 := Lib.hid hx2)
  go_ret
  refine ⟨w2.heap.size, rfl, hx2.out.size, ⟨Nat.zero_le _, hl.out, _, Blk.new _ _ _, ?_⟩, hx2.out.alloc _⟩
  exact (hb2'.out.imp (fun k hk _ => Nat.ne_of_lt hk)).keep ((Ext.refl _ _).alloc _)
end Go.Proofs.YtpjekppljaekoaaGreatDoor
namespace Go.Proofs.YtpjekppljaekoaaGreatDoor
open Go Go.RowKit

structure Parsed where
  tag : Int
  num : Int
  size : Int
  data : List UInt8
  sum : Int
  fin : RdS

def parse (l : List UInt8) : Parsed :=
  let r0 : RdS := ⟨l, 0, false⟩
  let r1 := r0.next 1
  let r2 := r1.next 8
  let r3 := r2.next 4
  let size := valOf ((r2.piece 4).getD [])
  let r4 := r3.next size
  ⟨valOf ((r0.piece 1).getD []), valOf ((r1.piece 8).getD []), size, (r3.piece size).getD [], valOf ((r4.piece 4).getD []), r4.next 4⟩

/-- What Read refuses of a file's bytes. -/
def wrongC (a : Int) (k : Int) (l : List UInt8) : Prop :=
  a ≠ 0 ∨ (parse l).fin.bad = true ∨ 0 < ((parse l).fin.l.length : Int) - (parse l).fin.pos ∨ (parse l).tag ≠ 67 ∨ (parse l).num ≠ k ∨ 4194304 < (parse l).size ∨ (parse l).sum ≠ crcI (l.take (l.length - 4))
instance (a k : Int) (l : List UInt8) : Decidable (wrongC a k l) := by unfold wrongC; infer_instance

def DiskS.readC (s : DiskS) (k : Int) : List UInt8 × Int :=
  if k < 0 ∨ 1073741824 < k then ([], 2)
  else if (s.read (nameOf k)).2 = 160 then ([], 160)
  else if wrongC (s.read (nameOf k)).2 k (s.read (nameOf k)).1 then ([], 190)
  else ((parse (s.read (nameOf k)).1).data, 0)

def ReadCPost (R : List UInt8 × Int) (w : World) (e : Ending) (w' : World) : Prop :=
  ∃ v, e = .returned (.tuple #[v, .int .i64 R.2]) ∧ Bs w' (w.heap.size ≤ ·) v R.1 ∧ Ext [] w w'

theorem next_l (r : RdS) (n : Int) : (r.next n).l = r.l := by
  unfold RdS.next; split <;> rfl
theorem next_bad {r : RdS} {n : Int} (h : (r.next n).bad = false) : r.bad = false ∧ 0 ≤ n ∧ n ≤ (r.l.length : Int) - r.pos ∧ (r.next n).pos = r.pos + n.toNat := by
  unfold RdS.next at h ⊢
  split at h
  · cases h
  · next hc =>
    rw [if_neg hc]
    simp only [not_or] at hc
    exact ⟨by simpa using hc.1, by omega, by omega, rfl⟩
theorem parse_long {l : List UInt8} (h : (parse l).fin.bad = false) : 17 ≤ l.length := by
  generalize hz : (parse l).size = z
  have h0 : ((((((⟨l, 0, false⟩ : RdS).next 1).next 8).next 4).next z).next 4).bad = false := by rw [← hz]; exact h
  obtain ⟨h4, h5, h6, h7⟩ := next_bad h0
  obtain ⟨h14, h15, h16, h17⟩ := next_bad h4
  obtain ⟨h24, h25, h26, h27⟩ := next_bad h14
  obtain ⟨h34, h35, h36, h37⟩ := next_bad h24
  obtain ⟨h44, h45, h46, h47⟩ := next_bad h34
  simp only [next_l] at h6 h16 h26 h36 h46
  have e1 : (4 : Int).toNat = 4 := rfl
  have e2 : (8 : Int).toNat = 8 := rfl
  have e3 : (1 : Int).toNat = 1 := rfl
  rw [e1] at h7
  rw [e1] at h27
  rw [e2] at h37
  rw [e3] at h47
  change _ = 0 + 1 at h47
  omega

set_option maxRecDepth 100000 in
set_option maxHeartbeats 1000000 in
theorem readC_early (gs _d : Nat) (s : DiskS) (k : Int) (w : World) (he : k < 0 ∨ 1073741824 < k) :
    Calls Tryz.prog 42 #[.pointer (some ⟨gs, 0, none⟩), .int .i64 k] w (ReadCPost (s.readC k) w) := by
  have hR : s.readC k = ([], 2) := by unfold DiskS.readC; rw [if_pos he]
  generalize s.readC k = R at *
  subst hR
  by_cases h3 : k < 0
  · clear he
    go_enter Tryz.func42, Tryz.ntmps42
    go_wp2
    go_ret2
    exact ⟨_, rfl, Bs.nil, Ext.refl _ _⟩
  · have h4 : 1073741824 < k := by omega
    have h5 : 0 ≤ k := by omega
    clear he h3
    go_enter Tryz.func42, Tryz.ntmps42
    go_wp2
    go_ret2
    exact ⟨_, rfl, Bs.nil, Ext.refl _ _⟩
end Go.Proofs.YtpjekppljaekoaaGreatDoor

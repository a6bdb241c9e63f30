/- Contracts of package crc: up, halves, Sum. Contracts of package ckpt: file. The library's variables as they lie; strconv.Itoa, strconv.Atoi; ckpt.name. Contracts of package ckpt: the steps of Write. What Write makes of a disk, in plain words. Contracts of package ckpt: Write. -/
import Derived.Test.YtpjekppljaekoaaGreatDoorProg
import Derived.Test.YtpjekppljaekoaaGreatDoorKA01
import Derived.Test.YtpjekppljaekoaaGreatDoorKA06
import Derived.Test.YtpjekppljaekoaaGreatDoorKA05
import Derived.Lib.ItoaLen
import Derived.Test.YtpjekppljaekoaaGreatDoorKA04
import Derived.Deep.RegionHeld3
namespace Go.Proofs.YtpjekppljaekoaaGreatDoor
open Go Go.RowKit

set_option maxHeartbeats 400000 in
theorem up_calls (r : Int) (w : World) (_h0 : 0 ≤ r) (_h1 : r ≤ 4294967295) :
    Calls Tryz.prog 226 #[.int .u32 r] w fun e w' => e = .returned (.int .u32 (upI r)) ∧ w = w' := by
  by_cases h : (bits .and .u32 r 1 == 1) = true
  · have e : upI r = bits .xor .u32 (r / 2) 2197175160 := by unfold upI; rw [if_pos h]
    have e := Lib.hid e
    go_enter Tryz.func226, Tryz.ntmps226
    go_wp2
    go_ret
    exact ⟨by rw [e.out]; rfl, rfl⟩
  · have e : upI r = r / 2 := by unfold upI; rw [if_neg h]
    have e := Lib.hid e
    have h := eq_false_of_ne_true h
    go_enter Tryz.func226, Tryz.ntmps226
    go_wp2
    go_ret
    exact ⟨by rw [e.out]; rfl, rfl⟩

set_option maxHeartbeats 400000 in
theorem leave_calls (r : Int) (w : World) (h0 : 0 ≤ r) (h1 : r ≤ 4294967295) :
    Calls Tryz.prog 225 #[.int .u32 r] w fun e w' => e = .returned (.int .u32 (leaveI r)) ∧ w = w' := by
  go_enter Tryz.func225, Tryz.ntmps225
  go_wp2
  go_loop [0, 3] (fun t i => ∃ k : Nat, k ≤ 4 ∧ i = .int .i64 k ∧ t = .int .u32 (upN r k)) (fun _ i => 4 - (intOf i).toNat)
  case atStart => exact ⟨0, by omega, rfl, rfl⟩
  case round =>
    obtain ⟨k, hk, rfl, rfl⟩ := hrel
    obtain ⟨b0, b1⟩ := upN_u32 r k h0 h1
    by_cases hlt : k < 4
    · go_wp2_with (go_at_call 226; refine (up_calls _ _ b0 b1).mono ?_; rintro e w' ⟨rfl, rfl⟩)
      go_round
      case rel => exact ⟨k + 1, by omega, by go_num, rfl⟩
      case measure => simp [intOf]; omega
    · obtain rfl : k = 4 := by omega
      go_wp2
      go_ret
      exact ⟨rfl, rfl⟩

set_option maxHeartbeats 400000 in
theorem halves_calls (w : World) :
    Calls Tryz.prog 154 #[] w fun e w' => e = .returned (.agg (tabTo 16)) ∧ Ext [] w w' := by
  go_enter Tryz.func154, Tryz.ntmps154
  go_wp2
  go_loopw [3] (fun i wr => ∃ k : Nat, k ≤ 16 ∧ i = .int .i64 k ∧ Blk wr w.heap.size 254 (tabTo k) ∧ Ext [] w wr) (fun i _ => 16 - (intOf i).toNat)
  case atStart => exact ⟨0, by omega, rfl, Blk.new _ _ _, (Ext.refl _ _).alloc _⟩
  case round =>
    obtain ⟨k, hk, rfl, hb, hx⟩ := hrel
    by_cases hlt : k < 16
    · have hc := (hb.cell k).trans (tab_at k k hlt)
      have hf := hb.froz k
      replace hb := Lib.hid hb
      replace hx := Lib.hid hx
      go_wp2_with (go_at_call 225; refine (leave_calls _ _ (by omega) (by omega)).mono ?_; rintro e w' ⟨rfl, rfl⟩)
      go_roundw
      case rel => exact ⟨k + 1, by omega, by go_num, by rw [← tab_set k hlt]; exact hb.out.set k _, hx.out.set (.inr (Nat.le_refl _)) _⟩
      case measure => simp [intOf]; omega
    · obtain rfl : k = 16 := by omega
      replace hb := Lib.hid hb
      replace hx := Lib.hid hx
      go_wp2_with (first | refine wpList_load_row rfl 254 _ rfl _ rfl _ _ _ _ hb.out Tryz.underlying254 rfl (by kernel_rfl) ?_ | (refine wpList_store_whole rfl 254 _ _ rfl _ rfl _ rfl _ _ hb.out (by kernel_rfl) rfl (by kernel_rfl) ?_; intro w2 hb2 hx2))
      refine bodyPost_ret (results_cell_row rfl _ _ _ _ _ _ _ rfl hb2 Tryz.underlying254 rfl (by kernel_rfl)) rfl ⟨rfl, ?_⟩
      exact hx.out.trans hx2 (by simp)

theorem crcTo_u32 (l : List UInt8) : 0 ≤ crcTo l ∧ crcTo l ≤ 4294967295 := by
  rcases List.eq_nil_or_concat l with rfl | ⟨l, c, rfl⟩
  · exact ⟨by decide, by decide⟩
  · rw [List.concat_eq_append, crcTo_snoc]; unfold byteI halfI; exact bits_u32 _ _ _

set_option maxHeartbeats 400000 in
theorem sum_calls (A : Option Addr) (n c : Nat) (l : List UInt8) (w : World) (hl : l.length = n) (p : Nat → Prop) (hr : Row w p A (l.map bv)) (hn : n ≤ 9223372036854775807) :
    Calls Tryz.prog 68 #[.slice A n c] w fun e w' => e = .returned (.int .u32 (crcI l)) ∧ Ext [] w w' := by
  replace hl := Lib.hid hl
  replace hr := Lib.hid hr
  go_enter Tryz.func68, Tryz.ntmps68
  go_wp2_with (first | (go_at_call 154; refine (halves_calls _).mono ?_; rintro e w1 ⟨rfl, hx1⟩; have hx1 := Lib.hid hx1) | (refine wpList_store_whole rfl 254 _ _ rfl _ rfl _ rfl _ _ (Blk.new _ _ _) (by kernel_rfl) rfl (by kernel_rfl) ?_; intro w2 hb2 hx2))
  have hxx : Ext [] w w2 := (hx1.out.alloc _).trans hx2 (by have := hx1.out.size; simp; omega)
  clear hx1 hx2
  go_loop [4, 10] (fun t i => ∃ k : Nat, k ≤ n ∧ i = .int .i64 k ∧ t = .int .u32 (crcTo (l.take k))) (fun _ i => n - (intOf i).toNat)
  case atStart => exact ⟨0, by omega, rfl, rfl⟩
  case round =>
    obtain ⟨k, hk, rfl, rfl⟩ := hrel
    by_cases hlt : k < n
    · have e : l[k]? = some (l[k]'(by have := hl.out; omega)) := List.getElem?_eq_getElem _
      generalize l[k]'(by have := hl.out; omega) = ch at e
      obtain ⟨g, o, rfl, hg, _, hc⟩ := (hr.out.keep hxx).at (k := k) (u := bv ch) (by rw [List.getElem?_map, e]; rfl)
      unfold bv at hc
      have hch := ch.toNat_lt
      have hst : crcTo (l.take (k + 1)) = byteI (crcTo (l.take k)) ch := by rw [← crcTo_snoc, List.take_add_one, e]; rfl
      replace hst := Lib.hid hst
      clear e
      obtain ⟨p0, p1⟩ := bits_u32 .xor (crcTo (l.take k)) (ch.toNat : Int)
      obtain ⟨i0, i1⟩ := and15 _ p0 p1
      have hc1 := (hb2.cell _).trans (tab_cell _ i0 i1)
      obtain ⟨q0, q1⟩ := bits_u32 .xor (bits .xor .u32 (crcTo (l.take k)) (ch.toNat : Int) / 16) (leaveI (bits .and .u32 (bits .xor .u32 (crcTo (l.take k)) (ch.toNat : Int)) 15))
      obtain ⟨j0, j1⟩ := and15 _ q0 q1
      have hc2 := (hb2.cell _).trans (tab_cell _ j0 j1)
      clear p1 q1
      go_wp2
      go_round
      case rel => exact ⟨k + 1, by omega, by go_num, by rw [hst.out]; rfl⟩
      case measure => simp [intOf]; omega
    · obtain rfl : k = n := by omega
      go_wp2
      go_ret
      refine ⟨?_, hxx⟩
      rw [List.take_of_length_le (by have := hl.out; omega)]; rfl
end Go.Proofs.YtpjekppljaekoaaGreatDoor
namespace Go.Proofs.YtpjekppljaekoaaGreatDoor
open Go Go.RowKit

def bodyL (k : Int) (b : List UInt8) : List UInt8 := be 1 67 ++ (be 8 k ++ (be 4 (b.length : Int) ++ b))
def fileL (k : Int) (b : List UInt8) : List UInt8 := bodyL k b ++ be 4 (crcI (bodyL k b))

theorem crcI_range (l : List UInt8) : 0 ≤ crcI l ∧ crcI l ≤ 4294967295 := bits_u32 _ _ _

set_option maxRecDepth 100000 in
set_option maxHeartbeats 1000000 in
theorem file_calls (k : Int) (bv' : Value) (b : List UInt8) (p : Nat → Prop) (w : World) (hb : Bs w p bv' b) (h0 : 0 ≤ k) (h1 : k ≤ 1073741824) (hl : b.length ≤ 4194304) :
    Calls Tryz.prog 104 #[.int .i64 k, bv'] w (NewBs (fileL k b) w) := by
  have hb' : Bs w (fun g => g < w.heap.size) bv' b := hb.imp fun g hg _ => hg
  obtain ⟨B, c, rfl, _⟩ := hb
  have hx0 : Ext [] w (w.alloc (.cells #[.pointer none, .int .i64 0] 248)) := (Ext.refl [] w).alloc _
  have hw0 : WriterAt (w.alloc (.cells #[.pointer none, .int .i64 0] 248)) w.heap.size [] := ⟨none, Blk.new w 248 _, rfl⟩
  have hl' : (b.length : Int) ≤ 4194304 := by omega
  have s1 : IntKind.u64.wrap k = k := by rw [IntKind.wrap_u64]; omega
  have s2 : IntKind.u32.wrap (b.length : Int) = b.length := by rw [IntKind.wrap_u32]; omega
  have e1 := be_length 1 67
  have e8 := be_length 8 k
  have e4 := be_length 4 (b.length : Int)
  have hbl : [b, be 4 (b.length : Int), be 8 k, be 1 67].reverse.flatten = bodyL k b := by simp [bodyL]
  have hfl : (be 4 (crcI (bodyL k b)) :: [b, be 4 (b.length : Int), be 8 k, be 1 67]).reverse.flatten = fileL k b := by simp [fileL, bodyL]
  have hlen : ([b, be 4 (b.length : Int), be 8 k, be 1 67] : List (List UInt8)).flatten.length = b.length + 13 := by simp only [List.flatten_cons, List.flatten_nil, List.length_append, List.length_nil, e1, e4, e8]
  have hlen5 : (be 4 (crcI (bodyL k b)) :: [b, be 4 (b.length : Int), be 8 k, be 1 67]).flatten.length = b.length + 17 := by rw [List.flatten_cons, List.length_append, hlen, be_length]; omega
  have hb2 : ([be 1 67] : List (List UInt8)).flatten.length ≤ 100 := by simp only [List.flatten_cons, List.flatten_nil, List.length_append, List.length_nil, e1]; omega
  have hb3 : ([be 8 k, be 1 67] : List (List UInt8)).flatten.length ≤ 100 := by simp only [List.flatten_cons, List.flatten_nil, List.length_append, List.length_nil, e1, e8]; omega
  have hb4 : ([be 4 (b.length : Int), be 8 k, be 1 67] : List (List UInt8)).flatten.length ≤ 100 := by simp only [List.flatten_cons, List.flatten_nil, List.length_append, List.length_nil, e1, e4, e8]; omega
  have hcr := crcI_range (bodyL k b)
  have hcl : (bodyL k b).length = b.length + 13 := by rw [← hbl, ← hlen]; simp only [List.reverse_cons, List.reverse_nil, List.nil_append, List.cons_append, List.flatten_cons, List.flatten_nil, List.length_append, List.length_nil]; omega
  replace hb' := Lib.hid hb'
  replace hx0 := Lib.hid hx0
  replace hw0 := Lib.hid hw0
  replace e1 := Lib.hid e1
  replace e4 := Lib.hid e4
  replace e8 := Lib.hid e8
  replace hbl := Lib.hid hbl
  replace hfl := Lib.hid hfl
  replace hlen := Lib.hid hlen
  replace hlen5 := Lib.hid hlen5
  replace hb2 := Lib.hid hb2
  replace hb3 := Lib.hid hb3
  replace hb4 := Lib.hid hb4
  replace hcr := Lib.hid hcr
  replace hcl := Lib.hid hcl
  replace hl := Lib.hid hl
  go_enter Tryz.func104, Tryz.ntmps104
  go_wp2_with (first
    | (go_at_call 150; refine (wbyte_calls w.heap.size [] 67 _ hw0.out (by omega) (by omega) (by simp)).mono ?_; rintro e w1 ⟨rfl, hw1, hx1⟩; replace hw1 := Lib.hid hw1; replace hx1 := Lib.hid hx1)
    | (go_at_call 151; refine (wlong_calls w.heap.size [be 1 67] k _ hw1.out h0 (by omega) (by have := hb2.out; omega)).mono ?_; rintro e w2 ⟨rfl, hw2, hx2⟩; replace hw2 := Lib.hid hw2; replace hx2 := Lib.hid hx2)
    | (go_at_call 153; refine (out_calls w.heap.size _ _ hw6.out (by have := hlen5.out; have := hl.out; omega)).mono ?_; rintro e w7 ⟨v7, rfl, hv7, hx7⟩; replace hv7 := Lib.hid hv7; replace hx7 := Lib.hid hx7)
    | (go_at_call 181; refine (wword_calls w.heap.size [b, be 4 (b.length : Int), be 8 k, be 1 67] (crcI (bodyL k b)) _ (hw4.out.keep hx5.out |>.keep hxs.out) hcr.out.1 (by have := hcr.out.2; omega) (by have := hlen.out; have := hl.out; omega)).mono ?_; rintro e w6 ⟨rfl, hw6, hx6⟩; replace hw6 := Lib.hid hw6; replace hx6 := Lib.hid hx6)
    | (go_at_call 181; refine (wword_calls w.heap.size [be 8 k, be 1 67] (b.length : Int) _ hw2.out (by omega) (by omega) (by have := hb3.out; omega)).mono ?_; rintro e w3 ⟨rfl, hw3, hx3⟩; replace hw3 := Lib.hid hw3; replace hx3 := Lib.hid hx3)
    | (go_at_call 152; refine (wraw_calls w.heap.size [be 4 (b.length : Int), be 8 k, be 1 67] (fun g => g < w.heap.size) _ b _ hw3.out ((((hb'.out.keep hx0.out).ext hx1.out (fun g _ hg => by simp; omega)).ext hx2.out (fun g _ hg => by simp; omega)).ext hx3.out (fun g _ hg => by simp; omega)) (by have := hb4.out; have := hl.out; omega)).mono ?_; rintro e w4 ⟨rfl, hw4, hx4⟩; replace hw4 := Lib.hid hw4; replace hx4 := Lib.hid hx4)
    | (go_at_call 153; refine (out_calls w.heap.size _ _ hw4.out (by have := hlen.out; have := hl.out; omega)).mono ?_; rintro e w5 ⟨v5, rfl, hv5, hx5⟩; rw [hbl.out] at hv5; obtain ⟨A5, c5, rfl, _, _, _, hr5⟩ := hv5; replace hr5 := Lib.hid hr5; replace hx5 := Lib.hid hx5)
    | (go_at_call 68; refine (sum_calls A5 _ c5 (bodyL k b) _ rfl _ hr5.out (by have := hcl.out; have := hl.out; omega)).mono ?_; rintro e ws ⟨rfl, hxs⟩; replace hxs := Lib.hid hxs))
  go_ret
  have := hv7.out
  rw [hfl.out] at this
  have X : ∀ {a b}, Ext [w.heap.size] a b → Ext [] w a → Ext [] w b := fun hab hwa => hwa.trans hab fun k hk hl => by simp at hk; omega
  have y1 := X hx1.out hx0.out
  have y2 := X hx2.out y1
  have y3 := X hx3.out y2
  have y4 := X hx4.out y3
  have y5 := (y4.new hx5.out).new hxs.out
  have y6 := X hx6.out y5
  have := y6.size
  exact ⟨_, rfl, ‹Bs w7 _ v7 (fileL k b)›.imp fun g _ hg => by omega, y6.new hx7.out⟩
end Go.Proofs.YtpjekppljaekoaaGreatDoor
namespace Go.Proofs.YtpjekppljaekoaaGreatDoor
open Go Go.RowKit

/-- What the library's code reads of its own variables. -/
structure Lai (w : World) : Prop where
  tab : Lib.TabIs Tryz.prog w "internal/strconv.uint64pow10" .u64 Lib.pow10Tab
  syn : ∃ tp p, w.var? Tryz.prog "strconv.ErrSyntax" = some #[.iface tp p]
  rng : ∃ tp p, w.var? Tryz.prog "strconv.ErrRange" = some #[.iface tp p]
  big : 6 ≤ w.heap.size

theorem glob1 : Tryz.prog.globalNamed "strconv.ErrSyntax" = some 1 := by kernel_rfl
theorem glob2 : Tryz.prog.globalNamed "strconv.ErrRange" = some 2 := by kernel_rfl
theorem glob3 : Tryz.prog.globalNamed "internal/strconv.uint64pow10" = some 3 := by kernel_rfl

theorem var_ext {F : List Nat} {w w' : World} {name : String} {g : Nat} {cs : Array Value} (hg : Tryz.prog.globalNamed name = some g) (h : w.var? Tryz.prog name = some cs) (hx : Ext F w w') (hn : g ∉ F) : w'.var? Tryz.prog name = some cs := by
  unfold World.var? at h ⊢
  rw [hg] at h ⊢
  simp only [Option.bind_some] at h ⊢
  have hlt : g < w.heap.size := by
    rcases Nat.lt_or_ge g w.heap.size with h1 | h1
    · exact h1
    · rw [Array.getElem?_eq_none h1] at h; cases h
  rw [hx.block g hlt hn]
  exact h

theorem Lai.ext {F : List Nat} {w w' : World} (h : Lai w) (hx : Ext F w w') (hF : ∀ k ∈ F, 6 ≤ k) : Lai w' := by
  have n1 : 1 ∉ F := fun hk => by have := hF 1 hk; omega
  have n2 : 2 ∉ F := fun hk => by have := hF 2 hk; omega
  have n3 : 3 ∉ F := fun hk => by have := hF 3 hk; omega
  obtain ⟨t1, p1, h1⟩ := h.syn
  obtain ⟨t2, p2, h2⟩ := h.rng
  exact ⟨var_ext glob3 h.tab hx n3, ⟨t1, p1, var_ext glob1 h1 hx n1⟩, ⟨t2, p2, var_ext glob2 h2 hx n2⟩, Nat.le_trans h.big hx.size⟩
theorem Lai.keep {w w' : World} (h : Lai w) (hx : Ext [] w w') : Lai w' := h.ext hx fun _ h => by cases h

theorem ext_grow (w : World) (k : Nat) (os : Array Obj) : Ext [] w (Sort.grow (w.drewN k) os) :=
  ⟨rfl, rfl, rfl, by simp [Sort.grow], fun i hi _ => by
    show (w.heap ++ os)[i]? = w.heap[i]?
    rw [Array.getElem?_append_left hi]⟩

def itoaN (k : Int) : ByteArray := ⟨(Lib.itoa k).toArray⟩
def nameOf (k : Int) : ByteArray := ⟨#[99, 107, 46]⟩ ++ itoaN k
theorem itoaN_size (k : Int) (h0 : -9223372036854775808 ≤ k) (h1 : k ≤ 9223372036854775807) : (itoaN k).size ≤ 21 := by
  show (Lib.itoa k).toArray.size ≤ 21
  rw [List.size_toArray]
  exact Lib.itoa_length_le k h0 h1

theorem itoa_calls (k : Int) (w : World) (h0 : -9223372036854775808 ≤ k) (h1 : k ≤ 9223372036854775807) (hL : Lai w) :
    Calls Tryz.prog 185 #[.int .i64 k] w fun e w' => e = .returned (.string (itoaN k)) ∧ Ext [] w w' := by
  refine (Tryz.strconv_Itoa k h0 h1 w hL.tab).mono ?_
  rintro e w' ⟨rfl, n, os, rfl⟩
  exact ⟨rfl, ext_grow w n os⟩

set_option maxRecDepth 100000 in
set_option maxHeartbeats 400000 in
theorem name_calls (k : Int) (w : World) (h0 : -9223372036854775808 ≤ k) (h1 : k ≤ 9223372036854775807) (hL : Lai w) :
    Calls Tryz.prog 109 #[.int .i64 k] w fun e w' => e = .returned (.string (nameOf k)) ∧ Ext [] w w' := by
  have hC := itoa_calls k w h0 h1 hL
  have hsz := itoaN_size k h0 h1
  clear hL
  go_enter Tryz.func109, Tryz.ntmps109
  go_wp2_with (go_at_call 185; refine hC.mono ?_; rintro e w1 ⟨rfl, hx⟩; replace hx := Lib.hid hx)
  go_ret
  exact ⟨rfl, hx.out⟩

def AtoiPost (l : List UInt8) (w : World) (e : Ending) (w' : World) : Prop :=
  (∃ v ev, e = .returned (.tuple #[.int .i64 v, ev]) ∧ ((∃ n, Lib.atoiAll l = .ok n ∧ v = n ∧ ev = .nilIface) ∨ ((∀ n, Lib.atoiAll l ≠ .ok n) ∧ ∃ tp p, ev = .iface tp p))) ∧ Ext [] w w'

theorem ext_bytesWorld (w : World) (t : ByteArray) : Ext [] w (Lib.bytesWorld w 5 t) := Ext.ofBelow ⟨rfl, rfl, rfl, by rw [Lib.bytesWorld_size]; omega, fun j hj => Lib.bytesWorld_at_old w 5 t j hj⟩

theorem atoi_calls (s : ByteArray) (w : World) (hs : s.size ≤ 1000000) (hL : Lai w) : Calls Tryz.prog 187 #[.string s] w (AtoiPost s.data.toList w) := by
  cases h : Lib.atoiAll s.data.toList with
  | ok v =>
    refine (Tryz.strconv_Atoi_ok s (by omega) v h w).mono ?_
    rintro e w' ⟨rfl, hw⟩
    refine ⟨⟨v, .nilIface, rfl, .inl ⟨v, h, rfl, rfl⟩⟩, ?_⟩
    rcases hw with rfl | ⟨t, rfl⟩
    · exact Ext.refl _ _
    · exact ext_bytesWorld w t
  | range =>
    obtain ⟨tp, p, hv⟩ := hL.rng
    refine (Tryz.strconv_Atoi_range_var s (by omega) h tp p w hv).mono ?_
    rintro e w' ⟨N, rfl, _, _, hb⟩
    exact ⟨⟨_, _, rfl, .inr ⟨(fun n e => by rw [h] at e; cases e), _, _, rfl⟩⟩, Ext.ofBelow hb⟩
  | _ =>
    obtain ⟨tp, p, hv⟩ := hL.syn
    refine (Tryz.strconv_Atoi_syntax_var s (by omega) h tp p w hv).mono ?_
    rintro e w' ⟨N, rfl, _, _, hb⟩
    exact ⟨⟨_, _, rfl, .inr ⟨(fun n e => by rw [h] at e; cases e), _, _, rfl⟩⟩, Ext.ofBelow hb⟩
end Go.Proofs.YtpjekppljaekoaaGreatDoor
namespace Go.Proofs.YtpjekppljaekoaaGreatDoor
open Go Go.RowKit

theorem NewBs.form {l : List UInt8} {w w' : World} {e : Ending} (h : NewBs l w e w') : ∃ A c, e = .returned (.slice A l.length c) ∧ Bs w' (w.heap.size ≤ ·) (.slice A l.length c) l ∧ Ext [] w w' := by
  obtain ⟨v, rfl, hb, hx⟩ := h
  obtain ⟨A, c, rfl, _⟩ := id hb
  exact ⟨A, c, rfl, hb, hx⟩

/-- What Write's steps share: a store, a step's number, bytes. -/
structure Boxes (w : World) (d k0 k1 k2 gs : Nat) (k : Int) (bv' : Value) (b : List UInt8) : Prop where
  s : Blk w k0 89 #[.pointer (some ⟨gs, 0, none⟩)]
  n : Blk w k1 3 #[.int .i64 k]
  c : Blk w k2 25 #[bv']
  st : Blk w gs 193 #[.pointer (some ⟨d, 0, none⟩)]
  bs : Bs w (fun _ => True) bv' b

theorem fileL_length (k : Int) (b : List UInt8) : (fileL k b).length = b.length + 17 := by
  simp only [fileL, bodyL, List.length_append, be_length]
  omega

set_option maxRecDepth 100000 in
set_option maxHeartbeats 1000000 in
theorem write1_calls (d k0 k1 k2 gs : Nat) (k : Int) (bv' : Value) (b : List UInt8) (sv : Value) (s : DiskS) (w : World) (h : DiskAt w d sv s) (hB : Boxes w d k0 k1 k2 gs k bv' b) (n0 : k0 ∉ DF d sv) (n1 : k1 ∉ DF d sv) (n2 : k2 ∉ DF d sv) (ns : gs ∉ DF d sv)
    (hs : s.steps < 1000000000000) (hu : usedL s.files + b.length + 17 ≤ 50000000) (hmany : s.files.length < 100000) (h0 : 0 ≤ k) (h1 : k ≤ 1073741824) (hl : b.length ≤ 4194304) :
    Calls Tryz.prog 103 #[.pointer (some ⟨k0, 0, none⟩), .pointer (some ⟨k1, 0, none⟩), .pointer (some ⟨k2, 0, none⟩)] w (DiskPost d sv (s.append tmpN (fileL k b)).1 (s.append tmpN (fileL k b)).2 w) := by
  obtain ⟨B, bc, rfl, hbc⟩ := hB.bs.form
  have hF := file_calls k _ b _ w.drew (hB.bs.keep (Ext.refl [] w).drew) h0 h1 hl
  have hA := fun w1 v (hx : Ext [] w.drew w1) (hv : Bs w1 (w.drew.heap.size ≤ ·) v (fileL k b)) => append_calls d sv s tmpN v (fileL k b) _ w1 (h.keep ((Ext.refl [] w).drew.trans' hx)) hv hs (by rw [fileL_length]; omega) hmany
  unfold tmpN at hA
  change ∀ w1 v, Ext [] w.drew w1 → Bs w1 (w.drew.heap.size ≤ ·) v (fileL k b) → Calls Tryz.prog 55 #[_, .string ⟨#[99, 107, 46, 116, 109, 112]⟩, v] w1 (DiskPost d sv (s.append tmpN (fileL k b)).1 (s.append tmpN (fileL k b)).2 w1) at hA
  generalize (s.append tmpN (fileL k b)).1 = s' at *
  generalize (s.append tmpN (fileL k b)).2 = a' at *
  have c0 := hB.s.drew.cell 0
  have c1 := hB.n.drew.cell 0
  have c2 := hB.c.drew.cell 0
  have cs := hB.st.drew.cell 0
  simp only [List.getElem?_toArray, List.getElem?_cons_zero] at c0 c1 c2 cs
  have hS : ∀ w1, Ext [] w.drew w1 → (w1.cell? ⟨k0, 0, none⟩ = some (.pointer (some ⟨gs, 0, none⟩)) ∧ w1.cell? ⟨k1, 0, none⟩ = some (.int .i64 k) ∧ w1.cell? ⟨k2, 0, none⟩ = some (.slice B b.length bc) ∧ w1.cell? ⟨gs, 0, none⟩ = some (.pointer (some ⟨d, 0, none⟩))) := fun w1 hx => ⟨hx.cell_some c0, hx.cell_some c1, hx.cell_some c2, hx.cell_some cs⟩
  have hS2 : ∀ w1 w2, Ext [] w.drew w1 → Ext (DF d sv) w1 w2 → (w2.cell? ⟨k0, 0, none⟩ = some (.pointer (some ⟨gs, 0, none⟩)) ∧ w2.cell? ⟨k1, 0, none⟩ = some (.int .i64 k) ∧ w2.cell? ⟨k2, 0, none⟩ = some (.slice B b.length bc) ∧ w2.cell? ⟨gs, 0, none⟩ = some (.pointer (some ⟨d, 0, none⟩))) := fun w1 w2 hx hx2 => by
    obtain ⟨q0, q1, q2, qs⟩ := hS w1 hx
    exact ⟨(hx2.cell (World.block_lt_of_cell? _ _ q0) n0).trans q0, (hx2.cell (World.block_lt_of_cell? _ _ q1) n1).trans q1, (hx2.cell (World.block_lt_of_cell? _ _ q2) n2).trans q2, (hx2.cell (World.block_lt_of_cell? _ _ qs) ns).trans qs⟩
  have hfin : ∀ w1 w2 e, Ext [] w.drew w1 → DiskPost d sv s' a' w1 e w2 → DiskPost d sv s' a' w e w2 := by
    rintro w1 w2 e hx ⟨he, sv', h3, hx3, hd3⟩
    have h5 : Ext [] w w1 := (Ext.refl [] w).drew.trans' hx
    have := h5.size
    refine ⟨he, sv', h3, (h5.mono (by simp)).trans' hx3, fun k hk => ?_⟩
    rcases hd3 k hk with h4 | h4
    · exact .inl h4
    · right; omega
  have hR := Ext.refl [] w.drew
  replace h := Lib.hid h
  replace hB := Lib.hid hB
  replace hfin := Lib.hid hfin
  replace hS := Lib.hid hS
  replace hS2 := Lib.hid hS2
  replace n0 := Lib.hid n0
  replace n1 := Lib.hid n1
  replace n2 := Lib.hid n2
  replace ns := Lib.hid ns
  replace hA := Lib.hid hA
  replace hR := Lib.hid hR
  go_enter Tryz.func103, Tryz.ntmps103
  go_wp2_with (fail)
  go_region_held3 (fun w' => w'.cell? ⟨k0, 0, none⟩ = some (.pointer (some ⟨gs, 0, none⟩)) ∧ w'.cell? ⟨k1, 0, none⟩ = some (.int .i64 k) ∧ w'.cell? ⟨k2, 0, none⟩ = some (.slice B b.length bc) ∧ w'.cell? ⟨gs, 0, none⟩ = some (.pointer (some ⟨d, 0, none⟩)))
    (first | exact hS2.out _ _ hx1.out hx2.out | exact hS.out _ hx1.out | exact hS.out _ hR.out)
    (first
      | (go_at_call 104; refine hF.mono ?_; intro e w1 hN; obtain ⟨A1, c1', rfl, hv1, hx1⟩ := hN.form; replace hv1 := Lib.hid hv1; replace hx1 := Lib.hid hx1; clear hN)
      | (go_at_call 55; refine (hA.out _ _ hx1.out hv1.out).mono ?_; rintro e w2 ⟨rfl, sv2, h2, hx2, hd2⟩; replace h2 := Lib.hid h2; replace hx2 := Lib.hid hx2; replace hd2 := Lib.hid hd2))
  all_goals
    go_wp2
    go_ret
    exact hfin.out w1 w2 _ hx1.out ⟨rfl, sv2, h2.out, hx2.out, hd2.out⟩

set_option maxRecDepth 100000 in
set_option maxHeartbeats 400000 in
theorem write2_calls (d k0 gs : Nat) (sv : Value) (s : DiskS) (w : World) (h : DiskAt w d sv s) (hb : Blk w k0 89 #[.pointer (some ⟨gs, 0, none⟩)]) (hst : Blk w gs 193 #[.pointer (some ⟨d, 0, none⟩)]) (hs : s.steps < 1000000000000) :
    Calls Tryz.prog 105 #[.pointer (some ⟨k0, 0, none⟩)] w (DiskPost d sv (s.step 0 tmpN tmpN 0 true).1 (s.step 0 tmpN tmpN 0 true).2 w) := by
  have hC := sync_calls d sv s tmpN w h hs
  unfold tmpN at hC
  change Calls Tryz.prog 106 #[_, .string ⟨#[99, 107, 46, 116, 109, 112]⟩] w (DiskPost d sv (s.step 0 tmpN tmpN 0 true).1 (s.step 0 tmpN tmpN 0 true).2 w) at hC
  generalize (s.step 0 tmpN tmpN 0 true).1 = s' at *
  generalize (s.step 0 tmpN tmpN 0 true).2 = a' at *
  have c0 := hb.cell 0
  have cs := hst.cell 0
  simp only [List.getElem?_toArray, List.getElem?_cons_zero] at c0 cs
  clear h hb hst
  go_enter Tryz.func105, Tryz.ntmps105
  go_wp2_with (go_at_call 106; refine hC.mono ?_; rintro e w1 ⟨rfl, h1⟩; replace h1 := Lib.hid h1)
  go_ret
  exact ⟨rfl, h1.out⟩

set_option maxRecDepth 100000 in
set_option maxHeartbeats 1000000 in
theorem write3_calls (d k0 k1 gs : Nat) (k : Int) (sv : Value) (s : DiskS) (w : World) (h : DiskAt w d sv s) (hb0 : Blk w k0 89 #[.pointer (some ⟨gs, 0, none⟩)]) (hb1 : Blk w k1 3 #[.int .i64 k]) (hst : Blk w gs 193 #[.pointer (some ⟨d, 0, none⟩)]) (n0 : k0 ∉ DF d sv) (n1 : k1 ∉ DF d sv) (ns : gs ∉ DF d sv)
    (hs : s.steps < 1000000000000) (h0 : 0 ≤ k) (h1 : k ≤ 1073741824) (hL : Lai w) :
    Calls Tryz.prog 107 #[.pointer (some ⟨k0, 0, none⟩), .pointer (some ⟨k1, 0, none⟩)] w (DiskPost d sv (s.step 2 tmpN (nameOf k) 0 true).1 (s.step 2 tmpN (nameOf k) 0 true).2 w) := by
  have hF := name_calls k w.drew (by omega) (by omega) (hL.keep (Ext.refl [] w).drew)
  have hA := fun w1 (hx : Ext [] w.drew w1) => rename_calls d sv s tmpN (nameOf k) w1 (h.keep ((Ext.refl [] w).drew.trans' hx)) hs
  unfold tmpN at hA
  change ∀ w1, Ext [] w.drew w1 → Calls Tryz.prog 108 #[_, .string ⟨#[99, 107, 46, 116, 109, 112]⟩, _] w1 (DiskPost d sv (s.step 2 tmpN (nameOf k) 0 true).1 (s.step 2 tmpN (nameOf k) 0 true).2 w1) at hA
  generalize (s.step 2 tmpN (nameOf k) 0 true).1 = s' at *
  generalize (s.step 2 tmpN (nameOf k) 0 true).2 = a' at *
  have c0 := hb0.drew.cell 0
  have c1 := hb1.drew.cell 0
  have cs := hst.drew.cell 0
  simp only [List.getElem?_toArray, List.getElem?_cons_zero] at c0 c1 cs
  have hS : ∀ w1, Ext [] w.drew w1 → (w1.cell? ⟨k0, 0, none⟩ = some (.pointer (some ⟨gs, 0, none⟩)) ∧ w1.cell? ⟨k1, 0, none⟩ = some (.int .i64 k) ∧ w1.cell? ⟨gs, 0, none⟩ = some (.pointer (some ⟨d, 0, none⟩))) := fun w1 hx => ⟨hx.cell_some c0, hx.cell_some c1, hx.cell_some cs⟩
  have hS2 : ∀ w1 w2, Ext [] w.drew w1 → Ext (DF d sv) w1 w2 → (w2.cell? ⟨k0, 0, none⟩ = some (.pointer (some ⟨gs, 0, none⟩)) ∧ w2.cell? ⟨k1, 0, none⟩ = some (.int .i64 k) ∧ w2.cell? ⟨gs, 0, none⟩ = some (.pointer (some ⟨d, 0, none⟩))) := fun w1 w2 hx hx2 => by
    obtain ⟨q0, q1, qs⟩ := hS w1 hx
    exact ⟨(hx2.cell (World.block_lt_of_cell? _ _ q0) n0).trans q0, (hx2.cell (World.block_lt_of_cell? _ _ q1) n1).trans q1, (hx2.cell (World.block_lt_of_cell? _ _ qs) ns).trans qs⟩
  have hfin : ∀ w1 w2 e, Ext [] w.drew w1 → DiskPost d sv s' a' w1 e w2 → DiskPost d sv s' a' w e w2 := by
    rintro w1 w2 e hx ⟨he, sv', h3, hx3, hd3⟩
    have h5 : Ext [] w w1 := (Ext.refl [] w).drew.trans' hx
    have := h5.size
    refine ⟨he, sv', h3, (h5.mono (by simp)).trans' hx3, fun k hk => ?_⟩
    rcases hd3 k hk with h4 | h4
    · exact .inl h4
    · right; omega
  have hR := Ext.refl [] w.drew
  replace h := Lib.hid h
  replace hfin := Lib.hid hfin
  replace hS := Lib.hid hS
  replace hS2 := Lib.hid hS2
  replace n0 := Lib.hid n0
  replace n1 := Lib.hid n1
  replace ns := Lib.hid ns
  replace hA := Lib.hid hA
  replace hR := Lib.hid hR
  clear hb0 hb1 hst hL
  go_enter Tryz.func107, Tryz.ntmps107
  go_wp2_with (fail)
  go_region_held3 (fun w' => w'.cell? ⟨k0, 0, none⟩ = some (.pointer (some ⟨gs, 0, none⟩)) ∧ w'.cell? ⟨k1, 0, none⟩ = some (.int .i64 k) ∧ w'.cell? ⟨gs, 0, none⟩ = some (.pointer (some ⟨d, 0, none⟩)))
    (first | exact hS2.out _ _ hx1.out hx2.out | exact hS.out _ hx1.out | exact hS.out _ hR.out)
    (first
      | (go_at_call 109; refine hF.mono ?_; rintro e w1 ⟨rfl, hx1⟩; replace hx1 := Lib.hid hx1)
      | (go_at_call 108; refine (hA.out _ hx1.out).mono ?_; rintro e w2 ⟨rfl, sv2, h2, hx2, hd2⟩; replace h2 := Lib.hid h2; replace hx2 := Lib.hid hx2; replace hd2 := Lib.hid hd2))
  all_goals
    go_wp2
    go_ret
    exact hfin.out w1 w2 _ hx1.out ⟨rfl, sv2, h2.out, hx2.out, hd2.out⟩
end Go.Proofs.YtpjekppljaekoaaGreatDoor
namespace Go.Proofs.YtpjekppljaekoaaGreatDoor
open Go Go.RowKit

theorem power_steps (s : DiskS) : s.power.1.steps = s.steps + 1 := by
  unfold DiskS.power
  split
  · rfl
  · split <;> rfl

theorem doesTo3_len (fs : List FileS) (i n : Nat) (to : ByteArray) : usedL (doesTo 3 fs i n to) ≤ usedL fs ∧ (doesTo 3 fs i n to).length ≤ fs.length := by
  unfold doesTo
  cases h : fs[i]? with
  | none => exact ⟨Nat.le_refl _, Nat.le_refl _⟩
  | some f =>
    have := used_erase h
    have h2 := List.length_eraseIdx_le fs i
    simp only [show ¬ (3 ≤ 1) from by omega, if_false, show ¬ (3 = 2) from by omega]
    exact ⟨by omega, h2⟩

theorem step_cases (s : DiskS) (kind : Nat) (nm to : ByteArray) (n : Int) (all : Bool) : (∃ e, s.step kind nm to n all = (s, e)) ∨ (∃ i m, s.step kind nm to n all = ({ s.power.1 with files := doesTo kind s.files i m to }, 0)) ∨ s.step kind nm to n all = s.power := by
  unfold DiskS.step
  simp only
  repeat' split
  all_goals first | exact .inl ⟨_, rfl⟩ | exact .inr (.inl ⟨_, _, rfl⟩) | exact .inr (.inr rfl)
theorem step_steps (s : DiskS) (kind : Nat) (nm to : ByteArray) (n : Int) (all : Bool) : (s.step kind nm to n all).1.steps ≤ s.steps + 1 := by
  have hp := power_steps s
  rcases step_cases s kind nm to n all with ⟨e, h⟩ | ⟨i, m, h⟩ | h
  · rw [h]; simp only; omega
  · rw [h]; simp only; omega
  · rw [h]; omega
theorem step3_less (s : DiskS) (nm to : ByteArray) (n : Int) (all : Bool) : usedL (s.step 3 nm to n all).1.files ≤ usedL s.files ∧ (s.step 3 nm to n all).1.files.length ≤ s.files.length := by
  rcases step_cases s 3 nm to n all with ⟨e, h⟩ | ⟨i, m, h⟩ | h
  · rw [h]; exact ⟨Nat.le_refl _, Nat.le_refl _⟩
  · rw [h]; exact doesTo3_len _ _ _ _
  · rw [h, power_files]; exact ⟨Nat.le_refl _, Nat.le_refl _⟩
theorem clear_steps (s : DiskS) : s.clear.1.steps ≤ s.steps + 1 := by
  unfold DiskS.clear
  split
  · exact step_steps _ _ _ _ _ _
  · simp only; omega
theorem clear_less (s : DiskS) : usedL s.clear.1.files ≤ usedL s.files ∧ s.clear.1.files.length ≤ s.files.length := by
  unfold DiskS.clear
  split
  · exact step3_less _ _ _ _ _
  · exact ⟨Nat.le_refl _, Nat.le_refl _⟩
theorem append_cases (s : DiskS) (nm : ByteArray) (b : List UInt8) : (∃ e, s.append nm b = (s, e)) ∨ (∃ fs, s.append nm b = DiskS.power { s with files := fs }) := by
  unfold DiskS.append
  simp only
  repeat' split
  all_goals first | exact .inl ⟨_, rfl⟩ | exact .inr ⟨_, rfl⟩
theorem append_steps (s : DiskS) (nm : ByteArray) (b : List UInt8) : (s.append nm b).1.steps ≤ s.steps + 1 := by
  rcases append_cases s nm b with ⟨e, h⟩ | ⟨fs, h⟩
  · rw [h]; simp only; omega
  · rw [h, power_steps]; simp only; omega

/-- What Write does behind an error. -/
def badW (r : DiskS × Int) : DiskS × Int := if r.2 = 161 ∨ r.2 = 3 then (r.1.clear.1, r.2) else r

def wst1 (s : DiskS) (_k : Int) (_b : List UInt8) : DiskS × Int := s.clear
def wst2 (s : DiskS) (k : Int) (b : List UInt8) : DiskS × Int := (wst1 s k b).1.append tmpN (fileL k b)
def wst3 (s : DiskS) (k : Int) (b : List UInt8) : DiskS × Int := (wst2 s k b).1.step 0 tmpN tmpN 0 true
def wst4 (s : DiskS) (k : Int) (b : List UInt8) : DiskS × Int := (wst3 s k b).1.step 2 tmpN (nameOf k) 0 true
def wst (s : DiskS) (k : Int) (b : List UInt8) : Nat → DiskS × Int
  | 0 => (s, 0)
  | 1 => wst1 s k b
  | 2 => wst2 s k b
  | 3 => wst3 s k b
  | _ => wst4 s k b

def DiskS.write (s : DiskS) (k : Int) (b : List UInt8) : DiskS × Int :=
  if k < 0 ∨ 1073741824 < k then (s, 2)
  else if 4194304 < b.length then (s, 3)
  else if s.off then (s, 160)
  else if (wst s k b 1).2 ≠ 0 then badW (wst s k b 1)
  else if (wst s k b 2).2 ≠ 0 then badW (wst s k b 2)
  else if (wst s k b 3).2 ≠ 0 then badW (wst s k b 3)
  else if (wst s k b 4).2 ≠ 0 then badW (wst s k b 4)
  else ((wst s k b 4).1, 0)

theorem wst_steps (s : DiskS) (k : Int) (b : List UInt8) : (wst s k b 1).1.steps ≤ s.steps + 1 ∧ (wst s k b 2).1.steps ≤ s.steps + 2 ∧ (wst s k b 3).1.steps ≤ s.steps + 3 ∧ (wst s k b 4).1.steps ≤ s.steps + 4 := by
  have h1 : (wst s k b 1).1.steps ≤ s.steps + 1 := clear_steps s
  have h2 : (wst s k b 2).1.steps ≤ (wst s k b 1).1.steps + 1 := append_steps _ _ _
  have h3 : (wst s k b 3).1.steps ≤ (wst s k b 2).1.steps + 1 := step_steps _ _ _ _ _ _
  have h4 : (wst s k b 4).1.steps ≤ (wst s k b 3).1.steps + 1 := step_steps _ _ _ _ _ _
  omega

/-- Boxes that a call has laid stay as they are while the disk turns. -/
theorem DiskPost.link {d : Nat} {sv sv1 : Value} {s2 : DiskS} {ans : Int} {w w1 w2 : World} {e : Ending} (hx : Ext (DF d sv) w w1) (hd : ∀ k ∈ DF d sv1, k ∈ DF d sv ∨ w.heap.size ≤ k) (h : DiskPost d sv1 s2 ans w1 e w2) : DiskPost d sv s2 ans w e w2 := by
  obtain ⟨he, sv2, h2, hx2, hd2⟩ := h
  have := hx.size
  refine ⟨he, sv2, h2, hx.trans hx2 fun k hk hl => ?_, fun k hk => ?_⟩
  · rcases hd k hk with h | h
    · exact h
    · omega
  · rcases hd2 k hk with h | h
    · exact hd k h
    · right; omega

theorem und198 : Tryz.prog.underlying 198 = some (.array 4 133) := by kernel_rfl
theorem sizFn : (Tryz.prog.info? 133).map (·.size) = some 1 := by kernel_rfl
theorem siz198 : (Tryz.prog.info? 198).map (·.size) = some 4 := by kernel_rfl
theorem aggFn (w : World) : (isAgg 133).run Tryz.prog w = .ok false w := agg_not (by kernel_rfl) w
theorem run_index_198 (cs : Array Value) (k : Nat) (hk : k < 4) (v : Value) (hv : cs[k]? = some v) (w : World) : (Instr.index 198 (.agg cs) (.int .i64 k)).run Tryz.prog w = .ok v w := by
  have hs := sizFn
  cases hq : Tryz.prog.info? 133 with
  | none => rw [hq] at hs; cases hs
  | some i =>
    have hi : i.size = 1 := by rw [hq] at hs; simpa using hs
    have h1 : (0 : Int) ≤ k ∧ (k : Int) < 4 := by omega
    simp [Instr.index, asIntOf, run_underlying und198, sizeOf, typeInfo, hq, hi, part, hv]
    intro h; omega
end Go.Proofs.YtpjekppljaekoaaGreatDoor
namespace Go.Proofs.YtpjekppljaekoaaGreatDoor
open Go Go.RowKit

/-- Behind j steps of Write. -/
def WRel (s : DiskS) (k : Int) (b : List UInt8) (d : Nat) (sv : Value) (w4 : World) (j : Nat) (wr : World) : Prop :=
  ∃ svj, DiskAt wr d svj (wst s k b j).1 ∧ Ext (DF d sv) w4 wr ∧ (∀ q ∈ DF d svj, q ∈ DF d sv ∨ w4.heap.size ≤ q) ∧ ∀ i, 1 ≤ i → i ≤ j → (wst s k b i).2 = 0

set_option maxRecDepth 100000 in
set_option maxHeartbeats 8000000 in
theorem write_main (gs d : Nat) (sv : Value) (s : DiskS) (k : Int) (bv' : Value) (b : List UInt8) (w : World) (h : DiskAt w d sv s) (hst : Blk w gs 193 #[.pointer (some ⟨d, 0, none⟩)]) (ns : gs ∉ DF d sv) (hb : Bs w (· ∉ DF d sv) bv' b) (hL : Lai w) (hD6 : ∀ k ∈ DF d sv, 6 ≤ k)
    (hs : s.steps + 8 < 1000000000000) (hu : usedL s.files + b.length + 17 ≤ 50000000) (hm : s.files.length < 99999) (h0 : 0 ≤ k) (h1 : k ≤ 1073741824) (hl : b.length ≤ 4194304) (ho : s.off = false) :
    Calls Tryz.prog 39 #[.pointer (some ⟨gs, 0, none⟩), .int .i64 k, bv'] w (DiskPost d sv (s.write k b).1 (s.write k b).2 w) := by
  have hR : s.write k b = if (wst s k b 1).2 ≠ 0 then badW (wst s k b 1) else if (wst s k b 2).2 ≠ 0 then badW (wst s k b 2) else if (wst s k b 3).2 ≠ 0 then badW (wst s k b 3) else if (wst s k b 4).2 ≠ 0 then badW (wst s k b 4) else ((wst s k b 4).1, 0) := by
    unfold DiskS.write
    rw [if_neg (by omega), if_neg (by omega), ho]
    simp only [Bool.false_eq_true, if_false]
  generalize s.write k b = R at *
  obtain ⟨B, bc, rfl, hbc⟩ := hb.form
  have hl' : (b.length : Int) ≤ 4194304 := by omega
  generalize hW : ((w.alloc (.cells #[.pointer (some ⟨gs, 0, none⟩)] 89)).alloc (.cells #[.int .i64 k] 3)).alloc (.cells #[.slice B b.length bc] 25) = W
  have hxW : Ext [] w W := by rw [← hW]; exact (((Ext.refl [] w).alloc _).alloc _).alloc _
  have hWs : W.heap.size = w.heap.size + 3 := by rw [← hW]; simp
  have hb0 : Blk W w.heap.size 89 #[.pointer (some ⟨gs, 0, none⟩)] := by rw [← hW]; exact ((Blk.new w 89 _).alloc _).alloc _
  have hb1 : Blk W (w.heap.size + 1) 3 #[.int .i64 k] := by rw [← hW]; exact (Blk.new' (w.alloc (.cells #[.pointer (some ⟨gs, 0, none⟩)] 89)) 3 _ (by simp)).alloc _
  have hb2 : Blk W (w.heap.size + 1 + 1) 25 #[.slice B b.length bc] := by rw [← hW]; exact Blk.new' ((w.alloc (.cells #[.pointer (some ⟨gs, 0, none⟩)] 89)).alloc (.cells #[.int .i64 k] 3)) 25 _ (by simp)
  have hO := off_calls d sv s W (h.keep hxW)
  rw [ho] at hO
  have q0 := hb0.cell 0
  have q1 := hb1.cell 0
  have q2 := hb2.cell 0
  have qs := (hst.keep hxW).cell 0
  simp only [List.getElem?_toArray, List.getElem?_cons_zero] at q0 q1 q2 qs
  subst hW
  replace h := Lib.hid h
  replace hst := Lib.hid hst
  replace ns := Lib.hid ns
  replace hb := Lib.hid hb
  replace hL := Lib.hid hL
  replace hD6 := Lib.hid hD6
  replace hR := Lib.hid hR
  replace hxW := Lib.hid hxW
  replace hb0 := Lib.hid hb0
  replace hb1 := Lib.hid hb1
  replace hb2 := Lib.hid hb2
  replace ho := Lib.hid ho
  go_enter Tryz.func39, Tryz.ntmps39
  go_wp2_with (first
    | (go_at_call 20; refine hO.mono ?_; rintro e w1 ⟨rfl, rfl⟩)
    | (refine wpList_store_whole rfl 198 _ _ rfl _ rfl _ rfl _ _ (Blk.new' _ _ _ (by simp)) (by kernel_rfl) rfl (by kernel_rfl) ?_; intro w4 hb4 hx4
       have z0 := (hb0.out.alloc (.cells #[.nilFunc, .nilFunc, .nilFunc, .nilFunc] 198)).ext hx4 (by simp)
       have z1 := (hb1.out.alloc (.cells #[.nilFunc, .nilFunc, .nilFunc, .nilFunc] 198)).ext hx4 (by simp)
       have z2 := (hb2.out.alloc (.cells #[.nilFunc, .nilFunc, .nilFunc, .nilFunc] 198)).ext hx4 (by simp)
       have hx04 : Ext [] w w4 := (hxW.out.alloc _).trans hx4 (fun kk hk hl => by simp at hk; omega)
       have hsz4 := hx4.size
       replace hb4 := Lib.hid hb4
       replace hx04 := Lib.hid hx04
       replace z0 := Lib.hid z0
       replace z1 := Lib.hid z1
       replace z2 := Lib.hid z2
       clear hx4)
    | (refine wpList_load_row rfl 198 _ rfl _ rfl _ _ _ _ hb4.out und198 rfl (by kernel_rfl) ?_))
  have hw4s := hx04.out.size
  have g4 : Blk w4 gs 193 #[.pointer (some ⟨d, 0, none⟩)] := hst.out.keep hx04.out
  have hdl : ∀ q ∈ DF d sv, q < w.heap.size := h.out.dlt
  have hstp := wst_steps s k b
  have hcl := clear_less s
  have hL4 := hL.out.keep hx04.out
  have hfin : ∀ (R' : DiskS × Int) e w', DiskPost d sv R'.1 R'.2 w4 e w' → DiskPost d sv R'.1 R'.2 w e w' := fun R' e w' hp => DiskPost.link (hx04.out.mono (by simp)) (fun _ hk => .inl hk) hp
  have hbad : ∀ sv5 w5 (r : DiskS × Int), DiskAt w5 d sv5 r.1 → Ext (DF d sv) w4 w5 → (∀ q ∈ DF d sv5, q ∈ DF d sv ∨ w4.heap.size ≤ q) → r.1.steps < 1000000000000 → Calls Tryz.prog 102 #[.pointer (some ⟨gs, 0, none⟩)] w5 (DiskPost d sv r.1.clear.1 r.1.clear.2 w4) := fun sv5 w5 r h5 hx5 hd5 hs5 =>
    (clear_calls gs d sv5 r.1 w5 (g4.ext hx5 ns.out) h5 hs5).mono fun e w' hp => DiskPost.link hx5 hd5 hp
  have hc1 : ∀ wr, WRel s k b d sv w4 0 wr → Calls Tryz.prog 102 #[.pointer (some ⟨gs, 0, none⟩)] wr (DiskPost d sv (wst s k b 1).1 (wst s k b 1).2 w4) := by
    rintro wr ⟨svj, hj, hxj, hdj, _⟩
    exact (clear_calls gs d svj s wr (g4.ext hxj ns.out) hj (by omega)).mono fun e w' hp => DiskPost.link hxj hdj hp
  have hnew : ∀ q, w.heap.size ≤ q → q < w4.heap.size → ∀ svj, (∀ q ∈ DF d svj, q ∈ DF d sv ∨ w4.heap.size ≤ q) → q ∉ DF d svj := by
    intro q hq hq4 svj hdj hk
    rcases hdj q hk with h5 | h5
    · have := hdl q h5; omega
    · omega
  have hold : ∀ svj, (∀ q ∈ DF d svj, q ∈ DF d sv ∨ w4.heap.size ≤ q) → gs ∉ DF d svj := by
    intro svj hdj hk
    rcases hdj gs hk with h5 | h5
    · exact ns.out h5
    · have := hst.out.lt; omega
  have hL6 : ∀ wr, Ext (DF d sv) w4 wr → Lai wr := fun wr hx => hL4.ext hx hD6.out
  have n0 : w.heap.size ∉ DF d sv := fun hk => by have := hdl _ hk; omega
  have n1 : w.heap.size + 1 ∉ DF d sv := fun hk => by have := hdl _ hk; omega
  have n2 : w.heap.size + 1 + 1 ∉ DF d sv := fun hk => by have := hdl _ hk; omega
  have hc2 : ∀ wr, WRel s k b d sv w4 1 wr → Calls Tryz.prog 103 #[.pointer (some ⟨w.heap.size, 0, none⟩), .pointer (some ⟨w.heap.size + 1, 0, none⟩), .pointer (some ⟨w.heap.size + 1 + 1, 0, none⟩)] wr (DiskPost d sv (wst s k b 2).1 (wst s k b 2).2 w4) := by
    rintro wr ⟨svj, hj, hxj, hdj, _⟩
    refine (write1_calls d w.heap.size (w.heap.size + 1) (w.heap.size + 1 + 1) gs k _ b svj (wst s k b 1).1 wr hj ⟨z0.out.ext hxj n0, z1.out.ext hxj n1, z2.out.ext hxj n2, g4.ext hxj ns.out, ((hb.out.keep hx04.out).ext hxj fun q _ hq => hq).any⟩ (hnew _ (by omega) z0.out.lt svj hdj) (hnew _ (by omega) z1.out.lt svj hdj) (hnew _ (by omega) z2.out.lt svj hdj) (hold svj hdj)
      (by have := hstp.1; omega) (by have := hcl.1; show usedL s.clear.1.files + _ + _ ≤ _; omega) (by have := hcl.2; show s.clear.1.files.length < _; omega) h0 h1 hl).mono fun e w' hp => DiskPost.link hxj hdj hp
  have hc3 : ∀ wr, WRel s k b d sv w4 2 wr → Calls Tryz.prog 105 #[.pointer (some ⟨w.heap.size, 0, none⟩)] wr (DiskPost d sv (wst s k b 3).1 (wst s k b 3).2 w4) := by
    rintro wr ⟨svj, hj, hxj, hdj, _⟩
    exact (write2_calls d w.heap.size gs svj (wst s k b 2).1 wr hj (z0.out.ext hxj n0) (g4.ext hxj ns.out) (by have := hstp.2.1; omega)).mono fun e w' hp => DiskPost.link hxj hdj hp
  have hc4 : ∀ wr, WRel s k b d sv w4 3 wr → Calls Tryz.prog 107 #[.pointer (some ⟨w.heap.size, 0, none⟩), .pointer (some ⟨w.heap.size + 1, 0, none⟩)] wr (DiskPost d sv (wst s k b 4).1 (wst s k b 4).2 w4) := by
    rintro wr ⟨svj, hj, hxj, hdj, _⟩
    exact (write3_calls d w.heap.size (w.heap.size + 1) gs k svj (wst s k b 3).1 wr hj (z0.out.ext hxj n0) (z1.out.ext hxj n1) (g4.ext hxj ns.out) (hnew _ (by omega) z0.out.lt svj hdj) (hnew _ (by omega) z1.out.lt svj hdj) (hold svj hdj) (by have := hstp.2.2.1; omega) h0 h1 (hL6 wr hxj)).mono fun e w' hp => DiskPost.link hxj hdj hp
  have hi0 := run_index_198 #[.func (.func 102) #[.pointer (some ⟨gs, 0, none⟩)] #[], .func (.func 103) #[] #[.pointer (some ⟨w.heap.size, 0, none⟩), .pointer (some ⟨w.heap.size + 1, 0, none⟩), .pointer (some ⟨w.heap.size + 1 + 1, 0, none⟩)], .func (.func 105) #[] #[.pointer (some ⟨w.heap.size, 0, none⟩)], .func (.func 107) #[] #[.pointer (some ⟨w.heap.size, 0, none⟩), .pointer (some ⟨w.heap.size + 1, 0, none⟩)]] 0 (by omega) _ rfl
  have hi1 := run_index_198 #[.func (.func 102) #[.pointer (some ⟨gs, 0, none⟩)] #[], .func (.func 103) #[] #[.pointer (some ⟨w.heap.size, 0, none⟩), .pointer (some ⟨w.heap.size + 1, 0, none⟩), .pointer (some ⟨w.heap.size + 1 + 1, 0, none⟩)], .func (.func 105) #[] #[.pointer (some ⟨w.heap.size, 0, none⟩)], .func (.func 107) #[] #[.pointer (some ⟨w.heap.size, 0, none⟩), .pointer (some ⟨w.heap.size + 1, 0, none⟩)]] 1 (by omega) _ rfl
  have hi2 := run_index_198 #[.func (.func 102) #[.pointer (some ⟨gs, 0, none⟩)] #[], .func (.func 103) #[] #[.pointer (some ⟨w.heap.size, 0, none⟩), .pointer (some ⟨w.heap.size + 1, 0, none⟩), .pointer (some ⟨w.heap.size + 1 + 1, 0, none⟩)], .func (.func 105) #[] #[.pointer (some ⟨w.heap.size, 0, none⟩)], .func (.func 107) #[] #[.pointer (some ⟨w.heap.size, 0, none⟩), .pointer (some ⟨w.heap.size + 1, 0, none⟩)]] 2 (by omega) _ rfl
  have hi3 := run_index_198 #[.func (.func 102) #[.pointer (some ⟨gs, 0, none⟩)] #[], .func (.func 103) #[] #[.pointer (some ⟨w.heap.size, 0, none⟩), .pointer (some ⟨w.heap.size + 1, 0, none⟩), .pointer (some ⟨w.heap.size + 1 + 1, 0, none⟩)], .func (.func 105) #[] #[.pointer (some ⟨w.heap.size, 0, none⟩)], .func (.func 107) #[] #[.pointer (some ⟨w.heap.size, 0, none⟩), .pointer (some ⟨w.heap.size + 1, 0, none⟩)]] 3 (by omega) _ rfl
  simp only [Int.cast_ofNat_Int] at hi0 hi1 hi2 hi3
  have hrel0 : WRel s k b d sv w4 0 w4 := ⟨sv, h.out.keep hx04.out, Ext.refl _ _, fun _ hk => .inl hk, fun i h1 h2 => by omega⟩
  have hnext : ∀ j w5, (wst s k b (j + 1)).2 = 0 → (∀ i, 1 ≤ i → i ≤ j → (wst s k b i).2 = 0) → (∃ sv', DiskAt w5 d sv' (wst s k b (j + 1)).1 ∧ Ext (DF d sv) w4 w5 ∧ ∀ q ∈ DF d sv', q ∈ DF d sv ∨ w4.heap.size ≤ q) → WRel s k b d sv w4 (j + 1) w5 := by
    rintro j w5 hz hzs ⟨sv', h1, h2, h3⟩
    refine ⟨sv', h1, h2, h3, fun i hi hj => ?_⟩
    by_cases e : i = j + 1
    · rw [e]; exact hz
    · exact hzs i hi (by omega)
  have hz' : ∀ j wr, WRel s k b d sv w4 j wr → ∀ i, 1 ≤ i → i ≤ j → (wst s k b i).2 = 0 := fun j wr ⟨_, _, _, _, hz⟩ => hz
  replace g4 := Lib.hid g4
  replace hdl := Lib.hid hdl
  replace hstp := Lib.hid hstp
  replace hcl := Lib.hid hcl
  replace hL4 := Lib.hid hL4
  replace hfin := Lib.hid hfin
  replace hbad := Lib.hid hbad
  replace hc1 := Lib.hid hc1
  replace hc2 := Lib.hid hc2
  replace hc3 := Lib.hid hc3
  replace hc4 := Lib.hid hc4
  replace hnew := Lib.hid hnew
  replace hold := Lib.hid hold
  replace hL6 := Lib.hid hL6
  replace n0 := Lib.hid n0
  replace n1 := Lib.hid n1
  replace n2 := Lib.hid n2
  replace hrel0 := Lib.hid hrel0
  replace hnext := Lib.hid hnext
  replace hz' := Lib.hid hz'
  go_loopw [38] (fun i wr => ∃ j : Nat, j ≤ 4 ∧ i = .int .i64 j ∧ Hid (WRel s k b d sv w4 j wr)) (fun i _ => 4 - (intOf i).toNat)
  case atStart => exact ⟨0, by omega, rfl, hrel0⟩
  case round =>
    obtain ⟨j, hj, rfl, hrel⟩ := hrel
    have hj' : j = 0 ∨ j = 1 ∨ j = 2 ∨ j = 3 ∨ j = 4 := by omega
    clear hj
    rcases hj' with rfl | rfl | rfl | rfl | rfl
    · have hzs := hz'.out _ _ hrel.out
      have hC := hc1.out wr hrel.out
      by_cases hr : (wst s k b 1).2 = 0
      · rw [hr] at hC
        replace hzs := Lib.hid hzs
        replace hr := Lib.hid hr
        replace hC := Lib.hid hC
        go_wp2_with (go_at_call 102; refine hC.out.mono ?_; rintro e w5 ⟨rfl, h5⟩; replace h5 := Lib.hid h5)
        go_roundw
        case rel => exact ⟨1, by omega, rfl, Lib.hid (hnext.out 0 _ hr.out hzs.out h5.out)⟩
        case measure => simp [intOf]
      · have hRj : R = badW (wst s k b 1) := by
          rw [hR.out]
          rw [if_pos hr]
        have hsb : (wst s k b 1).1.steps < 1000000000000 := by have := hstp.out; omega
        generalize wst s k b 1 = r at *
        have hr' : (r.2 == 0) = false := by simpa using hr
        replace hzs := Lib.hid hzs
        replace hr := Lib.hid hr
        replace hC := Lib.hid hC
        by_cases hq : r.2 = 161 ∨ r.2 = 3
        · have hRq : R = (r.1.clear.1, r.2) := by rw [hRj, badW, if_pos hq]
          have hq2 : (r.2 == 161 || r.2 == 3) = true := by rcases hq with e | e <;> rw [e] <;> rfl
          replace hRq := Lib.hid hRq
          replace hRj := Lib.hid hRj
          generalize hr2 : r.2 = r2 at *
          rcases hq with hq | hq
          all_goals
            subst hq
            go_wp2_with (first
              | (go_at_call 102; refine hC.out.mono ?_; rintro e w5 ⟨rfl, sv5, h5, hx5, hd5⟩; have hB := hbad.out sv5 w5 r h5 hx5 hd5 hsb; have c5 := (z0.out.ext hx5 n0.out).cell 0; simp only [List.getElem?_toArray, List.getElem?_cons_zero] at c5; replace hB := Lib.hid hB; replace h5 := Lib.hid h5; replace hx5 := Lib.hid hx5; replace hd5 := Lib.hid hd5; replace hC := Lib.hid True.intro)
              | (go_at_call 102; refine hB.out.mono ?_; rintro e w6 ⟨rfl, h6⟩; replace h6 := Lib.hid h6))
            go_ret
            rw [hRq.out]
            exact hfin.out (r.1.clear.1, _) _ _ ⟨rfl, h6.out⟩
        · have hRq : R = r := by rw [hRj, badW, if_neg hq]
          have hq1 : (r.2 == 161) = false := by simp only [not_or] at hq; simpa using hq.1
          have hq2 : (r.2 == 3) = false := by simp only [not_or] at hq; simpa using hq.2
          replace hRq := Lib.hid hRq
          replace hRj := Lib.hid hRj
          replace hq := Lib.hid hq
          go_wp2_with (go_at_call 102; refine hC.out.mono ?_; rintro e w5 ⟨rfl, h5⟩; replace h5 := Lib.hid h5)
          go_ret
          rw [hRq.out]
          exact hfin.out r _ _ ⟨rfl, h5.out⟩
    · have hzs := hz'.out _ _ hrel.out
      have hC := hc2.out wr hrel.out
      by_cases hr : (wst s k b 2).2 = 0
      · rw [hr] at hC
        replace hzs := Lib.hid hzs
        replace hr := Lib.hid hr
        replace hC := Lib.hid hC
        go_wp2_with (go_at_call 103; refine hC.out.mono ?_; rintro e w5 ⟨rfl, h5⟩; replace h5 := Lib.hid h5)
        go_roundw
        case rel => exact ⟨2, by omega, rfl, Lib.hid (hnext.out 1 _ hr.out hzs.out h5.out)⟩
        case measure => simp [intOf]
      · have hRj : R = badW (wst s k b 2) := by
          rw [hR.out]
          rw [if_neg (by rw [hzs 1 (by omega) (by omega)]; simp)]; rw [if_pos hr]
        have hsb : (wst s k b 2).1.steps < 1000000000000 := by have := hstp.out; omega
        generalize wst s k b 2 = r at *
        have hr' : (r.2 == 0) = false := by simpa using hr
        replace hzs := Lib.hid hzs
        replace hr := Lib.hid hr
        replace hC := Lib.hid hC
        by_cases hq : r.2 = 161 ∨ r.2 = 3
        · have hRq : R = (r.1.clear.1, r.2) := by rw [hRj, badW, if_pos hq]
          have hq2 : (r.2 == 161 || r.2 == 3) = true := by rcases hq with e | e <;> rw [e] <;> rfl
          replace hRq := Lib.hid hRq
          replace hRj := Lib.hid hRj
          generalize hr2 : r.2 = r2 at *
          rcases hq with hq | hq
          all_goals
            subst hq
            go_wp2_with (first
              | (go_at_call 103; refine hC.out.mono ?_; rintro e w5 ⟨rfl, sv5, h5, hx5, hd5⟩; have hB := hbad.out sv5 w5 r h5 hx5 hd5 hsb; have c5 := (z0.out.ext hx5 n0.out).cell 0; simp only [List.getElem?_toArray, List.getElem?_cons_zero] at c5; replace hB := Lib.hid hB; replace h5 := Lib.hid h5; replace hx5 := Lib.hid hx5; replace hd5 := Lib.hid hd5; replace hC := Lib.hid True.intro)
              | (go_at_call 102; refine hB.out.mono ?_; rintro e w6 ⟨rfl, h6⟩; replace h6 := Lib.hid h6))
            go_ret
            rw [hRq.out]
            exact hfin.out (r.1.clear.1, _) _ _ ⟨rfl, h6.out⟩
        · have hRq : R = r := by rw [hRj, badW, if_neg hq]
          have hq1 : (r.2 == 161) = false := by simp only [not_or] at hq; simpa using hq.1
          have hq2 : (r.2 == 3) = false := by simp only [not_or] at hq; simpa using hq.2
          replace hRq := Lib.hid hRq
          replace hRj := Lib.hid hRj
          replace hq := Lib.hid hq
          go_wp2_with (go_at_call 103; refine hC.out.mono ?_; rintro e w5 ⟨rfl, h5⟩; replace h5 := Lib.hid h5)
          go_ret
          rw [hRq.out]
          exact hfin.out r _ _ ⟨rfl, h5.out⟩
    · have hzs := hz'.out _ _ hrel.out
      have hC := hc3.out wr hrel.out
      by_cases hr : (wst s k b 3).2 = 0
      · rw [hr] at hC
        replace hzs := Lib.hid hzs
        replace hr := Lib.hid hr
        replace hC := Lib.hid hC
        go_wp2_with (go_at_call 105; refine hC.out.mono ?_; rintro e w5 ⟨rfl, h5⟩; replace h5 := Lib.hid h5)
        go_roundw
        case rel => exact ⟨3, by omega, rfl, Lib.hid (hnext.out 2 _ hr.out hzs.out h5.out)⟩
        case measure => simp [intOf]
      · have hRj : R = badW (wst s k b 3) := by
          rw [hR.out]
          rw [if_neg (by rw [hzs 1 (by omega) (by omega)]; simp)];  rw [if_neg (by rw [hzs 2 (by omega) (by omega)]; simp)]; rw [if_pos hr]
        have hsb : (wst s k b 3).1.steps < 1000000000000 := by have := hstp.out; omega
        generalize wst s k b 3 = r at *
        have hr' : (r.2 == 0) = false := by simpa using hr
        replace hzs := Lib.hid hzs
        replace hr := Lib.hid hr
        replace hC := Lib.hid hC
        by_cases hq : r.2 = 161 ∨ r.2 = 3
        · have hRq : R = (r.1.clear.1, r.2) := by rw [hRj, badW, if_pos hq]
          have hq2 : (r.2 == 161 || r.2 == 3) = true := by rcases hq with e | e <;> rw [e] <;> rfl
          replace hRq := Lib.hid hRq
          replace hRj := Lib.hid hRj
          generalize hr2 : r.2 = r2 at *
          rcases hq with hq | hq
          all_goals
            subst hq
            go_wp2_with (first
              | (go_at_call 105; refine hC.out.mono ?_; rintro e w5 ⟨rfl, sv5, h5, hx5, hd5⟩; have hB := hbad.out sv5 w5 r h5 hx5 hd5 hsb; have c5 := (z0.out.ext hx5 n0.out).cell 0; simp only [List.getElem?_toArray, List.getElem?_cons_zero] at c5; replace hB := Lib.hid hB; replace h5 := Lib.hid h5; replace hx5 := Lib.hid hx5; replace hd5 := Lib.hid hd5; replace hC := Lib.hid True.intro)
              | (go_at_call 102; refine hB.out.mono ?_; rintro e w6 ⟨rfl, h6⟩; replace h6 := Lib.hid h6))
            go_ret
            rw [hRq.out]
            exact hfin.out (r.1.clear.1, _) _ _ ⟨rfl, h6.out⟩
        · have hRq : R = r := by rw [hRj, badW, if_neg hq]
          have hq1 : (r.2 == 161) = false := by simp only [not_or] at hq; simpa using hq.1
          have hq2 : (r.2 == 3) = false := by simp only [not_or] at hq; simpa using hq.2
          replace hRq := Lib.hid hRq
          replace hRj := Lib.hid hRj
          replace hq := Lib.hid hq
          go_wp2_with (go_at_call 105; refine hC.out.mono ?_; rintro e w5 ⟨rfl, h5⟩; replace h5 := Lib.hid h5)
          go_ret
          rw [hRq.out]
          exact hfin.out r _ _ ⟨rfl, h5.out⟩
    · have hzs := hz'.out _ _ hrel.out
      have hC := hc4.out wr hrel.out
      by_cases hr : (wst s k b 4).2 = 0
      · rw [hr] at hC
        replace hzs := Lib.hid hzs
        replace hr := Lib.hid hr
        replace hC := Lib.hid hC
        go_wp2_with (go_at_call 107; refine hC.out.mono ?_; rintro e w5 ⟨rfl, h5⟩; replace h5 := Lib.hid h5)
        go_roundw
        case rel => exact ⟨4, by omega, rfl, Lib.hid (hnext.out 3 _ hr.out hzs.out h5.out)⟩
        case measure => simp [intOf]
      · have hRj : R = badW (wst s k b 4) := by
          rw [hR.out]
          rw [if_neg (by rw [hzs 1 (by omega) (by omega)]; simp)];  rw [if_neg (by rw [hzs 2 (by omega) (by omega)]; simp)];  rw [if_neg (by rw [hzs 3 (by omega) (by omega)]; simp)]; rw [if_pos hr]
        have hsb : (wst s k b 4).1.steps < 1000000000000 := by have := hstp.out; omega
        generalize wst s k b 4 = r at *
        have hr' : (r.2 == 0) = false := by simpa using hr
        replace hzs := Lib.hid hzs
        replace hr := Lib.hid hr
        replace hC := Lib.hid hC
        by_cases hq : r.2 = 161 ∨ r.2 = 3
        · have hRq : R = (r.1.clear.1, r.2) := by rw [hRj, badW, if_pos hq]
          have hq2 : (r.2 == 161 || r.2 == 3) = true := by rcases hq with e | e <;> rw [e] <;> rfl
          replace hRq := Lib.hid hRq
          replace hRj := Lib.hid hRj
          generalize hr2 : r.2 = r2 at *
          rcases hq with hq | hq
          all_goals
            subst hq
            go_wp2_with (first
              | (go_at_call 107; refine hC.out.mono ?_; rintro e w5 ⟨rfl, sv5, h5, hx5, hd5⟩; have hB := hbad.out sv5 w5 r h5 hx5 hd5 hsb; have c5 := (z0.out.ext hx5 n0.out).cell 0; simp only [List.getElem?_toArray, List.getElem?_cons_zero] at c5; replace hB := Lib.hid hB; replace h5 := Lib.hid h5; replace hx5 := Lib.hid hx5; replace hd5 := Lib.hid hd5; replace hC := Lib.hid True.intro)
              | (go_at_call 102; refine hB.out.mono ?_; rintro e w6 ⟨rfl, h6⟩; replace h6 := Lib.hid h6))
            go_ret
            rw [hRq.out]
            exact hfin.out (r.1.clear.1, _) _ _ ⟨rfl, h6.out⟩
        · have hRq : R = r := by rw [hRj, badW, if_neg hq]
          have hq1 : (r.2 == 161) = false := by simp only [not_or] at hq; simpa using hq.1
          have hq2 : (r.2 == 3) = false := by simp only [not_or] at hq; simpa using hq.2
          replace hRq := Lib.hid hRq
          replace hRj := Lib.hid hRj
          replace hq := Lib.hid hq
          go_wp2_with (go_at_call 107; refine hC.out.mono ?_; rintro e w5 ⟨rfl, h5⟩; replace h5 := Lib.hid h5)
          go_ret
          rw [hRq.out]
          exact hfin.out r _ _ ⟨rfl, h5.out⟩
    · have hzs := hz'.out _ _ hrel.out
      have hR4 : R = ((wst s k b 4).1, 0) := by
        rw [hR.out]
        rw [if_neg (by rw [hzs 1 (by omega) (by omega)]; simp), if_neg (by rw [hzs 2 (by omega) (by omega)]; simp), if_neg (by rw [hzs 3 (by omega) (by omega)]; simp), if_neg (by rw [hzs 4 (by omega) (by omega)]; simp)]
      replace hzs := Lib.hid hzs
      replace hR4 := Lib.hid hR4
      go_wp2
      go_ret
      rw [hR4.out]
      obtain ⟨svj, h1, h2, h3, _⟩ := hrel.out
      exact hfin.out ((wst s k b 4).1, 0) _ _ ⟨rfl, svj, h1, h2, h3⟩
end Go.Proofs.YtpjekppljaekoaaGreatDoor

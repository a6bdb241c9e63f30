/- slices.Backward over a row of bytes of the call's own: what its iterator does. Contracts of package fields: how many bytes a number of each kind has. Contracts of package fields, second part: a writer's put and Out. Contracts of package fields, third part: a writer's Out. Contracts of package fields: the bytes of a number. Contracts of package fields: a writer's Byte, Word, Long, Raw. The check of bytes, as numbers: what crc.Sum computes. -/
import Derived.Test.YtpjekppljaekoaaGreatDoorProg
import Derived.Test.YtpjekppljaekoaaGreatDoorKA01
import Derived.RangeFuncNested
import Derived.RangeFuncBound
import Derived.RangeFuncCalls
import Derived.RangeFuncLeaves
import Derived.Shelf.Abstract
import Derived.Shelf.RegionOpen
import Derived.OwnWalkIn
import Derived.TacticsInMore
import Derived.LoopNIn
import Derived.LoopIn
import Derived.Laws.CopyOwn
import Derived.StillTailTactics
import Derived.Deep.LoopGhost
import Derived.WalkKit
namespace Go.Proofs.YtpjekppljaekoaaGreatDoor
open Go Go.RowKit Go.Shelf

attribute [local go_sem] Oper.semAt_some

/-- What a round of the loop keeps: the box with the slice; of the row, that it holds bytes. -/
def BackK (B g n : Nat) (W W' : World) : Prop :=
  W'.cell? ⟨B, 0, none⟩ = W.cell? ⟨B, 0, none⟩ ∧ ∀ j, j < n → (∃ v : Int, W.cell? ⟨g, j, none⟩ = some (.int .u8 v)) → ∃ v : Int, W'.cell? ⟨g, j, none⟩ = some (.int .u8 v)

def downTo (n k : Nat) : List Nat := ((List.range n).drop k).reverse
theorem downTo_all (n : Nat) : downTo n n = [] := by simp [downTo]
theorem downTo_step (n k : Nat) (h : k < n) : downTo n k = downTo n (k + 1) ++ [k] := by
  unfold downTo
  rw [List.drop_eq_getElem_cons (i := k) (by simpa using h)]
  simp
theorem downTo_length (n k : Nat) : (downTo n k).length = n - k := by simp [downTo]

/-- A place in a row of n, and what stood there. -/
abbrev Spot (n : Nat) := { x : Nat × Int // x.1 < n }

set_option maxRecDepth 100000 in
set_option maxHeartbeats 2000000 in
theorem back1_in (m l B g n c : Nat) (hn : n ≤ 1000) (hm : 1 ≤ m) (J Jx : List (Spot n) → World → Prop)
    (hY : ∀ pre x W, J pre W → pre.length < n → YieldAt Fence.wide (m - 1) Tryz.prog l #[.int .i64 (x.1.1 : Int), .int .u8 x.1.2] W fun e W' =>
      (e = .returned (.bool true) ∧ J (pre ++ [x]) W' ∧ BackK B g n W W') ∨ (e = .returned (.bool false) ∧ Jx (pre ++ [x]) W'))
    (W : World) (hB : W.cell? ⟨B, 0, none⟩ = some (.slice (some ⟨g, 0, none⟩) n c)) (hc : ∀ j, j < n → ∃ v : Int, W.cell? ⟨g, j, none⟩ = some (.int .u8 v)) (h0 : J [] W) :
    CallsIn Fence.wide m Tryz.prog 306 #[.func (.yield l) #[] #[], .pointer (some ⟨B, 0, none⟩)] W fun e W' => (∃ v, e = .returned v) ∧
      ((∃ ys, ys.map (·.1.1) = downTo n 0 ∧ J ys W') ∨ (∃ pre, True ∧ Jx pre W')) := by
  refine callsIn_of_wp Tryz.func306 rfl trivial ?_ rfl
  simp only [Tryz.ntmps306, List.size_toArray, List.length_cons, List.length_nil, Nat.reduceAdd, Nat.reduceSub, Array.replicate_succ, Array.replicate_zero, List.push_toArray, List.append_toArray, List.nil_append, List.cons_append]
  have hn' : (n : Int) ≤ 1000 := by omega
  replace hc := Lib.hid hc
  gi_wp2
  gi_loopw [3] (fun i wr => ∃ k : Nat, k ≤ n ∧ i = .int .i64 ((k : Int) - 1) ∧ (∃ ys : List (Spot n), ys.map (·.1.1) = downTo n k ∧ J ys wr) ∧ wr.cell? ⟨B, 0, none⟩ = some (.slice (some ⟨g, 0, none⟩) n c) ∧ ∀ j, j < n → ∃ v : Int, wr.cell? ⟨g, j, none⟩ = some (.int .u8 v))
    (fun i _ => (intOf i + 1).toNat)
  case atStart => exact ⟨n, Nat.le_refl _, rfl, ⟨[], by rw [downTo_all]; rfl, h0⟩, hB, hc.out⟩
  case round =>
    obtain ⟨k, hk, rfl, ⟨ys, hys, hJ⟩, hBr, hcr⟩ := hrel
    rcases k with _ | k
    · have e : ((0 : Nat) : Int) - 1 = -1 := rfl
      replace hys := Lib.hid hys
      replace hcr := Lib.hid hcr
      gi_wp2
      go_end0
      exact ⟨⟨_, rfl⟩, .inl ⟨ys, hys.out, hJ⟩⟩
    · obtain ⟨v, hv⟩ := hcr k (by omega)
      have hlen : ys.length < n := by
        have := congrArg List.length hys
        rw [List.length_map, downTo_length] at this
        omega
      obtain ⟨fn, tmps, assign, body, hy, hR⟩ := hY ys ⟨(k, v), by simp; omega⟩ wr hJ hlen
      dsimp only at hy
      have e : ((k + 1 : Nat) : Int) - 1 = (k : Int) := by omega
      rw [e]
      replace hys := Lib.hid hys
      replace hcr := Lib.hid hcr
      gi_wp2
      refine hR.mono ?_
      rintro e W3 (⟨rfl, hJ3, hk3, hk4⟩ | ⟨rfl, hJx3⟩)
      · have hB3 := hk3.trans hBr
        replace hk4 := Lib.hid hk4
        gi_wp2
        go_roundw
        case rel => exact ⟨k, by omega, by simp, ⟨ys ++ [⟨(k, v), by simp; omega⟩], by rw [List.map_append, hys.out, downTo_step n k (by omega)]; rfl, hJ3⟩, hB3, fun j hj => hk4.out j hj (hcr.out j hj)⟩
        case measure => simp [intOf]
      · gi_wp2
        refine bodyPost_ret (results_none rfl _ _ _) rfl ?_
        exact ⟨⟨_, rfl⟩, .inr ⟨_, trivial, hJx3⟩⟩
theorem back_stops (m B g n c : Nat) (hn : n ≤ 1000) (hm : 1 ≤ m) (w : World) (hBl : B < w.heap.size) (hgl : g < w.heap.size)
    (hB : w.cell? ⟨B, 0, none⟩ = some (.slice (some ⟨g, 0, none⟩) n c)) (hc : ∀ j, j < n → ∃ v : Int, w.cell? ⟨g, j, none⟩ = some (.int .u8 v)) :
    SeqStopsK Fence.wide m Tryz.prog 306 #[.pointer (some ⟨B, 0, none⟩)] (fun x : Spot n => #[Value.int .i64 (x.1.1 : Int), .int .u8 x.1.2]) (BackK B g n) (fun ys => ys.map (·.1.1) = downTo n 0) (fun _ => True) n w := fun l J Jx W hW _ _ hY h0 =>
  back1_in m l B g n c hn hm J Jx hY W ((hW.cell (p := ⟨B, 0, none⟩) hBl).trans hB) (fun j hj => by
    obtain ⟨v, hv⟩ := hc j hj
    exact ⟨v, (hW.cell (p := ⟨g, j, none⟩) hgl).trans hv⟩) h0

theorem backK_t {B g n : Nat} {W1 W2 W3 : World} (h : BackK B g n W1 W2) (k : BackK B g n W2 W3) : BackK B g n W1 W3 := ⟨k.1.trans h.1, fun j hj hv => k.2 j hj (h.2 j hj hv)⟩
theorem backK_b {B g n : Nat} {w : World} (hBl : B < w.heap.size) (hgl : g < w.heap.size) (W : World) (l : Nat) (o o' : Obj) (hl : w.heap.size ≤ l) (_ : W.heap[l]? = some o) (_ : o.isCells = false) (_ : o.isWalk = false) : BackK B g n W (W.putObj l o') := by
  have h := grownBy_putObj' W l o'
  have hc : ∀ k i, k ≠ l → (W.putObj l o').cell? ⟨k, i, none⟩ = W.cell? ⟨k, i, none⟩ := fun k i hk => World.cell?_of_block (World.putObj_heap_other hk)
  exact ⟨hc B 0 (by omega), fun j _ ⟨v, hv⟩ => ⟨v, (hc g j (by omega)).trans hv⟩⟩
end Go.Proofs.YtpjekppljaekoaaGreatDoor
namespace Go.Proofs.YtpjekppljaekoaaGreatDoor
open Go Go.RowKit

def wv8 : Nat → Int | 0 => 255 | _ => 0
def wv16 : Nat → Int | 0 => 65535 | 1 => 255 | _ => 0
def wv32 : Nat → Int | 0 => 4294967295 | 1 => 16777215 | 2 => 65535 | 3 => 255 | _ => 0
def wv64 : Nat → Int | 0 => 18446744073709551615 | 1 => 72057594037927935 | 2 => 281474976710655 | 3 => 1099511627775 | 4 => 4294967295 | 5 => 16777215 | 6 => 65535 | 7 => 255 | _ => 0

set_option maxRecDepth 100000 in
set_option maxHeartbeats 400000 in
theorem width8_calls (w : World) : Calls Tryz.prog 252 #[] w fun e w' => e = .returned (.int .i64 1) ∧ w = w' := by
  go_enter Tryz.func252, Tryz.ntmps252
  go_wp2
  go_loop [1, 2] (fun n t => ∃ k : Nat, k ≤ 1 ∧ n = .int .i64 k ∧ t = .int .u8 (wv8 k)) (fun n _ => 1 - (intOf n).toNat)
  case atStart => exact ⟨0, by omega, rfl, rfl⟩
  case round =>
    obtain ⟨k, hk, rfl, rfl⟩ := hrel
    have hk' : k = 0 ∨ k = 1 := by omega
    rcases hk' with rfl | rfl
    all_goals simp only [wv8]
    · go_wp2
      go_round
      case rel => exact ⟨1, by omega, rfl, rfl⟩
      case measure => simp [intOf]
    · go_wp2
      go_ret
      exact ⟨rfl, rfl⟩

set_option maxRecDepth 100000 in
set_option maxHeartbeats 400000 in
theorem width16_calls (w : World) : Calls Tryz.prog 272 #[] w fun e w' => e = .returned (.int .i64 2) ∧ w = w' := by
  go_enter Tryz.func272, Tryz.ntmps272
  go_wp2
  go_loop [1, 2] (fun n t => ∃ k : Nat, k ≤ 2 ∧ n = .int .i64 k ∧ t = .int .u16 (wv16 k)) (fun n _ => 2 - (intOf n).toNat)
  case atStart => exact ⟨0, by omega, rfl, rfl⟩
  case round =>
    obtain ⟨k, hk, rfl, rfl⟩ := hrel
    have hk' : k = 0 ∨ k = 1 ∨ k = 2 := by omega
    rcases hk' with rfl | rfl | rfl
    all_goals simp only [wv16]
    · go_wp2
      go_round
      case rel => exact ⟨1, by omega, rfl, rfl⟩
      case measure => simp [intOf]
    · go_wp2
      go_round
      case rel => exact ⟨2, by omega, rfl, rfl⟩
      case measure => simp [intOf]
    · go_wp2
      go_ret
      exact ⟨rfl, rfl⟩

set_option maxRecDepth 100000 in
set_option maxHeartbeats 400000 in
theorem width32_calls (w : World) : Calls Tryz.prog 254 #[] w fun e w' => e = .returned (.int .i64 4) ∧ w = w' := by
  go_enter Tryz.func254, Tryz.ntmps254
  go_wp2
  go_loop [1, 2] (fun n t => ∃ k : Nat, k ≤ 4 ∧ n = .int .i64 k ∧ t = .int .u32 (wv32 k)) (fun n _ => 4 - (intOf n).toNat)
  case atStart => exact ⟨0, by omega, rfl, rfl⟩
  case round =>
    obtain ⟨k, hk, rfl, rfl⟩ := hrel
    have hk' : k = 0 ∨ k = 1 ∨ k = 2 ∨ k = 3 ∨ k = 4 := by omega
    rcases hk' with rfl | rfl | rfl | rfl | rfl
    all_goals simp only [wv32]
    · go_wp2
      go_round
      case rel => exact ⟨1, by omega, rfl, rfl⟩
      case measure => simp [intOf]
    · go_wp2
      go_round
      case rel => exact ⟨2, by omega, rfl, rfl⟩
      case measure => simp [intOf]
    · go_wp2
      go_round
      case rel => exact ⟨3, by omega, rfl, rfl⟩
      case measure => simp [intOf]
    · go_wp2
      go_round
      case rel => exact ⟨4, by omega, rfl, rfl⟩
      case measure => simp [intOf]
    · go_wp2
      go_ret
      exact ⟨rfl, rfl⟩

set_option maxRecDepth 100000 in
set_option maxHeartbeats 400000 in
theorem width64_calls (w : World) : Calls Tryz.prog 253 #[] w fun e w' => e = .returned (.int .i64 8) ∧ w = w' := by
  go_enter Tryz.func253, Tryz.ntmps253
  go_wp2
  go_loop [1, 2] (fun n t => ∃ k : Nat, k ≤ 8 ∧ n = .int .i64 k ∧ t = .int .u64 (wv64 k)) (fun n _ => 8 - (intOf n).toNat)
  case atStart => exact ⟨0, by omega, rfl, rfl⟩
  case round =>
    obtain ⟨k, hk, rfl, rfl⟩ := hrel
    have hk' : k = 0 ∨ k = 1 ∨ k = 2 ∨ k = 3 ∨ k = 4 ∨ k = 5 ∨ k = 6 ∨ k = 7 ∨ k = 8 := by omega
    rcases hk' with rfl | rfl | rfl | rfl | rfl | rfl | rfl | rfl | rfl
    all_goals simp only [wv64]
    · go_wp2
      go_round
      case rel => exact ⟨1, by omega, rfl, rfl⟩
      case measure => simp [intOf]
    · go_wp2
      go_round
      case rel => exact ⟨2, by omega, rfl, rfl⟩
      case measure => simp [intOf]
    · go_wp2
      go_round
      case rel => exact ⟨3, by omega, rfl, rfl⟩
      case measure => simp [intOf]
    · go_wp2
      go_round
      case rel => exact ⟨4, by omega, rfl, rfl⟩
      case measure => simp [intOf]
    · go_wp2
      go_round
      case rel => exact ⟨5, by omega, rfl, rfl⟩
      case measure => simp [intOf]
    · go_wp2
      go_round
      case rel => exact ⟨6, by omega, rfl, rfl⟩
      case measure => simp [intOf]
    · go_wp2
      go_round
      case rel => exact ⟨7, by omega, rfl, rfl⟩
      case measure => simp [intOf]
    · go_wp2
      go_round
      case rel => exact ⟨8, by omega, rfl, rfl⟩
      case measure => simp [intOf]
    · go_wp2
      go_ret
      exact ⟨rfl, rfl⟩

end Go.Proofs.YtpjekppljaekoaaGreatDoor
namespace Go.Proofs.YtpjekppljaekoaaGreatDoor
open Go Go.RowKit

/-- The pieces of a writer, the newest first. -/
def Chain (w : World) (p : Nat → Prop) : Option Addr → List (List UInt8) → Prop
  | r, [] => r = none
  | r, x :: ps => ∃ q b nx, r = some ⟨q, 0, none⟩ ∧ p q ∧ Blk w q 328 #[b, .pointer nx] ∧ Bs w p b x ∧ Chain w p nx ps

theorem Chain.ext {w w' : World} {F : List Nat} {p : Nat → Prop} (hx : Ext F w w') (hn : ∀ g, g < w.heap.size → p g → g ∉ F) : ∀ {r : Option Addr} {ps : List (List UInt8)}, Chain w p r ps → Chain w' p r ps
  | _, [], h => h
  | _, _ :: _, ⟨q, b, nx, e, hp, hb, hs, hc⟩ => ⟨q, b, nx, e, hp, hb.ext hx (hn q hb.lt hp), hs.ext hx hn, Chain.ext hx hn hc⟩

def WriterAt (w : World) (g : Nat) (ps : List (List UInt8)) : Prop :=
  ∃ last, Blk w g 248 #[.pointer last, .int .i64 (ps.flatten.length : Int)] ∧ Chain w (· ≠ g) last ps

theorem WriterAt.ext {w w' : World} {F : List Nat} {g : Nat} {ps : List (List UInt8)} (h : WriterAt w g ps) (hx : Ext F w w') (hn : ∀ k, k < w.heap.size → k ∉ F) : WriterAt w' g ps := by
  obtain ⟨last, hb, hc⟩ := h
  exact ⟨last, hb.ext hx (hn g hb.lt), hc.ext hx fun k hk _ => hn k hk⟩
theorem WriterAt.keep {w w' : World} {g : Nat} {ps : List (List UInt8)} (h : WriterAt w g ps) (hx : Ext [] w w') : WriterAt w' g ps := h.ext hx fun _ _ => by simp
theorem WriterAt.lt {w : World} {g : Nat} {ps : List (List UInt8)} (h : WriterAt w g ps) : g < w.heap.size := by
  obtain ⟨_, hb, _⟩ := h
  exact hb.lt

def PutPost (g : Nat) (ps : List (List UInt8)) (w : World) (e : Ending) (w' : World) : Prop := e = .returned (.tuple #[]) ∧ WriterAt w' g ps ∧ Ext [g] w w'

set_option maxHeartbeats 400000 in
theorem put_calls (g : Nat) (ps : List (List UInt8)) (v : Value) (x : List UInt8) (w : World) (hw : WriterAt w g ps) (hb : Bs w (· ≠ g) v x) (hl : ps.flatten.length + x.length ≤ 100000000) :
    Calls Tryz.prog 222 #[.pointer (some ⟨g, 0, none⟩), v] w (PutPost g (x :: ps) w) := by
  obtain ⟨last, hg, hc⟩ := hw
  have Hb := Lib.hid hb
  obtain ⟨A, c, rfl, h1, h2, h3, hr⟩ := hb
  clear h1 h2 h3 hr
  have c0 := hg.cell 0
  have c1 := hg.cell 1
  have f0 := hg.froz 0
  have f1 := hg.froz 1
  have hlt := hg.lt
  replace hg := Lib.hid hg
  replace hc := Lib.hid hc
  simp only [List.getElem?_toArray, List.getElem?_cons_zero, List.getElem?_cons_succ] at c0 c1
  generalize hL : ps.flatten.length = L at *
  generalize hX : x.length = X at *
  replace hL := Lib.hid hL
  replace hX := Lib.hid hX
  go_enter Tryz.func222, Tryz.ntmps222
  go_wp2
  go_end0
  have hx : Ext [g] w (((w.setCell ⟨g, 0, none⟩ (.pointer (some ⟨w.heap.size, 0, none⟩))).setCell ⟨g, 1, none⟩ (.int .i64 ((L : Int) + X))).alloc (.cells #[.slice A X c, .pointer last] 328)) :=
    (((Ext.refl [g] w).set (.inl (by simp)) _).set (.inl (by simp)) _).alloc _
  refine ⟨rfl, ⟨some ⟨w.heap.size, 0, none⟩, ?_, w.heap.size, .slice A X c, last, rfl, by omega, ?_, ?_, ?_⟩, hx⟩
  · have := ((hg.out.set 0 (.pointer (some ⟨w.heap.size, 0, none⟩))).set 1 (.int .i64 ((L : Int) + X))).alloc (.cells #[.slice A X c, .pointer last] 328)
    rw [List.flatten_cons, List.length_append, hL.out, hX.out]
    simpa [Int.add_comm] using this
  · exact Blk.new' _ _ _ (by simp)
  · exact Hb.out.ext hx (fun k _ hk => by simpa using hk)
  · exact Chain.ext hx (fun k _ hk => by simpa using hk) hc.out
end Go.Proofs.YtpjekppljaekoaaGreatDoor
namespace Go.Proofs.YtpjekppljaekoaaGreatDoor
open Go Go.RowKit

/-- The bytes while they are filled from the end on: e noughts, then l. -/
def outRow (e : Nat) (l : List UInt8) : List Value := List.replicate e (.int .u8 0) ++ l.map bv

theorem outRow_splice (e : Nat) (x l : List UInt8) : splice (outRow (e + x.length) l) e (x.map bv) = outRow e (x ++ l) := by
  unfold outRow splice
  rw [← List.replicate_append_replicate, List.append_assoc]
  have h1 : (List.replicate e (Value.int .u8 0) ++ (List.replicate x.length (Value.int .u8 0) ++ l.map bv)).take e = List.replicate e (Value.int .u8 0) := by
    rw [List.take_append_of_le_length (by simp), List.take_of_length_le (by simp)]
  have h2 : (List.replicate e (Value.int .u8 0) ++ (List.replicate x.length (Value.int .u8 0) ++ l.map bv)).drop (e + (x.map bv).length) = l.map bv := by
    rw [← List.append_assoc, List.drop_append_of_le_length (by simp), List.drop_of_length_le (by simp), List.nil_append]
  rw [h1, h2]; simp
theorem outRow_length (e : Nat) (l : List UInt8) : (outRow e l).length = e + l.length := by simp [outRow]

theorem make_bytes (n : Nat) (h : n ≤ 200000000) : ∀ w : World, (Instr.makeSlice 25 (.int .i64 (n : Int)) (.int .i64 (n : Int))).run Tryz.prog w = .ok (.slice (some ⟨w.heap.size, 0, none⟩) n n) (w.alloc (.cells (outRow n []).toArray 5)) := by
  intro w
  obtain ⟨i0, hi, hz0, hz1, hz2⟩ := info_parts Tryz.info5
  have := run_make (P := Tryz.prog) w 25 5 i0 _ Tryz.underlying25 hi hz0 .i64 .i64 n n (by omega) (Int.le_refl _) (by rw [hz2]; omega) (by omega)
  rw [this, hz1]
  have e : madeCells (Value.int IntKind.u8 0).cells ((n : Int).toNat * 1) = (outRow n []).toArray := by
    apply Array.ext'
    have := toList_madeCells_one (.int .u8 0) n
    simpa [outRow, Value.cells] using this
  rw [e]; simp

theorem Chain.old {w : World} {p : Nat → Prop} : ∀ {r : Option Addr} {ps : List (List UInt8)}, Chain w p r ps → Chain w (· < w.heap.size) r ps
  | _, [], h => h
  | _, _ :: _, ⟨q, b, nx, e, _, hb, hs, hc⟩ => ⟨q, b, nx, e, hb.lt, hb, hs.imp (fun _ h _ => h), hc.old⟩

/-- copy of bytes into a row that is known whole. -/
theorem copy_bytes {w : World} {ops : Array Oper} {rest : List Oper} {o : Oper} {a : Act} {Q : Exit → Act → World → Prop} (hgd : o.guard = none) (d s : Operand)
    (ho : o.op = .call { callee := .builtin .copy, args := #[d, s], argTypes := #[25, 25] }) (dp : Option Addr) (dLen dCap : Nat) (hd : a.eval d = .slice dp dLen dCap)
    (p : Nat → Prop) (sv : Value) (x : List UInt8) (hs : a.eval s = sv) (hb : Bs w p sv x) (hlen : x.length ≤ dLen) (g off : Nat) (hpos : 0 < x.length → dp = some ⟨g, off, none⟩)
    (t : TypeId) (cur : List Value) (hg : Blk w g t cur.toArray) (hfit : off + x.length ≤ cur.length)
    (h : ∀ w', Blk w' g t (splice cur off (x.map bv)).toArray → Ext [g] w w' → wpList Tryz.prog ops Q rest (a.put o.dst (.int .i64 (x.length : Int))) w') :
    wpList Tryz.prog ops Q (o :: rest) a w := by
  obtain ⟨A, c, rfl, h1, h2, h3, hr⟩ := hb
  by_cases h0 : x.length = 0
  · obtain rfl : x = [] := List.eq_nil_of_length_eq_zero h0
    refine wpList_copy_nothing hgd d s 25 25 ho 5 Tryz.underlying25 (by kernel_rfl) dp A dLen dCap _ c hd hs (by simp) ?_
    exact h w (by simpa [splice] using hg) (Ext.refl _ _)
  · obtain rfl := hpos (by omega)
    have hrr := hr
    obtain ⟨y, hy⟩ : ∃ y, x[0]? = some y := ⟨x[0]'(by omega), List.getElem?_eq_getElem _⟩
    obtain ⟨g', o', rfl, _⟩ := hrr.at (k := 0) (u := bv y) (by rw [List.getElem?_map, hy]; rfl)
    refine wpList_copy_own hgd d s 25 25 ho 5 Tryz.underlying25 (by kernel_rfl) g off dLen dCap ⟨g', o', none⟩ x.length c hd hs cur.toArray t hg (x.map bv) (by rw [List.length_map]; exact (Nat.min_eq_left hlen).symm) (hr.src rfl) (by simpa using hfit) (bv_one x) ?_
    have e : goInt ((x.map bv).length : Int) = .int .i64 (x.length : Int) := by simp [goInt]
    rw [e]
    refine h _ ?_ ⟨rfl, rfl, rfl, by simp, fun k _ hn => setRow_other w g k _ (by simpa using hn)⟩
    have := setRow_heap w g _ (cur.take off ++ x.map bv ++ cur.drop (off + (x.map bv).length)).toArray t _ hg
    simpa [splice, Blk] using this

def OutRel (ob : Nat) (all : List (List UInt8)) (B : Nat) (w0 : World) (k : Nat) (e : Value) (p : Value) (wr : World) : Prop :=
  ∃ (done rest : List (List UInt8)) (r : Option Addr), all = done ++ rest ∧ k = rest.length ∧ e = .int .i64 (rest.flatten.length : Int) ∧ p = .pointer r ∧
    Chain wr (· < B) r rest ∧ Blk wr ob 5 (outRow rest.flatten.length done.reverse.flatten).toArray ∧ Ext [] w0 wr

set_option maxRecDepth 100000 in
set_option maxHeartbeats 1000000 in
theorem out_calls (g : Nat) (ps : List (List UInt8)) (w : World) (hw : WriterAt w g ps) (hl : ps.flatten.length ≤ 100000000) :
    Calls Tryz.prog 153 #[.pointer (some ⟨g, 0, none⟩)] w (NewBs ps.reverse.flatten w) := by
  obtain ⟨last, hg, hc⟩ := hw
  have c0 := hg.cell 0
  have c1 := hg.cell 1
  simp only [List.getElem?_toArray, List.getElem?_cons_zero, List.getElem?_cons_succ] at c0 c1
  have hglt := hg.lt
  replace hg := Lib.hid hg
  replace hc := Lib.hid hc
  generalize hL : ps.flatten.length = L at *
  have hmk := make_bytes L (by omega)
  replace hL := Lib.hid hL
  replace hl := Lib.hid hl
  go_enter Tryz.func153, Tryz.ntmps153
  go_wp2
  go_loopg [4, 5] ps.length (fun k e p wr => OutRel w.heap.size ps w.heap.size w k e p wr)
  case atStart =>
    have hx : Ext [] w (w.alloc (.cells (outRow L []).toArray 5)) := (Ext.refl _ _).alloc _
    refine ⟨[], ps, last, rfl, rfl, by rw [hL.out], rfl, Chain.ext hx (fun _ _ _ => by simp) hc.out.old, ?_, hx⟩
    rw [hL.out]
    exact Blk.new _ _ _
  case round =>
    obtain ⟨done, rest, r, hall, rfl, he, rfl, hch, hbo, hx⟩ := hrel
    cases rest with
    | nil =>
      obtain rfl : r = none := hch
      subst he
      replace hbo := Lib.hid hbo
      replace hall := Lib.hid hall
      replace hx := Lib.hid hx
      go_wp2
      go_ret
      have hd : ps = done := by have := hall.out; simpa using this
      subst hd
      have hb := hbo.out
      simp only [List.flatten_nil, List.length_nil] at hb
      have e : ps.reverse.flatten.length = L := by rw [← hL.out]; simp [List.length_flatten, List.map_reverse, List.sum_reverse]
      refine ⟨.slice (some ⟨w.heap.size, 0, none⟩) L L, rfl, ?_, hx.out⟩
      have hl' := hl.out
      rw [← e] at hl' ⊢
      exact ⟨_, _, rfl, Nat.le_refl _, by unfold maxLen; omega, (fun h => by cases h), Row.of_blk hb (Nat.le_refl _) 0 (fun j u hu => by simpa [outRow] using hu)⟩
    | cons x rest =>
      obtain ⟨q, b, nx, rfl, hq, hbq, hbs, hch⟩ := hch
      have hbs' := hbs
      obtain ⟨A, c, rfl, h1, h2, h3, hr⟩ := hbs
      rw [List.flatten_cons, List.length_append] at he hbo
      have hLn : L = done.flatten.length + x.length + rest.flatten.length := by rw [← hL.out, hall]; simp; omega
      generalize hX : x.length = X at *
      generalize hE : rest.flatten.length = E at *
      generalize hD : done.flatten.length = D at *
      subst he
      have hLb : (L : Int) ≤ 100000000 := by have := hl.out; omega
      have hsub : (X : Int) + E - X = E := by omega
      have q0 := hbq.cell 0
      have q1 := hbq.cell 1
      simp only [List.getElem?_toArray, List.getElem?_cons_zero, List.getElem?_cons_succ] at q0 q1
      replace hbo := Lib.hid hbo
      replace hall := Lib.hid hall
      replace hx := Lib.hid hx
      replace hX := Lib.hid hX
      replace hE := Lib.hid hE
      replace hD := Lib.hid hD
      replace hch := Lib.hid hch
      replace hbs' := Lib.hid hbs'
      replace hbq := Lib.hid hbq
      replace hr := Lib.hid hr
      clear h1 h2 h3
      have hLe : E ≤ L := by omega
      replace hLn := Lib.hid hLn
      go_wp2
      go_still_tail 7, (by kernel_rfl)
      change wpList _ _ _ _ _ wr.drew
      generalize hdp : (ite (L = E) _ _ : Option Addr) = dp
      refine copy_bytes rfl _ _ rfl dp (L - E) (L - E) rfl (· < w.heap.size) (.slice A X c) x rfl (hbs'.out.keep ((Ext.refl _ _).drew)) ?_ w.heap.size E ?_ 5 _ (hbo.out.drew) ?_ ?_
      · rw [hX.out]; have := hLn.out; omega
      · intro h0
        rw [hX.out] at h0
        have := hLn.out
        rw [← hdp, if_neg (by omega)]
      · rw [outRow_length, hX.out]; omega
      intro w2 hb2 hx2
      have hx2' : Ext [] w w2 := hx.out.drew.trans hx2 (by simp)
      have hbq2 := (hbq.out.drew).ext hx2 (by simp; omega)
      have q2 := hbq2.cell 1
      simp only [List.getElem?_toArray, List.getElem?_cons_zero, List.getElem?_cons_succ] at q2
      have hch2 := Chain.ext hx2 (fun k _ hk => by simp; omega) (Chain.ext ((Ext.refl [] wr).drew) (fun _ _ _ => by simp) hch.out)
      replace hx2' := Lib.hid hx2'
      replace hb2 := Lib.hid hb2
      replace hch2 := Lib.hid hch2
      replace hdp := Lib.hid hdp
      clear hx2 hbq2 q1
      go_wp2
      go_roundg rest.length
      case measure => exact Nat.lt_succ_self _
      case rel =>
        refine ⟨done ++ [x], rest, nx, by rw [hall.out]; simp, rfl, by rw [hE.out], rfl, hch2.out, ?_, hx2'.out⟩
        have := hb2.out
        rw [hE.out]
        rw [Nat.add_comm X E, ← hX.out, outRow_splice] at this
        simpa using this
end Go.Proofs.YtpjekppljaekoaaGreatDoor
namespace Go.Proofs.YtpjekppljaekoaaGreatDoor
open Go Go.RowKit Go.Shelf

attribute [local go_sem] Oper.semAt_some

/-- The last k of a number's bytes, the greatest first. -/
def be : Nat → Int → List UInt8
  | 0, _ => []
  | k + 1, n => UInt8.ofNat (n / 256 ^ k % 256).toNat :: be k n
theorem be_length (k : Nat) (n : Int) : (be k n).length = k := by
  induction k with
  | zero => rfl
  | succ k ih => simp [be, ih]

/-- A row while digits are put at places, and what is left of the number. -/
def rowD (W : Nat) (n : Int) (l : List Nat) : List Value × Int :=
  l.foldl (fun s i => (s.1.set i (.int .u8 (s.2 % 256)), s.2 / 256)) (List.replicate W (.int .u8 0), n)
theorem rowD_snoc (W : Nat) (n : Int) (l : List Nat) (i : Nat) : rowD W n (l ++ [i]) = ((rowD W n l).1.set i (.int .u8 ((rowD W n l).2 % 256)), (rowD W n l).2 / 256) := by simp [rowD]
theorem rowD_ok (W : Nat) (l : List Nat) : ∀ s : List Value × Int, s.1.length = W → 0 ≤ s.2 →
    (l.foldl (fun s i => (s.1.set i (Value.int .u8 (s.2 % 256)), s.2 / 256)) s).1.length = W ∧ 0 ≤ (l.foldl (fun s i => (s.1.set i (Value.int .u8 (s.2 % 256)), s.2 / 256)) s).2 ∧
      (l.foldl (fun s i => (s.1.set i (Value.int .u8 (s.2 % 256)), s.2 / 256)) s).2 ≤ s.2 := by
  induction l with
  | nil => intro s h1 h2; exact ⟨h1, h2, Int.le_refl _⟩
  | cons i l ih =>
    intro s h1 h2
    have := ih (s.1.set i (.int .u8 (s.2 % 256)), s.2 / 256) (by simpa using h1) (by simp only; omega)
    refine ⟨this.1, this.2.1, Int.le_trans this.2.2 ?_⟩
    simp only; omega
theorem rowD_bd (W : Nat) (n : Int) (l : List Nat) (h : 0 ≤ n) : (rowD W n l).1.length = W ∧ 0 ≤ (rowD W n l).2 ∧ (rowD W n l).2 ≤ n := rowD_ok W l _ (by simp) h

theorem byte_toNat (m : Int) : bv (UInt8.ofNat (m % 256).toNat) = .int .u8 (m % 256) := by
  unfold bv
  have h : (UInt8.ofNat (m % 256).toNat).toNat = (m % 256).toNat := by
    rw [UInt8.toNat_ofNat']; exact Nat.mod_eq_of_lt (by omega)
  rw [h]; congr 1; omega
theorem div256 (n : Int) (k : Nat) : n / 256 / 256 ^ k = n / 256 ^ (k + 1) := by
  rw [Int.ediv_ediv_of_nonneg (by omega), Int.pow_succ, Int.mul_comm]
theorem rowD8 (n : Int) : (rowD 1 n (downTo 1 0)).1 = (be 1 n).map bv := by
  simp [rowD, downTo, List.range, List.range.loop, be, byte_toNat]
theorem rowD16 (n : Int) : (rowD 2 n (downTo 2 0)).1 = (be 2 n).map bv := by
  simp [rowD, downTo, List.range, List.range.loop, be, byte_toNat]
theorem rowD32 (n : Int) : (rowD 4 n (downTo 4 0)).1 = (be 4 n).map bv := by
  simp [rowD, downTo, List.range, List.range.loop, be, byte_toNat, Int.ediv_ediv_of_nonneg]
theorem rowD64 (n : Int) : (rowD 8 n (downTo 8 0)).1 = (be 8 n).map bv := by
  simp [rowD, downTo, List.range, List.range.loop, be, byte_toNat, Int.ediv_ediv_of_nonneg]

set_option maxHeartbeats 400000 in
theorem backward_calls (A : Option Addr) (n c : Nat) (w : World) :
    Calls Tryz.prog 269 #[.slice A n c] w fun e w' => e = .returned (.func (.func 306) #[] #[.pointer (some ⟨w.heap.size, 0, none⟩)]) ∧ w.alloc (.cells #[.slice A n c] 25) = w' := by
  go_enter Tryz.func269, Tryz.ntmps269
  go_wp2
  go_ret
  exact ⟨rfl, rfl⟩

/-- What stands between two rounds of digits' loop: what is left of the number, the row, the slice. -/
def DigI (K : IntKind) (T W : Nat) (n : Int) (w : World) (pre : List (Spot W)) (W' : World) : Prop :=
  Blk W' w.heap.size T #[.int K (rowD W n (pre.map (·.1.1))).2] ∧ Blk W' (w.heap.size + 1) 5 (rowD W n (pre.map (·.1.1))).1.toArray ∧
    Blk W' (w.heap.size + 2) 25 #[.slice (some ⟨w.heap.size + 1, 0, none⟩) W W] ∧ Ext [] w W'
theorem blk_own {A B : World} {row : Option Nat} {m g : Nat} {t : TypeId} {cs : Array Value} (h : Blk A g t cs) (hg : A.grownBy B row) (hr : ∀ r, row = some r → m ≤ r ∧ ∃ o : Obj, A.heap[r]? = some o ∧ o.isCells = false) : Blk B g t cs :=
  h.grown hg fun e => by
    obtain ⟨_, o, ho, hc⟩ := hr g e.symm
    unfold Blk at h
    rw [h] at ho
    injection ho with ho
    subst ho
    cases hc
theorem ext_own {A B w : World} {row : Option Nat} {m : Nat} {F : List Nat} (h : Ext F w A) (hg : A.grownBy B row) (hm : w.heap.size ≤ m) (hr : ∀ r, row = some r → m ≤ r ∧ ∃ o : Obj, A.heap[r]? = some o ∧ o.isCells = false) : Ext F w B :=
  h.grown hg fun k e => .inr (Nat.le_trans hm (hr k e).1)
theorem digI_own (K : IntKind) (T W : Nat) (n : Int) (w : World) (m : Nat) (hm : w.heap.size ≤ m) : OwnFrom m (DigI K T W n w) := fun _ _ _ _ ⟨h1, h2, h3, h4⟩ hg hr =>
  ⟨blk_own h1 hg hr, blk_own h2 hg hr, blk_own h3 hg hr, ext_own h4 hg hm hr⟩

set_option maxRecDepth 100000 in
set_option maxHeartbeats 1000000 in
theorem digits64_calls (n : Int) (w : World) (h0 : 0 ≤ n) (_h1 : n < 18446744073709551616) :
    Calls Tryz.prog 224 #[.int .u64 n] w (NewBs (be 8 n) w) := by
  have hmk : ∀ w : World, (Instr.makeSlice 25 (.int .i64 8) (.int .i64 8)).run Tryz.prog w = .ok (.slice (some ⟨w.heap.size, 0, none⟩) 8 8) (w.alloc (.cells (outRow 8 []).toArray 5)) := make_bytes 8 (by omega)
  refine (callsIn_wide (n := 5)).1 ?_
  refine callsIn_of_wp_marks Tryz.func224 rfl trivial ?_ rfl
  simp only [Tryz.ntmps224, List.size_toArray, List.length_cons, List.length_nil, Nat.reduceAdd, Nat.reduceSub, Array.replicate_succ, Array.replicate_zero, List.push_toArray, List.append_toArray, List.nil_append, List.cons_append]
  gi_wp2_with (first | (refine ⟨trivial, ?_⟩; gi_at_call 253; refine (callsIn_wide.2 (width64_calls _)).mono ?_; rintro e w1 ⟨rfl, rfl⟩) | (refine ⟨trivial, ?_⟩; gi_at_call 269; refine (callsIn_wide.2 (backward_calls _ _ _ _)).mono ?_; rintro e w1 ⟨rfl, rfl⟩))
  generalize hW0 : ((((w.alloc (.cells #[.int .u64 n] 204)).alloc (.cells (outRow 8 []).toArray 5)).alloc (.cells #[.slice (some ⟨w.heap.size + 1, 0, none⟩) 8 8] 25)).alloc (.cells #[.slice (some ⟨w.heap.size + 1, 0, none⟩) 8 8] 25)) = W0
  have hsz : W0.heap.size = w.heap.size + 4 := by rw [← hW0]; simp
  have b0 : Blk W0 w.heap.size 204 #[.int .u64 n] := by rw [← hW0]; exact (((Blk.new _ _ _).alloc _).alloc _).alloc _
  have b1 : Blk W0 (w.heap.size + 1) 5 (outRow 8 []).toArray := by rw [← hW0]; exact ((Blk.new' _ _ _ (by simp)).alloc _).alloc _
  have b2 : Blk W0 (w.heap.size + 2) 25 #[.slice (some ⟨w.heap.size + 1, 0, none⟩) 8 8] := by rw [← hW0]; exact (Blk.new' _ _ _ (by simp)).alloc _
  have b3 : Blk W0 (w.heap.size + 3) 25 #[.slice (some ⟨w.heap.size + 1, 0, none⟩) 8 8] := by rw [← hW0]; exact Blk.new' _ _ _ (by simp)
  have hx0 : Ext [] w W0 := by rw [← hW0]; exact ((((Ext.refl _ _).alloc _).alloc _).alloc _).alloc _
  refine wpIn_rangeFunc_ownF rfl (by omega) (gf := 306) (lb := #[.pointer (some ⟨w.heap.size + 3, 0, none⟩)]) rfl trivial (enters_of Tryz.func306 (by kernel_rfl) rfl)
    (back_stops 4 (w.heap.size + 3) (w.heap.size + 1) 8 8 (by omega) (by omega) W0 (by omega) (by omega) (b3.cell 0) (fun j hj => ⟨0, (b1.cell j).trans (by unfold outRow; rw [List.map_nil, List.append_nil, List.getElem?_toArray, List.getElem?_replicate, if_pos hj])⟩))
    backK_t (backK_b (by omega) (by omega)) (Below.refl _ _) (fun _ => rfl)
    (DigI .u64 204 8 n w) (fun _ _ _ => False) (digI_own _ _ _ _ _ _ (by omega)) (fun _ _ _ _ _ hs _ _ => hs)
    ⟨b0, by simpa [rowD, outRow] using b1, b2, hx0⟩
    (fun x => { tmps := #[.int .u64 n, .pointer (some ⟨w.heap.size, 0, none⟩), .slice none 0 0, .pointer (some ⟨w.heap.size + 2, 0, none⟩), .int .i64 x.1.1, .int .i64 8, .slice (some ⟨w.heap.size + 1, 0, none⟩) 8 8, .slice (some ⟨w.heap.size + 1, 0, none⟩) 8 8, .func (.func 306) #[] #[.pointer (some ⟨w.heap.size + 3, 0, none⟩)], .int .i64 x.1.1, .int .u8 x.1.2, undef, undef, undef, undef, undef, undef, undef, undef], defers := [] }) ?assign ?body ?done ?stop
  case assign =>
    intro l x W K hK
    gi_wp2
    exact hK
  case body =>
    rintro l pre x W ⟨h1, h2, h3, h4⟩ _
    obtain ⟨⟨i, u⟩, hi⟩ := x
    simp only at hi
    obtain ⟨hlen, v0, v1⟩ := rowD_bd 8 n (pre.map (·.1.1)) h0
    have hsn := rowD_snoc 8 n (pre.map (·.1.1)) i
    generalize hR : (rowD 8 n (pre.map (·.1.1))).1 = R at *
    generalize hV : (rowD 8 n (pre.map (·.1.1))).2 = V at *
    replace hR := Lib.hid hR
    replace hV := Lib.hid hV
    replace hsn := Lib.hid hsn
    have c1 := h1.cell 0
    have c3 := h3.cell 0
    have c2 : W.cell? ⟨w.heap.size + 1, i, none⟩ = some (R[i]'(by omega)) := (h2.cell i).trans (by simp [hlen, hi])
    generalize R[i]'(by omega) = u0 at c2
    have f1 := h1.froz 0
    have f2 := h2.froz i
    simp only [List.getElem?_toArray, List.getElem?_cons_zero] at c1 c3
    replace h1 := Lib.hid h1
    replace h2 := Lib.hid h2
    replace h3 := Lib.hid h3
    replace h4 := Lib.hid h4
    replace hlen := Lib.hid hlen
    gi_wp2
    have hb1 : Blk ((W.setCell ⟨w.heap.size + 1, i, none⟩ (.int .u8 (V % 256))).setCell ⟨w.heap.size, 0, none⟩ (.int .u64 (V / 256))) w.heap.size 204 #[.int .u64 (V / 256)] := by
      have := (h1.out.far (p := ⟨w.heap.size + 1, i, none⟩) (by simp) (.int .u8 (V % 256))).set 0 (.int .u64 (V / 256))
      simpa using this
    have hb2 : Blk ((W.setCell ⟨w.heap.size + 1, i, none⟩ (.int .u8 (V % 256))).setCell ⟨w.heap.size, 0, none⟩ (.int .u64 (V / 256))) (w.heap.size + 1) 5 (R.set i (.int .u8 (V % 256))).toArray := by
      have := (h2.out.set i (.int .u8 (V % 256))).far (p := ⟨w.heap.size, 0, none⟩) (by simp) (.int .u64 (V / 256))
      simpa using this
    refine ⟨(KeepsOthers.setCell _ _ _).trans (KeepsOthers.setCell _ _ _), ⟨?_, ?_⟩, ?_, ?_, ?_, ?_⟩
    · rw [World.cell?_setCell_other _ _ _ _ (by simp), World.cell?_setCell_other _ _ _ _ (by simp)]
    · rintro j hj ⟨v, hv⟩
      by_cases hji : j = i
      · subst hji
        exact ⟨V % 256, (hb2.cell j).trans (by simp [hlen.out, hj])⟩
      · refine ⟨v, ?_⟩
        rw [World.cell?_setCell_other _ _ _ _ (by simp), World.cell?_setCell_other _ _ _ _ (by simp only [ne_eq, Addr.mk.injEq, not_and]; omega)]
        exact hv
    · rw [List.map_append, List.map_cons, List.map_nil, hsn.out]; exact hb1
    · rw [List.map_append, List.map_cons, List.map_nil, hsn.out]; exact hb2
    · exact (h3.out.far (by simp) _).far (by simp) _
    · exact (h4.out.set (.inr (by simp)) _).set (.inr (by simp)) _
  case done =>
    rintro D xs W hD hS ⟨h1, h2, h3, h4⟩ hK
    rw [hS, rowD64] at h2
    have c3 := h3.cell 0
    simp only [List.getElem?_toArray, List.getElem?_cons_zero] at c3
    clear h1 h3 hS
    replace h2 := Lib.hid h2
    replace h4 := Lib.hid h4
    gi_wp2
    refine ⟨by simp, .inl ⟨_, _, rfl, run_takeDeferred hK, ?_⟩⟩
    refine ⟨_, results_tmp rfl _ _ _, .slice (some ⟨w.heap.size + 1, 0, none⟩) 8 8, rfl, ?_, ?_⟩
    · have hg : W.grownBy (W.putObj D (.deferred none)) (some D) := grownBy_putObj' W D _
      have hb := h2.out.grown hg (by simp; omega)
      exact ⟨_, 8, by rw [be_length], by rw [be_length]; exact Nat.le_refl _, by unfold maxLen; omega, (fun h => by cases h), Row.of_blk hb (by simp) 0 (fun j u hu => by simpa using hu)⟩
    · exact h4.out.grown (grownBy_putObj' W D _) (fun k e => by cases e; exact .inr (by omega))
  case stop =>
    rintro D c pre W _ _ h _
    exact h.elim
set_option maxRecDepth 100000 in
set_option maxHeartbeats 1000000 in
theorem digits32_calls (n : Int) (w : World) (h0 : 0 ≤ n) (_h1 : n < 4294967296) :
    Calls Tryz.prog 244 #[.int .u32 n] w (NewBs (be 4 n) w) := by
  have hmk : ∀ w : World, (Instr.makeSlice 25 (.int .i64 4) (.int .i64 4)).run Tryz.prog w = .ok (.slice (some ⟨w.heap.size, 0, none⟩) 4 4) (w.alloc (.cells (outRow 4 []).toArray 5)) := make_bytes 4 (by omega)
  refine (callsIn_wide (n := 5)).1 ?_
  refine callsIn_of_wp_marks Tryz.func244 rfl trivial ?_ rfl
  simp only [Tryz.ntmps244, List.size_toArray, List.length_cons, List.length_nil, Nat.reduceAdd, Nat.reduceSub, Array.replicate_succ, Array.replicate_zero, List.push_toArray, List.append_toArray, List.nil_append, List.cons_append]
  gi_wp2_with (first | (refine ⟨trivial, ?_⟩; gi_at_call 254; refine (callsIn_wide.2 (width32_calls _)).mono ?_; rintro e w1 ⟨rfl, rfl⟩) | (refine ⟨trivial, ?_⟩; gi_at_call 269; refine (callsIn_wide.2 (backward_calls _ _ _ _)).mono ?_; rintro e w1 ⟨rfl, rfl⟩))
  generalize hW0 : ((((w.alloc (.cells #[.int .u32 n] 49)).alloc (.cells (outRow 4 []).toArray 5)).alloc (.cells #[.slice (some ⟨w.heap.size + 1, 0, none⟩) 4 4] 25)).alloc (.cells #[.slice (some ⟨w.heap.size + 1, 0, none⟩) 4 4] 25)) = W0
  have hsz : W0.heap.size = w.heap.size + 4 := by rw [← hW0]; simp
  have b0 : Blk W0 w.heap.size 49 #[.int .u32 n] := by rw [← hW0]; exact (((Blk.new _ _ _).alloc _).alloc _).alloc _
  have b1 : Blk W0 (w.heap.size + 1) 5 (outRow 4 []).toArray := by rw [← hW0]; exact ((Blk.new' _ _ _ (by simp)).alloc _).alloc _
  have b2 : Blk W0 (w.heap.size + 2) 25 #[.slice (some ⟨w.heap.size + 1, 0, none⟩) 4 4] := by rw [← hW0]; exact (Blk.new' _ _ _ (by simp)).alloc _
  have b3 : Blk W0 (w.heap.size + 3) 25 #[.slice (some ⟨w.heap.size + 1, 0, none⟩) 4 4] := by rw [← hW0]; exact Blk.new' _ _ _ (by simp)
  have hx0 : Ext [] w W0 := by rw [← hW0]; exact ((((Ext.refl _ _).alloc _).alloc _).alloc _).alloc _
  refine wpIn_rangeFunc_ownF rfl (by omega) (gf := 306) (lb := #[.pointer (some ⟨w.heap.size + 3, 0, none⟩)]) rfl trivial (enters_of Tryz.func306 (by kernel_rfl) rfl)
    (back_stops 4 (w.heap.size + 3) (w.heap.size + 1) 4 4 (by omega) (by omega) W0 (by omega) (by omega) (b3.cell 0) (fun j hj => ⟨0, (b1.cell j).trans (by unfold outRow; rw [List.map_nil, List.append_nil, List.getElem?_toArray, List.getElem?_replicate, if_pos hj])⟩))
    backK_t (backK_b (by omega) (by omega)) (Below.refl _ _) (fun _ => rfl)
    (DigI .u32 49 4 n w) (fun _ _ _ => False) (digI_own _ _ _ _ _ _ (by omega)) (fun _ _ _ _ _ hs _ _ => hs)
    ⟨b0, by simpa [rowD, outRow] using b1, b2, hx0⟩
    (fun x => { tmps := #[.int .u32 n, .pointer (some ⟨w.heap.size, 0, none⟩), .slice none 0 0, .pointer (some ⟨w.heap.size + 2, 0, none⟩), .int .i64 x.1.1, .int .i64 4, .slice (some ⟨w.heap.size + 1, 0, none⟩) 4 4, .slice (some ⟨w.heap.size + 1, 0, none⟩) 4 4, .func (.func 306) #[] #[.pointer (some ⟨w.heap.size + 3, 0, none⟩)], .int .i64 x.1.1, .int .u8 x.1.2, undef, undef, undef, undef, undef, undef, undef, undef, undef, undef], defers := [] }) ?assign ?body ?done ?stop
  case assign =>
    intro l x W K hK
    gi_wp2
    exact hK
  case body =>
    rintro l pre x W ⟨h1, h2, h3, h4⟩ _
    obtain ⟨⟨i, u⟩, hi⟩ := x
    simp only at hi
    obtain ⟨hlen, v0, v1⟩ := rowD_bd 4 n (pre.map (·.1.1)) h0
    have hsn := rowD_snoc 4 n (pre.map (·.1.1)) i
    generalize hR : (rowD 4 n (pre.map (·.1.1))).1 = R at *
    generalize hV : (rowD 4 n (pre.map (·.1.1))).2 = V at *
    replace hR := Lib.hid hR
    replace hV := Lib.hid hV
    replace hsn := Lib.hid hsn
    have c1 := h1.cell 0
    have c3 := h3.cell 0
    have c2 : W.cell? ⟨w.heap.size + 1, i, none⟩ = some (R[i]'(by omega)) := (h2.cell i).trans (by simp [hlen, hi])
    generalize R[i]'(by omega) = u0 at c2
    have f1 := h1.froz 0
    have f2 := h2.froz i
    simp only [List.getElem?_toArray, List.getElem?_cons_zero] at c1 c3
    replace h1 := Lib.hid h1
    replace h2 := Lib.hid h2
    replace h3 := Lib.hid h3
    replace h4 := Lib.hid h4
    replace hlen := Lib.hid hlen
    gi_wp2
    have hb1 : Blk ((W.setCell ⟨w.heap.size + 1, i, none⟩ (.int .u8 (V % 256))).setCell ⟨w.heap.size, 0, none⟩ (.int .u32 (V / 256))) w.heap.size 49 #[.int .u32 (V / 256)] := by
      have := (h1.out.far (p := ⟨w.heap.size + 1, i, none⟩) (by simp) (.int .u8 (V % 256))).set 0 (.int .u32 (V / 256))
      simpa using this
    have hb2 : Blk ((W.setCell ⟨w.heap.size + 1, i, none⟩ (.int .u8 (V % 256))).setCell ⟨w.heap.size, 0, none⟩ (.int .u32 (V / 256))) (w.heap.size + 1) 5 (R.set i (.int .u8 (V % 256))).toArray := by
      have := (h2.out.set i (.int .u8 (V % 256))).far (p := ⟨w.heap.size, 0, none⟩) (by simp) (.int .u32 (V / 256))
      simpa using this
    refine ⟨(KeepsOthers.setCell _ _ _).trans (KeepsOthers.setCell _ _ _), ⟨?_, ?_⟩, ?_, ?_, ?_, ?_⟩
    · rw [World.cell?_setCell_other _ _ _ _ (by simp), World.cell?_setCell_other _ _ _ _ (by simp)]
    · rintro j hj ⟨v, hv⟩
      by_cases hji : j = i
      · subst hji
        exact ⟨V % 256, (hb2.cell j).trans (by simp [hlen.out, hj])⟩
      · refine ⟨v, ?_⟩
        rw [World.cell?_setCell_other _ _ _ _ (by simp), World.cell?_setCell_other _ _ _ _ (by simp only [ne_eq, Addr.mk.injEq, not_and]; omega)]
        exact hv
    · rw [List.map_append, List.map_cons, List.map_nil, hsn.out]; exact hb1
    · rw [List.map_append, List.map_cons, List.map_nil, hsn.out]; exact hb2
    · exact (h3.out.far (by simp) _).far (by simp) _
    · exact (h4.out.set (.inr (by simp)) _).set (.inr (by simp)) _
  case done =>
    rintro D xs W hD hS ⟨h1, h2, h3, h4⟩ hK
    rw [hS, rowD32] at h2
    have c3 := h3.cell 0
    simp only [List.getElem?_toArray, List.getElem?_cons_zero] at c3
    clear h1 h3 hS
    replace h2 := Lib.hid h2
    replace h4 := Lib.hid h4
    gi_wp2
    refine ⟨by simp, .inl ⟨_, _, rfl, run_takeDeferred hK, ?_⟩⟩
    refine ⟨_, results_tmp rfl _ _ _, .slice (some ⟨w.heap.size + 1, 0, none⟩) 4 4, rfl, ?_, ?_⟩
    · have hg : W.grownBy (W.putObj D (.deferred none)) (some D) := grownBy_putObj' W D _
      have hb := h2.out.grown hg (by simp; omega)
      exact ⟨_, 4, by rw [be_length], by rw [be_length]; exact Nat.le_refl _, by unfold maxLen; omega, (fun h => by cases h), Row.of_blk hb (by simp) 0 (fun j u hu => by simpa using hu)⟩
    · exact h4.out.grown (grownBy_putObj' W D _) (fun k e => by cases e; exact .inr (by omega))
  case stop =>
    rintro D c pre W _ _ h _
    exact h.elim
set_option maxRecDepth 100000 in
set_option maxHeartbeats 1000000 in
theorem digits8_calls (n : Int) (w : World) (h0 : 0 ≤ n) (_h1 : n < 256) :
    Calls Tryz.prog 223 #[.int .u8 n] w (NewBs (be 1 n) w) := by
  have hmk : ∀ w : World, (Instr.makeSlice 25 (.int .i64 1) (.int .i64 1)).run Tryz.prog w = .ok (.slice (some ⟨w.heap.size, 0, none⟩) 1 1) (w.alloc (.cells (outRow 1 []).toArray 5)) := make_bytes 1 (by omega)
  refine (callsIn_wide (n := 5)).1 ?_
  refine callsIn_of_wp_marks Tryz.func223 rfl trivial ?_ rfl
  simp only [Tryz.ntmps223, List.size_toArray, List.length_cons, List.length_nil, Nat.reduceAdd, Nat.reduceSub, Array.replicate_succ, Array.replicate_zero, List.push_toArray, List.append_toArray, List.nil_append, List.cons_append]
  gi_wp2_with (first | (refine ⟨trivial, ?_⟩; gi_at_call 252; refine (callsIn_wide.2 (width8_calls _)).mono ?_; rintro e w1 ⟨rfl, rfl⟩) | (refine ⟨trivial, ?_⟩; gi_at_call 269; refine (callsIn_wide.2 (backward_calls _ _ _ _)).mono ?_; rintro e w1 ⟨rfl, rfl⟩))
  generalize hW0 : ((((w.alloc (.cells #[.int .u8 n] 5)).alloc (.cells (outRow 1 []).toArray 5)).alloc (.cells #[.slice (some ⟨w.heap.size + 1, 0, none⟩) 1 1] 25)).alloc (.cells #[.slice (some ⟨w.heap.size + 1, 0, none⟩) 1 1] 25)) = W0
  have hsz : W0.heap.size = w.heap.size + 4 := by rw [← hW0]; simp
  have b0 : Blk W0 w.heap.size 5 #[.int .u8 n] := by rw [← hW0]; exact (((Blk.new _ _ _).alloc _).alloc _).alloc _
  have b1 : Blk W0 (w.heap.size + 1) 5 (outRow 1 []).toArray := by rw [← hW0]; exact ((Blk.new' _ _ _ (by simp)).alloc _).alloc _
  have b2 : Blk W0 (w.heap.size + 2) 25 #[.slice (some ⟨w.heap.size + 1, 0, none⟩) 1 1] := by rw [← hW0]; exact (Blk.new' _ _ _ (by simp)).alloc _
  have b3 : Blk W0 (w.heap.size + 3) 25 #[.slice (some ⟨w.heap.size + 1, 0, none⟩) 1 1] := by rw [← hW0]; exact Blk.new' _ _ _ (by simp)
  have hx0 : Ext [] w W0 := by rw [← hW0]; exact ((((Ext.refl _ _).alloc _).alloc _).alloc _).alloc _
  refine wpIn_rangeFunc_ownF rfl (by omega) (gf := 306) (lb := #[.pointer (some ⟨w.heap.size + 3, 0, none⟩)]) rfl trivial (enters_of Tryz.func306 (by kernel_rfl) rfl)
    (back_stops 4 (w.heap.size + 3) (w.heap.size + 1) 1 1 (by omega) (by omega) W0 (by omega) (by omega) (b3.cell 0) (fun j hj => ⟨0, (b1.cell j).trans (by unfold outRow; rw [List.map_nil, List.append_nil, List.getElem?_toArray, List.getElem?_replicate, if_pos hj])⟩))
    backK_t (backK_b (by omega) (by omega)) (Below.refl _ _) (fun _ => rfl)
    (DigI .u8 5 1 n w) (fun _ _ _ => False) (digI_own _ _ _ _ _ _ (by omega)) (fun _ _ _ _ _ hs _ _ => hs)
    ⟨b0, by simpa [rowD, outRow] using b1, b2, hx0⟩
    (fun x => { tmps := #[.int .u8 n, .pointer (some ⟨w.heap.size, 0, none⟩), .slice none 0 0, .pointer (some ⟨w.heap.size + 2, 0, none⟩), .int .i64 x.1.1, .int .i64 1, .slice (some ⟨w.heap.size + 1, 0, none⟩) 1 1, .slice (some ⟨w.heap.size + 1, 0, none⟩) 1 1, .func (.func 306) #[] #[.pointer (some ⟨w.heap.size + 3, 0, none⟩)], .int .i64 x.1.1, .int .u8 x.1.2, undef, undef, undef, undef, undef, undef, undef, undef, undef], defers := [] }) ?assign ?body ?done ?stop
  case assign =>
    intro l x W K hK
    gi_wp2
    exact hK
  case body =>
    rintro l pre x W ⟨h1, h2, h3, h4⟩ _
    obtain ⟨⟨i, u⟩, hi⟩ := x
    simp only at hi
    obtain ⟨hlen, v0, v1⟩ := rowD_bd 1 n (pre.map (·.1.1)) h0
    have hsn := rowD_snoc 1 n (pre.map (·.1.1)) i
    have h1n : n < 256 := _h1
    generalize hR : (rowD 1 n (pre.map (·.1.1))).1 = R at *
    generalize hV : (rowD 1 n (pre.map (·.1.1))).2 = V at *
    replace hR := Lib.hid hR
    replace hV := Lib.hid hV
    replace hsn := Lib.hid hsn
    have hVm : V % 256 = V := by omega
    rw [hVm] at hsn
    replace hVm := Lib.hid hVm
    have c1 := h1.cell 0
    have c3 := h3.cell 0
    have c2 : W.cell? ⟨w.heap.size + 1, i, none⟩ = some (R[i]'(by omega)) := (h2.cell i).trans (by simp [hlen, hi])
    generalize R[i]'(by omega) = u0 at c2
    have f1 := h1.froz 0
    have f2 := h2.froz i
    simp only [List.getElem?_toArray, List.getElem?_cons_zero] at c1 c3
    replace h1 := Lib.hid h1
    replace h2 := Lib.hid h2
    replace h3 := Lib.hid h3
    replace h4 := Lib.hid h4
    replace hlen := Lib.hid hlen
    gi_wp2
    have hb1 : Blk ((W.setCell ⟨w.heap.size + 1, i, none⟩ (.int .u8 V)).setCell ⟨w.heap.size, 0, none⟩ (.int .u8 (V / 256))) w.heap.size 5 #[.int .u8 (V / 256)] := by
      have := (h1.out.far (p := ⟨w.heap.size + 1, i, none⟩) (by simp) (.int .u8 V)).set 0 (.int .u8 (V / 256))
      simpa using this
    have hb2 : Blk ((W.setCell ⟨w.heap.size + 1, i, none⟩ (.int .u8 V)).setCell ⟨w.heap.size, 0, none⟩ (.int .u8 (V / 256))) (w.heap.size + 1) 5 (R.set i (.int .u8 V)).toArray := by
      have := (h2.out.set i (.int .u8 V)).far (p := ⟨w.heap.size, 0, none⟩) (by simp) (.int .u8 (V / 256))
      simpa using this
    refine ⟨(KeepsOthers.setCell _ _ _).trans (KeepsOthers.setCell _ _ _), ⟨?_, ?_⟩, ?_, ?_, ?_, ?_⟩
    · rw [World.cell?_setCell_other _ _ _ _ (by simp), World.cell?_setCell_other _ _ _ _ (by simp)]
    · rintro j hj ⟨v, hv⟩
      by_cases hji : j = i
      · subst hji
        exact ⟨V, (hb2.cell j).trans (by simp [hlen.out, hj])⟩
      · refine ⟨v, ?_⟩
        rw [World.cell?_setCell_other _ _ _ _ (by simp), World.cell?_setCell_other _ _ _ _ (by simp only [ne_eq, Addr.mk.injEq, not_and]; omega)]
        exact hv
    · rw [List.map_append, List.map_cons, List.map_nil, hsn.out]; exact hb1
    · rw [List.map_append, List.map_cons, List.map_nil, hsn.out]; exact hb2
    · exact (h3.out.far (by simp) _).far (by simp) _
    · exact (h4.out.set (.inr (by simp)) _).set (.inr (by simp)) _
  case done =>
    rintro D xs W hD hS ⟨h1, h2, h3, h4⟩ hK
    rw [hS, rowD8] at h2
    have c3 := h3.cell 0
    simp only [List.getElem?_toArray, List.getElem?_cons_zero] at c3
    clear h1 h3 hS
    replace h2 := Lib.hid h2
    replace h4 := Lib.hid h4
    gi_wp2
    refine ⟨by simp, .inl ⟨_, _, rfl, run_takeDeferred hK, ?_⟩⟩
    refine ⟨_, results_tmp rfl _ _ _, .slice (some ⟨w.heap.size + 1, 0, none⟩) 1 1, rfl, ?_, ?_⟩
    · have hg : W.grownBy (W.putObj D (.deferred none)) (some D) := grownBy_putObj' W D _
      have hb := h2.out.grown hg (by simp; omega)
      exact ⟨_, 1, by rw [be_length], by rw [be_length]; exact Nat.le_refl _, by unfold maxLen; omega, (fun h => by cases h), Row.of_blk hb (by simp) 0 (fun j u hu => by simpa using hu)⟩
    · exact h4.out.grown (grownBy_putObj' W D _) (fun k e => by cases e; exact .inr (by omega))
  case stop =>
    rintro D c pre W _ _ h _
    exact h.elim
end Go.Proofs.YtpjekppljaekoaaGreatDoor
namespace Go.Proofs.YtpjekppljaekoaaGreatDoor
open Go Go.RowKit

set_option maxRecDepth 100000 in
set_option maxHeartbeats 400000 in
theorem wbyte_calls (g : Nat) (ps : List (List UInt8)) (n : Int) (w : World) (hw : WriterAt w g ps) (h0 : 0 ≤ n) (h1 : n < 256) (hl : ps.flatten.length ≤ 90000000) :
    Calls Tryz.prog 150 #[.pointer (some ⟨g, 0, none⟩), .int .u8 n] w (PutPost g (be 1 n :: ps) w) := by
  have hD := digits8_calls n w h0 h1
  have hlt := hw.lt
  have hP : ∀ v w1, Bs w1 (w.heap.size ≤ ·) v (be 1 n) → Ext [] w w1 → Calls Tryz.prog 222 #[.pointer (some ⟨g, 0, none⟩), v] w1 (PutPost g (be 1 n :: ps) w1) := fun v w1 hb hx =>
    put_calls g ps v _ w1 (hw.keep hx) (hb.imp fun k _ hk => by omega) (by rw [be_length]; omega)
  generalize be 1 n = B at *
  clear hl h1 hw
  go_enter Tryz.func150, Tryz.ntmps150
  go_wp2_with (first | (go_at_call 223; refine hD.mono ?_; rintro e w1 ⟨v, rfl, hb, hx⟩; replace hb := Lib.hid hb; replace hx := Lib.hid hx) | (go_at_call 222; refine (hP _ _ hb.out hx.out).mono ?_; rintro e w2 ⟨rfl, hw2, hx2⟩; replace hw2 := Lib.hid hw2; replace hx2 := Lib.hid hx2))
  go_end0
  exact ⟨rfl, hw2.out, (hx.out.mono (by simp)).trans' hx2.out⟩

set_option maxRecDepth 100000 in
set_option maxHeartbeats 400000 in
theorem wword_calls (g : Nat) (ps : List (List UInt8)) (n : Int) (w : World) (hw : WriterAt w g ps) (h0 : 0 ≤ n) (h1 : n < 4294967296) (hl : ps.flatten.length ≤ 90000000) :
    Calls Tryz.prog 181 #[.pointer (some ⟨g, 0, none⟩), .int .u32 n] w (PutPost g (be 4 n :: ps) w) := by
  have hD := digits32_calls n w h0 h1
  have hlt := hw.lt
  have hP : ∀ v w1, Bs w1 (w.heap.size ≤ ·) v (be 4 n) → Ext [] w w1 → Calls Tryz.prog 222 #[.pointer (some ⟨g, 0, none⟩), v] w1 (PutPost g (be 4 n :: ps) w1) := fun v w1 hb hx =>
    put_calls g ps v _ w1 (hw.keep hx) (hb.imp fun k _ hk => by omega) (by rw [be_length]; omega)
  generalize be 4 n = B at *
  clear hl h1 hw
  go_enter Tryz.func181, Tryz.ntmps181
  go_wp2_with (first | (go_at_call 244; refine hD.mono ?_; rintro e w1 ⟨v, rfl, hb, hx⟩; replace hb := Lib.hid hb; replace hx := Lib.hid hx) | (go_at_call 222; refine (hP _ _ hb.out hx.out).mono ?_; rintro e w2 ⟨rfl, hw2, hx2⟩; replace hw2 := Lib.hid hw2; replace hx2 := Lib.hid hx2))
  go_end0
  exact ⟨rfl, hw2.out, (hx.out.mono (by simp)).trans' hx2.out⟩

set_option maxRecDepth 100000 in
set_option maxHeartbeats 400000 in
theorem wlong_calls (g : Nat) (ps : List (List UInt8)) (n : Int) (w : World) (hw : WriterAt w g ps) (h0 : 0 ≤ n) (h1 : n < 18446744073709551616) (hl : ps.flatten.length ≤ 90000000) :
    Calls Tryz.prog 151 #[.pointer (some ⟨g, 0, none⟩), .int .u64 n] w (PutPost g (be 8 n :: ps) w) := by
  have hD := digits64_calls n w h0 h1
  have hlt := hw.lt
  have hP : ∀ v w1, Bs w1 (w.heap.size ≤ ·) v (be 8 n) → Ext [] w w1 → Calls Tryz.prog 222 #[.pointer (some ⟨g, 0, none⟩), v] w1 (PutPost g (be 8 n :: ps) w1) := fun v w1 hb hx =>
    put_calls g ps v _ w1 (hw.keep hx) (hb.imp fun k _ hk => by omega) (by rw [be_length]; omega)
  generalize be 8 n = B at *
  clear hl h1 hw
  go_enter Tryz.func151, Tryz.ntmps151
  go_wp2_with (first | (go_at_call 224; refine hD.mono ?_; rintro e w1 ⟨v, rfl, hb, hx⟩; replace hb := Lib.hid hb; replace hx := Lib.hid hx) | (go_at_call 222; refine (hP _ _ hb.out hx.out).mono ?_; rintro e w2 ⟨rfl, hw2, hx2⟩; replace hw2 := Lib.hid hw2; replace hx2 := Lib.hid hx2))
  go_end0
  exact ⟨rfl, hw2.out, (hx.out.mono (by simp)).trans' hx2.out⟩

set_option maxRecDepth 100000 in
set_option maxHeartbeats 400000 in
theorem wraw_calls (g : Nat) (ps : List (List UInt8)) (p : Nat → Prop) (b : Value) (l : List UInt8) (w : World) (hw : WriterAt w g ps) (hb : Bs w p b l) (hl : ps.flatten.length + l.length ≤ 90000000) :
    Calls Tryz.prog 152 #[.pointer (some ⟨g, 0, none⟩), b] w (PutPost g (l :: ps) w) := by
  have hD := clone_calls p b l w hb (by omega)
  have hlt := hw.lt
  have hP : ∀ v w1, Bs w1 (w.heap.size ≤ ·) v l → Ext [] w w1 → Calls Tryz.prog 222 #[.pointer (some ⟨g, 0, none⟩), v] w1 (PutPost g (l :: ps) w1) := fun v w1 hb hx =>
    put_calls g ps v _ w1 (hw.keep hx) (hb.imp fun k _ hk => by omega) (by omega)
  clear hl hw hb
  go_enter Tryz.func152, Tryz.ntmps152
  go_wp2_with (first | (go_at_call 183; refine hD.mono ?_; rintro e w1 ⟨v, rfl, hb, hx⟩; replace hb := Lib.hid hb; replace hx := Lib.hid hx) | (go_at_call 222; refine (hP _ _ hb.out hx.out).mono ?_; rintro e w2 ⟨rfl, hw2, hx2⟩; replace hw2 := Lib.hid hw2; replace hx2 := Lib.hid hx2))
  go_end0
  exact ⟨rfl, hw2.out, (hx.out.mono (by simp)).trans' hx2.out⟩
end Go.Proofs.YtpjekppljaekoaaGreatDoor
namespace Go.Proofs.YtpjekppljaekoaaGreatDoor
open Go Go.RowKit

def upI (r : Int) : Int := if bits .and .u32 r 1 == 1 then bits .xor .u32 (r / 2) 2197175160 else r / 2
def upN (r : Int) : Nat → Int
  | 0 => r
  | k + 1 => upI (upN r k)
def leaveI (r : Int) : Int := upN r 4
/-- The table while it is filled. -/
def tabTo (k : Nat) : Array Value := ((List.range 16).map fun j => if j < k then Value.int .u32 (leaveI (j : Int)) else .int .u32 0).toArray
/-- Half a step: four bits. -/
def halfI (r : Int) : Int := bits .xor .u32 (r / 16) (leaveI (bits .and .u32 r 15))
def byteI (r : Int) (c : UInt8) : Int := halfI (halfI (bits .xor .u32 r (c.toNat : Int)))
def crcTo (l : List UInt8) : Int := l.foldl byteI 4294967295
def crcI (l : List UInt8) : Int := bits .xor .u32 4294967295 (crcTo l)

theorem tab_set (k : Nat) (h : k < 16) : (tabTo k).setIfInBounds k (.int .u32 (leaveI (k : Int))) = tabTo (k + 1) := by
  iterate 16 (rcases k with _ | k; · rfl)
  exact absurd h (by omega)
theorem tab_size (k : Nat) : (tabTo k).size = 16 := by simp [tabTo]
theorem tab_at (k j : Nat) (h : j < 16) : (tabTo k)[j]? = some (if j < k then Value.int .u32 (leaveI (j : Int)) else .int .u32 0) := by
  simp [tabTo, h]
theorem crcTo_snoc (l : List UInt8) (c : UInt8) : crcTo (l ++ [c]) = byteI (crcTo l) c := by simp [crcTo]

theorem bits_u32 (o : BinOp) (a b : Int) : 0 ≤ bits o .u32 a b ∧ bits o .u32 a b ≤ 4294967295 := by
  have h : ∀ n : Int, 0 ≤ IntKind.u32.wrap n ∧ IntKind.u32.wrap n ≤ 4294967295 := by
    intro n
    have := IntKind.wrap_u32 n
    rw [this]; omega
  cases o <;> exact h _
theorem upI_u32 (r : Int) (h0 : 0 ≤ r) (h1 : r ≤ 4294967295) : 0 ≤ upI r ∧ upI r ≤ 4294967295 := by
  unfold upI; split
  · exact bits_u32 _ _ _
  · omega
theorem upN_u32 (r : Int) (k : Nat) (h0 : 0 ≤ r) (h1 : r ≤ 4294967295) : 0 ≤ upN r k ∧ upN r k ≤ 4294967295 := by
  induction k with
  | zero => exact ⟨h0, h1⟩
  | succ k ih => exact upI_u32 _ ih.1 ih.2
theorem and15 (r : Int) (h0 : 0 ≤ r) (h1 : r ≤ 4294967295) : 0 ≤ bits .and .u32 r 15 ∧ bits .and .u32 r 15 ≤ 15 := by
  rw [u32_and r 15 h0 (by omega) (by omega) (by omega)]
  have : r.toNat &&& (15 : Int).toNat ≤ 15 := Nat.and_le_right
  omega
theorem tab_cell (i : Int) (h0 : 0 ≤ i) (h1 : i ≤ 15) : (tabTo 16)[i.toNat]? = some (.int .u32 (leaveI i)) := by
  rw [tab_at 16 _ (by omega), if_pos (by omega), Int.toNat_of_nonneg h0]
end Go.Proofs.YtpjekppljaekoaaGreatDoor

/- Contracts of package disk: find; slices.Grow and Concat of bytes; slices.Clip. The builtin copy at elements of whatever size; the builtin clear behind a slice's length. The builtin append onto an owned row: in place, or into a new block, and no other. Contracts of package disk: slices.Insert of one file into a row of files. slices.Insert of one file, said of files. Contracts of package disk: slices.Delete of one file. Contracts of package disk: safely, drops. -/
import Derived.Test.YtpjekppljaekoaaGreatDoorKA01
import Derived.Lib.AppendZeros
import Derived.Lib.AppendZerosOnto
import Derived.Laws.CopyOwn
import Derived.Deep.AppendSrc
import Derived.Lib.Overlaps
namespace Go.Proofs.YtpjekppljaekoaaGreatDoor
open Go Go.RowKit

set_option maxRecDepth 100000 in
set_option maxHeartbeats 400000 in
theorem find_calls (d : Nat) (sv : Value) (s : DiskS) (nm : ByteArray) (w : World) (h : DiskAt w d sv s) :
    Calls Tryz.prog 127 #[.pointer (some ⟨d, 0, none⟩), .string nm] w fun e w' => e = .returned (.tuple #[.int .i64 (idx s.files nm : Int), .bool (has s.files nm)]) ∧ Ext [] w w' := by
  obtain ⟨c0, _⟩ := h.cells
  have hC := search_calls _ sv s.files nm w h.files h.rise h.many
  clear h
  go_enter Tryz.func127, Tryz.ntmps127
  go_wp2_with (go_at_call 199; refine hC.mono ?_; rintro e1 w1 ⟨rfl, hx1⟩; replace hx1 := Lib.hid hx1)
  go_ret2
  exact ⟨rfl, hx1.out⟩

set_option maxRecDepth 100000 in
set_option maxHeartbeats 400000 in
theorem clip_calls (A : Option Addr) (n c : Nat) (w : World) (h : (n : Int) ≤ c) :
    Calls Tryz.prog 95 #[.slice A n c] w fun e w' => e = .returned (.slice A n n) ∧ w = w' := by
  go_enter Tryz.func95, Tryz.ntmps95
  go_wp2
  all_goals
    go_ret
    exact ⟨rfl, rfl⟩

set_option maxRecDepth 100000 in
set_option maxHeartbeats 400000 in
theorem grow_calls (n : Nat) (w : World) (h : n ≤ 100000000) :
    Calls Tryz.prog 202 #[.slice none 0 0, .int .i64 n] w fun e w' => ∃ v, e = .returned v ∧ w'.ownsRow w.heap.size 5 1 v 0 [] ∧ Ext [] w w' := by
  have h' : (n : Int) ≤ 100000000 := by omega
  by_cases h0 : n = 0
  · subst h0
    go_enter Tryz.func202, Tryz.ntmps202
    go_wp2
    go_ret
    exact ⟨_, rfl, World.ownsRow_nil _ _ _ _, Ext.refl _ _⟩
  · have h1 : 0 < (n : Int) := by omega
    obtain ⟨i0, hi, hz0, hz1, hz2⟩ := info_parts Tryz.info5
    have hrun := Lib.run_append_nil_zeros (P := Tryz.prog) w 25 3 25 5 i0 (.int .u8 0) .i64 .i64 Tryz.underlying25 Tryz.underlying3 hi hz0 n (by omega) (by omega) (by omega) (by rw [hz2]; omega)
    have hge := grownCap_ge w n 0 5
    have hcm := grownCap_le_maxLen w n 0 5 (by unfold maxLen; omega)
    have hown : (w.drew.alloc (.cells (Builtin.zeroCells (Value.int .u8 0).cells n ++ Builtin.zeroCells (Value.int .u8 0).cells (grownCap w n 0 5 - n)) 5)).ownsRow w.heap.size 5 1 (.slice (some ⟨w.heap.size, 0, none⟩) 0 (grownCap w n 0 5)) 0 [] :=
      World.ownsRow_made w.drew _ _ (Nat.le_refl _) hcm (by simp [size_zeroCells, Value.cells]; omega)
    have hx : Ext [] w (w.drew.alloc (.cells (Builtin.zeroCells (Value.int .u8 0).cells n ++ Builtin.zeroCells (Value.int .u8 0).cells (grownCap w n 0 5 - n)) 5)) := ((Ext.refl _ _).drew).alloc _
    generalize hW : w.drew.alloc (.cells (Builtin.zeroCells (Value.int .u8 0).cells n ++ Builtin.zeroCells (Value.int .u8 0).cells (grownCap w n 0 5 - n)) 5) = W at *
    generalize hG : grownCap w n 0 5 = G at *
    replace hrun := Lib.hid hrun
    replace hown := Lib.hid hown
    replace hx := Lib.hid hx
    clear hcm hge hW hG hi hz0 hz1 hz2
    go_enter Tryz.func202, Tryz.ntmps202
    go_wp2_with (first | (refine Lib.wpList_append_run _ rfl _ _ 25 3 rfl _ _ rfl rfl _ _ hrun.out ?_))
    go_ret
    exact ⟨_, rfl, hown.out, hx.out⟩
end Go.Proofs.YtpjekppljaekoaaGreatDoor
namespace Go.Proofs.YtpjekppljaekoaaGreatDoor
open Go Go.RowKit

section
variable {P : Program}

theorem run_copy_k (w : World) (dT sT ty elem size : Nat) (hu : P.underlying dT = some (.slice elem)) (hsz : (P.info? elem).map (·.size) = some size) (dp : Option Addr) (dLen dCap : Nat) (A : Option Addr) (sLen sCap n : Nat) (hn : n = Nat.min sLen dLen)
    (cs : List Value) (hl : cs.length = n * size) (hpo : 0 < size) (p : Nat → Prop) (hr : Row w p A cs) (g off : Nat) (t : TypeId) (cur : List Value) (hg : Blk w g t cur.toArray) (hpos : 0 < n → dp = some ⟨g, off, none⟩) (hfit : off + cs.length ≤ cur.length) (h1 : ∀ v ∈ cs, v.oneCell' = true) :
    ∃ w', (Builtin.copy_ #[dT, sT] ty #[.slice dp dLen dCap, .slice A sLen sCap]).run P w = .ok (goInt n) w' ∧ Blk w' g t (splice cur off cs).toArray ∧ Ext [g] w w' := by
  cases hq : P.info? elem with
  | none => simp [hq] at hsz
  | some i =>
    have hi : i.size = size := by simpa [hq] using hsz
    by_cases h0 : n = 0
    · have hc0 : cs = [] := List.eq_nil_of_length_eq_zero (by rw [hl, h0]; simp)
      subst hc0
      refine ⟨w, ?_, by simpa [splice] using hg, Ext.refl _ _⟩
      have hn' : Nat.min sLen dLen = 0 := by omega
      cases A <;> cases dp <;> simp [Builtin.copy_, run_underlying hu, Builtin.lenOf, Builtin.firstCells, sizeOf, typeInfo, hq, hn', h0, loadCells, loadCellsFrom, storeCells]
    · obtain rfl := hpos (by omega)
      have hne : 0 < cs.length := by rw [hl]; exact Nat.mul_pos (by omega) hpo
      obtain ⟨g2, o2, rfl, _⟩ := hr.at (List.getElem?_eq_getElem hne)
      have hld := run_loadCells_list (P := P) w ⟨g2, o2, none⟩ cs (hr.src rfl)
      have hst := run_storeCells_at P g off t cs 0 cur.toArray w hg (by simpa using hfit) h1
      rw [hl] at hld
      refine ⟨w.setRow g (cur.take off ++ cs ++ cur.drop (off + cs.length)).toArray, ?_, ?_, ?_⟩
      · simp only [Nat.add_zero] at hst
        simp [Builtin.copy_, run_underlying hu, Builtin.lenOf, Builtin.firstCells, sizeOf, typeInfo, hq, hi, ← hn, hld, hst]
      · have := setRow_heap w g cur.toArray (cur.take off ++ cs ++ cur.drop (off + cs.length)).toArray t (0, 0) hg
        simpa [splice, Blk] using this
      · exact ⟨rfl, rfl, rfl, by simp, fun k _ hn => setRow_other w g k _ (by simpa using hn)⟩

theorem wpList_copy_k {w : World} {ops : Array Oper} {rest : List Oper} {o : Oper} {a : Act} {Q : Exit → Act → World → Prop} (hgd : o.guard = none) (d s : Operand) (dT sT : TypeId)
    (ho : o.op = .call { callee := .builtin .copy, args := #[d, s], argTypes := #[dT, sT] }) (elem size : Nat) (hu : P.underlying dT = some (.slice elem)) (hsz : (P.info? elem).map (·.size) = some size)
    (dp : Option Addr) (dLen dCap : Nat) (hd : a.eval d = .slice dp dLen dCap) (A : Option Addr) (sLen sCap : Nat) (hs : a.eval s = .slice A sLen sCap) (n : Nat) (hn : n = Nat.min sLen dLen)
    (cs : List Value) (hl : cs.length = n * size) (hpo : 0 < size) (p : Nat → Prop) (hr : Row w p A cs) (g off : Nat) (t : TypeId) (cur : List Value) (hg : Blk w g t cur.toArray) (hpos : 0 < n → dp = some ⟨g, off, none⟩) (hfit : off + cs.length ≤ cur.length) (h1 : ∀ v ∈ cs, v.oneCell' = true)
    (h : ∀ w', Blk w' g t (splice cur off cs).toArray → Ext [g] w w' → wpList P ops Q rest (a.put o.dst (goInt n)) w') : wpList P ops Q (o :: rest) a w := by
  refine wpList_plain hgd fun K hK => ?_
  obtain ⟨w', hrun, hb, hx⟩ := run_copy_k (P := P) w dT sT o.type elem size hu hsz dp dLen dCap A sLen sCap n hn cs hl hpo p hr g off t cur hg hpos hfit h1
  unfold Oper.wp
  simp [execOp, ho, resolve, invoke, builtin, hd, hs, hrun, Result.andThen]
  exact hK _ _ (h w' hb hx)

/-- clear of a slice that lies in a block that is known whole. -/
theorem wpList_clear_k {w : World} {ops : Array Oper} {rest : List Oper} {o : Oper} {a : Act} {Q : Exit → Act → World → Prop} (hgd : o.guard = none) (d : Operand) (dT : TypeId)
    (ho : o.op = .call { callee := .builtin .clear, args := #[d], argTypes := #[dT] }) (elem : TypeId) (hu : P.underlying dT = some (.slice elem)) (i : TypeInfo) (z : Value) (hi : P.info? elem = some i) (hz : i.zero = some z) (hz1 : ∀ v ∈ z.cells.toList, v.oneCell' = true)
    (g off n cap : Nat) (hd : a.eval d = .slice (some ⟨g, off, none⟩) n cap) (t : TypeId) (cur : List Value) (hg : Blk w g t cur.toArray) (hfit : off + n * z.cells.size ≤ cur.length)
    (h : ∀ w' zs, zs.length = n * z.cells.size → Blk w' g t (splice cur off zs).toArray → Ext [g] w w' → wpList P ops Q rest (a.put o.dst (.tuple #[])) w') : wpList P ops Q (o :: rest) a w := by
  refine wpList_plain hgd fun K hK => ?_
  have hlen : (Builtin.zeroCells z.cells n).toList.length = n * z.cells.size := by rw [Array.length_toList, size_zeroCells]
  have hone : ∀ v ∈ (Builtin.zeroCells z.cells n).toList, v.oneCell' = true := by
    intro v hv
    simp only [Builtin.zeroCells, Array.toList_map, List.mem_map] at hv
    obtain ⟨j, hj, rfl⟩ := hv
    have hj' : j < n * z.cells.size := by simpa using hj
    have hpos : 0 < z.cells.size := by
      rcases Nat.eq_zero_or_pos z.cells.size with h | h
      · rw [h] at hj'; omega
      · exact h
    have hlt : j % z.cells.size < z.cells.size := Nat.mod_lt _ hpos
    refine hz1 _ ?_
    rw [getElem!_pos z.cells _ hlt]
    exact Array.mem_toList_iff.2 (Array.getElem_mem hlt)
  cases n with
  | zero =>
    unfold Oper.wp
    simp [execOp, ho, resolve, invoke, builtin, hd, Builtin.clear_, run_underlying hu, Result.andThen]
    exact hK _ _ (h w [] (by simp) (by simpa [splice] using hg) (Ext.refl _ _))
  | succ n =>
    have hst := run_storeCells_at P g off t (Builtin.zeroCells z.cells (n + 1)).toList 0 cur.toArray w hg (by rw [hlen]; simpa using hfit) hone
    simp only [Nat.add_zero] at hst
    unfold Oper.wp
    simp [execOp, ho, resolve, invoke, builtin, hd, Builtin.clear_, run_underlying hu, zeroValue, typeInfo, hi, hz, hst, Result.andThen]
    refine hK _ _ (h _ (Builtin.zeroCells z.cells (n + 1)).toList hlen ?_ ⟨rfl, rfl, rfl, by simp, fun k _ hn => setRow_other w g k _ (by simpa using hn)⟩)
    have := setRow_heap w g cur.toArray (cur.take off ++ (Builtin.zeroCells z.cells (n + 1)).toList ++ cur.drop (off + (Builtin.zeroCells z.cells (n + 1)).toList.length)).toArray t (0, 0) hg
    simpa [splice, Blk] using this
end
end Go.Proofs.YtpjekppljaekoaaGreatDoor
namespace Go.Proofs.YtpjekppljaekoaaGreatDoor
open Go Go.RowKit

section
variable {P : Program}
set_option maxHeartbeats 1000000 in
theorem run_append_kx (w : World) (t ty e : TypeId) (i : TypeInfo) (z : Value) (size bytes : Nat) (ht : P.underlying t = some (.slice e)) (hi : P.info? e = some i) (hz : i.zero = some z)
    (hsize : i.size = size) (hby : i.bytes = bytes) (hzs : z.cells.size = size) (hsz : 0 < size) (v : Value) (n : Nat) (xs : List Value) (hown : w.ownsRow 0 e size v n xs)
    (p : Nat → Prop) (A : Option Addr) (m c : Nat) (news : List Value) (hr : Row w p A news) (hl : news.length = m * size) (hA : A = none → c = 0) (h1 : ∀ u ∈ news, u.oneCell' = true)
    (h63 : n + m ≤ maxLen) (hbytes : (n + m) * bytes ≤ 140737488355328) :
    ∃ v' w', (Builtin.append_ #[t, t] ty #[v, .slice A m c]).run P w = .ok v' w' ∧ w'.ownsRow 0 e size v' (n + m) (xs ++ news) ∧ Ext v.ownBlock.toList w w' ∧
      ∀ k, v'.ownBlock = some k → v.ownBlock = some k ∨ w.heap.size ≤ k := by
  by_cases hroom : v.ownBlock = none ∨ ∃ A0 c0, v = .slice A0 n c0 ∧ n + m ≤ c0
  · rcases hroom with hnone | ⟨A0, c0, rfl, hroom⟩
    · rcases hown.2 with ⟨rfl, rfl⟩ | ⟨g, cap, cur, rfl, _⟩
      · have hx : xs = [] := List.eq_nil_of_length_eq_zero (by simpa using hown.1)
        subst hx
        obtain ⟨v', w', h2, h3, h4, _⟩ := run_append_rowx w w.heap.size t ty e i z size bytes ht hi hz hsize hby hzs hsz (.slice none 0 0) 0 [] (World.ownsRow_nil _ _ _ _) p A m c news hr hl hA h1 h63 hbytes (Nat.le_refl _)
        refine ⟨v', w', h2, ?_, ⟨h4.os, h4.tape, h4.output, h4.size, fun k hk hn => h4.block k hk (by simp [Value.ownBlock])⟩, fun k hk => .inr (h3.lt k hk).1⟩
        rcases h3.2 with h | ⟨g, cap, cur, h⟩
        · exact ⟨h3.1, .inl h⟩
        · exact ⟨h3.1, .inr ⟨g, cap, cur, h.1, Nat.zero_le _, h.2.2⟩⟩
      · cases hnone
    · rcases hown.2 with ⟨e0, rfl⟩ | ⟨g, cap, cur, e0, _, hg, hnc, hcm, hcs, htake⟩
      · injection e0 with e1 _ e3
        subst e1; subst e3
        have hm0 : m = 0 := by omega
        subst hm0
        have hn : news = [] := List.eq_nil_of_length_eq_zero (by simpa using hl)
        subst hn
        obtain ⟨v', w', h2, h3, h4, _⟩ := run_append_rowx w w.heap.size t ty e i z size bytes ht hi hz hsize hby hzs hsz (.slice none 0 0) 0 [] (World.ownsRow_nil _ _ _ _) p A 0 c [] hr hl hA h1 h63 hbytes (Nat.le_refl _)
        have hx : xs = [] := List.eq_nil_of_length_eq_zero (by simpa using hown.1)
        subst hx
        refine ⟨v', w', h2, ?_, ⟨h4.os, h4.tape, h4.output, h4.size, fun k hk hn => h4.block k hk (by simp [Value.ownBlock])⟩, fun k hk => .inr (h3.lt k hk).1⟩
        rcases h3.2 with h | ⟨g, cap, cur, h⟩
        · exact ⟨h3.1, .inl h⟩
        · exact ⟨h3.1, .inr ⟨g, cap, cur, h.1, Nat.zero_le _, h.2.2⟩⟩
      · injection e0 with e1 _ e3
        subst e1; subst e3
        have hlen : (xs ++ news).length = (n + m) * size := by rw [List.length_append, hown.1, hl, Nat.add_mul]
        subst hsize
        cases A with
        | none =>
          have hn : news = [] := by
            rcases hr with h | ⟨g', o', e', _⟩
            · exact h
            · cases e'
          subst hn
          have hm0 : m = 0 := by
            have : m * i.size = 0 := by simpa using hl.symm
            rcases Nat.mul_eq_zero.1 this with h | h
            · exact h
            · omega
          subst hm0
          have hc0 := hA rfl
          subst hc0
          have hrun := run_append_owned_none (P := P) (w := w) 0 t ty e i i.size ht hi _ n xs hown
          exact ⟨_, w, hrun, by simpa using hown, Ext.refl _ _, fun k hk => .inl hk⟩
        | some ad =>
          have hfit : n * i.size + news.length ≤ cur.size := by rw [hl, hcs, ← Nat.add_mul]; exact Nat.mul_le_mul_right _ hroom
          have hsrc : ∀ j u, news[j]? = some u → w.cell? (ad.add j) = some u := by
            intro j u hu
            obtain ⟨g', o', e', _⟩ := hr.at hu
            injection e' with e'
            subst e'
            exact hr.src rfl j u hu
          have hrun := run_append_room (P := P) w t ty e i ht hi g n c0 cur hg ad m c news hl hsrc h1 hroom hfit
          refine ⟨_, _, hrun, ⟨hlen, .inr ⟨g, c0, _, rfl, Nat.zero_le _, setRow_heap w g cur _ e _ hg, hroom, hcm, ?_, ?_⟩⟩, ⟨rfl, rfl, rfl, by simp, fun k _ hk => setRow_other w g k _ (by simpa [Value.ownBlock] using hk)⟩, fun k hk => .inl hk⟩
          · simp only [List.size_toArray, List.length_append, List.length_take, List.length_drop, Array.length_toList]
            omega
          · rw [htake, ← hlen]
            exact List.take_left
  · obtain ⟨A0, c0, rfl, hnc, _, _⟩ := own_form hown
    have hno : ¬ (n + m ≤ c0) := fun h => hroom (.inr ⟨A0, c0, rfl, h⟩)
    rcases hown.2 with ⟨e0, rfl⟩ | ⟨g, cap, cur, e0, _, hg, _, hcm, hcs, htake⟩
    · exact absurd (.inl (by rw [e0]; rfl)) hroom
    · injection e0 with e1 _ e3
      subst e1; subst e3
      subst hsize; subst hby
      have hmpos : 0 < m := by omega
      have hnp : 0 < news.length := by rw [hl]; exact Nat.mul_pos hmpos hsz
      obtain ⟨g', o', rfl, _⟩ := hr.at (List.getElem?_eq_getElem hnp)
      have hsrc := Src.ofSlice (P := P) w ht ⟨g', o', none⟩ m c news hl (hr.src rfl) h1
      have hold := run_firstCells_some (P := P) w.drew i.size n ⟨g, 0, none⟩ n c0 xs hown.1 (by simpa using hown.cells (g := g) rfl)
      have hrun := run_append_grow_src w t t ty e i z ht hi hz (some ⟨g, 0, none⟩) n c0 xs hold _ m news hsrc (by omega) (by simp only [maxLen] at h63; omega) (growslice_fits (by omega) hbytes)
      have hlen : (xs ++ news).length = (n + m) * i.size := by rw [List.length_append, hown.1, hl, Nat.add_mul]
      have hge := grownCap_ge w (n + m) c0 e
      have hcm2 := grownCap_le_maxLen w (n + m) c0 e h63
      refine ⟨_, _, hrun, ⟨hlen, .inr ⟨w.heap.size, _, _, rfl, Nat.zero_le _, heap_alloc_new w.drew _, hge, hcm2, ?_, ?_⟩⟩, ((Ext.refl _ _).drew).alloc _, fun k hk => .inr (by
        have : w.heap.size = k := by simpa [Value.ownBlock] using hk
        omega)⟩
      · simp only [Array.size_append, List.size_toArray, size_zeroCells, hzs, hlen, ← Nat.add_mul]
        congr 1
        omega
      · simp only [Array.toList_append]
        rw [← hlen]
        exact List.take_left

theorem wpList_append_kx {w : World} {ops : Array Oper} {rest : List Oper} {o : Oper} {a : Act} {Q : Exit → Act → World → Prop} (hgd : o.guard = none) (s x : Operand) (t : TypeId)
    (ho : o.op = .call { callee := .builtin .append, args := #[s, x], argTypes := #[t, t] })
    (e : TypeId) (i : TypeInfo) (z : Value) (size bytes : Nat) (ht : P.underlying t = some (.slice e)) (hi : P.info? e = some i) (hz : i.zero = some z)
    (hsize : i.size = size) (hby : i.bytes = bytes) (hzs : z.cells.size = size) (hsz : 0 < size)
    (v : Value) (n : Nat) (xs : List Value) (hs : a.eval s = v) (hown : w.ownsRow 0 e size v n xs)
    (p : Nat → Prop) (A : Option Addr) (m c : Nat) (news : List Value) (hx : a.eval x = .slice A m c) (hr : Row w p A news) (hl : news.length = m * size) (hA : A = none → c = 0) (h1 : ∀ u ∈ news, u.oneCell' = true)
    (h63 : n + m ≤ maxLen) (hbytes : (n + m) * bytes ≤ 140737488355328)
    (h : ∀ A' c' w', w'.ownsRow 0 e size (.slice A' (n + m) c') (n + m) (xs ++ news) → Ext v.ownBlock.toList w w' → (∀ k, (Value.slice A' (n + m) c').ownBlock = some k → v.ownBlock = some k ∨ w.heap.size ≤ k) → wpList P ops Q rest (a.put o.dst (.slice A' (n + m) c')) w') : wpList P ops Q (o :: rest) a w :=
  wpList_plain hgd fun _ hK => by
    obtain ⟨v', w', hr', h2, h3, h4⟩ := run_append_kx (P := P) w t o.type e i z size bytes ht hi hz hsize hby hzs hsz v n xs hown p A m c news hr hl hA h1 h63 hbytes
    obtain ⟨A', c', rfl, _⟩ := own_form h2
    unfold Oper.wp execOp
    simp only [ho, resolve, invoke, builtin, Sem.run_bind, Sem.run_pure, Result.andThen_ok, List.map_toArray, List.map_cons, List.map_nil, hs, hx, hr']
    exact hK _ _ (h A' c' w' h2 h3 h4)
end
end Go.Proofs.YtpjekppljaekoaaGreatDoor
namespace Go.Proofs.YtpjekppljaekoaaGreatDoor
open Go Go.RowKit

theorem Tryz.info180 : (Tryz.prog.info? 180).map (fun i => (i.zero, i.size, i.bytes)) = some (some (.agg #[.string ⟨#[]⟩, .slice none 0 0, .int .i64 0]), 3, 48) := by kernel_rfl

/-- A row behind an insertion: where it lies, and that only its own block, and new ones, have turned. -/
def InsPost (ob : Option Nat) (n : Nat) (xs : List Value) (w : World) (e : Ending) (w' : World) : Prop :=
  ∃ sv', e = .returned sv' ∧ w'.ownsRow 0 180 3 sv' n xs ∧ Ext ob.toList w w' ∧ ∀ k, sv'.ownBlock = some k → ob = some k ∨ w.heap.size ≤ k

set_option maxRecDepth 100000 in
set_option maxHeartbeats 1000000 in
/-- At the end. -/
theorem insert_end (sv : Value) (n : Nat) (xs : List Value) (vb : Nat) (x0 x1 x2 : Value) (w : World) (hown : w.ownsRow 0 180 3 sv n xs) (hv : Blk w vb 180 #[x0, x1, x2]) (h1 : ∀ u ∈ [x0, x1, x2], u.oneCell' = true) (hm : n ≤ 200000) :
    Calls Tryz.prog 130 #[sv, .int .i64 n, .slice (some ⟨vb, 0, none⟩) 1 1] w (InsPost sv.ownBlock (n + 1) (xs ++ [x0, x1, x2]) w) := by
  obtain ⟨A, c, rfl, hc, hcm, hnil⟩ := own_form hown
  obtain ⟨ob, hob⟩ : ∃ ob, (Value.slice A n c).ownBlock = ob := ⟨_, rfl⟩
  rw [hob]
  replace hob := Lib.hid hob
  obtain ⟨i0, hi, hz0, hz1, hz2⟩ := info_parts Tryz.info180
  have hrow : Row w (fun _ => True) (some ⟨vb, 0, none⟩) [x0, x1, x2] := Row.of_blk hv trivial 0 (fun j u hu => by simpa using hu)
  have hm' : (n : Int) ≤ 200000 := by omega
  have hc' : (n : Int) ≤ c := by omega
  replace hown := Lib.hid hown
  replace hrow := Lib.hid hrow
  replace h1 := Lib.hid h1
  replace hv := Lib.hid hv
  clear hcm hc
  go_enter Tryz.func130, Tryz.ntmps130
  go_wp2_with (first | (refine wpList_append_kx rfl _ _ 123 rfl 180 i0 _ 3 48 Tryz.underlying123 hi hz0 hz1 hz2 rfl (by decide) (.slice A n c) n xs rfl hown.out _ _ 1 1 [x0, x1, x2] rfl hrow.out rfl (fun h => by cases h) h1.out (by unfold maxLen; omega) (by omega) ?_; intro A' c' w1 ho1 hx1 hb1; rw [hob.out] at hx1 hb1; replace ho1 := Lib.hid ho1; replace hx1 := Lib.hid hx1; replace hb1 := Lib.hid hb1))
  all_goals
    go_ret
    exact ⟨_, rfl, ho1.out, hx1.out, hb1.out⟩

theorem splice_at {α : Type} {L P M S cs : List α} {o : Nat} (h : L = P ++ (M ++ S)) (hP : P.length = o) (hM : M.length = cs.length) : splice L o cs = P ++ (cs ++ S) := by
  subst h
  show (P ++ (M ++ S)).take o ++ (cs ++ (P ++ (M ++ S)).drop (o + cs.length)) = _
  rw [List.take_left' hP, ← hM, ← hP, ← List.append_assoc P M S, List.drop_left' (by simp)]

theorem ins_list (xs cs : List Value) (Z : List Value) (i n : Nat) (hx : xs.length = n * 3) (hi : i ≤ n) (hc : cs.length = 3) (hZ : (n - i) * 3 + 3 ≤ Z.length) :
    ((splice (splice (xs.take (i * 3) ++ Z) (i * 3) cs) ((i + 1) * 3) (xs.drop (i * 3))).take ((n + 1) * 3)) = xs.take (i * 3) ++ cs ++ xs.drop (i * 3) := by
  have h1 : (xs.take (i * 3)).length = i * 3 := by rw [List.length_take]; omega
  have h4 : (xs.drop (i * 3)).length = (n - i) * 3 := by rw [List.length_drop, hx]; omega
  rw [splice_at (M := Z.take 3) (S := Z.drop 3) (by rw [List.take_append_drop]) h1 (by rw [List.length_take, hc]; omega)]
  rw [splice_at (P := xs.take (i * 3) ++ cs) (M := (Z.drop 3).take ((n - i) * 3)) (S := (Z.drop 3).drop ((n - i) * 3)) (by rw [List.take_append_drop]; simp) (by rw [List.length_append, h1, hc]; omega) (by rw [List.length_take, List.length_drop, h4]; omega)]
  rw [← List.append_assoc]
  exact List.take_left' (by rw [List.length_append, List.length_append, h1, h4, hc]; omega)

theorem shift_list (xs cs cur : List Value) (i n : Nat) (hcur : (n + 1) * 3 ≤ cur.length) (hx : cur.take (n * 3) = xs) (hi : i ≤ n) (hc : cs.length = 3) :
    ((splice (splice cur ((i + 1) * 3) (xs.drop (i * 3))) (i * 3) cs).take ((n + 1) * 3)) = xs.take (i * 3) ++ cs ++ xs.drop (i * 3) := by
  have hxl : xs.length = n * 3 := by rw [← hx, List.length_take]; omega
  have h1 : (xs.take (i * 3)).length = i * 3 := by rw [List.length_take]; omega
  have h4 : (xs.drop (i * 3)).length = (n - i) * 3 := by rw [List.length_drop, hxl]; omega
  have hct : cur.take (i * 3) = xs.take (i * 3) := by rw [← hx, List.take_take, Nat.min_eq_left (by omega)]
  have e0 : cur = (cur.take (i * 3) ++ (cur.drop (i * 3)).take 3) ++ (((cur.drop (i * 3)).drop 3).take ((n - i) * 3) ++ ((cur.drop (i * 3)).drop 3).drop ((n - i) * 3)) := by
    rw [List.take_append_drop, List.append_assoc, List.take_append_drop, List.take_append_drop]
  rw [splice_at (cs := xs.drop (i * 3)) (o := (i + 1) * 3) e0 (by rw [List.length_append, List.length_take, List.length_take, List.length_drop]; omega) (by rw [List.length_take, List.length_drop, List.length_drop, h4]; omega)]
  rw [hct, splice_at (P := xs.take (i * 3)) (M := (cur.drop (i * 3)).take 3) (S := xs.drop (i * 3) ++ ((cur.drop (i * 3)).drop 3).drop ((n - i) * 3)) (by simp) h1 (by rw [List.length_take, List.length_drop, hc]; omega)]
  rw [show xs.take (i * 3) ++ (cs ++ (xs.drop (i * 3) ++ ((cur.drop (i * 3)).drop 3).drop ((n - i) * 3))) = (xs.take (i * 3) ++ cs ++ xs.drop (i * 3)) ++ ((cur.drop (i * 3)).drop 3).drop ((n - i) * 3) from by simp]
  exact List.take_left' (by rw [List.length_append, List.length_append, h1, h4, hc]; omega)
theorem mem_one {xs : List Value} {w : World} {base : Nat} {e : TypeId} {size n : Nat} {v : Value} (_ : w.ownsRow base e size v n xs) (h1 : ∀ u ∈ xs, u.oneCell' = true) (k : Nat) : ∀ u ∈ xs.drop k, u.oneCell' = true := fun u hu => h1 u (List.mem_of_mem_drop hu)

set_option maxRecDepth 100000 in
set_option maxHeartbeats 2000000 in
/-- In the midst, where there is room. -/
theorem insert_room (g cap : Nat) (n i : Nat) (xs : List Value) (vb : Nat) (x0 x1 x2 : Value) (w : World) (hown : w.ownsRow 0 180 3 (.slice (some ⟨g, 0, none⟩) n cap) n xs) (hv : Blk w vb 180 #[x0, x1, x2]) (h1 : ∀ u ∈ [x0, x1, x2], u.oneCell' = true) (h1x : ∀ u ∈ xs, u.oneCell' = true) (hm : n ≤ 200000) (hi : i < n) (hroom : n + 1 ≤ cap) (hne : vb ≠ g) :
    Calls Tryz.prog 130 #[.slice (some ⟨g, 0, none⟩) n cap, .int .i64 i, .slice (some ⟨vb, 0, none⟩) 1 1] w (InsPost (some g) (n + 1) (xs.take (i * 3) ++ [x0, x1, x2] ++ xs.drop (i * 3)) w) := by
  rcases hown.2 with ⟨h, _⟩ | ⟨g', cap', cur, e, _, hh, _, hcm, hcs, htake⟩
  · cases h
  injection e with e1 _ e3
  injection e1 with e1
  injection e1 with e1 _ _
  subst e1; subst e3
  have hxl := hown.1
  have hb : Blk w g 180 cur.toList.toArray := by simpa [Blk] using hh
  have hcl : cur.toList.length = cap * 3 := by rw [Array.length_toList, hcs]
  have hrow : Row w (fun _ => True) (some ⟨g, i * 3, none⟩) (xs.drop (i * 3)) := Row.of_blk hb trivial (i * 3) (fun j u hu => by
    have h2 : xs[i * 3 + j]? = some u := by rwa [List.getElem?_drop] at hu
    rw [← htake, List.getElem?_take] at h2
    split at h2
    · simpa using h2
    · cases h2)
  have hdl : (xs.drop (i * 3)).length = (n - i) * 3 := by rw [List.length_drop, hxl]; omega
  have hov : ∀ wx : World, wx.heap = w.heap → ∀ lb cb, (callFunc 203 #[.slice (some ⟨vb, 0, none⟩) 1 1, .slice (some ⟨g, (i + 1) * 3, none⟩) lb cb]).run Tryz.prog wx = .ok (.value (.bool false)) wx := fun wx hwx lb cb => by
    have hsz : ∀ w, (Go.sizeOf 180).run Tryz.prog w = .ok 3 w := fun _ => by kernel_rfl
    have hsa : wx.shape? vb = some (180, 3) := by unfold World.shape?; rw [hwx, hv]; rfl
    have hsb : wx.shape? g = some (180, cur.size) := by unfold World.shape?; rw [hwx, hh]
    rw [run_callFunc_extern Tryz.func203 (by kernel_rfl) (by kernel_rfl) (by kernel_rfl) (e := Extern.SlicesOverlaps.overlaps #[123, 123] #[4]) (by kernel_rfl),
      Lib.run_overlaps_apart wx 123 4 180 Tryz.underlying123 3 hsz ⟨vb, 0, none⟩ ⟨g, (i + 1) * 3, none⟩ 1 1 lb cb hne 180 180 3 cur.size hsa hsb (by omega) (by unfold World.frozen?; rw [hwx, hv]; rfl) (by unfold World.frozen?; rw [hwx, hv]; rfl)]
    rfl
  have hov0 := hov w rfl
  have hm' : (n : Int) ≤ 200000 := by omega
  have hi' : (i : Int) < n := by omega
  have hroom' : (n : Int) + 1 ≤ cap := by omega
  have hni : ((i : Int) == n) = false := by simp; omega
  have hc1 : ¬ (cap = i) := by omega
  have hc2 : ¬ (cap = i + 1) := by omega
  have hshift := shift_list xs [x0, x1, x2] cur.toList i n (by omega) htake (by omega) rfl
  replace hown := Lib.hid hown
  replace hrow := Lib.hid hrow
  replace h1 := Lib.hid h1
  replace h1x := Lib.hid h1x
  replace hv := Lib.hid hv
  replace hb := Lib.hid hb
  replace hshift := Lib.hid hshift
  replace hcm := Lib.hid hcm
  replace hcl := Lib.hid hcl
  replace hdl := Lib.hid hdl
  clear hov hh htake hcs hxl
  go_enter Tryz.func130, Tryz.ntmps130
  go_wp2
  have s1 : IntKind.i64.wrap ((i : Int) + 1) = (i : Int) + 1 := by rw [IntKind.wrap_i64]; omega
  have s2 : (0 : Int) ≤ (i : Int) + 1 := by omega
  have s3 : ((i : Int) + 1).toNat = i + 1 := by omega
  have s4 : (i : Int) + 1 ≤ (n : Int) + 1 := by omega
  have s5 : (i : Int) ≤ (n : Int) + 1 := by omega
  go_still_tail 8, (by kernel_rfl)
  clear s1 s2 s3 s4 s5
  change wpList _ _ _ _ _ w.drew
  refine wpList_copy_k rfl _ _ 123 123 rfl 180 3 Tryz.underlying123 (by kernel_rfl) (some ⟨g, (i + 1) * 3, none⟩) _ _ rfl (some ⟨g, i * 3, none⟩) _ _ rfl (n - i) ?_ (xs.drop (i * 3)) hdl.out (by decide) (fun _ => True) (hrow.out.keep (Ext.refl _ _).drew) g ((i + 1) * 3) 180 _ hb.out.drew (fun _ => rfl) ?_ (mem_one hown.out h1x.out _) ?_
  · show _ = min _ _; omega
  · rw [hdl.out, hcl.out]; omega
  intro w2 hb2 hx2
  have hv2 : Blk w2 vb 180 #[x0, x1, x2] := hv.out.drew.ext hx2 (by simpa using hne)
  have hrow2 : Row w2 (fun _ => True) (some ⟨vb, 0, none⟩) [x0, x1, x2] := Row.of_blk hv2 trivial 0 (fun j u hu => by simpa using hu)
  replace hb2 := Lib.hid hb2
  replace hrow2 := Lib.hid hrow2
  replace hx2 := Lib.hid hx2
  clear hv2
  go_wp2_with (refine wpList_copy_k rfl _ _ 123 123 rfl 180 3 Tryz.underlying123 (by kernel_rfl) (some ⟨g, i * 3, none⟩) _ _ rfl (some ⟨vb, 0, none⟩) _ _ rfl 1 ?_ [x0, x1, x2] rfl (by decide) (fun _ => True) hrow2.out g (i * 3) 180 _ hb2.out (fun _ => rfl) ?_ h1.out ?_)
  case refine_1 => show _ = min _ _; omega
  case refine_2 =>
    rw [length_splice _ _ _ (by rw [hdl.out, hcl.out]; omega), hcl.out]
    simp only [List.length_cons, List.length_nil]; omega
  intro w3 hb3 hx3
  replace hb3 := Lib.hid hb3
  replace hx3 := Lib.hid hx3
  go_wp2
  go_ret
  refine ⟨.slice (some ⟨g, 0, none⟩) (n + 1) cap, rfl, ⟨?_, .inr ⟨g, cap, _, rfl, Nat.zero_le _, hb3.out, by omega, hcm.out, ?_, ?_⟩⟩, ?_, ?_⟩
  · have := hown.out.1
    simp only [List.length_append, List.length_take, List.length_drop, List.length_cons, List.length_nil]; omega
  · rw [List.size_toArray, length_splice, length_splice, hcl.out]
    · rw [hdl.out, hcl.out]; omega
    · rw [length_splice _ _ _ (by rw [hdl.out, hcl.out]; omega), hcl.out]
      simp only [List.length_cons, List.length_nil]; omega
  · exact hshift.out
  · exact (((Ext.refl [g] w).drew).trans' hx2.out).trans' hx3.out
  · intro k hk; left; simpa [Value.ownBlock] using hk

set_option maxRecDepth 100000 in
set_option maxHeartbeats 2000000 in
/-- In the midst, where there is no room. -/
theorem insert_grow (g cap : Nat) (n i : Nat) (xs : List Value) (vb : Nat) (x0 x1 x2 : Value) (w : World) (hown : w.ownsRow 0 180 3 (.slice (some ⟨g, 0, none⟩) n cap) n xs) (hv : Blk w vb 180 #[x0, x1, x2]) (h1 : ∀ u ∈ [x0, x1, x2], u.oneCell' = true) (h1x : ∀ u ∈ xs, u.oneCell' = true) (hm : n ≤ 200000) (hi : i < n) (hroom : cap < n + 1) :
    Calls Tryz.prog 130 #[.slice (some ⟨g, 0, none⟩) n cap, .int .i64 i, .slice (some ⟨vb, 0, none⟩) 1 1] w (InsPost (some g) (n + 1) (xs.take (i * 3) ++ [x0, x1, x2] ++ xs.drop (i * 3)) w) := by
  rcases hown.2 with ⟨h, _⟩ | ⟨g', cap', cur, e, _, hh, hnc, hcm, hcs, htake⟩
  · cases h
  injection e with e1 _ e3
  injection e1 with e1
  injection e1 with e1 _ _
  subst e1; subst e3
  have hxl := hown.1
  have hgl := lt_of_heap hh
  have hb : Blk w g 180 cur.toList.toArray := by simpa [Blk] using hh
  have hrow : Row w (fun k => k < w.heap.size) (some ⟨g, i * 3, none⟩) (xs.drop (i * 3)) := Row.of_blk hb hgl (i * 3) (fun j u hu => by
    have h2 : xs[i * 3 + j]? = some u := by rwa [List.getElem?_drop] at hu
    rw [← htake, List.getElem?_take] at h2
    split at h2
    · simpa using h2
    · cases h2)
  have hdl : (xs.drop (i * 3)).length = (n - i) * 3 := by rw [List.length_drop, hxl]; omega
  have htl : (xs.take (i * 3)).length = i * 3 := by rw [List.length_take, hxl]; omega
  obtain ⟨i0, hi0, hz0, hz1, hz2⟩ := info_parts Tryz.info180
  have hold : (Builtin.firstCells i0.size i (.slice (some ⟨g, 0, none⟩) i cap)).run Tryz.prog w.drew = .ok (xs.take (i * 3)).toArray w.drew := by
    rw [hz1]
    refine run_firstCells_some (P := Tryz.prog) w.drew 3 i ⟨g, 0, none⟩ i cap (xs.take (i * 3)) htl ?_
    intro j u hu
    rw [List.getElem?_take] at hu
    split at hu
    · exact hown.cells (g := g) rfl j u hu
    · cases hu
  have hrun := Lib.run_append_grow_zeros (P := Tryz.prog) w 123 3 123 180 i0 _ .i64 .i64 Tryz.underlying123 Tryz.underlying3 hi0 hz0 (some ⟨g, 0, none⟩) i cap (xs.take (i * 3)) hold (n + 1 - i) (by omega) (by omega) (by omega) (by omega) (by rw [hz2]; omega) (by
    rw [hz2]
    have := nextslicecap_le (need := i + (n + 1 - i)) (old := cap) (by omega)
    omega)
  rw [show i + (n + 1 - i) = n + 1 from by omega, show ((n + 1 - i : Nat) : Int) = (n : Int) + 1 - i from by omega] at hrun
  have hge := grownCap_ge w (n + 1) cap 180
  have hcm2 := grownCap_le_maxLen w (n + 1) cap 180 (by unfold maxLen; omega)
  generalize hG : grownCap w (n + 1) cap 180 = G at *
  obtain ⟨Z, hZ⟩ : ∃ Z, (Builtin.zeroCells (Value.agg #[.string ⟨#[]⟩, .slice none 0 0, .int .i64 0]).cells (n + 1 - i) ++ Builtin.zeroCells (Value.agg #[.string ⟨#[]⟩, .slice none 0 0, .int .i64 0]).cells (G - (n + 1))).toList = Z := ⟨_, rfl⟩
  have hZl : Z.length = (n + 1 - i) * 3 + (G - (n + 1)) * 3 := by rw [← hZ]; simp [size_zeroCells, Value.cells]
  have hrun2 : (Builtin.append_ #[123, 3] 123 #[.slice (some ⟨g, 0, none⟩) i cap, .int .i64 ((n : Int) + 1 - i)]).run Tryz.prog w = .ok (.slice (some ⟨w.heap.size, 0, none⟩) (n + 1) G) (w.drew.alloc (.cells (xs.take (i * 3) ++ Z).toArray 180)) := by
    rw [hrun]
    have ha : ∀ a b : Array Value, (xs.take (i * 3)).toArray ++ a ++ b = (xs.take (i * 3) ++ (a ++ b).toList).toArray := fun a b => by apply Array.ext'; simp
    rw [ha, hZ]
  have hb1 : Blk (w.drew.alloc (.cells (xs.take (i * 3) ++ Z).toArray 180)) w.heap.size 180 (xs.take (i * 3) ++ Z).toArray := Blk.new w.drew _ _
  have hx1 : Ext [] w (w.drew.alloc (.cells (xs.take (i * 3) ++ Z).toArray 180)) := ((Ext.refl _ _).drew).alloc _
  generalize hW1 : w.drew.alloc (.cells (xs.take (i * 3) ++ Z).toArray 180) = W1 at *
  have hrow1 : Row W1 (fun k => k < w.heap.size) (some ⟨g, i * 3, none⟩) (xs.drop (i * 3)) := hrow.keep hx1
  have hv1 : Blk W1 vb 180 #[x0, x1, x2] := hv.keep hx1
  have hrv1 : Row W1 (fun _ => True) (some ⟨vb, 0, none⟩) [x0, x1, x2] := Row.of_blk hv1 trivial 0 (fun j u hu => by simpa using hu)
  have hm' : (n : Int) ≤ 200000 := by omega
  have hi' : (i : Int) < n := by omega
  have hroom' : (cap : Int) < (n : Int) + 1 := by omega
  have hnc' : (n : Int) ≤ cap := by omega
  have hGe : (n : Int) + 1 ≤ G := by omega
  have hni : ((i : Int) == n) = false := by simp; omega
  have hc1 : ¬ (cap = i) := by omega
  have hc2 : ¬ (G = i) := by omega
  have hc3 : ¬ (G = i + 1) := by omega
  have hins := ins_list xs [x0, x1, x2] Z i n hxl (by omega) rfl (by omega)
  have hLl : (xs.take (i * 3) ++ Z).length = G * 3 := by rw [List.length_append, htl, hZl]; omega
  replace hown := Lib.hid hown
  replace hrow1 := Lib.hid hrow1
  replace hrv1 := Lib.hid hrv1
  replace h1 := Lib.hid h1
  replace h1x := Lib.hid h1x
  replace hb1 := Lib.hid hb1
  replace hx1 := Lib.hid hx1
  replace hrun2 := Lib.hid hrun2
  replace hins := Lib.hid hins
  replace hdl := Lib.hid hdl
  replace hLl := Lib.hid hLl
  replace hcm2 := Lib.hid hcm2
  clear hh htake hcs hxl hrow hold hrun hb hZ hZl hv hv1 hW1 hG hi0 hz0 hz1 hz2 htl hge hcm hgl
  go_enter Tryz.func130, Tryz.ntmps130
  have k1 : 1 = Nat.min 1 (n + 1 - i) := by show _ = min _ _; omega
  have k2 : i * 3 + [x0, x1, x2].length ≤ (xs.take (i * 3) ++ Z).length := by rw [hLl.out]; simp only [List.length_cons, List.length_nil]; omega
  replace k1 := Lib.hid k1
  replace k2 := Lib.hid k2
  go_wp2_with (first | (refine Lib.wpList_append_run _ rfl _ _ 123 3 rfl _ _ rfl rfl _ _ hrun2.out ?_) | (refine wpList_copy_k rfl _ _ 123 123 rfl 180 3 Tryz.underlying123 (by kernel_rfl) (some ⟨w.heap.size, i * 3, none⟩) (n + 1 - i) (G - i) rfl (some ⟨vb, 0, none⟩) 1 1 rfl 1 k1.out [x0, x1, x2] rfl (by decide) (fun _ => True) hrv1.out w.heap.size (i * 3) 180 _ hb1.out (fun _ => rfl) k2.out h1.out ?_; intro w2 hb2 hx2; replace hb2 := Lib.hid hb2; replace hx2 := Lib.hid hx2))
  have s1 : IntKind.i64.wrap ((i : Int) + 1) = (i : Int) + 1 := by rw [IntKind.wrap_i64]; omega
  have s2 : (0 : Int) ≤ (i : Int) + 1 := by omega
  have s3 : ((i : Int) + 1).toNat = i + 1 := by omega
  have s4 : (i : Int) + 1 ≤ (n : Int) + 1 := by omega
  have s5 : (i : Int) ≤ (n : Int) := by omega
  go_still_tail 8, (by kernel_rfl)
  clear s1 s2 s3 s4 s5
  change wpList _ _ _ _ _ w2.drew
  have hrow2 : Row w2.drew (fun k => k < w.heap.size) (some ⟨g, i * 3, none⟩) (xs.drop (i * 3)) := (hrow1.out.ext hx2.out (fun k _ hk => by simp; omega)).keep (Ext.refl _ _).drew
  refine wpList_copy_k rfl _ _ 123 123 rfl 180 3 Tryz.underlying123 (by kernel_rfl) (some ⟨w.heap.size, (i + 1) * 3, none⟩) _ _ rfl (some ⟨g, i * 3, none⟩) _ _ rfl (n - i) ?_ (xs.drop (i * 3)) hdl.out (by decide) (fun k => k < w.heap.size) hrow2 w.heap.size ((i + 1) * 3) 180 _ hb2.out.drew (fun _ => rfl) ?_ (mem_one hown.out h1x.out _) ?_
  · show _ = min _ _; omega
  · rw [length_splice _ _ _ k2.out, hdl.out, hLl.out]; omega
  intro w3 hb3 hx3
  replace hb3 := Lib.hid hb3
  replace hx3 := Lib.hid hx3
  go_wp2
  go_ret
  refine ⟨.slice (some ⟨w.heap.size, 0, none⟩) (n + 1) G, rfl, ⟨?_, .inr ⟨w.heap.size, G, _, rfl, Nat.zero_le _, hb3.out, by omega, hcm2.out, ?_, ?_⟩⟩, ?_, ?_⟩
  · have := hown.out.1
    simp only [List.length_append, List.length_take, List.length_drop, List.length_cons, List.length_nil]; omega
  · rw [List.size_toArray, length_splice, length_splice _ _ _ k2.out, hLl.out]
    rw [length_splice _ _ _ k2.out, hdl.out, hLl.out]; omega
  · exact hins.out
  · have hn : ∀ k, k ∈ [w.heap.size] → k < w.heap.size → k ∈ ([] : List Nat) := fun k hk hlt => by simp at hk; omega
    refine Ext.mono (F := []) ?_ (fun k hk => by cases hk)
    exact ((hx1.out.trans hx2.out hn).drew).trans hx3.out hn
  · intro k hk
    right
    have : w.heap.size = k := by simpa [Value.ownBlock] using hk
    omega
end Go.Proofs.YtpjekppljaekoaaGreatDoor
namespace Go.Proofs.YtpjekppljaekoaaGreatDoor
open Go Go.RowKit

theorem FRow.oneCell {w : World} {p : Nat → Prop} : ∀ {xs : List Value} {fs : List FileS}, FRow w p xs fs → ∀ u ∈ xs, u.oneCell' = true
  | _, [], h, u, hu => by rw [h] at hu; cases hu
  | _, f :: fs, ⟨b, r, e, ⟨A, c, hb, _⟩, h⟩, u, hu => by
    rw [e, hb] at hu
    simp only [List.mem_cons] at hu
    rcases hu with rfl | rfl | rfl | hu
    · rfl
    · rfl
    · rfl
    · exact h.oneCell u hu

def InsFPost (ob : Option Nat) (p : Nat → Prop) (fs : List FileS) (w : World) (e : Ending) (w' : World) : Prop :=
  ∃ A c, e = .returned (.slice A fs.length c) ∧ Files w' p (.slice A fs.length c) fs ∧ Ext ob.toList w w' ∧ ∀ k, (Value.slice A fs.length c).ownBlock = some k → ob = some k ∨ w.heap.size ≤ k

theorem insertF_calls (p : Nat → Prop) (sv : Value) (fs : List FileS) (i vb : Nat) (f : FileS) (b : Value) (w : World) (hf : Files w p sv fs) (hp : ∀ k, k < w.heap.size → p k → sv.ownBlock ≠ some k) (hv : Blk w vb 180 #[.string f.nm, b, .int .i64 f.safe]) (hb : Bs w p b f.l)
    (hm : fs.length ≤ 200000) (hi : i ≤ fs.length) (hvb : sv.ownBlock ≠ some vb) :
    Calls Tryz.prog 130 #[sv, .int .i64 i, .slice (some ⟨vb, 0, none⟩) 1 1] w (InsFPost sv.ownBlock p (insertAt fs i f) w) := by
  obtain ⟨xs, hown, hrow⟩ := hf.own
  have h1 : ∀ u ∈ [.string f.nm, b, .int .i64 f.safe], u.oneCell' = true := (FRow.one (w := w) (p := p) (f := f) hb).oneCell
  have h1x := hrow.oneCell
  have hl : (insertAt fs i f).length = fs.length + 1 := by unfold insertAt; rw [List.length_append, List.length_cons, List.length_take, List.length_drop]; omega
  have fin : ∀ e w', InsPost sv.ownBlock (fs.length + 1) (xs.take (i * 3) ++ [.string f.nm, b, .int .i64 f.safe] ++ xs.drop (i * 3)) w e w' → InsFPost sv.ownBlock p (insertAt fs i f) w e w' := by
    rintro e w' ⟨sv', rfl, ho, hx, hk⟩
    obtain ⟨A, c, rfl, _⟩ := own_form ho
    have hn : ∀ g, g < w.heap.size → p g → g ∉ sv.ownBlock.toList := fun g hg hpg => by
      have := hp g hg hpg
      cases hsv : sv.ownBlock with
      | none => simp
      | some k =>
        rw [hsv] at this
        simp only [Option.toList_some, List.mem_singleton]
        exact fun e => this (by rw [e])
    refine ⟨A, c, by rw [hl], ⟨_, by rw [hl]; exact ho, ?_⟩, hx, by rw [hl]; exact hk⟩
    unfold insertAt
    rw [List.append_assoc]
    exact ((hrow.take i).ext hx hn).app (((FRow.one (f := f) hb).ext hx hn).app ((hrow.drop i).ext hx hn))
  by_cases he : i = fs.length
  · subst he
    have hxl := hown.1
    rw [List.take_of_length_le (by omega), List.drop_of_length_le (by omega), List.append_nil] at fin
    exact (insert_end sv fs.length xs vb _ _ _ w hown hv h1 hm).mono fin
  · rcases hown.2 with ⟨_, h0⟩ | ⟨g, cap, cur, rfl, _, hh, _⟩
    · omega
    · by_cases hroom : fs.length + 1 ≤ cap
      · exact (insert_room g cap fs.length i xs vb _ _ _ w hown hv h1 h1x hm (by omega) hroom (fun e => hvb (by rw [e]; rfl))).mono fin
      · exact (insert_grow g cap fs.length i xs vb _ _ _ w hown hv h1 h1x hm (by omega) (by omega)).mono fin
end Go.Proofs.YtpjekppljaekoaaGreatDoor
namespace Go.Proofs.YtpjekppljaekoaaGreatDoor
open Go Go.RowKit

theorem del_list (xs cur zs : List Value) (i k : Nat) (hcur : (k + 1) * 3 ≤ cur.length) (hx : cur.take ((k + 1) * 3) = xs) (hi : i ≤ k) (hz : zs.length = 3) :
    ((splice (splice cur (i * 3) (xs.drop ((i + 1) * 3))) (k * 3) zs).take (k * 3)) = xs.take (i * 3) ++ xs.drop ((i + 1) * 3) := by
  have hxl : xs.length = (k + 1) * 3 := by rw [← hx, List.length_take]; omega
  have h4 : (xs.drop ((i + 1) * 3)).length = (k - i) * 3 := by rw [List.length_drop, hxl]; omega
  have hct : cur.take (i * 3) = xs.take (i * 3) := by rw [← hx, List.take_take, Nat.min_eq_left (by omega)]
  have h1 : (xs.take (i * 3)).length = i * 3 := by rw [List.length_take]; omega
  have h5 : (xs.take (i * 3) ++ xs.drop ((i + 1) * 3)).length = k * 3 := by rw [List.length_append, h1, h4]; omega
  have e1 : splice cur (i * 3) (xs.drop ((i + 1) * 3)) = cur.take (i * 3) ++ (xs.drop ((i + 1) * 3) ++ (cur.drop (i * 3)).drop ((k - i) * 3)) :=
    splice_at (M := (cur.drop (i * 3)).take ((k - i) * 3)) (by rw [List.take_append_drop, List.take_append_drop]) (by rw [List.length_take]; omega) (by rw [List.length_take, List.length_drop, h4]; omega)
  have hS : 3 ≤ ((cur.drop (i * 3)).drop ((k - i) * 3)).length := by rw [List.length_drop, List.length_drop]; omega
  rw [e1, hct]
  rw [splice_at (P := xs.take (i * 3) ++ xs.drop ((i + 1) * 3)) (M := ((cur.drop (i * 3)).drop ((k - i) * 3)).take 3) (S := ((cur.drop (i * 3)).drop ((k - i) * 3)).drop 3) (by rw [List.take_append_drop, List.append_assoc]) h5 (by rw [List.length_take, hz]; omega)]
  exact List.take_left' h5

set_option maxRecDepth 100000 in
set_option maxHeartbeats 2000000 in
theorem delete_calls (g cap k i : Nat) (xs : List Value) (w : World) (hown : w.ownsRow 0 180 3 (.slice (some ⟨g, 0, none⟩) (k + 1) cap) (k + 1) xs) (h1x : ∀ u ∈ xs, u.oneCell' = true) (hm : k ≤ 200000) (hi : i ≤ k) :
    Calls Tryz.prog 299 #[.slice (some ⟨g, 0, none⟩) (k + 1) cap, .int .i64 i, .int .i64 ((i : Int) + 1)] w fun e w' => e = .returned (.slice (some ⟨g, 0, none⟩) k cap) ∧ w'.ownsRow 0 180 3 (.slice (some ⟨g, 0, none⟩) k cap) k (xs.take (i * 3) ++ xs.drop ((i + 1) * 3)) ∧ Ext [g] w w' := by
  rcases hown.2 with ⟨h, _⟩ | ⟨g', cap', cur, e, _, hh, hnc, hcm, hcs, htake⟩
  · cases h
  injection e with e1 _ e3
  injection e1 with e1
  injection e1 with e1 _ _
  subst e1; subst e3
  have hxl := hown.1
  have hb : Blk w g 180 cur.toList.toArray := by simpa [Blk] using hh
  have hcl : cur.toList.length = cap * 3 := by rw [Array.length_toList, hcs]
  have hdl : (xs.drop ((i + 1) * 3)).length = (k - i) * 3 := by rw [List.length_drop, hxl]; omega
  obtain ⟨i0, hi0, hz0, hz1, hz2⟩ := info_parts Tryz.info180
  obtain ⟨W1, hW1⟩ : ∃ W1, w.drew.setRow g (cur.toList.take (i * 3) ++ xs.drop ((i + 1) * 3) ++ cur.toList.drop (i * 3 + (xs.drop ((i + 1) * 3)).length)).toArray = W1 := ⟨_, rfl⟩
  have hrun : ∀ a : Addr, (i < k → a = ⟨g, (i + 1) * 3, none⟩) → ∀ c, (Builtin.append_ #[123, 123] 123 #[.slice (some ⟨g, 0, none⟩) i cap, .slice (some a) (k - i) c]).run Tryz.prog w.drew = .ok (.slice (some ⟨g, 0, none⟩) k cap) W1 := by
    intro a ha c
    have hr := run_append_room (P := Tryz.prog) w.drew 123 123 180 i0 Tryz.underlying123 hi0 g i cap cur hh a (k - i) c (xs.drop ((i + 1) * 3)) (by rw [hdl, hz1]) ?_ (fun u hu => h1x u (List.mem_of_mem_drop hu)) (by omega) (by rw [hz1, hdl, hcs]; omega)
    · rw [hz1, show i + (k - i) = k from by omega, hW1] at hr
      exact hr
    · intro j u hu
      have hlt : j < (k - i) * 3 := by rw [← hdl]; exact (List.getElem?_eq_some_iff.1 hu).1
      rw [ha (by omega), Addr.add_lit]
      have h2 : xs[(i + 1) * 3 + j]? = some u := by rwa [List.getElem?_drop] at hu
      rw [← htake, List.getElem?_take] at h2
      split at h2
      · exact (cell_of_row w.drew g _ cur 180 (0, 0) hh).trans (by simpa using h2)
      · cases h2
  have hb1 : Blk W1 g 180 (splice cur.toList (i * 3) (xs.drop ((i + 1) * 3))).toArray := by
    rw [← hW1]
    have := setRow_heap w.drew g cur (cur.toList.take (i * 3) ++ xs.drop ((i + 1) * 3) ++ cur.toList.drop (i * 3 + (xs.drop ((i + 1) * 3)).length)).toArray 180 (0, 0) hh
    simpa [splice, Blk] using this
  have hx1 : Ext [g] w W1 := by rw [← hW1]; exact ⟨rfl, rfl, rfl, by simp, fun k _ hn => setRow_other w.drew g k _ (by simpa using hn)⟩
  have hsl : (splice cur.toList (i * 3) (xs.drop ((i + 1) * 3))).length = cap * 3 := by rw [length_splice _ _ _ (by rw [hdl, hcl]; omega), hcl]
  have hm' : (k : Int) ≤ 200000 := by omega
  have hi' : (i : Int) ≤ k := by omega
  have hnc' : (k : Int) + 1 ≤ cap := by omega
  have hne : ((i : Int) == (i : Int) + 1) = false := by simp; omega
  have hck : ¬ (cap = k) := by omega
  have hdel := fun zs hz => del_list xs cur.toList zs i k (by omega) htake hi hz
  replace hdel := Lib.hid hdel
  replace hown := Lib.hid hown
  replace h1x := Lib.hid h1x
  replace hb1 := Lib.hid hb1
  replace hx1 := Lib.hid hx1
  replace hsl := Lib.hid hsl
  replace hcm := Lib.hid hcm
  replace hrun := Lib.hid hrun
  clear hh htake hcs hxl hb hcl hdl hW1
  go_enter Tryz.func299, Tryz.ntmps299
  go_wp2
  have s1 : IntKind.i64.wrap ((i : Int) + 1) = (i : Int) + 1 := by rw [IntKind.wrap_i64]; omega
  have s2 : (0 : Int) ≤ (i : Int) + 1 := by omega
  have s3 : ((i : Int) + 1).toNat = i + 1 := by omega
  have s4 : (i : Int) + 1 ≤ (k : Int) + 1 := by omega
  have s5 : (i : Int) ≤ (cap : Int) := by omega
  go_still_tail 6, (by kernel_rfl)
  clear s1 s2 s3 s4 s5
  change wpList _ _ _ _ _ w.drew
  obtain ⟨ad, had, had2⟩ : ∃ ad, (if cap = i + 1 then (some ⟨g, 0, none⟩ : Option Addr) else some ⟨g, (i + 1) * 3, none⟩) = some ad ∧ (i < k → ad = ⟨g, (i + 1) * 3, none⟩) := by
    by_cases h : cap = i + 1
    · exact ⟨_, by rw [if_pos h], fun h2 => by omega⟩
    · exact ⟨_, by rw [if_neg h], fun _ => rfl⟩
  have hlen1 : k + 1 - (i + 1) = k - i := by omega
  simp only [had]
  refine Lib.wpList_append_run _ rfl _ _ 123 123 rfl _ _ rfl rfl _ _ (hrun.out ad had2 _) ?_
  go_wp2_with (refine wpList_clear_k rfl _ 123 rfl 180 Tryz.underlying123 i0 _ hi0 hz0 (by simp [Value.cells, Value.oneCell']) g (k * 3) 1 _ rfl 180 _ hb1.out ?_ ?_)
  · rw [hsl.out]
    have h3 : (Value.agg #[Value.string { data := #[] }, Value.slice none 0 0, Value.int IntKind.i64 0]).cells.size = 3 := rfl
    rw [h3]; omega
  intro w3 zs hzs hb3 hx3
  replace hzs : zs.length = 3 := hzs
  replace hb3 := Lib.hid hb3
  replace hx3 := Lib.hid hx3
  replace hzs := Lib.hid hzs
  go_wp2
  go_ret
  have hl3 : (splice (splice cur.toList (i * 3) (List.drop ((i + 1) * 3) xs)) (k * 3) zs).length = cap * 3 := by rw [length_splice _ _ _ (by rw [hsl.out, hzs.out]; omega), hsl.out]
  refine ⟨rfl, ⟨?_, .inr ⟨g, cap, _, rfl, Nat.zero_le _, hb3.out, by omega, hcm.out, ?_, ?_⟩⟩, ?_⟩
  · have := hown.out.1
    simp only [List.length_append, List.length_take, List.length_drop]; omega
  · rw [List.size_toArray, hl3]
  · exact hdel.out zs hzs.out
  · exact hx1.out.trans hx3.out (fun _ h _ => h)
end Go.Proofs.YtpjekppljaekoaaGreatDoor
namespace Go.Proofs.YtpjekppljaekoaaGreatDoor
open Go Go.RowKit

theorem FRow.set {w : World} {p : Nat → Prop} {b' : Value} {f' : FileS} (hb : Bs w p b' f'.l) : ∀ {xs : List Value} {fs : List FileS} (i : Nat), FRow w p xs fs → i < fs.length →
    FRow w p (((xs.set (i * 3) (.string f'.nm)).set (i * 3 + 1) b').set (i * 3 + 2) (.int .i64 f'.safe)) (fs.set i f')
  | _, [], i, _, hi => by simp at hi
  | _, f :: fs, 0, ⟨b, r, e, _, h⟩, _ => ⟨b', r, by rw [e]; rfl, hb, h⟩
  | _, f :: fs, i + 1, ⟨b, r, e, hb0, h⟩, hi => by
    have hi' : i < fs.length := by simpa using hi
    have := h.set hb i hi'
    refine ⟨b, ((r.set (i * 3) (.string f'.nm)).set (i * 3 + 1) b').set (i * 3 + 2) (.int .i64 f'.safe), ?_, hb0, this⟩
    rw [e, show (i + 1) * 3 = i * 3 + 3 from by omega, show i * 3 + 3 + 1 = i * 3 + 1 + 3 from by omega, show i * 3 + 3 + 2 = i * 3 + 2 + 3 from by omega]
    rfl

/-- One file is another one, in its place. -/
theorem Files.turn {w : World} {p : Nat → Prop} {g n cap : Nat} {fs : List FileS} {i : Nat} (h : Files w p (.slice (some ⟨g, 0, none⟩) n cap) fs) (hi : i < fs.length) :
    ∃ cur, Blk w g 180 cur ∧ i * 3 + 3 ≤ cur.size ∧ ∀ (w' : World) (b' : Value) (f' : FileS), Blk w' g 180 (((cur.setIfInBounds (i * 3) (.string f'.nm)).setIfInBounds (i * 3 + 1) b').setIfInBounds (i * 3 + 2) (.int .i64 f'.safe)) → Ext [g] w w' → ¬ p g → Bs w' p b' f'.l →
      Files w' p (.slice (some ⟨g, 0, none⟩) n cap) (fs.set i f') := by
  obtain ⟨xs, h1, h2⟩ := h.own
  rcases h1.2 with ⟨e, _⟩ | ⟨g', cap', cur, e, _, hh, hnc, hcm, hcs, htake⟩
  · cases e
  injection e with e1 e2 e3
  injection e1 with e1
  injection e1 with e1 _ _
  subst e1; subst e3
  refine ⟨cur, hh, by rw [hcs]; omega, fun w' b' f' hb hx hp hbs => ?_⟩
  refine ⟨((xs.set (i * 3) (.string f'.nm)).set (i * 3 + 1) b').set (i * 3 + 2) (.int .i64 f'.safe), ?_, (h2.ext hx fun k _ hk => by rw [List.mem_singleton]; rintro rfl; exact hp hk).set hbs i hi⟩
  rw [List.length_set]
  refine ⟨by simpa using h1.1, .inr ⟨g, cap, _, by rw [e2], Nat.zero_le _, hb, hnc, hcm, by simpa using hcs, ?_⟩⟩
  simp only [Array.toList_setIfInBounds, List.take_set, htake]

theorem DiskAt.refile {w w' : World} {d : Nat} {sv sv' : Value} {s : DiskS} {fs' : List FileS} (h : DiskAt w d sv s) (hb : Blk w' d 125 #[sv', .int .i64 s.quota, .int .i64 s.steps, .int .i64 s.left, .bool s.off]) (hf : Files w' (· ∉ DF d sv') sv' fs')
    (h1 : Rising fs') (h2 : usedL fs' ≤ 50000000) (h3 : fs'.length ≤ 100000) : DiskAt w' d sv' { s with files := fs' } := ⟨hb, hf, h1, h2, h3, h.steps, h.left⟩

theorem rising_names {fs gs : List FileS} (h : Rising fs) (e : gs.map (·.nm) = fs.map (·.nm)) : Rising gs := by
  have : (gs.map (·.nm)).Pairwise fun a b => ltN a b = true := by rw [e]; exact List.pairwise_map.2 h
  exact List.pairwise_map.1 this
theorem rising_set {fs : List FileS} (h : Rising fs) {i : Nat} {f f' : FileS} (hi : fs[i]? = some f) (hn : f'.nm = f.nm) : Rising (fs.set i f') := by
  refine rising_names h ?_
  apply List.ext_getElem?
  intro j
  simp only [List.map_set]
  by_cases e : i = j
  · subst e
    obtain ⟨hl, _⟩ := List.getElem?_eq_some_iff.1 hi
    rw [List.getElem?_set_self (by simpa using hl), List.getElem?_map, hi, hn]
    rfl
  · rw [List.getElem?_set_ne e]
theorem used_set {fs : List FileS} {i : Nat} {f f' : FileS} (hi : fs[i]? = some f) : usedL (fs.set i f') + f.l.length = usedL fs + f'.l.length := by
  obtain ⟨hl, e⟩ := List.getElem?_eq_some_iff.1 hi
  have h1 : fs = fs.take i ++ f :: fs.drop (i + 1) := by rw [← e, List.getElem_cons_drop, List.take_append_drop]
  have h2 : fs.set i f' = fs.take i ++ f' :: fs.drop (i + 1) := by rw [List.set_eq_take_append_cons_drop, if_pos hl]
  rw [h2]
  conv => rhs; rw [h1]
  simp only [usedL, List.map_append, List.map_cons, List.sum_append, List.sum_cons]
  omega
theorem used_erase {fs : List FileS} {i : Nat} {f : FileS} (hi : fs[i]? = some f) : usedL (fs.eraseIdx i) + f.l.length = usedL fs := by
  obtain ⟨hl, e⟩ := List.getElem?_eq_some_iff.1 hi
  have h1 : fs = fs.take i ++ f :: fs.drop (i + 1) := by rw [← e, List.getElem_cons_drop, List.take_append_drop]
  rw [List.eraseIdx_eq_take_drop_succ]
  conv => rhs; rw [h1]
  simp only [usedL, List.map_append, List.map_cons, List.sum_append, List.sum_cons]
  omega
theorem rising_erase {fs : List FileS} (h : Rising fs) (i : Nat) : Rising (fs.eraseIdx i) := h.sublist (List.eraseIdx_sublist fs i)

theorem deleteF_calls (g cap i : Nat) (p : Nat → Prop) (fs : List FileS) (w : World) (h : Files w p (.slice (some ⟨g, 0, none⟩) fs.length cap) fs) (hp : ¬ p g) (hm : fs.length ≤ 200000) (hi : i < fs.length) :
    Calls Tryz.prog 299 #[.slice (some ⟨g, 0, none⟩) fs.length cap, .int .i64 i, .int .i64 ((i : Int) + 1)] w fun e w' => e = .returned (.slice (some ⟨g, 0, none⟩) (fs.length - 1) cap) ∧ Files w' p (.slice (some ⟨g, 0, none⟩) (fs.length - 1) cap) (fs.eraseIdx i) ∧ Ext [g] w w' := by
  obtain ⟨xs, h1, h2⟩ := h.own
  obtain ⟨k, hk⟩ : ∃ k, fs.length = k + 1 := ⟨fs.length - 1, by omega⟩
  rw [hk] at h1 ⊢
  refine (delete_calls g cap k i xs w h1 h2.oneCell (by omega) (by omega)).mono ?_
  rintro e w' ⟨rfl, ho, hx⟩
  refine ⟨rfl, ⟨xs.take (i * 3) ++ xs.drop ((i + 1) * 3), ?_, ?_⟩, hx⟩
  · rw [List.length_eraseIdx, if_pos hi, hk]; exact ho
  · rw [List.eraseIdx_eq_take_drop_succ]
    have hn : ∀ k, k < w.heap.size → p k → k ∉ [g] := fun k _ hk => by rw [List.mem_singleton]; rintro rfl; exact hp hk
    exact ((h2.take i).ext hx hn).app ((h2.drop (i + 1)).ext hx hn)

/-- A call that answers nothing and turns the disk in its own blocks. -/
def TurnPost (d : Nat) (sv : Value) (s' : DiskS) (w : World) (e : Ending) (w' : World) : Prop :=
  e = .returned (.tuple #[]) ∧ ∃ sv', DiskAt w' d sv' s' ∧ Ext (DF d sv) w w' ∧ ∀ k ∈ DF d sv', k ∈ DF d sv ∨ w.heap.size ≤ k

theorem Files.some {w : World} {p : Nat → Prop} {sv : Value} {fs : List FileS} (h : Files w p sv fs) (hi : 0 < fs.length) : ∃ g cap, sv = .slice (some ⟨g, 0, none⟩) fs.length cap ∧ fs.length ≤ cap := by
  obtain ⟨xs, h1, h2⟩ := h.own
  rcases h1.2 with ⟨_, e⟩ | ⟨g, cap, cur, e, _, _, hnc, _⟩
  · omega
  · exact ⟨g, cap, e, hnc⟩

set_option maxRecDepth 100000 in
set_option maxHeartbeats 1000000 in
theorem drops_calls (d : Nat) (sv : Value) (s : DiskS) (i : Nat) (n to : Value) (w : World) (h : DiskAt w d sv s) (hi : i < s.files.length) :
    Calls Tryz.prog 261 #[.pointer (some ⟨d, 0, none⟩), .int .i64 i, n, to] w (TurnPost d sv { s with files := s.files.eraseIdx i } w) := by
  obtain ⟨c0, _⟩ := h.cells
  obtain ⟨g, cap, rfl, hcap⟩ := h.files.some (by omega)
  have hgd : g ≠ d := h.own_ne rfl
  have f0 := h.blk.froz 0
  have hm := h.many
  have hD : DF d (.slice (some ⟨g, 0, none⟩) s.files.length cap) = [d, g] := rfl
  have hC := deleteF_calls g cap i _ s.files w h.files (by rw [hD]; simp) (by omega) hi
  have hfin : ∀ w1, Files w1 (· ∉ DF d (.slice (some ⟨g, 0, none⟩) s.files.length cap)) (.slice (some ⟨g, 0, none⟩) (s.files.length - 1) cap) (s.files.eraseIdx i) → Ext [g] w w1 →
      ∀ w2, w2 = w1.setCell ⟨d, 0, none⟩ (.slice (some ⟨g, 0, none⟩) (s.files.length - 1) cap) → TurnPost d (.slice (some ⟨g, 0, none⟩) s.files.length cap) { s with files := s.files.eraseIdx i } w (.returned (.tuple #[])) w2 := by
    intro w1 hf1 hx1 w2 e2
    have hb1 : Blk w1 d 125 _ := h.blk.ext hx1 (by simpa using hgd.symm)
    have hx2 : Ext [d] w1 w2 := by rw [e2]; exact (Ext.refl [d] w1).set (.inl (by simp)) _
    have hf := List.getElem?_eq_getElem hi
    refine ⟨rfl, .slice (some ⟨g, 0, none⟩) (s.files.length - 1) cap, h.refile ?_ ?_ (rising_erase h.rise i) ?_ ?_, ?_, fun k hk => .inl hk⟩
    · rw [e2]; have := hb1.set 0 (.slice (some ⟨g, 0, none⟩) (s.files.length - 1) cap); simpa using this
    · refine hf1.ext hx2 (fun k hk => ?_) (fun k _ hk => ?_)
      · obtain rfl : g = k := by simpa [Value.ownBlock] using hk
        simpa using hgd
      · rw [hD] at hk; simp only [List.mem_cons, not_or] at hk; simpa using hk.1
    · have := used_erase hf; have := h.used; omega
    · rw [List.length_eraseIdx, if_pos hi]; omega
    · rw [hD]
      exact (hx1.mono (by simp)).trans (hx2.mono (by simp)) (fun _ h _ => h)
  replace h := Lib.hid h
  have hi' : (i : Int) + 1 ≤ s.files.length := by omega
  have hcap' : (s.files.length : Int) ≤ cap := by omega
  have hm' : (s.files.length : Int) ≤ 100000 := by omega
  clear hD
  replace hfin := Lib.hid hfin
  replace hgd := Lib.hid hgd
  generalize s.files.length = m at *
  go_enter Tryz.func261, Tryz.ntmps261
  go_wp2_with (go_at_call 299; refine hC.mono ?_; rintro e w1 ⟨rfl, hf1, hx1⟩; have f1 : w1.frozen? ⟨d, 0, none⟩ = false := (h.out.blk.ext hx1 (by simpa using hgd.out.symm)).froz 0; have c1 : w1.cell? ⟨d, 0, none⟩ = _ := (h.out.blk.ext hx1 (by simpa using hgd.out.symm)).cell 0; simp only [List.getElem?_toArray, List.getElem?_cons_zero] at c1; replace hf1 := Lib.hid hf1; replace hx1 := Lib.hid hx1)
  go_end0
  exact hfin.out _ hf1.out hx1.out _ rfl
end Go.Proofs.YtpjekppljaekoaaGreatDoor

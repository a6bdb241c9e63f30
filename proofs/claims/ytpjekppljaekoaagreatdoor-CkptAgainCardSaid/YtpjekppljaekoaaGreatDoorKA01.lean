/- Words for memory: a frame with a list of blocks that may turn, blocks that are known whole, rows of bytes. Contracts of package fields, first part: slices.Clone of bytes; a writer's put and Out. A disk's state, in plain words: what each call of package disk does to it. A disk as it lies in memory; what New, Off, Steps, Fail, Crash, power, Used do. Contracts of package disk: New, Fail, Crash, power, Used. Contracts of package disk: Used, New. Contracts of package disk: asked. Names in order; where a name stands among files whose names rise. Contracts of package disk: find. -/
import Derived.WalkKit
import Derived.WalkSpells
import Derived.WalkLawsBesides
import Derived.Deep.Draws
import Derived.Deep.AppendLies
import Derived.Lib.Hide
import Derived.Test.YtpjekppljaekoaaGreatDoorProg
import Derived.Deep.QuietTactic
import Derived.BigQuiet
import Derived.StillTailTactics
namespace Go.Proofs.YtpjekppljaekoaaGreatDoor
open Go Go.RowKit

/-- But for the blocks in F, whatever was there is as it was. -/
structure Ext (F : List Nat) (w w' : World) : Prop where
  os : w'.os = w.os
  tape : w'.tape = w.tape
  output : w'.output = w.output
  size : w.heap.size ≤ w'.heap.size
  block : ∀ k, k < w.heap.size → k ∉ F → w'.heap[k]? = w.heap[k]?

section
variable {F G : List Nat} {w w' a b c : World}
theorem Ext.refl (F : List Nat) (w : World) : Ext F w w := ⟨rfl, rfl, rfl, Nat.le_refl _, fun _ _ _ => rfl⟩
theorem Ext.mono (h : Ext F a b) (hs : ∀ k, k ∈ F → k < a.heap.size → k ∈ G) : Ext G a b :=
  ⟨h.os, h.tape, h.output, h.size, fun k hk hn => h.block k hk fun hf => hn (hs k hf hk)⟩
theorem Ext.trans (h : Ext F a b) (k : Ext G b c) (hs : ∀ n, n ∈ G → n < a.heap.size → n ∈ F) : Ext F a c :=
  ⟨k.os.trans h.os, k.tape.trans h.tape, k.output.trans h.output, Nat.le_trans h.size k.size, fun i hi hn =>
    (k.block i (Nat.lt_of_lt_of_le hi h.size) (fun hg => hn (hs i hg hi))).trans (h.block i hi hn)⟩
theorem Ext.trans' (h : Ext F a b) (k : Ext F b c) : Ext F a c := h.trans k fun _ h _ => h
/-- Behind a call that turned nothing that was there. -/
theorem Ext.new (h : Ext F a b) (k : Ext [] b c) : Ext F a c := h.trans k fun _ h _ => by cases h
theorem Ext.drew (h : Ext F a w) : Ext F a w.drew := ⟨h.os, h.tape, h.output, h.size, h.block⟩
theorem Ext.drewN (h : Ext F a w) (n : Nat) : Ext F a (w.drewN n) := ⟨h.os, h.tape, h.output, h.size, h.block⟩
theorem Ext.alloc (h : Ext F a w) (o : Obj) : Ext F a (w.alloc o) :=
  ⟨h.os, h.tape, h.output, Nat.le_trans h.size (by simp), fun k hk hn => (Below.heap_alloc w o k (Nat.lt_of_lt_of_le hk h.size)).trans (h.block k hk hn)⟩
theorem Ext.set (h : Ext F a w) {p : Addr} (hp : p.block ∈ F ∨ a.heap.size ≤ p.block) (u : Value) : Ext F a (w.setCell p u) :=
  ⟨h.os, h.tape, h.output, by simpa [World.setCell] using h.size, fun k hk hn => (Below.heap_setCell w p u k (by
    rintro rfl
    rcases hp with hp | hp
    · exact hn hp
    · omega)).trans (h.block k hk hn)⟩
theorem Ext.grown {row : Option Nat} (h : Ext F a w) (hg : w.grownBy w' row) (hr : ∀ k, row = some k → k ∈ F ∨ a.heap.size ≤ k) : Ext F a w' :=
  ⟨hg.os.trans h.os, hg.tape.trans h.tape, hg.output.trans h.output, Nat.le_trans h.size hg.size, fun k hk hn =>
    (hg.block k (Nat.lt_of_lt_of_le hk h.size) (fun e => by
      rcases hr k e.symm with h1 | h1
      · exact hn h1
      · omega)).trans (h.block k hk hn)⟩
theorem Ext.below {B : Nat} (h : Ext F a w) (hb : Below B w w') (hB : a.heap.size ≤ B) : Ext F a w' :=
  ⟨hb.os.trans h.os, hb.tape.trans h.tape, hb.output.trans h.output, Nat.le_trans h.size hb.size, fun k hk hn =>
    (hb.block k (by omega)).trans (h.block k hk hn)⟩
theorem Ext.toBelow (h : Ext [] a b) : Below a.heap.size a b := ⟨h.os, h.tape, h.output, h.size, fun k hk => h.block k hk (by simp)⟩
theorem Ext.ofBelow (h : Below a.heap.size a b) : Ext [] a b := ⟨h.os, h.tape, h.output, h.size, fun k hk _ => h.block k hk⟩
theorem Ext.cell (h : Ext F a b) {p : Addr} (hp : p.block < a.heap.size) (hn : p.block ∉ F) : b.cell? p = a.cell? p := World.cell?_of_block (h.block _ hp hn)
theorem Ext.froz (h : Ext F a b) {p : Addr} (hp : p.block < a.heap.size) (hn : p.block ∉ F) : b.frozen? p = a.frozen? p := World.frozen?_of_block (h.block _ hp hn)
end

/-- Block g is just the cells cs, of element type t, none frozen. -/
def Blk (w : World) (g : Nat) (t : TypeId) (cs : Array Value) : Prop := w.heap[g]? = some (.cells cs t (0, 0))

section
variable {w w' : World} {F : List Nat} {g : Nat} {t : TypeId} {cs : Array Value}
theorem lt_of_heap {o : Obj} (h : w.heap[g]? = some o) : g < w.heap.size := by
  rcases Nat.lt_or_ge g w.heap.size with hlt | hge
  · exact hlt
  · rw [Array.getElem?_eq_none hge] at h; cases h
theorem Blk.lt (h : Blk w g t cs) : g < w.heap.size := lt_of_heap h
theorem Blk.cell (h : Blk w g t cs) (i : Nat) : w.cell? ⟨g, i, none⟩ = cs[i]? := cell_of_row w g i cs t (0, 0) h
theorem Blk.froz (h : Blk w g t cs) (i : Nat) : w.frozen? ⟨g, i, none⟩ = false := frozen_of_row w g i cs t h
theorem Blk.new (w : World) (t : TypeId) (cs : Array Value) : Blk (w.alloc (.cells cs t)) w.heap.size t cs := heap_alloc_new w _
theorem Blk.new' (w : World) (t : TypeId) (cs : Array Value) {n : Nat} (hn : n = w.heap.size) : Blk (w.alloc (.cells cs t)) n t cs := by subst hn; exact heap_alloc_new w _
theorem Blk.drew (h : Blk w g t cs) : Blk w.drew g t cs := h
theorem Blk.drewN (h : Blk w g t cs) (n : Nat) : Blk (w.drewN n) g t cs := h
theorem Blk.alloc (h : Blk w g t cs) (o : Obj) : Blk (w.alloc o) g t cs := (Below.heap_alloc w o g h.lt).trans h
theorem Blk.set (h : Blk w g t cs) (i : Nat) (u : Value) : Blk (w.setCell ⟨g, i, none⟩ u) g t (cs.setIfInBounds i u) := by
  unfold Blk at h ⊢
  simp [World.setCell, Array.getElem?_modify, h]
theorem Blk.far (h : Blk w g t cs) {p : Addr} (hp : g ≠ p.block) (u : Value) : Blk (w.setCell p u) g t cs := (Below.heap_setCell w p u g hp).trans h
theorem Blk.ext (h : Blk w g t cs) (hx : Ext F w w') (hn : g ∉ F) : Blk w' g t cs := (hx.block g h.lt hn).trans h
theorem Blk.keep (h : Blk w g t cs) (hx : Ext [] w w') : Blk w' g t cs := h.ext hx (by simp)
theorem Blk.grown {row : Option Nat} (h : Blk w g t cs) (hb : w.grownBy w' row) (hg : some g ≠ row) : Blk w' g t cs := (hb.block g h.lt hg).trans h
theorem Blk.ne {g' : Nat} {t' : TypeId} {cs' : Array Value} (h : Blk w g t cs) (h' : Blk w g' t' cs') (hne : t ≠ t') : g ≠ g' := by
  rintro rfl
  unfold Blk at h h'
  rw [h] at h'
  injection h' with h'
  injection h' with _ ht
  exact hne ht
end

/-- A whole array or struct stored into a block of its own. -/
theorem wpList_store_whole {P : Program} {ops : Array Oper} {rest : List Oper} {o : Oper} {a : Act} {w : World} {Q : Exit → Act → World → Prop} (hgd : o.guard = none) (ty : TypeId) (x v : Operand) (ho : o.op = .store ty x v)
    (g : Nat) (hx : a.eval x = .pointer (some ⟨g, 0, none⟩)) (cells : Array Value) (hv : a.eval v = .agg cells) (old : Array Value) (t : TypeId) (hg : Blk w g t old)
    (hi : (P.info? ty).map (·.size) = some cells.size) (hs : old.size = cells.size) (h1 : cells.all (·.oneCell') = true)
    (h : ∀ w', Blk w' g t cells → Ext [g] w w' → wpList P ops Q rest (a.put o.dst undef) w') : wpList P ops Q (o :: rest) a w :=
  wpList_plain hgd fun _ hK => by
    have hr := run_storeVar_row (P := P) w g t ty old cells hg hi hs h1
    unfold Oper.wp execOp
    simp only [ho, hx, hv, Instr.storeAt, Instr.sureAddr, Sem.run_bind, Sem.run_pure, Result.andThen_ok, hr]
    exact hK _ _ (h _ (setRow_heap w g old cells t (0, 0) hg) ⟨rfl, rfl, rfl, by simp, fun k _ hn => setRow_other w g k cells (by simpa using hn)⟩)

/-- A row of cells at an address, in a block of which p holds; nothing is said of where an empty row lies. -/
def Row (w : World) (p : Nat → Prop) (A : Option Addr) (xs : List Value) : Prop :=
  xs = [] ∨ ∃ g o, A = some ⟨g, o, none⟩ ∧ g < w.heap.size ∧ p g ∧ ∀ j u, xs[j]? = some u → w.cell? ⟨g, o + j, none⟩ = some u

section
variable {w w' : World} {F : List Nat} {p q : Nat → Prop} {A : Option Addr} {xs : List Value}
theorem Row.nil : Row w p A [] := .inl rfl
theorem Row.at (h : Row w p A xs) {k : Nat} {u : Value} (hk : xs[k]? = some u) :
    ∃ g o, A = some ⟨g, o, none⟩ ∧ g < w.heap.size ∧ p g ∧ w.cell? ⟨g, o + k, none⟩ = some u := by
  rcases h with rfl | ⟨g, o, e, hg, hp, hc⟩
  · cases hk
  · exact ⟨g, o, e, hg, hp, hc k u hk⟩
theorem Row.imp (h : Row w p A xs) (hi : ∀ g, g < w.heap.size → p g → q g) : Row w q A xs := by
  rcases h with rfl | ⟨g, o, e, hg, hp, hc⟩
  · exact .inl rfl
  · exact .inr ⟨g, o, e, hg, hi g hg hp, hc⟩
theorem Row.any (h : Row w p A xs) : Row w (fun _ => True) A xs := h.imp fun _ _ _ => trivial
theorem Row.old (h : Row w p A xs) : Row w (fun g => p g ∧ g < w.heap.size) A xs := h.imp fun _ hg hp => ⟨hp, hg⟩
theorem Row.ext (h : Row w p A xs) (hx : Ext F w w') (hn : ∀ g, g < w.heap.size → p g → g ∉ F) : Row w' p A xs := by
  rcases h with rfl | ⟨g, o, e, hg, hp, hc⟩
  · exact .inl rfl
  · exact .inr ⟨g, o, e, Nat.lt_of_lt_of_le hg hx.size, hp, fun j u hu => (hx.cell hg (hn g hg hp)).trans (hc j u hu)⟩
theorem Row.keep (h : Row w p A xs) (hx : Ext [] w w') : Row w' p A xs := h.ext hx fun _ _ _ => by simp
theorem Row.of_blk {g : Nat} {t : TypeId} {cs : Array Value} (h : Blk w g t cs) (hp : p g) (o : Nat) (hc : ∀ j u, xs[j]? = some u → cs[o + j]? = some u) : Row w p (some ⟨g, o, none⟩) xs :=
  .inr ⟨g, o, rfl, h.lt, hp, fun j u hu => (h.cell _).trans (hc j u hu)⟩
theorem Row.of_own {base : Nat} {e : TypeId} {n c : Nat} (h : w.ownsRow base e 1 (.slice A n c) n xs) : Row w (base ≤ ·) A xs := by
  rcases h.2 with ⟨hv, hn⟩ | ⟨g, cap, cur, hv, hb, hh, r⟩
  · left
    have := h.1
    exact List.eq_nil_of_length_eq_zero (by omega)
  · injection hv with hA _ _
    subst hA
    refine .inr ⟨g, 0, rfl, lt_of_heap hh, hb, fun j u hu => ?_⟩
    have := h.cells (g := g) rfl j u hu
    rwa [Addr.add_lit] at this
theorem Row.src (h : Row w p A xs) {g : Nat} {o : Nat} (hA : A = some ⟨g, o, none⟩) : ∀ j u, xs[j]? = some u → w.cell? ((⟨g, o, none⟩ : Addr).add j) = some u := by
  intro j u hu
  obtain ⟨g', o', e, _, _, hc⟩ := h.at hu
  rw [hA] at e
  injection e with e
  injection e with e1 e2 _
  subst e1; subst e2
  rw [Addr.add_lit]; exact hc
/-- A piece of a row. -/
theorem Row.cut (h : Row w p A xs) (k m : Nat) {cap : Nat} (hm : xs.length ≤ cap) : Row w p (if cap = k then A else A.map (·.add k)) ((xs.drop k).take m) := by
  rcases h with rfl | ⟨g, o, e, hg, hp, hc⟩
  · exact .inl (by simp)
  · by_cases hk : cap = k
    · left
      rw [List.drop_of_length_le (by omega)]; simp
    · subst e
      rw [if_neg hk]
      refine .inr ⟨g, o + k, by simp [Addr.add_lit], hg, hp, fun j u hu => ?_⟩
      rw [List.getElem?_take] at hu
      split at hu
      · rw [List.getElem?_drop] at hu
        have := hc _ _ hu
        rwa [← Nat.add_assoc] at this
      · cases hu
end

/-- append of a row (nil and empty let in) onto what the call owns. -/
theorem run_append_rowx {P : Program} (w : World) (base : Nat) (t ty e : TypeId) (i : TypeInfo) (z : Value) (size bytes : Nat) (ht : P.underlying t = some (.slice e)) (hi : P.info? e = some i) (hz : i.zero = some z)
    (hsize : i.size = size) (hby : i.bytes = bytes) (hzs : z.cells.size = size) (hsz : 0 < size) (v : Value) (n : Nat) (xs : List Value) (hown : w.ownsRow base e size v n xs)
    (p : Nat → Prop) (A : Option Addr) (m c : Nat) (news : List Value) (hr : Row w p A news) (hl : news.length = m * size) (hA : A = none → c = 0) (h1 : ∀ u ∈ news, u.oneCell' = true)
    (h63 : n + m ≤ maxLen) (hbytes : (n + m) * bytes ≤ 140737488355328) (hbase : base ≤ w.heap.size) :
    ∃ v' w', (Builtin.append_ #[t, t] ty #[v, .slice A m c]).run P w = .ok v' w' ∧ w'.ownsRow base e size v' (n + m) (xs ++ news) ∧ w.grownBy w' v.ownBlock ∧
      (v' = .slice none 0 0 ↔ v = .slice none 0 0 ∧ m = 0) := by
  cases A with
  | none =>
    obtain rfl : news = [] := by
      rcases hr with h | ⟨g, o, e, _⟩
      · exact h
      · cases e
    obtain rfl : m = 0 := by
      have : m * size = 0 := by simpa using hl.symm
      rcases Nat.mul_eq_zero.1 this with h | h
      · exact h
      · omega
    obtain rfl := hA rfl
    have hrun := run_append_owned_none (P := P) (w := w) base t ty e i size ht hi v n xs hown
    exact ⟨v, w, hrun, by simpa using hown, ⟨rfl, rfl, rfl, Nat.le_refl _, fun _ _ _ => rfl⟩, by simp⟩
  | some ad =>
    refine run_append_own (P := P) w base t ty e i z size bytes ht hi hz hsize hby hzs hsz v n xs hown ad m c news hl ?_ h1 h63 hbytes hbase
    intro j u hu
    obtain ⟨g, o, e, _⟩ := hr.at hu
    injection e with e
    subst e
    exact hr.src rfl j u hu

theorem wpList_append_rowx {P : Program} {w : World} {ops : Array Oper} {rest : List Oper} {o : Oper} {a : Act} {Q : Exit → Act → World → Prop} (hgd : o.guard = none) (s x : Operand) (t : TypeId)
    (ho : o.op = .call { callee := .builtin .append, args := #[s, x], argTypes := #[t, t] })
    (base : Nat) (e : TypeId) (i : TypeInfo) (z : Value) (size bytes : Nat) (ht : P.underlying t = some (.slice e)) (hi : P.info? e = some i) (hz : i.zero = some z)
    (hsize : i.size = size) (hby : i.bytes = bytes) (hzs : z.cells.size = size) (hsz : 0 < size)
    (v : Value) (n : Nat) (xs : List Value) (hs : a.eval s = v) (hown : w.ownsRow base e size v n xs)
    (p : Nat → Prop) (A : Option Addr) (m c : Nat) (news : List Value) (hx : a.eval x = .slice A m c) (hr : Row w p A news) (hl : news.length = m * size) (hA : A = none → c = 0) (h1 : ∀ u ∈ news, u.oneCell' = true)
    (h63 : n + m ≤ maxLen) (hbytes : (n + m) * bytes ≤ 140737488355328) (hbase : base ≤ w.heap.size)
    (h : ∀ v' w', w'.ownsRow base e size v' (n + m) (xs ++ news) → w.grownBy w' v.ownBlock → (v' = .slice none 0 0 ↔ v = .slice none 0 0 ∧ m = 0) → wpList P ops Q rest (a.put o.dst v') w') : wpList P ops Q (o :: rest) a w :=
  wpList_plain hgd fun _ hK => by
    obtain ⟨v', w', hr', h2, h3, h4⟩ := run_append_rowx (P := P) w base t o.type e i z size bytes ht hi hz hsize hby hzs hsz v n xs hown p A m c news hr hl hA h1 h63 hbytes hbase
    unfold Oper.wp execOp
    simp only [ho, resolve, invoke, builtin, Sem.run_bind, Sem.run_pure, Result.andThen_ok, List.map_toArray, List.map_cons, List.map_nil, hs, hx, hr']
    exact hK _ _ (h v' w' h2 h3 h4)

theorem own_form {w : World} {base : Nat} {e : TypeId} {size n : Nat} {v : Value} {xs : List Value} (h : w.ownsRow base e size v n xs) : ∃ A c, v = .slice A n c ∧ n ≤ c ∧ c ≤ maxLen ∧ (A = none → c = 0) := by
  rcases h.2 with ⟨rfl, rfl⟩ | ⟨g, cap, cur, rfl, _, _, h1, h2, _⟩
  · exact ⟨none, 0, rfl, Nat.le_refl _, Nat.zero_le _, fun _ => rfl⟩
  · exact ⟨_, cap, rfl, h1, h2, fun h => by cases h⟩

def bv (c : UInt8) : Value := .int .u8 (c.toNat : Int)
theorem bv_one (l : List UInt8) : ∀ u ∈ l.map bv, u.oneCell' = true := fun u hu => by
  obtain ⟨_, _, rfl⟩ := List.mem_map.1 hu
  rfl

end Go.Proofs.YtpjekppljaekoaaGreatDoor
namespace Go.Proofs.YtpjekppljaekoaaGreatDoor
open Go Go.RowKit

/-- v is a slice of bytes that reads as l, in a block of which p holds. -/
def Bs (w : World) (p : Nat → Prop) (v : Value) (l : List UInt8) : Prop :=
  ∃ A c, v = .slice A l.length c ∧ l.length ≤ c ∧ c ≤ maxLen ∧ (A = none → c = 0) ∧ Row w p A (l.map bv)

section
variable {w w' : World} {F : List Nat} {p q : Nat → Prop} {v : Value} {l : List UInt8}
theorem Bs.imp (h : Bs w p v l) (hi : ∀ g, g < w.heap.size → p g → q g) : Bs w q v l := by
  obtain ⟨A, c, e, h1, h2, h3, hr⟩ := h
  exact ⟨A, c, e, h1, h2, h3, hr.imp hi⟩
theorem Bs.any (h : Bs w p v l) : Bs w (fun _ => True) v l := h.imp fun _ _ _ => trivial
theorem Bs.ext (h : Bs w p v l) (hx : Ext F w w') (hn : ∀ g, g < w.heap.size → p g → g ∉ F) : Bs w' p v l := by
  obtain ⟨A, c, e, h1, h2, h3, hr⟩ := h
  exact ⟨A, c, e, h1, h2, h3, hr.ext hx hn⟩
theorem Bs.keep (h : Bs w p v l) (hx : Ext [] w w') : Bs w' p v l := h.ext hx fun _ _ _ => by simp
theorem Bs.nil : Bs w p (.slice none 0 0) [] := ⟨none, 0, rfl, Nat.le_refl _, Nat.zero_le _, fun _ => rfl, Row.nil⟩
theorem Bs.own {base n : Nat} (h : w.ownsRow base 5 1 v n (l.map bv)) : Bs w (base ≤ ·) v l := by
  obtain ⟨A, c, rfl, h1, h2, h3⟩ := own_form h
  have hl : n = l.length := by have := h.1; simpa using this.symm
  subst hl
  exact ⟨A, c, rfl, h1, h2, h3, Row.of_own h⟩
end

theorem Tryz.info5 : (Tryz.prog.info? 5).map (fun i => (i.zero, i.size, i.bytes)) = some (some (.int .u8 0), 1, 1) := by kernel_rfl

theorem ext_grown {w w' : World} {row : Option Nat} (h : w.grownBy w' row) : Ext row.toList w w' :=
  ⟨h.os, h.tape, h.output, h.size, fun k hk hn => h.block k hk fun e => hn (by rw [← e]; simp)⟩

theorem append_bytes {w : World} {ops : Array Oper} {rest : List Oper} {o : Oper} {a : Act} {Q : Exit → Act → World → Prop} (hgd : o.guard = none) (s x : Operand)
    (ho : o.op = .call { callee := .builtin .append, args := #[s, x], argTypes := #[25, 25] }) (base : Nat) (v : Value) (l1 : List UInt8) (n : Nat) (hs : a.eval s = v) (hown : w.ownsRow base 5 1 v n (l1.map bv))
    (p : Nat → Prop) (v2 : Value) (l2 : List UInt8) (hx : a.eval x = v2) (hb : Bs w p v2 l2) (hlen : n + l2.length ≤ 200000000) (hbase : base ≤ w.heap.size)
    (h : ∀ A c w', w'.ownsRow base 5 1 (.slice A (n + l2.length) c) (n + l2.length) ((l1 ++ l2).map bv) → Ext v.ownBlock.toList w w' → wpList Tryz.prog ops Q rest (a.put o.dst (.slice A (n + l2.length) c)) w') :
    wpList Tryz.prog ops Q (o :: rest) a w := by
  obtain ⟨i0, hi, hz0, hz1, hz2⟩ := info_parts Tryz.info5
  obtain ⟨A, c, rfl, h1, h2, h3, hr⟩ := hb
  refine wpList_append_rowx hgd s x 25 ho base 5 i0 (.int .u8 0) 1 1 Tryz.underlying25 hi hz0 hz1 hz2 rfl (by decide) v n _ hs hown p A l2.length c (l2.map bv) hx hr (by simp) h3 (bv_one l2) (by unfold maxLen; omega) (by omega) hbase ?_
  intro v' w' ho' hg _
  obtain ⟨A', c', rfl, _⟩ := own_form ho'
  rw [← List.map_append] at ho'
  exact h A' c' w' ho' (ext_grown hg)

def NewBs (l : List UInt8) (w : World) (e : Ending) (w' : World) : Prop := ∃ v', e = .returned v' ∧ Bs w' (w.heap.size ≤ ·) v' l ∧ Ext [] w w'

set_option maxHeartbeats 400000 in
theorem clone_calls (p : Nat → Prop) (v : Value) (l : List UInt8) (w : World) (hb : Bs w p v l) (hl : l.length ≤ 100000000) :
    Calls Tryz.prog 183 #[v] w (NewBs l w) := by
  obtain ⟨A, c, rfl, h1, h2, h3, hr⟩ := hb
  obtain ⟨i0, hi, hz0, hz1, hz2⟩ := info_parts Tryz.info5
  cases A with
  | none =>
    obtain rfl := h3 rfl
    obtain rfl : l = [] := List.eq_nil_of_length_eq_zero (by omega)
    have hn := fun w => Lib.run_eql_slice_nil (P := Tryz.prog) (w := w)
    go_enter Tryz.func183, Tryz.ntmps183
    go_wp2
    go_ret
    exact ⟨_, rfl, Bs.nil, Ext.refl _ _⟩
  | some ad =>
    have hn := Lib.run_eql_slice_nil (P := Tryz.prog) w 25 5 (some ad) l.length c 0 0 Tryz.underlying25
    have hown := World.ownsRow_lit (base := w.heap.size) (e := 5) (size := 1) w #[] 0 (Nat.le_refl _) (by unfold maxLen; omega) rfl
    have hbs : Bs (w.alloc (.cells #[] 5)) p (.slice (some ad) l.length c) l := ⟨_, _, rfl, h1, h2, h3, hr.keep ((Ext.refl _ _).alloc _)⟩
    replace hown := Lib.hid hown
    replace hbs := Lib.hid hbs
    clear h1 h2 h3 hr
    replace hl := Lib.hid hl
    go_enter Tryz.func183, Tryz.ntmps183
    go_wp2_with (first | (refine append_bytes rfl _ _ rfl w.heap.size (.slice (some ⟨w.heap.size, 0, none⟩) 0 0) [] 0 rfl hown.out _ _ l rfl hbs.out (by have := hl.out; omega) (by simp) ?_; intro A' c' w1 ho1 hx1; replace ho1 := Lib.hid ho1; replace hx1 := Lib.hid hx1))
    go_ret
    have ho2 := ho1.out
    simp only [Nat.zero_add, List.nil_append] at ho2
    exact ⟨.slice A' l.length c', rfl, Bs.own ho2, ((Ext.refl _ _).alloc _).trans hx1.out (by simp [Value.ownBlock])⟩
end Go.Proofs.YtpjekppljaekoaaGreatDoor
namespace Go.Proofs.YtpjekppljaekoaaGreatDoor
open Go Go.RowKit

structure FileS where
  nm : ByteArray
  l : List UInt8
  safe : Int

structure DiskS where
  files : List FileS
  quota : Int
  steps : Int
  left : Int
  off : Bool

def ltN (a b : ByteArray) : Bool := Op.bytesLess a.toList b.toList

def usedL (fs : List FileS) : Nat := (fs.map fun f => f.l.length).sum
theorem used_app (a b : List FileS) : usedL (a ++ b) = usedL a + usedL b := by simp [usedL]
theorem used_one (f : FileS) : usedL [f] = f.l.length := by simp [usedL]
theorem used_snoc {fs : List FileS} {k : Nat} {f : FileS} (h : fs[k]? = some f) : usedL (fs.take (k + 1)) = usedL (fs.take k) + f.l.length := by
  rw [List.take_add_one, h, used_app]; simp [usedL]
theorem used_take_le (fs : List FileS) (k : Nat) : usedL (fs.take k) ≤ usedL fs := by
  have h : usedL fs = usedL (fs.take k) + usedL (fs.drop k) := by rw [← used_app, List.take_append_drop]
  omega
theorem used_get {fs : List FileS} {k : Nat} {f : FileS} (h : fs[k]? = some f) : f.l.length ≤ usedL fs := by
  have h1 := used_snoc h
  have h2 := used_take_le fs (k + 1)
  omega

/-- The names rise. -/
def Rising (fs : List FileS) : Prop := fs.Pairwise fun a b => ltN a.nm b.nm = true

/-- How many files are ahead of a name. -/
def idx (fs : List FileS) (nm : ByteArray) : Nat := (fs.takeWhile fun f => ltN f.nm nm).length
def has (fs : List FileS) (nm : ByteArray) : Bool := match fs[idx fs nm]? with
  | some f => f.nm.toList == nm.toList
  | none => false

def nameOk (nm : ByteArray) : Bool := !nm.toList.isEmpty && decide (nm.size ≤ 128)
def DiskS.asked (s : DiskS) (names : List ByteArray) : Int := if s.off then 160 else if names.all nameOk then 0 else 2

def DiskS.power (s : DiskS) : DiskS × Int :=
  if s.left = 0 then ({ s with steps := s.steps + 1, off := true, left := -1 }, 160)
  else if 0 < s.left then ({ s with steps := s.steps + 1, left := s.left - 1 }, 0)
  else ({ s with steps := s.steps + 1 }, 0)

def insertAt (fs : List FileS) (i : Nat) (f : FileS) : List FileS := fs.take i ++ f :: fs.drop i

def DiskS.append (s : DiskS) (nm : ByteArray) (b : List UInt8) : DiskS × Int :=
  let e := s.asked [nm]
  if e ≠ 0 then (s, e) else
  let i := idx s.files nm
  let f : FileS := if has s.files nm then s.files.getD i ⟨nm, [], -1⟩ else ⟨nm, [], -1⟩
  if 8388608 < f.l.length + b.length then (s, 3)
  else if s.quota < usedL s.files + b.length then (s, 161)
  else DiskS.power { s with files := if has s.files nm then s.files.set i { f with l := f.l ++ b } else insertAt s.files i { f with l := f.l ++ b } }

/-- What a step does with the file at a place. -/
def doesTo (kind : Nat) (fs : List FileS) (i n : Nat) (to : ByteArray) : List FileS :=
  match fs[i]? with
  | none => fs
  | some f =>
    if kind ≤ 1 then fs.set i { f with l := f.l.take n, safe := n }
    else if kind = 2 then
      let f' : FileS := { f with nm := to, safe := n }
      let r := fs.eraseIdx i
      if has r to then r.set (idx r to) f' else insertAt r (idx r to) f'
    else fs.eraseIdx i

def DiskS.step (s : DiskS) (kind : Nat) (nm to : ByteArray) (n : Int) (all : Bool) : DiskS × Int :=
  let e := s.asked [nm, to]
  if e ≠ 0 then (s, e) else
  if has s.files nm = false then (s, 5) else
  let i := idx s.files nm
  let long := (s.files.getD i ⟨nm, [], -1⟩).l.length
  let m : Int := if all then long else n
  if m < 0 ∨ long < m then (s, 2) else
  let p := s.power
  if p.2 = 0 then ({ p.1 with files := doesTo kind s.files i m.toNat to }, 0) else p

def DiskS.read (s : DiskS) (nm : ByteArray) : List UInt8 × Int :=
  let e := s.asked [nm]
  if e ≠ 0 then ([], e) else
  if has s.files nm = false then ([], 5) else ((s.files.getD (idx s.files nm) ⟨nm, [], -1⟩).l, 0)

def DiskS.new (quota : Int) : DiskS := ⟨[], max 0 quota, 0, -1, false⟩
def DiskS.crash (s : DiskS) : DiskS := { s with off := true, left := -1 }
def DiskS.fail (s : DiskS) (n : Int) : DiskS := { s with left := max (-1) n }
def DiskS.names (s : DiskS) : List ByteArray := s.files.map (·.nm)
end Go.Proofs.YtpjekppljaekoaaGreatDoor
namespace Go.Proofs.YtpjekppljaekoaaGreatDoor
open Go Go.RowKit

/-- The cells of a row of files. -/
def FRow (w : World) (p : Nat → Prop) : List Value → List FileS → Prop
  | xs, [] => xs = []
  | xs, f :: fs => ∃ b r, xs = .string f.nm :: b :: .int .i64 f.safe :: r ∧ Bs w p b f.l ∧ FRow w p r fs

section
variable {w w' : World} {F : List Nat} {p q : Nat → Prop}
theorem FRow.len : ∀ {xs : List Value} {fs : List FileS}, FRow w p xs fs → xs.length = fs.length * 3
  | _, [], h => by rw [h]; rfl
  | _, f :: fs, ⟨b, r, e, _, h⟩ => by rw [e]; have := h.len; simp only [List.length_cons]; omega
theorem FRow.imp (hi : ∀ g, g < w.heap.size → p g → q g) : ∀ {xs : List Value} {fs : List FileS}, FRow w p xs fs → FRow w q xs fs
  | _, [], h => h
  | _, _ :: _, ⟨b, r, e, hb, h⟩ => ⟨b, r, e, hb.imp hi, h.imp hi⟩
theorem FRow.ext (hx : Ext F w w') (hn : ∀ g, g < w.heap.size → p g → g ∉ F) : ∀ {xs : List Value} {fs : List FileS}, FRow w p xs fs → FRow w' p xs fs
  | _, [], h => h
  | _, _ :: _, ⟨b, r, e, hb, h⟩ => ⟨b, r, e, hb.ext hx hn, h.ext hx hn⟩
theorem FRow.get : ∀ {xs : List Value} {fs : List FileS} {i : Nat} {f : FileS}, FRow w p xs fs → fs[i]? = some f →
    ∃ b, xs[i * 3]? = some (.string f.nm) ∧ xs[i * 3 + 1]? = some b ∧ xs[i * 3 + 2]? = some (.int .i64 f.safe) ∧ Bs w p b f.l
  | _, [], _, _, _, h => by cases h
  | _, g :: fs, 0, f, ⟨b, r, e, hb, _⟩, h => by
    obtain rfl : g = f := by simpa using h
    exact ⟨b, by rw [e]; rfl, by rw [e]; rfl, by rw [e]; rfl, hb⟩
  | _, g :: fs, i + 1, f, ⟨b, r, e, _, hr⟩, h => by
    obtain ⟨b', h1, h2, h3, h4⟩ := hr.get (i := i) (f := f) (by simpa using h)
    have e3 : (i + 1) * 3 = i * 3 + 3 := by omega
    exact ⟨b', by rw [e, e3]; simpa using h1, by rw [e, e3]; simpa using h2, by rw [e, e3]; simpa using h3, h4⟩
theorem FRow.app : ∀ {xs ys : List Value} {fs gs : List FileS}, FRow w p xs fs → FRow w p ys gs → FRow w p (xs ++ ys) (fs ++ gs)
  | _, _, [], _, h, k => by rw [h]; simpa using k
  | _, ys, f :: fs, _, ⟨b, r, e, hb, h⟩, k => ⟨b, r ++ ys, by rw [e]; rfl, hb, h.app k⟩
theorem FRow.take : ∀ {xs : List Value} {fs : List FileS} (i : Nat), FRow w p xs fs → FRow w p (xs.take (i * 3)) (fs.take i)
  | _, fs, 0, _ => by simp [FRow]
  | _, [], i + 1, h => by rw [h]; simp [FRow]
  | _, f :: fs, i + 1, ⟨b, r, e, hb, h⟩ => ⟨b, r.take (i * 3), by rw [e, show (i + 1) * 3 = i * 3 + 3 from by omega]; rfl, hb, h.take i⟩
theorem FRow.drop : ∀ {xs : List Value} {fs : List FileS} (i : Nat), FRow w p xs fs → FRow w p (xs.drop (i * 3)) (fs.drop i)
  | _, fs, 0, h => by simpa using h
  | _, [], i + 1, h => by rw [h]; simp [FRow]
  | _, f :: fs, i + 1, ⟨b, r, e, hb, h⟩ => by
    rw [e, show (i + 1) * 3 = i * 3 + 3 from by omega]
    exact h.drop i
theorem FRow.one {f : FileS} {b : Value} (h : Bs w p b f.l) : FRow w p [.string f.nm, b, .int .i64 f.safe] [f] := ⟨b, [], rfl, h, rfl⟩
end

def filesT : TypeId := 180

/-- The files of a slice: a row that is owned. -/
structure Files (w : World) (p : Nat → Prop) (sv : Value) (fs : List FileS) : Prop where
  own : ∃ xs, w.ownsRow 0 180 3 sv fs.length xs ∧ FRow w p xs fs

/-- The blocks that calls on a disk may turn. -/
def DF (d : Nat) (sv : Value) : List Nat := d :: sv.ownBlock.toList

structure DiskAt (w : World) (d : Nat) (sv : Value) (s : DiskS) : Prop where
  blk : Blk w d 125 #[sv, .int .i64 s.quota, .int .i64 s.steps, .int .i64 s.left, .bool s.off]
  files : Files w (· ∉ DF d sv) sv s.files
  rise : Rising s.files
  used : usedL s.files ≤ 50000000
  many : s.files.length ≤ 100000
  steps : 0 ≤ s.steps ∧ s.steps ≤ 1000000000000
  left : -1 ≤ s.left ∧ s.left ≤ 9223372036854775807

theorem Files.ext {w w' : World} {F : List Nat} {p : Nat → Prop} {sv : Value} {fs : List FileS} (h : Files w p sv fs) (hx : Ext F w w') (ho : ∀ k, sv.ownBlock = some k → k ∉ F) (hn : ∀ g, g < w.heap.size → p g → g ∉ F) : Files w' p sv fs := by
  obtain ⟨xs, h1, h2⟩ := h.own
  refine ⟨xs, ⟨h1.1, ?_⟩, h2.ext hx hn⟩
  rcases h1.2 with h | ⟨g, cap, cur, e, hb, hh, r⟩
  · exact .inl h
  · exact .inr ⟨g, cap, cur, e, hb, by rw [hx.block g (lt_of_heap hh) (ho g (by rw [e]; rfl))]; exact hh, r⟩
theorem DiskAt.ext {w w' : World} {F : List Nat} {d : Nat} {sv : Value} {s : DiskS} (h : DiskAt w d sv s) (hx : Ext F w w') (hn : ∀ k, k < w.heap.size → k ∉ F) : DiskAt w' d sv s :=
  ⟨h.blk.ext hx (hn d h.blk.lt), h.files.ext hx (fun k hk => by
    obtain ⟨xs, h1, _⟩ := h.files.own
    rcases h1.2 with ⟨e, _⟩ | ⟨g, cap, cur, e, _, hh, _⟩
    · rw [e] at hk; cases hk
    · rw [e] at hk
      obtain rfl : g = k := by simpa [Value.ownBlock] using hk
      exact hn g (lt_of_heap hh)) (fun g hg _ => hn g hg), h.rise, h.used, h.many, h.steps, h.left⟩
theorem DiskAt.keep {w w' : World} {d : Nat} {sv : Value} {s : DiskS} (h : DiskAt w d sv s) (hx : Ext [] w w') : DiskAt w' d sv s := h.ext hx fun _ _ => by simp
theorem Files.lt {w : World} {p : Nat → Prop} {sv : Value} {fs : List FileS} (h : Files w p sv fs) {k : Nat} (hk : sv.ownBlock = some k) : k < w.heap.size := by
  obtain ⟨xs, h1, _⟩ := h.own
  rcases h1.2 with ⟨e, _⟩ | ⟨g, cap, cur, e, _, hh, _⟩
  · rw [e] at hk; cases hk
  · rw [e] at hk
    obtain rfl : g = k := by simpa [Value.ownBlock] using hk
    exact lt_of_heap hh
theorem DiskAt.dlt {w : World} {d : Nat} {sv : Value} {s : DiskS} (h : DiskAt w d sv s) : ∀ k ∈ DF d sv, k < w.heap.size := by
  intro k hk
  simp only [DF, List.mem_cons, Option.mem_toList] at hk
  rcases hk with rfl | hk
  · exact h.blk.lt
  · exact h.files.lt hk

/-- The cells that a walk reads of a disk. -/
theorem DiskAt.cells {w : World} {d : Nat} {sv : Value} {s : DiskS} (h : DiskAt w d sv s) :
    w.cell? ⟨d, 0, none⟩ = some sv ∧ w.cell? ⟨d, 1, none⟩ = some (.int .i64 s.quota) ∧ w.cell? ⟨d, 2, none⟩ = some (.int .i64 s.steps) ∧ w.cell? ⟨d, 3, none⟩ = some (.int .i64 s.left) ∧ w.cell? ⟨d, 4, none⟩ = some (.bool s.off) :=
  ⟨h.blk.cell 0, h.blk.cell 1, h.blk.cell 2, h.blk.cell 3, h.blk.cell 4⟩

set_option maxRecDepth 100000 in
set_option maxHeartbeats 400000 in
theorem off_calls (d : Nat) (sv : Value) (s : DiskS) (w : World) (h : DiskAt w d sv s) :
    Calls Tryz.prog 20 #[.pointer (some ⟨d, 0, none⟩)] w fun e w' => e = .returned (.bool s.off) ∧ w = w' := by
  obtain ⟨_, _, _, _, c4⟩ := h.cells
  clear h
  go_enter Tryz.func20, Tryz.ntmps20
  go_wp2
  go_ret
  exact ⟨rfl, rfl⟩

set_option maxRecDepth 100000 in
set_option maxHeartbeats 400000 in
theorem steps_calls (d : Nat) (sv : Value) (s : DiskS) (w : World) (h : DiskAt w d sv s) :
    Calls Tryz.prog 21 #[.pointer (some ⟨d, 0, none⟩)] w fun e w' => e = .returned (.int .i64 s.steps) ∧ w = w' := by
  obtain ⟨_, _, c2, _, _⟩ := h.cells
  clear h
  go_enter Tryz.func21, Tryz.ntmps21
  go_wp2
  go_ret
  exact ⟨rfl, rfl⟩
end Go.Proofs.YtpjekppljaekoaaGreatDoor
namespace Go.Proofs.YtpjekppljaekoaaGreatDoor
open Go Go.RowKit

theorem DiskAt.own_ne {w : World} {d : Nat} {sv : Value} {s : DiskS} (h : DiskAt w d sv s) {k : Nat} (hk : sv.ownBlock = some k) : k ≠ d := by
  obtain ⟨xs, h1, _⟩ := h.files.own
  rcases h1.2 with ⟨e, _⟩ | ⟨g, cap, cur, e, _, hh, _⟩
  · rw [e] at hk; cases hk
  · rw [e] at hk
    obtain rfl : g = k := by simpa [Value.ownBlock] using hk
    exact Blk.ne hh h.blk (by decide)

/-- Only numbers of the disk have turned. -/
theorem DiskAt.scal {w w' : World} {d : Nat} {sv : Value} {s s' : DiskS} (h : DiskAt w d sv s) (hb : Blk w' d 125 #[sv, .int .i64 s'.quota, .int .i64 s'.steps, .int .i64 s'.left, .bool s'.off]) (hx : Ext [d] w w') (hf : s'.files = s.files)
    (h1 : 0 ≤ s'.steps ∧ s'.steps ≤ 1000000000000) (h2 : -1 ≤ s'.left ∧ s'.left ≤ 9223372036854775807) : DiskAt w' d sv s' :=
  ⟨hb, by rw [hf]; exact h.files.ext hx (fun k hk => by simpa using h.own_ne hk) (fun g _ hg => by simp only [DF, List.mem_cons, not_or] at hg; simpa using hg.1), by rw [hf]; exact h.rise, by rw [hf]; exact h.used, by rw [hf]; exact h.many, h1, h2⟩

/-- A call that answers an error number and turns the disk in its own blocks. -/
def DiskPost (d : Nat) (sv : Value) (s' : DiskS) (ans : Int) (w : World) (e : Ending) (w' : World) : Prop :=
  e = .returned (.int .i64 ans) ∧ ∃ sv', DiskAt w' d sv' s' ∧ Ext (DF d sv) w w' ∧ ∀ k ∈ DF d sv', k ∈ DF d sv ∨ w.heap.size ≤ k

set_option maxRecDepth 100000 in
set_option maxHeartbeats 400000 in
theorem crash_calls (d : Nat) (sv : Value) (s : DiskS) (w : World) (h : DiskAt w d sv s) :
    Calls Tryz.prog 28 #[.pointer (some ⟨d, 0, none⟩)] w fun e w' => e = .returned (.tuple #[]) ∧ DiskAt w' d sv s.crash ∧ Ext [d] w w' := by
  obtain ⟨_, _, _, c3, c4⟩ := h.cells
  have f3 := h.blk.froz 3
  have f4 := h.blk.froz 4
  replace h := Lib.hid h
  go_enter Tryz.func28, Tryz.ntmps28
  go_wp2
  go_end0
  have hx : Ext [d] w ((w.setCell ⟨d, 4, none⟩ (.bool true)).setCell ⟨d, 3, none⟩ (.int .i64 (-1))) := ((Ext.refl [d] w).set (.inl (by simp)) _).set (.inl (by simp)) _
  refine ⟨rfl, h.out.scal ?_ hx rfl h.out.steps ⟨by simp [DiskS.crash], by simp [DiskS.crash]⟩, hx⟩
  have := (h.out.blk.set 4 (.bool true)).set 3 (.int .i64 (-1))
  simpa [DiskS.crash] using this

set_option maxRecDepth 100000 in
set_option maxHeartbeats 400000 in
theorem fail_calls (d : Nat) (sv : Value) (s : DiskS) (n : Int) (w : World) (h : DiskAt w d sv s) (hn : -9223372036854775808 ≤ n ∧ n ≤ 9223372036854775807) :
    Calls Tryz.prog 15 #[.pointer (some ⟨d, 0, none⟩), .int .i64 n] w fun e w' => e = .returned (.tuple #[]) ∧ DiskAt w' d sv (s.fail n) ∧ Ext [d] w w' := by
  obtain ⟨_, _, _, c3, _⟩ := h.cells
  have f3 := h.blk.froz 3
  replace h := Lib.hid h
  have fin : ∀ m : Int, m = max (-1) n → DiskAt (w.setCell ⟨d, 3, none⟩ (.int .i64 m)) d sv (s.fail n) ∧ Ext [d] w (w.setCell ⟨d, 3, none⟩ (.int .i64 m)) := by
    intro m hm
    have hx : Ext [d] w (w.setCell ⟨d, 3, none⟩ (.int .i64 m)) := (Ext.refl [d] w).set (.inl (by simp)) _
    refine ⟨h.out.scal ?_ hx rfl h.out.steps ⟨by simp [DiskS.fail]; omega, by simp [DiskS.fail]; omega⟩, hx⟩
    have := h.out.blk.set 3 (.int .i64 m)
    simpa [DiskS.fail, hm] using this
  replace fin := Lib.hid fin
  replace hn := Lib.hid hn
  go_enter Tryz.func15, Tryz.ntmps15
  go_wp2
  all_goals
    go_end0
    exact ⟨rfl, fin.out _ (by omega)⟩

set_option maxRecDepth 100000 in
set_option maxHeartbeats 400000 in
theorem power_calls (d : Nat) (sv : Value) (s : DiskS) (w : World) (h : DiskAt w d sv s) (hs : s.steps < 1000000000000) :
    Calls Tryz.prog 131 #[.pointer (some ⟨d, 0, none⟩)] w fun e w' => e = .returned (.int .i64 s.power.2) ∧ DiskAt w' d sv s.power.1 ∧ Ext [d] w w' := by
  obtain ⟨_, _, c2, c3, c4⟩ := h.cells
  have f2 := h.blk.froz 2
  have f3 := h.blk.froz 3
  have hC : ∀ w1, DiskAt w1 d sv { s with steps := s.steps + 1 } → Calls Tryz.prog 28 #[.pointer (some ⟨d, 0, none⟩)] w1 _ := fun w1 h => crash_calls d sv _ w1 h
  have h1 : DiskAt (w.setCell ⟨d, 2, none⟩ (.int .i64 (s.steps + 1))) d sv { s with steps := s.steps + 1 } := by
    have := h.steps
    refine h.scal ?_ ((Ext.refl [d] w).set (.inl (by simp)) _) rfl ⟨by simp only; omega, by simp only; omega⟩ h.left
    have := h.blk.set 2 (.int .i64 (s.steps + 1))
    simpa using this
  have hx1 : Ext [d] w (w.setCell ⟨d, 2, none⟩ (.int .i64 (s.steps + 1))) := (Ext.refl [d] w).set (.inl (by simp)) _
  have g1 := h.steps.1
  have g2 := h.left.1
  have g3 := h.left.2
  have hS : s.steps ≤ 999999999999 := by omega
  replace h := Lib.hid h
  replace h1 := Lib.hid h1
  replace hx1 := Lib.hid hx1
  clear hs
  by_cases ha : s.left = 0
  · have e : s.power = ({ s with steps := s.steps + 1, off := true, left := -1 }, 160) := by unfold DiskS.power; rw [if_pos ha]
    rw [ha] at c3
    replace e := Lib.hid e
    replace ha := Lib.hid ha
    go_enter Tryz.func131, Tryz.ntmps131
    go_wp2_with (go_at_call 28; refine (hC _ h1.out).mono ?_; rintro e2 w2 ⟨rfl, h2, hx2⟩; replace h2 := Lib.hid h2; replace hx2 := Lib.hid hx2)
    go_ret
    rw [e.out]
    exact ⟨rfl, h2.out, hx1.out.trans' hx2.out⟩
  · by_cases hb : 0 < s.left
    · have e : s.power = ({ s with steps := s.steps + 1, left := s.left - 1 }, 0) := by unfold DiskS.power; rw [if_neg ha, if_pos hb]
      have ha' : (s.left == 0) = false := by simpa using ha
      replace e := Lib.hid e
      replace ha := Lib.hid ha
      go_enter Tryz.func131, Tryz.ntmps131
      go_wp2
      go_ret
      rw [e.out]
      have hx2 := hx1.out.set (p := ⟨d, 3, none⟩) (.inl (by simp)) (.int .i64 (s.left - 1))
      refine ⟨rfl, h1.out.scal ?_ ((Ext.refl [d] _).set (.inl (by simp)) _) rfl h1.out.steps ⟨by simp only; omega, by simp only; omega⟩, hx2⟩
      have := h1.out.blk.set 3 (.int .i64 (s.left - 1))
      simpa using this
    · have e : s.power = ({ s with steps := s.steps + 1 }, 0) := by unfold DiskS.power; rw [if_neg ha, if_neg hb]
      have ha' : (s.left == 0) = false := by simpa using ha
      replace e := Lib.hid e
      replace ha := Lib.hid ha
      go_enter Tryz.func131, Tryz.ntmps131
      go_wp2
      go_ret
      rw [e.out]
      exact ⟨rfl, h1.out, hx1.out⟩
end Go.Proofs.YtpjekppljaekoaaGreatDoor
namespace Go.Proofs.YtpjekppljaekoaaGreatDoor
open Go Go.RowKit

theorem Files.form {w : World} {p : Nat → Prop} {sv : Value} {fs : List FileS} (h : Files w p sv fs) : ∃ A cap, sv = .slice A fs.length cap ∧ fs.length ≤ cap ∧ cap ≤ maxLen ∧ (A = none → cap = 0) := by
  obtain ⟨xs, h1, _⟩ := h.own
  exact own_form h1
theorem Files.at {w : World} {p : Nat → Prop} {A : Option Addr} {n cap : Nat} {fs : List FileS} (h : Files w p (.slice A n cap) fs) {i : Nat} {f : FileS} (hi : fs[i]? = some f) :
    ∃ g b, A = some ⟨g, 0, none⟩ ∧ w.cell? ⟨g, i * 3, none⟩ = some (.string f.nm) ∧ w.cell? ⟨g, i * 3 + 1, none⟩ = some b ∧ w.cell? ⟨g, i * 3 + 2, none⟩ = some (.int .i64 f.safe) ∧ Bs w p b f.l ∧
      (∀ j, w.frozen? ⟨g, j, none⟩ = false) ∧ g < w.heap.size := by
  obtain ⟨xs, h1, h2⟩ := h.own
  obtain ⟨b, e1, e2, e3, hb⟩ := h2.get hi
  have hlt : i < fs.length := (List.getElem?_eq_some_iff.1 hi).1
  rcases h1.2 with ⟨_, hn⟩ | ⟨g, cap', cur, e, _, hh, _⟩
  · omega
  · injection e with e _ _
    subst e
    have hc := h1.cells (g := g) rfl
    refine ⟨g, b, rfl, ?_, ?_, ?_, hb, fun j => frozen_of_row w g j cur 180 hh, lt_of_heap hh⟩
    · have := hc _ _ e1; rwa [Addr.add_lit, Nat.zero_add] at this
    · have := hc _ _ e2; rwa [Addr.add_lit, Nat.zero_add] at this
    · have := hc _ _ e3; rwa [Addr.add_lit, Nat.zero_add] at this

set_option maxRecDepth 100000 in
set_option maxHeartbeats 400000 in
theorem used_calls (d : Nat) (sv : Value) (s : DiskS) (w : World) (h : DiskAt w d sv s) :
    Calls Tryz.prog 128 #[.pointer (some ⟨d, 0, none⟩)] w fun e w' => e = .returned (.int .i64 (usedL s.files : Int)) ∧ Ext [] w w' := by
  obtain ⟨c0, _⟩ := h.cells
  have hu := h.used
  have hm := h.many
  have hf := h.files
  clear h
  obtain ⟨A, cap, rfl, h1, _, _⟩ := hf.form
  replace hf := Lib.hid hf
  generalize hn : s.files.length = n at *
  have hu' : (usedL s.files : Int) ≤ 50000000 := by omega
  have hm' : (n : Int) ≤ 100000 := by omega
  have h1' : (n : Int) ≤ cap := by omega
  replace hn := Lib.hid hn
  clear hu hm h1
  go_enter Tryz.func128, Tryz.ntmps128
  go_wp2
  go_loopw [2, 12] (fun t i wr => ∃ k : Nat, k ≤ n ∧ i = .int .i64 k ∧ t = .int .i64 (usedL (s.files.take k) : Int) ∧ Ext [] w wr) (fun _ i _ => n - (intOf i).toNat)
  case atStart => exact ⟨0, Nat.zero_le _, rfl, rfl, Ext.refl _ _⟩
  case round =>
    obtain ⟨k, hk, rfl, rfl, hx⟩ := hrel
    by_cases hlt : k < n
    · obtain ⟨f, hfk⟩ : ∃ f, s.files[k]? = some f := ⟨s.files[k]'(by have := hn.out; omega), List.getElem?_eq_getElem _⟩
      obtain ⟨g, b, rfl, q0, q1, q2, ⟨A', c', rfl, _⟩, _, hg⟩ := (hf.out.ext hx (fun _ _ => by simp) (fun _ _ _ => by simp)).at hfk
      have hsum := used_snoc hfk
      have hle := used_take_le s.files (k + 1)
      rw [hsum] at hle
      have hle' : (usedL (s.files.take k) : Int) + f.l.length ≤ 50000000 := by omega
      replace hsum := Lib.hid hsum
      replace hx := Lib.hid hx
      clear hfk hle
      go_wp2
      go_roundw
      case rel => exact ⟨k + 1, by omega, by go_num, by rw [hsum.out]; go_num, hx.out.alloc _⟩
      case measure => simp [intOf]; omega
    · obtain rfl : k = n := by omega
      go_wp2
      go_ret
      refine ⟨?_, hx⟩
      rw [List.take_of_length_le (by have := hn.out; omega)]; rfl

set_option maxRecDepth 100000 in
set_option maxHeartbeats 400000 in
theorem new_calls (q : Int) (w : World) (hq : -9223372036854775808 ≤ q ∧ q ≤ 9223372036854775807) :
    Calls Tryz.prog 13 #[.int .i64 q] w fun e w' => e = .returned (.pointer (some ⟨w.heap.size, 0, none⟩)) ∧ DiskAt w' w.heap.size (.slice none 0 0) (DiskS.new q) ∧ Ext [] w w' := by
  have fin : ∀ m : Int, m = max 0 q → DiskAt (w.alloc (.cells #[.slice none 0 0, .int .i64 m, .int .i64 0, .int .i64 (-1), .bool false] 125)) w.heap.size (.slice none 0 0) (DiskS.new q) ∧
      Ext [] w (w.alloc (.cells #[.slice none 0 0, .int .i64 m, .int .i64 0, .int .i64 (-1), .bool false] 125)) := by
    rintro m rfl
    refine ⟨⟨Blk.new _ _ _, ⟨[], World.ownsRow_nil _ _ _ _, rfl⟩, by simp [DiskS.new, Rising], by simp [DiskS.new, usedL], by simp [DiskS.new], by simp [DiskS.new], by simp [DiskS.new]⟩, (Ext.refl _ _).alloc _⟩
  replace fin := Lib.hid fin
  replace hq := Lib.hid hq
  go_enter Tryz.func13, Tryz.ntmps13
  go_wp2
  all_goals
    go_ret
    exact ⟨rfl, fin.out _ (by omega)⟩
end Go.Proofs.YtpjekppljaekoaaGreatDoor
namespace Go.Proofs.YtpjekppljaekoaaGreatDoor
open Go Go.RowKit

set_option maxRecDepth 100000 in
set_option maxHeartbeats 400000 in
theorem badname_calls (nm : ByteArray) (w : World) : Calls Tryz.prog 198 #[.string nm] w fun e w' => e = .returned (.bool (!nameOk nm)) ∧ w = w' := by
  by_cases h1 : nm.toList.isEmpty = true
  · have e : nameOk nm = false := by unfold nameOk; simp [h1]
    replace e := Lib.hid e
    go_enter Tryz.func198, Tryz.ntmps198
    go_wp2
    all_goals
      go_ret
      refine ⟨?_, rfl⟩
      rw [e.out]; rfl
  · have h1 := eq_false_of_ne_true h1
    have e : nameOk nm = decide (nm.size ≤ 128) := by unfold nameOk; simp [h1]
    by_cases h2 : 128 < nm.size
    · have e2 : nameOk nm = false := by rw [e]; simp; omega
      clear e
      replace e2 := Lib.hid e2
      go_enter Tryz.func198, Tryz.ntmps198
      go_wp2
      go_ret
      refine ⟨?_, rfl⟩
      rw [e2.out]
      simp; omega
    · have e2 : nameOk nm = true := by rw [e]; simp; omega
      clear e
      replace e2 := Lib.hid e2
      go_enter Tryz.func198, Tryz.ntmps198
      go_wp2
      go_ret
      refine ⟨?_, rfl⟩
      rw [e2.out]
      simp; omega

def firstBad (l : List ByteArray) : Int := match l.findIdx? (fun s => !nameOk s) with
  | some i => i
  | none => -1

set_option maxRecDepth 100000 in
set_option maxHeartbeats 400000 in
theorem indexbad_calls (p : Nat → Prop) (A : Option Addr) (c : Nat) (l : List ByteArray) (n : Nat) (w : World) (hr : Row w p A (l.map .string)) (hn : l.length = n) (hb : n ≤ 1000) :
    Calls Tryz.prog 256 #[.slice A n c, .func (.func 198) #[] #[]] w fun e w' => ∃ i : Int, e = .returned (.int .i64 i) ∧ (0 ≤ i ↔ (l.all nameOk) = false) ∧ w = w' := by
  replace hr := Lib.hid hr
  replace hn := Lib.hid hn
  have hb' : (n : Int) ≤ 1000 := by omega
  go_enter Tryz.func256, Tryz.ntmps256
  go_wp2
  go_loop [8] (fun i => ∃ k : Nat, k ≤ n ∧ i = .int .i64 k ∧ Hid ((l.take k).all nameOk = true)) (fun i => n - (intOf i).toNat)
  case atStart => exact ⟨0, by omega, rfl, by rw [List.take_zero]; rfl⟩
  case round =>
    obtain ⟨k, hk, rfl, hall⟩ := hrel
    by_cases hlt : k < n
    · obtain ⟨s, hs⟩ : ∃ s, l[k]? = some s := ⟨l[k]'(by have := hn.out; omega), List.getElem?_eq_getElem _⟩
      obtain ⟨g, o, rfl, _, _, hc⟩ := hr.out.at (k := k) (u := .string s) (by rw [List.getElem?_map, hs]; rfl)
      have hst : (l.take (k + 1)).all nameOk = ((l.take k).all nameOk && nameOk s) := by rw [List.take_add_one, hs, List.all_append]; simp
      have hmem : s ∈ l := List.mem_of_getElem? hs
      cases hok : nameOk s with
      | true =>
        rw [hok] at hst
        replace hst := Lib.hid hst
        have hC := badname_calls s
        rw [hok] at hC
        clear hs hmem
        replace hok := Lib.hid hok
        go_wp2_with (go_at_call 198; refine (hC _).mono ?_; rintro e w1 ⟨rfl, rfl⟩)
        go_round
        case rel => exact ⟨k + 1, by omega, by go_num, by show _ = _; rw [hst.out, hall.out]; rfl⟩
        case measure => simp [intOf]; omega
      | false =>
        have hC := badname_calls s
        rw [hok] at hC
        have hno : (l.all nameOk) = false := by rw [List.all_eq_false]; exact ⟨s, hmem, by rw [hok]; simp⟩
        clear hs hmem hst
        replace hok := Lib.hid hok
        replace hno := Lib.hid hno
        go_wp2_with (go_at_call 198; refine (hC _).mono ?_; rintro e w1 ⟨rfl, rfl⟩)
        go_ret
        exact ⟨k, rfl, ⟨fun _ => hno.out, fun _ => by omega⟩, rfl⟩
    · obtain rfl : k = n := by omega
      go_wp2
      go_ret
      refine ⟨-1, rfl, ⟨fun h => by omega, fun h => ?_⟩, rfl⟩
      have := hall.out
      rw [List.take_of_length_le (by have := hn.out; omega)] at this
      rw [List.all_eq_true] at this
      obtain ⟨x, hx, hf⟩ := h
      rw [this x hx] at hf; cases hf

set_option maxRecDepth 100000 in
set_option maxHeartbeats 400000 in
theorem containsbad_calls (p : Nat → Prop) (A : Option Addr) (c : Nat) (l : List ByteArray) (n : Nat) (w : World) (hr : Row w p A (l.map .string)) (hn : l.length = n) (hb : n ≤ 1000) :
    Calls Tryz.prog 197 #[.slice A n c, .func (.func 198) #[] #[]] w fun e w' => e = .returned (.bool (!l.all nameOk)) ∧ w = w' := by
  have hC := indexbad_calls p A c l n w hr hn hb
  clear hr hn hb
  go_enter Tryz.func197, Tryz.ntmps197
  go_wp2_with (go_at_call 256; refine hC.mono ?_; rintro e w1 ⟨i, rfl, hi, rfl⟩; replace hi := Lib.hid hi)
  go_ret
  refine ⟨?_, rfl⟩
  have := hi.out
  cases h : l.all nameOk
  · rw [h] at this; simp at this; simp; omega
  · rw [h] at this; simp at this; simp; omega

set_option maxRecDepth 100000 in
set_option maxHeartbeats 400000 in
theorem asked_calls (d : Nat) (sv : Value) (s : DiskS) (p : Nat → Prop) (A : Option Addr) (c : Nat) (l : List ByteArray) (n : Nat) (w : World) (h : DiskAt w d sv s) (hr : Row w p A (l.map .string)) (hn : l.length = n) (hb : n ≤ 1000) :
    Calls Tryz.prog 126 #[.pointer (some ⟨d, 0, none⟩), .slice A n c] w fun e w' => e = .returned (.int .i64 (s.asked l)) ∧ w = w' := by
  have hC := containsbad_calls p A c l n w hr hn hb
  obtain ⟨_, _, _, _, c4⟩ := h.cells
  clear hr hn hb h
  cases ho : s.off with
  | true =>
    have e : s.asked l = 160 := by unfold DiskS.asked; rw [ho]; rfl
    rw [ho] at c4
    replace e := Lib.hid e
    replace ho := Lib.hid ho
    go_enter Tryz.func126, Tryz.ntmps126
    go_wp2
    go_ret
    exact ⟨by rw [e.out]; rfl, rfl⟩
  | false =>
    have e : s.asked l = if l.all nameOk then 0 else 2 := by unfold DiskS.asked; rw [ho]; rfl
    rw [ho] at c4
    replace ho := Lib.hid ho
    cases hall : l.all nameOk with
    | true =>
      rw [hall] at hC e
      replace e := Lib.hid e
      replace hall := Lib.hid hall
      go_enter Tryz.func126, Tryz.ntmps126
      go_wp2_with (go_at_call 197; refine hC.mono ?_; rintro e w1 ⟨rfl, rfl⟩)
      go_ret
      exact ⟨by rw [e.out]; rfl, rfl⟩
    | false =>
      rw [hall] at hC e
      replace e := Lib.hid e
      replace hall := Lib.hid hall
      go_enter Tryz.func126, Tryz.ntmps126
      go_wp2_with (go_at_call 197; refine hC.mono ?_; rintro e w1 ⟨rfl, rfl⟩)
      go_ret
      exact ⟨by rw [e.out]; rfl, rfl⟩
end Go.Proofs.YtpjekppljaekoaaGreatDoor
namespace Go.Proofs.YtpjekppljaekoaaGreatDoor
open Go Go.RowKit

theorem less_eq : ∀ (x y : List UInt8), Op.bytesLess x y = decide (x < y)
  | [], [] => by simp [Op.bytesLess]
  | _ :: _, [] => by simp [Op.bytesLess]
  | [], _ :: _ => by simp [Op.bytesLess]
  | a :: x, b :: y => by
    rw [Op.bytesLess, less_eq x y]
    simp only [List.cons_lt_cons_iff]
    by_cases h1 : a < b <;> by_cases h2 : a = b <;> by_cases h3 : x < y <;> simp [h1, h2, h3]
theorem ltN_iff (a b : ByteArray) : ltN a b = true ↔ a.toList < b.toList := by unfold ltN; rw [less_eq]; simp
theorem ltN_trans {a b c : ByteArray} (h : ltN a b = true) (k : ltN b c = true) : ltN a c = true := by
  rw [ltN_iff] at *; exact List.lt_trans h k
theorem ltN_irrefl (a : ByteArray) : ltN a a = false := by
  cases h : ltN a a
  · rfl
  · rw [ltN_iff] at h; exact absurd h (List.lt_irrefl _)

def cmpN (a b : ByteArray) : Int := if ltN a b then -1 else if a.toList == b.toList then 0 else 1

theorem idx_le (fs : List FileS) (nm : ByteArray) : idx fs nm ≤ fs.length := by
  unfold idx
  induction fs with
  | nil => simp
  | cons f fs ih =>
    rw [List.takeWhile_cons]
    split
    · simpa using ih
    · simp
theorem idx_spec : ∀ (fs : List FileS) (nm : ByteArray) (k : Nat), (∀ j f, j < k → fs[j]? = some f → ltN f.nm nm = true) → (∀ f, fs[k]? = some f → ltN f.nm nm = false) → k ≤ fs.length → idx fs nm = k
  | [], nm, k, _, _, hk => by
    obtain rfl : k = 0 := by simpa using hk
    rfl
  | f :: fs, nm, 0, _, h, _ => by
    unfold idx
    rw [List.takeWhile_cons, h f rfl]; rfl
  | f :: fs, nm, k + 1, h1, h2, hk => by
    have ih := idx_spec fs nm k (fun j g hj hg => h1 (j + 1) g (by omega) (by simpa using hg)) (fun g hg => h2 g (by simpa using hg)) (by simpa using hk)
    unfold idx at ih ⊢
    rw [List.takeWhile_cons, h1 0 f (by omega) rfl]
    simp [ih]
theorem rising_get {fs : List FileS} (h : Rising fs) {i j : Nat} {f g : FileS} (hij : i < j) (hf : fs[i]? = some f) (hg : fs[j]? = some g) : ltN f.nm g.nm = true := by
  obtain ⟨hi, rfl⟩ := List.getElem?_eq_some_iff.1 hf
  obtain ⟨hj, rfl⟩ := List.getElem?_eq_some_iff.1 hg
  exact List.pairwise_iff_getElem.1 h i j hi hj hij
theorem lt_down {fs : List FileS} (h : Rising fs) {nm : ByteArray} {k : Nat} {f : FileS} (hf : fs[k]? = some f) (hl : ltN f.nm nm = true) : ∀ j g, j < k + 1 → fs[j]? = some g → ltN g.nm nm = true := by
  intro j g hj hg
  by_cases e : j = k
  · subst e; rw [hf] at hg; cases hg; exact hl
  · exact ltN_trans (rising_get h (by omega) hg hf) hl
theorem ge_up {fs : List FileS} (h : Rising fs) {nm : ByteArray} {k : Nat} {f : FileS} (hf : fs[k]? = some f) (hl : ltN f.nm nm = false) : ∀ j g, k ≤ j → fs[j]? = some g → ltN g.nm nm = false := by
  intro j g hj hg
  by_cases e : k = j
  · subst e; rw [hf] at hg; cases hg; exact hl
  · cases h' : ltN g.nm nm
    · rfl
    · rw [ltN_trans (rising_get h (by omega) hf hg) h'] at hl; cases hl
theorem has_none {fs : List FileS} {nm : ByteArray} (h : fs.length ≤ idx fs nm) : has fs nm = false := by
  unfold has
  rw [List.getElem?_eq_none h]
theorem has_some {fs : List FileS} {nm : ByteArray} {f : FileS} (h : fs[idx fs nm]? = some f) : has fs nm = (f.nm.toList == nm.toList) := by
  unfold has
  rw [h]
end Go.Proofs.YtpjekppljaekoaaGreatDoor
namespace Go.Proofs.YtpjekppljaekoaaGreatDoor
open Go Go.RowKit

set_option maxRecDepth 100000 in
set_option maxHeartbeats 400000 in
theorem isnan_calls (a : ByteArray) (w : World) : Calls Tryz.prog 257 #[.string a] w fun e w' => e = .returned (.bool false) ∧ w = w' := by
  go_enter Tryz.func257, Tryz.ntmps257
  go_wp2
  go_ret
  refine ⟨?_, rfl⟩
  simp

theorem gtr_eq (a b : ByteArray) : (!(Op.bytesLess a.toList b.toList || a.toList == b.toList)) = (!ltN a b && !(a.toList == b.toList)) := by
  unfold ltN; simp

set_option maxRecDepth 100000 in
set_option maxHeartbeats 400000 in
theorem compare_calls (a b : ByteArray) (w : World) : Calls Tryz.prog 201 #[.string a, .string b] w fun e w' => e = .returned (.int .i64 (cmpN a b)) ∧ w = w' := by
  cases h1 : Op.bytesLess a.toList b.toList with
  | true =>
    have e : cmpN a b = -1 := by unfold cmpN ltN; rw [h1]; rfl
    replace e := Lib.hid e
    go_enter Tryz.func201, Tryz.ntmps201
    go_wp2_with (go_at_call 257; refine (isnan_calls _ _).mono ?_; rintro e w1 ⟨rfl, rfl⟩)
    go_ret
    exact ⟨by rw [e.out]; rfl, rfl⟩
  | false =>
    cases h2 : (a.toList == b.toList) with
    | true =>
      have e : cmpN a b = 0 := by unfold cmpN ltN; rw [h1, h2]; rfl
      replace e := Lib.hid e
      go_enter Tryz.func201, Tryz.ntmps201
      go_wp2_with (go_at_call 257; refine (isnan_calls _ _).mono ?_; rintro e w1 ⟨rfl, rfl⟩)
      go_ret
      exact ⟨by rw [e.out]; rfl, rfl⟩
    | false =>
      have e : cmpN a b = 1 := by unfold cmpN ltN; rw [h1, h2]; rfl
      replace e := Lib.hid e
      go_enter Tryz.func201, Tryz.ntmps201
      go_wp2_with (go_at_call 257; refine (isnan_calls _ _).mono ?_; rintro e w1 ⟨rfl, rfl⟩)
      go_ret
      exact ⟨by rw [e.out]; rfl, rfl⟩

set_option maxRecDepth 100000 in
set_option maxHeartbeats 400000 in
theorem filecmp_calls (a nm : ByteArray) (b c : Value) (w : World) :
    Calls Tryz.prog 200 #[.agg #[.string a, b, c], .string nm] w fun e w' => e = .returned (.int .i64 (cmpN a nm)) ∧ Ext [] w w' := by
  go_enter Tryz.func200, Tryz.ntmps200
  go_wp2_with (go_at_call 201; refine (compare_calls _ _ _).mono ?_; rintro e w1 ⟨rfl, rfl⟩)
  go_ret
  exact ⟨rfl, (Ext.refl _ _).alloc _⟩
def SearchRel (fs : List FileS) (nm : ByteArray) (w : World) (a b : Nat) (wr : World) : Prop :=
  a ≤ b ∧ b ≤ fs.length ∧ (∀ j f, j < a → fs[j]? = some f → ltN f.nm nm = true) ∧ (∀ j f, b ≤ j → fs[j]? = some f → ltN f.nm nm = false) ∧ Ext [] w wr

set_option maxRecDepth 100000 in
set_option maxHeartbeats 1000000 in
theorem search_calls (p : Nat → Prop) (sv : Value) (fs : List FileS) (nm : ByteArray) (w : World) (hf : Files w p sv fs) (hr : Rising fs) (hm : fs.length ≤ 100000) :
    Calls Tryz.prog 199 #[sv, .string nm, .func (.func 200) #[] #[]] w fun e w' => e = .returned (.tuple #[.int .i64 (idx fs nm : Int), .bool (has fs nm)]) ∧ Ext [] w w' := by
  obtain ⟨A, cap, rfl, h1, _, _⟩ := hf.form
  obtain ⟨n, hn⟩ : ∃ n, fs.length = n := ⟨_, rfl⟩
  rw [hn] at h1 hm
  rw [hn] at hf ⊢
  have hm' : (n : Int) ≤ 100000 := by omega
  have h1' : (n : Int) ≤ cap := by omega
  replace hn := Lib.hid hn
  replace hf := Lib.hid hf
  replace hr := Lib.hid hr
  clear h1 hm
  go_enter Tryz.func199, Tryz.ntmps199
  go_wp2
  go_loopw [9, 10] (fun x y wr => ∃ a b : Nat, x = .int .i64 a ∧ y = .int .i64 b ∧ SearchRel fs nm w a b wr) (fun x y _ => (intOf y - intOf x).toNat)
  case atStart => exact ⟨0, n, rfl, rfl, Nat.zero_le _, by rw [hn.out]; exact Nat.le_refl _, fun j _ hj => absurd hj (by omega), fun j f hj hjf => by
    have := (List.getElem?_eq_some_iff.1 hjf).1
    have := hn.out
    omega, Ext.refl _ _⟩
  case round =>
    obtain ⟨a, b, rfl, rfl, hab, hbn, hlo, hhi, hx⟩ := hrel
    rw [hn.out] at hbn
    by_cases hlt : a < b
    · obtain ⟨h, hh⟩ : ∃ h, h = (a + b) / 2 := ⟨_, rfl⟩
      have hh1 : a ≤ h := by omega
      have hh2 : h < b := by omega
      have hh3 : ((a : Int) + b) / 2 = h := by omega
      obtain ⟨f, hfk⟩ : ∃ f, fs[h]? = some f := ⟨fs[h]'(by have := hn.out; omega), List.getElem?_eq_getElem _⟩
      have hfs := hf.out.ext hx (fun _ _ => by simp) (fun _ _ _ => by simp)
      rw [← hn.out] at hfs
      obtain ⟨g, bb, rfl, q0, q1, q2, ⟨A', c', rfl, _⟩, _, hg⟩ := hfs.at hfk
      clear hfs
      replace hh := Lib.hid hh
      replace hfk := Lib.hid hfk
      replace hlo := Lib.hid hlo
      replace hhi := Lib.hid hhi
      replace hx := Lib.hid hx
      have hC := fun wx => filecmp_calls f.nm nm (.slice A' f.l.length c') (.int .i64 f.safe) wx
      cases hc : ltN f.nm nm with
      | true =>
        have e : cmpN f.nm nm = -1 := by unfold cmpN; rw [hc]; rfl
        rw [e] at hC
        replace hc := Lib.hid hc
        replace e := Lib.hid e
        go_wp2_with (go_at_call 200; refine (hC _).mono ?_; rintro e1 w1 ⟨rfl, hx1⟩; replace hx1 := Lib.hid hx1)
        go_roundw
        case rel =>
          refine ⟨h + 1, b, by go_num, rfl, by omega, by rw [hn.out]; omega, lt_down hr.out hfk.out hc.out, hhi.out, hx.out.new hx1.out⟩
        case measure => simp [intOf]; omega
      | false =>
        have e : cmpN f.nm nm = 0 ∨ cmpN f.nm nm = 1 := by
          unfold cmpN; rw [hc]
          cases f.nm.toList == nm.toList
          · right; rfl
          · left; rfl
        replace hc := Lib.hid hc
        rcases e with e | e
        all_goals
          rw [e] at hC
          replace e := Lib.hid e
          go_wp2_with (go_at_call 200; refine (hC _).mono ?_; rintro e1 w1 ⟨rfl, hx1⟩; replace hx1 := Lib.hid hx1)
          go_roundw
          case rel =>
            refine ⟨a, h, rfl, rfl, by omega, by rw [hn.out]; omega, hlo.out, ge_up hr.out hfk.out hc.out, hx.out.new hx1.out⟩
          case measure => simp [intOf]; omega
    · obtain rfl : a = b := by omega
      have hi : idx fs nm = a := idx_spec fs nm a hlo (fun f hf' => hhi a f (Nat.le_refl _) hf') (by rw [hn.out]; omega)
      by_cases hend : a < n
      · obtain ⟨f, hfk⟩ : ∃ f, fs[a]? = some f := ⟨fs[a]'(by have := hn.out; omega), List.getElem?_eq_getElem _⟩
        have hfs := hf.out.ext hx (fun _ _ => by simp) (fun _ _ _ => by simp)
        rw [← hn.out] at hfs
        obtain ⟨g, bb, rfl, q0, q1, q2, ⟨A', c', rfl, _⟩, _, hg⟩ := hfs.at hfk
        clear hfs
        have hC := fun wx => filecmp_calls f.nm nm (.slice A' f.l.length c') (.int .i64 f.safe) wx
        have hc := hhi a f (Nat.le_refl _) hfk
        have hhas := has_some (fs := fs) (nm := nm) (f := f) (by rw [hi]; exact hfk)
        have e : cmpN f.nm nm = if f.nm.toList == nm.toList then 0 else 1 := by unfold cmpN; rw [hc]; rfl
        replace hfk := Lib.hid hfk
        replace hx := Lib.hid hx
        replace hi := Lib.hid hi
        replace hc := Lib.hid hc
        clear hlo hhi
        cases hq : f.nm.toList == nm.toList
        all_goals
          rw [hq] at e hhas
          simp only [Bool.false_eq_true, if_false, if_true] at e
          rw [e] at hC
          replace e := Lib.hid e
          replace hhas := Lib.hid hhas
          replace hq := Lib.hid hq
          go_wp2_with (go_at_call 200; refine (hC _).mono ?_; rintro e1 w1 ⟨rfl, hx1⟩; replace hx1 := Lib.hid hx1)
          go_ret2
          refine ⟨?_, hx.out.new hx1.out⟩
          rw [hi.out, hhas.out]; rfl
      · have hhas := has_none (fs := fs) (nm := nm) (by rw [hi, hn.out]; omega)
        have hend' : decide ((a : Int) < n) = false := by simp; omega
        replace hx := Lib.hid hx
        replace hi := Lib.hid hi
        replace hhas := Lib.hid hhas
        clear hlo hhi
        go_wp2
        go_ret2
        refine ⟨?_, hx.out⟩
        rw [hi.out, hhas.out]; simp
end Go.Proofs.YtpjekppljaekoaaGreatDoor
